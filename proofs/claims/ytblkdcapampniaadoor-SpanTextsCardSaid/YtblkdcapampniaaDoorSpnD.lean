/- The walk of span.Read. Condition: the library's variables as they were laid; a text of at most a million bytes. -/
import Derived.Test.YtblkdcapampniaaDoorSpnC
import Derived.Test.YtblkdcapampniaaDoorSpnT
import Derived.Laws.Rows
import Derived.Laws.ResultCell
import Derived.Deep.DeepCutAuto
set_option linter.unusedVariables false
set_option linter.unusedSimpArgs false
namespace Go.Proofs.YtblkdcapampniaaDoor
open Go.RowKit Go.Lib VerN

theorem bodyPost_spn2 {fn : Func} {p u : Tmp} (hres : fn.results = #[.cell p 33, .tmp u]) {R : Ending → World → Prop} {a : Act} {w : World} {g : Nat} {x y b : Value} (hp : a.tmps.getD p undef = .pointer (some ⟨g, 0, none⟩)) (hu : a.tmps.getD u undef = b)
    (hg : w.heap[g]? = some (.cells #[x, y] 33 (0, 0))) (hd : a.defers = []) (hR : R (.returned (.tuple #[.agg #[x, y], b])) w) : bodyPost Tryd.prog fn R .ret a w := by
  refine bodyPost_ret (v := .tuple #[.agg #[x, y], b]) ?_ hd hR
  rw [results_cell_tmp hres, hp, hu]
  simp only [asAddr, Sem.run_pure, Result.andThen, run_loadVar_row w g 33 33 _ _ _ hg Tryd.underlying33 rfl (by kernel_rfl)]
theorem bodyPost_spn1 {fn : Func} {p : Tmp} (hres : fn.results = #[.cell p 33]) {R : Ending → World → Prop} {a : Act} {w : World} {g : Nat} {x y : Value} (hp : a.tmps.getD p undef = .pointer (some ⟨g, 0, none⟩)) (hg : w.heap[g]? = some (.cells #[x, y] 33 (0, 0))) (hd : a.defers = []) (hR : R (.returned (.agg #[x, y])) w) : bodyPost Tryd.prog fn R .ret a w :=
  bodyPost_ret (results_cell_row hres a.tmps w g _ _ _ _ hp hg Tryd.underlying33 rfl (by kernel_rfl)) hd hR
theorem pair_cells {w : World} {g : Nat} {t : TypeId} {x y : Value} (h : w.heap[g]? = some (.cells #[x, y] t (0, 0))) : w.cell? ⟨g, 0, none⟩ = some x ∧ w.cell? ⟨g, 1, none⟩ = some y ∧ w.frozen? ⟨g, 0, none⟩ = false ∧ w.frozen? ⟨g, 1, none⟩ = false :=
  ⟨cells_at h 0, cells_at h 1, frozen_at h 0, frozen_at h 1⟩
theorem pair_set {w : World} {g : Nat} {t : TypeId} {x y : Value} (u v : Value) (h : w.heap[g]? = some (.cells #[x, y] t (0, 0))) : ((w.setCell ⟨g, 0, none⟩ u).setCell ⟨g, 1, none⟩ v).heap[g]? = some (.cells #[u, v] t (0, 0)) := by
  have k0 := heap_setCell_same _ g 0 _ _ u h
  have k1 := heap_setCell_same _ g 1 _ _ v k0
  exact k1
theorem pair_bel {B : Nat} {a w : World} {g : Nat} (u v : Value) (h : Below B a w) (hg : B ≤ g) : Below B a ((w.setCell ⟨g, 0, none⟩ u).setCell ⟨g, 1, none⟩ v) := (h.setCell (p := ⟨g, 0, none⟩) hg _).setCell (p := ⟨g, 1, none⟩) hg _
theorem ret_spn2 {a b c d : ByteArray} {p q : Bool} (h1 : a = c) (h2 : b = d) (h3 : p = q) : Ending.returned (.tuple #[.agg #[.string a, .string b], .bool p]) = .returned (.tuple #[.agg #[.string c, .string d], .bool q]) := by rw [h1, h2, h3]
def spB (s : ByteArray) : ByteArray × ByteArray := if (cut s.data.toList [58]).2.2 = true then (⟨(cut s.data.toList [58]).1.toArray⟩, ⟨(cut s.data.toList [58]).2.1.toArray⟩) else (⟨(cut s.data.toList [58]).1.toArray⟩, ⟨(cut s.data.toList [58]).1.toArray⟩)
def spV (s : ByteArray) : ByteArray × ByteArray := if spOk s.data.toList = true then spB s else (⟨#[]⟩, ⟨#[]⟩)
theorem spB_data (s : ByteArray) : ((spB s).1.data.toList, (spB s).2.data.toList) = spO s.data.toList := by
  unfold spB spO
  split <;> rfl
theorem cut_small (s : ByteArray) : (cut s.data.toList [58]).1.length ≤ s.size ∧ (cut s.data.toList [58]).2.1.length ≤ s.size := by
  rw [← Txt.len]
  rcases colon_cases s.data.toList with h | ⟨a, b, hab, h⟩
  · rw [cut_none h]
    exact ⟨Nat.le_refl _, Nat.zero_le _⟩
  · rw [hab, cut_at h]
    constructor <;> simp
    omega
set_option maxRecDepth 10000 in
set_option maxHeartbeats 2000000 in
theorem spanRead_any (s : ByteArray) (hs : s.size ≤ 100000) {w : World} (hD : Doors w) : Calls Tryd.prog 29 #[.string s] w fun e w' => e = .returned (.tuple #[.agg #[.string (spV s).1, .string (spV s).2], .bool (spOk s.data.toList)]) ∧ Below w.heap.size w w' := by
  obtain ⟨W0, hW0⟩ : ∃ W0, W0 = w.alloc (.cells #[.string ⟨#[]⟩, .string ⟨#[]⟩] 33) := ⟨_, rfl⟩
  obtain ⟨nb, hnb⟩ : ∃ nb, nb = w.heap.size := ⟨_, rfl⟩
  have hw : Below w.heap.size w W0 := by rw [hW0]; exact below_alloc1 _ _
  have hbx : W0.heap[nb]? = some (.cells #[.string ⟨#[]⟩, .string ⟨#[]⟩] 33 (0, 0)) := by rw [hW0, hnb]; exact heap_alloc_new _ _
  obtain ⟨lo, hlo⟩ : ∃ x : ByteArray, x = ⟨(cut s.data.toList [58]).1.toArray⟩ := ⟨_, rfl⟩
  obtain ⟨hi, hhi⟩ : ∃ x : ByteArray, x = ⟨(cut s.data.toList [58]).2.1.toArray⟩ := ⟨_, rfl⟩
  obtain ⟨two, htwo⟩ : ∃ x : Bool, x = (cut s.data.toList [58]).2.2 := ⟨_, rfl⟩
  have hB : spB s = if two = true then (lo, hi) else (lo, lo) := by unfold spB; rw [← hlo, ← hhi, ← htwo]
  have hl : lo.size ≤ 100000 := by have := (cut_small s).1; rw [hlo]; show (cut s.data.toList [58]).1.toArray.size ≤ _; simp; omega
  have hh : hi.size ≤ 100000 := by have := (cut_small s).2; rw [hhi]; show (cut s.data.toList [58]).2.1.toArray.size ≤ _; simp; omega
  obtain ⟨mx, hmx⟩ := (hD.below hw).max
  have hC := Tryd.strings_Cut s ⟨#[58]⟩ _ W0 (by omega) hmx
  clear hmx
  simp only [← hlo, ← hhi, ← htwo] at hC
  have HC := Lib.hid hC; have Hw := Lib.hid hw; have Hbx := Lib.hid hbx; have HB := Lib.hid hB; have Hlo := Lib.hid hlo; have Hhi := Lib.hid hhi; have Htwo := Lib.hid htwo; have HD := Lib.hid hD; clear hC hw hbx hB hlo hhi htwo hD
  go_enter Tryd.func29, Tryd.ntmps29
  go_upto_region 1 with (fail)
  rw [← hW0, ← hnb]
  have hle : w.heap.size ≤ nb := Nat.le_of_eq hnb.symm
  clear hW0 hnb
  have Hle := Lib.hid hle; clear hle
  go_wp2_with fail
  refine HC.out.mono ?_
  rintro e w1 ⟨rfl, n, rfl⟩
  have hb1 : Below W0.heap.size W0 (W0.drewN n) := bel_drewN (Below.refl _ _) n
  generalize W0.drewN n = W1 at hb1 ⊢
  have Hb1 := Lib.hid hb1; clear hb1
  cases two with
  | true =>
    go_upto_region 5 with (fail)
    obtain ⟨W2, hW2⟩ : ∃ W2, W2 = W1.alloc (.cells #[.string lo, .string hi] 33) := ⟨_, rfl⟩
    obtain ⟨g, hg⟩ : ∃ g, g = W1.heap.size := ⟨_, rfl⟩
    have hb2 : Below W0.heap.size W0 W2 := by rw [hW2]; exact Hb1.out.alloc Hb1.out.size _
    have hgx : W2.heap[g]? = some (.cells #[.string lo, .string hi] 33 (0, 0)) := by rw [hW2, hg]; exact heap_alloc_new _ _
    have hr2 := heap_below hb2 Hbx.out
    have hA := fun (W : World) (k : Below W2.heap.size W2 W) => calls_to k (spanMay_any lo hi (by omega) (by omega) (HD.out.below (below_on Hw.out (hb2.trans (k.mono hb2.size)))))
    have hT := fun (W : World) (k : Below W2.heap.size W2 W) => calls_to k (spanText_any lo hi (by omega) (by omega) (HD.out.below (below_on Hw.out (hb2.trans (k.mono hb2.size)))))
    obtain ⟨p, hp⟩ : ∃ x, x = mayS (lo.data.toList, hi.data.toList) := ⟨_, rfl⟩
    obtain ⟨tx, htx⟩ : ∃ x, x = txS lo hi := ⟨_, rfl⟩
    obtain ⟨d, k1⟩ : ∃ x, (tx.toList == s.toList) = x := ⟨_, rfl⟩
    have hB2 : spB s = (lo, hi) := by rw [HB.out]; rfl
    have hok : spOk s.data.toList = (p && d) := by
      unfold spOk
      rw [← spB_data, hB2, ← txS_data, ← k1, ← htx, hp, Txt.eq_dec]
      exact congrArg _ (decide_eq_decide.2 ba_eq.symm)
    have hval : spV s = if (p && d) = true then (lo, hi) else (⟨#[]⟩, ⟨#[]⟩) := by unfold spV; rw [hok, hB2]
    rw [← hp] at hA
    rw [← htx] at hT
    have hb0 : Below W2.heap.size W2 W2 := Below.refl _ _
    have hgw := fun (W : World) (k : Below W2.heap.size W2 W) => pair_cells (heap_below k hgx)
    have hrw := fun (W : World) (k : Below W2.heap.size W2 W) => pair_cells (heap_below k hr2)
    obtain ⟨c0, c1, f0, f1⟩ := hgw W2 hb0
    obtain ⟨x0, x1, y0, y1⟩ := hrw W2 hb0
    rw [← hW2, ← hg]
    clear hW2 hg hp htx hB2
    have Hb2 := Lib.hid hb2; have Hgx := Lib.hid hgx; have Hr2 := Lib.hid hr2; have HA := Lib.hid hA; have HT := Lib.hid hT; have Hok := Lib.hid hok; have Hval := Lib.hid hval; have Hgw := Lib.hid hgw; have Hrw := Lib.hid hrw; have Hb0 := Lib.hid hb0; clear hb2 hgx hr2 hA hT hok hval hgw hrw hb0
    go_wp2_with fail
    refine (HA.out _ Hb0.out).mono ?_
    rintro e w2 ⟨rfl, hb3⟩
    obtain ⟨c0, c1, f0, f1⟩ := Hgw.out _ hb3
    obtain ⟨x0, x1, y0, y1⟩ := Hrw.out _ hb3
    have Hb3 := Lib.hid hb3; clear hb3
    cases p with
    | false =>
      have hr3 := heap_below Hb3.out Hr2.out
      have hb9 := Hb2.out.trans (Hb3.out.mono Hb2.out.size)
      have Hr3 := Lib.hid hr3; have Hb9 := Lib.hid hb9; clear hr3 hb9
      go_wp2_with fail
      refine bodyPost_spn2 rfl rfl rfl (pair_set _ _ Hr3.out) rfl ?_
      exact ⟨ret_spn2 (by rw [Hval.out]; rfl) (by rw [Hval.out]; rfl) Hok.out.symm, pair_bel _ _ (below_on Hw.out Hb9.out) Hle.out⟩
    | true =>
      go_wp2_with fail
      refine (HT.out _ Hb3.out).mono ?_
      rintro e w3 ⟨rfl, hb4⟩
      obtain ⟨c0, c1, f0, f1⟩ := Hgw.out _ hb4
      obtain ⟨x0, x1, y0, y1⟩ := Hrw.out _ hb4
      have hr3 := heap_below hb4 Hr2.out
      have hb9 := Hb2.out.trans (hb4.mono Hb2.out.size)
      have Hb4 := Lib.hid hb4; have Hr3 := Lib.hid hr3; have Hb9 := Lib.hid hb9; clear hb4 hr3 hb9
      cases d with
      | false =>
        go_wp2_with fail
        refine bodyPost_spn2 rfl rfl rfl (pair_set _ _ Hr3.out) rfl ?_
        exact ⟨ret_spn2 (by rw [Hval.out]; rfl) (by rw [Hval.out]; rfl) Hok.out.symm, pair_bel _ _ (below_on Hw.out Hb9.out) Hle.out⟩
      | true =>
        go_wp2_with fail
        refine bodyPost_spn2 rfl rfl rfl (pair_set _ _ Hr3.out) rfl ?_
        exact ⟨ret_spn2 (by rw [Hval.out]; rfl) (by rw [Hval.out]; rfl) Hok.out.symm, pair_bel _ _ (below_on Hw.out Hb9.out) Hle.out⟩
  | false =>
    go_upto_region 5 with (fail)
    obtain ⟨W2, hW2⟩ : ∃ W2, W2 = W1.alloc (.cells #[.string lo, .string lo] 33) := ⟨_, rfl⟩
    obtain ⟨g, hg⟩ : ∃ g, g = W1.heap.size := ⟨_, rfl⟩
    have hb2 : Below W0.heap.size W0 W2 := by rw [hW2]; exact Hb1.out.alloc Hb1.out.size _
    have hgx : W2.heap[g]? = some (.cells #[.string lo, .string lo] 33 (0, 0)) := by rw [hW2, hg]; exact heap_alloc_new _ _
    have hr2 := heap_below hb2 Hbx.out
    have hA := fun (W : World) (k : Below W2.heap.size W2 W) => calls_to k (spanMay_any lo lo (by omega) (by omega) (HD.out.below (below_on Hw.out (hb2.trans (k.mono hb2.size)))))
    have hT := fun (W : World) (k : Below W2.heap.size W2 W) => calls_to k (spanText_any lo lo (by omega) (by omega) (HD.out.below (below_on Hw.out (hb2.trans (k.mono hb2.size)))))
    obtain ⟨p, hp⟩ : ∃ x, x = mayS (lo.data.toList, lo.data.toList) := ⟨_, rfl⟩
    obtain ⟨tx, htx⟩ : ∃ x, x = txS lo lo := ⟨_, rfl⟩
    obtain ⟨d, k1⟩ : ∃ x, (tx.toList == s.toList) = x := ⟨_, rfl⟩
    have hB2 : spB s = (lo, lo) := by rw [HB.out]; rfl
    have hok : spOk s.data.toList = (p && d) := by
      unfold spOk
      rw [← spB_data, hB2, ← txS_data, ← k1, ← htx, hp, Txt.eq_dec]
      exact congrArg _ (decide_eq_decide.2 ba_eq.symm)
    have hval : spV s = if (p && d) = true then (lo, lo) else (⟨#[]⟩, ⟨#[]⟩) := by unfold spV; rw [hok, hB2]
    rw [← hp] at hA
    rw [← htx] at hT
    have hb0 : Below W2.heap.size W2 W2 := Below.refl _ _
    have hgw := fun (W : World) (k : Below W2.heap.size W2 W) => pair_cells (heap_below k hgx)
    have hrw := fun (W : World) (k : Below W2.heap.size W2 W) => pair_cells (heap_below k hr2)
    obtain ⟨c0, c1, f0, f1⟩ := hgw W2 hb0
    obtain ⟨x0, x1, y0, y1⟩ := hrw W2 hb0
    rw [← hW2, ← hg]
    clear hW2 hg hp htx hB2
    have Hb2 := Lib.hid hb2; have Hgx := Lib.hid hgx; have Hr2 := Lib.hid hr2; have HA := Lib.hid hA; have HT := Lib.hid hT; have Hok := Lib.hid hok; have Hval := Lib.hid hval; have Hgw := Lib.hid hgw; have Hrw := Lib.hid hrw; have Hb0 := Lib.hid hb0; clear hb2 hgx hr2 hA hT hok hval hgw hrw hb0
    go_wp2_with fail
    refine (HA.out _ Hb0.out).mono ?_
    rintro e w2 ⟨rfl, hb3⟩
    obtain ⟨c0, c1, f0, f1⟩ := Hgw.out _ hb3
    obtain ⟨x0, x1, y0, y1⟩ := Hrw.out _ hb3
    have Hb3 := Lib.hid hb3; clear hb3
    cases p with
    | false =>
      have hr3 := heap_below Hb3.out Hr2.out
      have hb9 := Hb2.out.trans (Hb3.out.mono Hb2.out.size)
      have Hr3 := Lib.hid hr3; have Hb9 := Lib.hid hb9; clear hr3 hb9
      go_wp2_with fail
      refine bodyPost_spn2 rfl rfl rfl (pair_set _ _ Hr3.out) rfl ?_
      exact ⟨ret_spn2 (by rw [Hval.out]; rfl) (by rw [Hval.out]; rfl) Hok.out.symm, pair_bel _ _ (below_on Hw.out Hb9.out) Hle.out⟩
    | true =>
      go_wp2_with fail
      refine (HT.out _ Hb3.out).mono ?_
      rintro e w3 ⟨rfl, hb4⟩
      obtain ⟨c0, c1, f0, f1⟩ := Hgw.out _ hb4
      obtain ⟨x0, x1, y0, y1⟩ := Hrw.out _ hb4
      have hr3 := heap_below hb4 Hr2.out
      have hb9 := Hb2.out.trans (hb4.mono Hb2.out.size)
      have Hb4 := Lib.hid hb4; have Hr3 := Lib.hid hr3; have Hb9 := Lib.hid hb9; clear hb4 hr3 hb9
      cases d with
      | false =>
        go_wp2_with fail
        refine bodyPost_spn2 rfl rfl rfl (pair_set _ _ Hr3.out) rfl ?_
        exact ⟨ret_spn2 (by rw [Hval.out]; rfl) (by rw [Hval.out]; rfl) Hok.out.symm, pair_bel _ _ (below_on Hw.out Hb9.out) Hle.out⟩
      | true =>
        go_wp2_with fail
        refine bodyPost_spn2 rfl rfl rfl (pair_set _ _ Hr3.out) rfl ?_
        exact ⟨ret_spn2 (by rw [Hval.out]; rfl) (by rw [Hval.out]; rfl) Hok.out.symm, pair_bel _ _ (below_on Hw.out Hb9.out) Hle.out⟩
end Go.Proofs.YtblkdcapampniaaDoor
