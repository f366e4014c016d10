/- Walks and plain facts. Texts merged: SpnT, SpnD, SpnK, SpnMt, StbA, SpsF, App, SortA, SpsC, SpsA, StbB. Condition: none beyond what each says. -/
import Derived.Lib.CutLaws
import Derived.Laws.Rows
import Derived.Laws.ResultCell
import Derived.Deep.DeepCutAuto
import Derived.Laws.StructEq
import Derived.Deep.RegionHeld3
import Derived.Sort.LotA
import Derived.Sort.WalkA
import Derived.Shelf.SlSortCmp.Insertion
import Derived.Test.YteailgjiifdgcaaGreatDoorSpansSharesAll1
import Derived.Test.YteailgjiifdgcaaGreatDoorSpansSharesAll2
import Derived.Test.YteailgjiifdgcaaGreatDoorSpansSharesAll3
set_option linter.unusedVariables false
set_option linter.unusedSimpArgs false
/- Plain facts on spans' texts: a text is read as it was; the program's way of reading and the document's. -/
namespace Go.Proofs.YteailgjiifdgcaaGreatDoor.VerN
open Go.Lib

theorem glue_mem (c : UInt8) : ∀ (ps : List (List UInt8)) (x : UInt8), x ∈ glue c ps → x = c ∨ ∃ p ∈ ps, x ∈ p
  | [], x, h => by unfold glue at h; simp at h
  | [p], x, h => by unfold glue at h; exact .inr ⟨p, by simp, h⟩
  | p :: q :: r, x, h => by
    unfold glue at h
    rcases List.mem_append.1 h with h | h
    · exact .inr ⟨p, by simp, h⟩
    · rcases List.mem_cons.1 h with h | h
      · exact .inl h
      · rcases glue_mem c (q :: r) x h with h | ⟨p', hp, hx⟩
        · exact .inl h
        · exact .inr ⟨p', by simp at hp ⊢; exact .inr hp, hx⟩
theorem part_colon {p : List UInt8} (h : partL p = true) : (58 : UInt8) ∉ p := by
  intro hx
  unfold partL at h
  rcases Bool.or_eq_true _ _ ▸ h with h | h
  · unfold letOk at h
    simp only [Bool.and_eq_true, List.all_eq_true] at h
    have := (isLet_iff _).1 (h.2 58 hx)
    simp at this
  · unfold digOk at h
    simp only [Bool.and_eq_true, List.all_eq_true] at h
    have := (isDig_iff _).1 (h.1.1.2 58 hx)
    simp at this
theorem may_colon {l : List UInt8} (h : mayL l = true) : (58 : UInt8) ∉ l := by
  intro hx
  have hg := glue_cut 46 l []
  rw [List.nil_append] at hg
  rw [← hg] at hx
  rcases glue_mem _ _ _ hx with e | ⟨p, hp, hx⟩
  · exact absurd e (by decide)
  · exact part_colon (((may_iff l).1 h).2.2.1 p hp) hx
theorem bound_colon {l : List UInt8} (h : boundB l = true) : (58 : UInt8) ∉ l := by
  rcases bound_iff.1 h with h | h
  · rw [h]; simp
  · exact may_colon h
theorem indexByte_none (c : UInt8) : ∀ l : List UInt8, c ∉ l → indexByte l c = -1
  | [], _ => rfl
  | x :: r, h => by
    have hx : x ≠ c := fun e => h (by simp [e])
    have hr := indexByte_none c r (fun e => h (by simp [e]))
    unfold indexByte
    simp [hx, hr]
theorem indexByte_at (c : UInt8) : ∀ a b : List UInt8, c ∉ a → indexByte (a ++ c :: b) c = a.length
  | [], _, _ => by show indexByte (c :: _) c = _; unfold indexByte; simp
  | x :: r, b, h => by
    have hx : x ≠ c := fun e => h (by simp [e])
    have hr := indexByte_at c r b (fun e => h (by simp [e]))
    show indexByte (x :: (r ++ c :: b)) c = _
    unfold indexByte
    rw [hr]
    simp [hx]
theorem cut_none {l : List UInt8} (h : (58 : UInt8) ∉ l) : cut l [58] = (l, [], false) := by
  unfold cut
  rw [index_one, indexByte_none _ _ h, if_neg (by omega)]
theorem cut_at {a b : List UInt8} (h : (58 : UInt8) ∉ a) : cut (a ++ 58 :: b) [58] = (a, b, true) := by
  unfold cut
  rw [index_one, indexByte_at _ _ _ h, if_pos (by omega)]
  simp
theorem colon_cases (l : List UInt8) : (58 : UInt8) ∉ l ∨ ∃ a b, l = a ++ 58 :: b ∧ (58 : UInt8) ∉ a := by
  by_cases h : (58 : UInt8) ∈ l
  · exact .inr (List.eq_append_cons_of_mem h)
  · exact .inl h
/-- the span that a text tells of, and whether it does -/
def spO (l : List UInt8) : Sp := if (cut l [58]).2.2 = true then ((cut l [58]).1, (cut l [58]).2.1) else ((cut l [58]).1, (cut l [58]).1)
def spOk (l : List UInt8) : Bool := mayS (spO l) && decide (textS (spO l) = l)
def spS (l : List UInt8) : Sp := if spOk l = true then spO l else ([], [])
def spRefO (l : List UInt8) : Sp := if (cutL 58 l).length = 1 then (l, l) else ((cutL 58 l).getD 0 [], (cutL 58 l).getD 1 [])
def spRefOk (l : List UInt8) : Bool := if (cutL 58 l).length = 1 then mayL l else mayS (spRefO l) && decide (textR (spRefO l) = l)
theorem read_none {l : List UInt8} (h : (58 : UInt8) ∉ l) : spO l = (l, l) := by unfold spO; rw [cut_none h]; rfl
theorem read_at {a b : List UInt8} (h : (58 : UInt8) ∉ a) : spO (a ++ 58 :: b) = (a, b) := by unfold spO; rw [cut_at h]; rfl
theorem cutL_none {l : List UInt8} (h : (58 : UInt8) ∉ l) : cutL 58 l = [l] := cutF_none 58 l [] (fun x hx e => h (e ▸ hx))
theorem cutL_at {a b : List UInt8} (h : (58 : UInt8) ∉ a) : cutL 58 (a ++ 58 :: b) = a :: cutL 58 b := by rw [cutL_join, cutL_none h]; rfl
theorem one_may (l : List UInt8) : mayS (l, l) = boundB l := by
  unfold mayS
  rw [ahead_no.2 (.inr (.inr (le_refl l)))]
  simp
theorem textS_of {s : Sp} (h : mayS s = true) : textS s = textR s := if_pos h
/-- a text is read as it was -/
theorem read_text {s : Sp} (h : mayS s = true) : spO (textS s) = s ∧ spOk (textS s) = true := by
  obtain ⟨a, b⟩ := s
  have hr : spO (textS (a, b)) = (a, b) := by
    rw [textS_of h]
    unfold textR
    by_cases e : a = b ∧ a ≠ []
    · rw [if_pos e, read_none (bound_colon (mayS_iff.1 h).1)]
      exact Prod.ext rfl e.1
    · rw [if_neg e]
      exact read_at (bound_colon (mayS_iff.1 h).1)
  refine ⟨hr, ?_⟩
  unfold spOk
  rw [hr, h]
  simp
theorem refOk_is (l : List UInt8) (hl : (cutL 58 l).length ≤ 2) : spRefOk l = spOk l ∧ spRefO l = spO l := by
  rcases colon_cases l with h | ⟨a, b, rfl, h⟩
  · have e1 : (cutL 58 l).length = 1 := by rw [cutL_none h]; rfl
    have e2 : spRefO l = (l, l) := by unfold spRefO; rw [if_pos e1]
    refine ⟨?_, by rw [e2, read_none h]⟩
    unfold spRefOk spOk
    rw [if_pos e1, read_none h, one_may]
    by_cases hn : l = []
    · subst hn; decide
    · have hb : boundB l = mayL l := by unfold boundB; rw [decide_eq_false hn]; rfl
      rw [hb]
      cases hm : mayL l with
      | false => rfl
      | true =>
        have : mayS (l, l) = true := by rw [one_may, hb, hm]
        rw [textS_of this]
        unfold textR
        rw [if_pos ⟨rfl, hn⟩]
        simp
  · have h2 := cutL_at (b := b) h
    rw [h2] at hl
    have hb : (58 : UInt8) ∉ b := by
      intro hx
      obtain ⟨a', b', rfl, h'⟩ := List.eq_append_cons_of_mem hx
      rw [cutL_at h'] at hl
      have := (cutL_len 58 b').1
      simp at hl
      have := List.length_pos_iff.1 (Nat.lt_of_lt_of_le Nat.zero_lt_one this)
      contradiction
    rw [cutL_none hb] at h2
    have e1 : (cutL 58 (a ++ 58 :: b)).length ≠ 1 := by rw [h2]; simp
    have e2 : spRefO (a ++ 58 :: b) = (a, b) := by unfold spRefO; rw [if_neg e1, h2]; rfl
    refine ⟨?_, by rw [e2, read_at h]⟩
    unfold spRefOk spOk
    rw [if_neg e1, e2, read_at h]
    cases hm : mayS (a, b) with
    | false => rfl
    | true => rw [textS_of hm]
/-- a text with two colons tells of no span -/
theorem read_many {l : List UInt8} (hl : 2 < (cutL 58 l).length) : spOk l = false := by
  rcases colon_cases l with h | ⟨a, b, rfl, h⟩
  · rw [cutL_none h] at hl; simp at hl
  · rw [cutL_at h] at hl
    have hb : (58 : UInt8) ∈ b := by
      refine Decidable.byContradiction fun hx => ?_
      rw [cutL_none hx] at hl
      simp at hl
    unfold spOk
    rw [read_at h]
    cases hm : mayS (a, b) with
    | false => rfl
    | true => exact absurd hb (bound_colon (mayS_iff.1 hm).2.1)
end Go.Proofs.YteailgjiifdgcaaGreatDoor.VerN

/- The walk of span.Read. Condition: the library's variables as they were laid; a text of at most a million bytes. -/
namespace Go.Proofs.YteailgjiifdgcaaGreatDoor
open Go.RowKit Go.Lib VerN

theorem bodyPost_spn2 {fn : Func} {p u : Tmp} (hres : fn.results = #[.cell p 34, .tmp u]) {R : Ending → World → Prop} {a : Act} {w : World} {g : Nat} {x y b : Value} (hp : a.tmps.getD p undef = .pointer (some ⟨g, 0, none⟩)) (hu : a.tmps.getD u undef = b)
    (hg : w.heap[g]? = some (.cells #[x, y] 34 (0, 0))) (hd : a.defers = []) (hR : R (.returned (.tuple #[.agg #[x, y], b])) w) : bodyPost Tryz.prog fn R .ret a w := by
  refine bodyPost_ret (v := .tuple #[.agg #[x, y], b]) ?_ hd hR
  rw [results_cell_tmp hres, hp, hu]
  simp only [asAddr, Sem.run_pure, Result.andThen, run_loadVar_row w g 34 34 _ _ _ hg Tryz.underlying34 rfl (by kernel_rfl)]
theorem bodyPost_spn1 {fn : Func} {p : Tmp} (hres : fn.results = #[.cell p 34]) {R : Ending → World → Prop} {a : Act} {w : World} {g : Nat} {x y : Value} (hp : a.tmps.getD p undef = .pointer (some ⟨g, 0, none⟩)) (hg : w.heap[g]? = some (.cells #[x, y] 34 (0, 0))) (hd : a.defers = []) (hR : R (.returned (.agg #[x, y])) w) : bodyPost Tryz.prog fn R .ret a w :=
  bodyPost_ret (results_cell_row hres a.tmps w g _ _ _ _ hp hg Tryz.underlying34 rfl (by kernel_rfl)) hd hR
theorem pair_cells {w : World} {g : Nat} {t : TypeId} {x y : Value} (h : w.heap[g]? = some (.cells #[x, y] t (0, 0))) : w.cell? ⟨g, 0, none⟩ = some x ∧ w.cell? ⟨g, 1, none⟩ = some y ∧ w.frozen? ⟨g, 0, none⟩ = false ∧ w.frozen? ⟨g, 1, none⟩ = false :=
  ⟨cells_at h 0, cells_at h 1, frozen_at h 0, frozen_at h 1⟩
theorem pair_set {w : World} {g : Nat} {t : TypeId} {x y : Value} (u v : Value) (h : w.heap[g]? = some (.cells #[x, y] t (0, 0))) : ((w.setCell ⟨g, 0, none⟩ u).setCell ⟨g, 1, none⟩ v).heap[g]? = some (.cells #[u, v] t (0, 0)) := by
  have k0 := heap_setCell_same _ g 0 _ _ u h
  have k1 := heap_setCell_same _ g 1 _ _ v k0
  exact k1
theorem pair_bel {B : Nat} {a w : World} {g : Nat} (u v : Value) (h : Below B a w) (hg : B ≤ g) : Below B a ((w.setCell ⟨g, 0, none⟩ u).setCell ⟨g, 1, none⟩ v) := (h.setCell (p := ⟨g, 0, none⟩) hg _).setCell (p := ⟨g, 1, none⟩) hg _
theorem ret_spn2 {a b c d : ByteArray} {p q : Bool} (h1 : a = c) (h2 : b = d) (h3 : p = q) : Ending.returned (.tuple #[.agg #[.string a, .string b], .bool p]) = .returned (.tuple #[.agg #[.string c, .string d], .bool q]) := by rw [h1, h2, h3]
def spB (s : ByteArray) : ByteArray × ByteArray := if (cut s.data.toList [58]).2.2 = true then (⟨(cut s.data.toList [58]).1.toArray⟩, ⟨(cut s.data.toList [58]).2.1.toArray⟩) else (⟨(cut s.data.toList [58]).1.toArray⟩, ⟨(cut s.data.toList [58]).1.toArray⟩)
def spV (s : ByteArray) : ByteArray × ByteArray := if spOk s.data.toList = true then spB s else (⟨#[]⟩, ⟨#[]⟩)
theorem spB_data (s : ByteArray) : ((spB s).1.data.toList, (spB s).2.data.toList) = spO s.data.toList := by
  unfold spB spO
  split <;> rfl
theorem cut_small (s : ByteArray) : (cut s.data.toList [58]).1.length ≤ s.size ∧ (cut s.data.toList [58]).2.1.length ≤ s.size := by
  rw [← Txt.len]
  rcases colon_cases s.data.toList with h | ⟨a, b, hab, h⟩
  · rw [cut_none h]
    exact ⟨Nat.le_refl _, Nat.zero_le _⟩
  · rw [hab, cut_at h]
    constructor <;> simp
    omega
set_option maxRecDepth 10000 in
set_option maxHeartbeats 2000000 in
theorem spanRead_any (s : ByteArray) (hs : s.size ≤ 100000) {w : World} (hD : Doors w) : Calls Tryz.prog 53 #[.string s] w fun e w' => e = .returned (.tuple #[.agg #[.string (spV s).1, .string (spV s).2], .bool (spOk s.data.toList)]) ∧ Below w.heap.size w w' := by
  obtain ⟨W0, hW0⟩ : ∃ W0, W0 = w.alloc (.cells #[.string ⟨#[]⟩, .string ⟨#[]⟩] 34) := ⟨_, rfl⟩
  obtain ⟨nb, hnb⟩ : ∃ nb, nb = w.heap.size := ⟨_, rfl⟩
  have hw : Below w.heap.size w W0 := by rw [hW0]; exact below_alloc1 _ _
  have hbx : W0.heap[nb]? = some (.cells #[.string ⟨#[]⟩, .string ⟨#[]⟩] 34 (0, 0)) := by rw [hW0, hnb]; exact heap_alloc_new _ _
  obtain ⟨lo, hlo⟩ : ∃ x : ByteArray, x = ⟨(cut s.data.toList [58]).1.toArray⟩ := ⟨_, rfl⟩
  obtain ⟨hi, hhi⟩ : ∃ x : ByteArray, x = ⟨(cut s.data.toList [58]).2.1.toArray⟩ := ⟨_, rfl⟩
  obtain ⟨two, htwo⟩ : ∃ x : Bool, x = (cut s.data.toList [58]).2.2 := ⟨_, rfl⟩
  have hB : spB s = if two = true then (lo, hi) else (lo, lo) := by unfold spB; rw [← hlo, ← hhi, ← htwo]
  have hl : lo.size ≤ 100000 := by have := (cut_small s).1; rw [hlo]; show (cut s.data.toList [58]).1.toArray.size ≤ _; simp; omega
  have hh : hi.size ≤ 100000 := by have := (cut_small s).2; rw [hhi]; show (cut s.data.toList [58]).2.1.toArray.size ≤ _; simp; omega
  obtain ⟨mx, hmx⟩ := (hD.below hw).max
  have hC := Tryz.strings_Cut s ⟨#[58]⟩ _ W0 (by omega) hmx
  clear hmx
  simp only [← hlo, ← hhi, ← htwo] at hC
  have HC := Lib.hid hC; have Hw := Lib.hid hw; have Hbx := Lib.hid hbx; have HB := Lib.hid hB; have Hlo := Lib.hid hlo; have Hhi := Lib.hid hhi; have Htwo := Lib.hid htwo; have HD := Lib.hid hD; clear hC hw hbx hB hlo hhi htwo hD
  go_enter Tryz.func53, Tryz.ntmps53
  go_upto_region 1 with (fail)
  rw [← hW0, ← hnb]
  have hle : w.heap.size ≤ nb := Nat.le_of_eq hnb.symm
  clear hW0 hnb
  have Hle := Lib.hid hle; clear hle
  go_wp2_with fail
  refine HC.out.mono ?_
  rintro e w1 ⟨rfl, n, rfl⟩
  have hb1 : Below W0.heap.size W0 (W0.drewN n) := bel_drewN (Below.refl _ _) n
  generalize W0.drewN n = W1 at hb1 ⊢
  have Hb1 := Lib.hid hb1; clear hb1
  cases two with
  | true =>
    go_upto_region 5 with (fail)
    obtain ⟨W2, hW2⟩ : ∃ W2, W2 = W1.alloc (.cells #[.string lo, .string hi] 34) := ⟨_, rfl⟩
    obtain ⟨g, hg⟩ : ∃ g, g = W1.heap.size := ⟨_, rfl⟩
    have hb2 : Below W0.heap.size W0 W2 := by rw [hW2]; exact Hb1.out.alloc Hb1.out.size _
    have hgx : W2.heap[g]? = some (.cells #[.string lo, .string hi] 34 (0, 0)) := by rw [hW2, hg]; exact heap_alloc_new _ _
    have hr2 := heap_below hb2 Hbx.out
    have hA := fun (W : World) (k : Below W2.heap.size W2 W) => calls_to k (spanMay_any lo hi (by omega) (by omega) (HD.out.below (below_on Hw.out (hb2.trans (k.mono hb2.size)))))
    have hT := fun (W : World) (k : Below W2.heap.size W2 W) => calls_to k (spanText_any lo hi (by omega) (by omega) (HD.out.below (below_on Hw.out (hb2.trans (k.mono hb2.size)))))
    obtain ⟨p, hp⟩ : ∃ x, x = mayS (lo.data.toList, hi.data.toList) := ⟨_, rfl⟩
    obtain ⟨tx, htx⟩ : ∃ x, x = txS lo hi := ⟨_, rfl⟩
    obtain ⟨d, k1⟩ : ∃ x, (tx.toList == s.toList) = x := ⟨_, rfl⟩
    have hB2 : spB s = (lo, hi) := by rw [HB.out]; rfl
    have hok : spOk s.data.toList = (p && d) := by
      unfold spOk
      rw [← spB_data, hB2, ← txS_data, ← k1, ← htx, hp, Txt.eq_dec]
      exact congrArg _ (decide_eq_decide.2 ba_eq.symm)
    have hval : spV s = if (p && d) = true then (lo, hi) else (⟨#[]⟩, ⟨#[]⟩) := by unfold spV; rw [hok, hB2]
    rw [← hp] at hA
    rw [← htx] at hT
    have hb0 : Below W2.heap.size W2 W2 := Below.refl _ _
    have hgw := fun (W : World) (k : Below W2.heap.size W2 W) => pair_cells (heap_below k hgx)
    have hrw := fun (W : World) (k : Below W2.heap.size W2 W) => pair_cells (heap_below k hr2)
    obtain ⟨c0, c1, f0, f1⟩ := hgw W2 hb0
    obtain ⟨x0, x1, y0, y1⟩ := hrw W2 hb0
    rw [← hW2, ← hg]
    clear hW2 hg hp htx hB2
    have Hb2 := Lib.hid hb2; have Hgx := Lib.hid hgx; have Hr2 := Lib.hid hr2; have HA := Lib.hid hA; have HT := Lib.hid hT; have Hok := Lib.hid hok; have Hval := Lib.hid hval; have Hgw := Lib.hid hgw; have Hrw := Lib.hid hrw; have Hb0 := Lib.hid hb0; clear hb2 hgx hr2 hA hT hok hval hgw hrw hb0
    go_wp2_with fail
    refine (HA.out _ Hb0.out).mono ?_
    rintro e w2 ⟨rfl, hb3⟩
    obtain ⟨c0, c1, f0, f1⟩ := Hgw.out _ hb3
    obtain ⟨x0, x1, y0, y1⟩ := Hrw.out _ hb3
    have Hb3 := Lib.hid hb3; clear hb3
    cases p with
    | false =>
      have hr3 := heap_below Hb3.out Hr2.out
      have hb9 := Hb2.out.trans (Hb3.out.mono Hb2.out.size)
      have Hr3 := Lib.hid hr3; have Hb9 := Lib.hid hb9; clear hr3 hb9
      go_wp2_with fail
      refine bodyPost_spn2 rfl rfl rfl (pair_set _ _ Hr3.out) rfl ?_
      exact ⟨ret_spn2 (by rw [Hval.out]; rfl) (by rw [Hval.out]; rfl) Hok.out.symm, pair_bel _ _ (below_on Hw.out Hb9.out) Hle.out⟩
    | true =>
      go_wp2_with fail
      refine (HT.out _ Hb3.out).mono ?_
      rintro e w3 ⟨rfl, hb4⟩
      obtain ⟨c0, c1, f0, f1⟩ := Hgw.out _ hb4
      obtain ⟨x0, x1, y0, y1⟩ := Hrw.out _ hb4
      have hr3 := heap_below hb4 Hr2.out
      have hb9 := Hb2.out.trans (hb4.mono Hb2.out.size)
      have Hb4 := Lib.hid hb4; have Hr3 := Lib.hid hr3; have Hb9 := Lib.hid hb9; clear hb4 hr3 hb9
      cases d with
      | false =>
        go_wp2_with fail
        refine bodyPost_spn2 rfl rfl rfl (pair_set _ _ Hr3.out) rfl ?_
        exact ⟨ret_spn2 (by rw [Hval.out]; rfl) (by rw [Hval.out]; rfl) Hok.out.symm, pair_bel _ _ (below_on Hw.out Hb9.out) Hle.out⟩
      | true =>
        go_wp2_with fail
        refine bodyPost_spn2 rfl rfl rfl (pair_set _ _ Hr3.out) rfl ?_
        exact ⟨ret_spn2 (by rw [Hval.out]; rfl) (by rw [Hval.out]; rfl) Hok.out.symm, pair_bel _ _ (below_on Hw.out Hb9.out) Hle.out⟩
  | false =>
    go_upto_region 5 with (fail)
    obtain ⟨W2, hW2⟩ : ∃ W2, W2 = W1.alloc (.cells #[.string lo, .string lo] 34) := ⟨_, rfl⟩
    obtain ⟨g, hg⟩ : ∃ g, g = W1.heap.size := ⟨_, rfl⟩
    have hb2 : Below W0.heap.size W0 W2 := by rw [hW2]; exact Hb1.out.alloc Hb1.out.size _
    have hgx : W2.heap[g]? = some (.cells #[.string lo, .string lo] 34 (0, 0)) := by rw [hW2, hg]; exact heap_alloc_new _ _
    have hr2 := heap_below hb2 Hbx.out
    have hA := fun (W : World) (k : Below W2.heap.size W2 W) => calls_to k (spanMay_any lo lo (by omega) (by omega) (HD.out.below (below_on Hw.out (hb2.trans (k.mono hb2.size)))))
    have hT := fun (W : World) (k : Below W2.heap.size W2 W) => calls_to k (spanText_any lo lo (by omega) (by omega) (HD.out.below (below_on Hw.out (hb2.trans (k.mono hb2.size)))))
    obtain ⟨p, hp⟩ : ∃ x, x = mayS (lo.data.toList, lo.data.toList) := ⟨_, rfl⟩
    obtain ⟨tx, htx⟩ : ∃ x, x = txS lo lo := ⟨_, rfl⟩
    obtain ⟨d, k1⟩ : ∃ x, (tx.toList == s.toList) = x := ⟨_, rfl⟩
    have hB2 : spB s = (lo, lo) := by rw [HB.out]; rfl
    have hok : spOk s.data.toList = (p && d) := by
      unfold spOk
      rw [← spB_data, hB2, ← txS_data, ← k1, ← htx, hp, Txt.eq_dec]
      exact congrArg _ (decide_eq_decide.2 ba_eq.symm)
    have hval : spV s = if (p && d) = true then (lo, lo) else (⟨#[]⟩, ⟨#[]⟩) := by unfold spV; rw [hok, hB2]
    rw [← hp] at hA
    rw [← htx] at hT
    have hb0 : Below W2.heap.size W2 W2 := Below.refl _ _
    have hgw := fun (W : World) (k : Below W2.heap.size W2 W) => pair_cells (heap_below k hgx)
    have hrw := fun (W : World) (k : Below W2.heap.size W2 W) => pair_cells (heap_below k hr2)
    obtain ⟨c0, c1, f0, f1⟩ := hgw W2 hb0
    obtain ⟨x0, x1, y0, y1⟩ := hrw W2 hb0
    rw [← hW2, ← hg]
    clear hW2 hg hp htx hB2
    have Hb2 := Lib.hid hb2; have Hgx := Lib.hid hgx; have Hr2 := Lib.hid hr2; have HA := Lib.hid hA; have HT := Lib.hid hT; have Hok := Lib.hid hok; have Hval := Lib.hid hval; have Hgw := Lib.hid hgw; have Hrw := Lib.hid hrw; have Hb0 := Lib.hid hb0; clear hb2 hgx hr2 hA hT hok hval hgw hrw hb0
    go_wp2_with fail
    refine (HA.out _ Hb0.out).mono ?_
    rintro e w2 ⟨rfl, hb3⟩
    obtain ⟨c0, c1, f0, f1⟩ := Hgw.out _ hb3
    obtain ⟨x0, x1, y0, y1⟩ := Hrw.out _ hb3
    have Hb3 := Lib.hid hb3; clear hb3
    cases p with
    | false =>
      have hr3 := heap_below Hb3.out Hr2.out
      have hb9 := Hb2.out.trans (Hb3.out.mono Hb2.out.size)
      have Hr3 := Lib.hid hr3; have Hb9 := Lib.hid hb9; clear hr3 hb9
      go_wp2_with fail
      refine bodyPost_spn2 rfl rfl rfl (pair_set _ _ Hr3.out) rfl ?_
      exact ⟨ret_spn2 (by rw [Hval.out]; rfl) (by rw [Hval.out]; rfl) Hok.out.symm, pair_bel _ _ (below_on Hw.out Hb9.out) Hle.out⟩
    | true =>
      go_wp2_with fail
      refine (HT.out _ Hb3.out).mono ?_
      rintro e w3 ⟨rfl, hb4⟩
      obtain ⟨c0, c1, f0, f1⟩ := Hgw.out _ hb4
      obtain ⟨x0, x1, y0, y1⟩ := Hrw.out _ hb4
      have hr3 := heap_below hb4 Hr2.out
      have hb9 := Hb2.out.trans (hb4.mono Hb2.out.size)
      have Hb4 := Lib.hid hb4; have Hr3 := Lib.hid hr3; have Hb9 := Lib.hid hb9; clear hb4 hr3 hb9
      cases d with
      | false =>
        go_wp2_with fail
        refine bodyPost_spn2 rfl rfl rfl (pair_set _ _ Hr3.out) rfl ?_
        exact ⟨ret_spn2 (by rw [Hval.out]; rfl) (by rw [Hval.out]; rfl) Hok.out.symm, pair_bel _ _ (below_on Hw.out Hb9.out) Hle.out⟩
      | true =>
        go_wp2_with fail
        refine bodyPost_spn2 rfl rfl rfl (pair_set _ _ Hr3.out) rfl ?_
        exact ⟨ret_spn2 (by rw [Hval.out]; rfl) (by rw [Hval.out]; rfl) Hok.out.symm, pair_bel _ _ (below_on Hw.out Hb9.out) Hle.out⟩
end Go.Proofs.YteailgjiifdgcaaGreatDoor

/- Boxes of spans; == at spans. No condition. -/
namespace Go.Proofs.YteailgjiifdgcaaGreatDoor
open Go.RowKit Go.Lib VerN

abbrev PrObj (x y : Value) : Obj := .cells #[x, y] 34 (0, 0)
theorem pbox1_0 (w : World) (x y : Value) : (w.alloc (.cells #[x, y] 34)).heap[w.heap.size]? = some (PrObj x y) := heap_alloc_new _ _
theorem pbox2_0 (w : World) (x y z u : Value) : ((w.alloc (.cells #[x, y] 34)).alloc (.cells #[z, u] 34)).heap[w.heap.size]? = some (PrObj x y) := heap_below (below_alloc1 _ _) (heap_alloc_new _ _)
theorem pbox2_1 (w : World) (x y z u : Value) : ((w.alloc (.cells #[x, y] 34)).alloc (.cells #[z, u] 34)).heap[w.heap.size + 1]? = some (PrObj z u) := heap_new_at (by simp)
theorem pbox3_0 (w : World) (x y z u p q : Value) : (((w.alloc (.cells #[x, y] 34)).alloc (.cells #[z, u] 34)).alloc (.cells #[p, q] 34)).heap[w.heap.size]? = some (PrObj x y) := heap_below (below_alloc1 _ _) (pbox2_0 _ _ _ _ _)
theorem pbox3_1 (w : World) (x y z u p q : Value) : (((w.alloc (.cells #[x, y] 34)).alloc (.cells #[z, u] 34)).alloc (.cells #[p, q] 34)).heap[w.heap.size + 1]? = some (PrObj z u) := heap_below (below_alloc1 _ _) (pbox2_1 _ _ _ _ _)
theorem pbox3_2 (w : World) (x y z u p q : Value) : (((w.alloc (.cells #[x, y] 34)).alloc (.cells #[z, u] 34)).alloc (.cells #[p, q] 34)).heap[w.heap.size + 1 + 1]? = some (PrObj p q) := heap_new_at (by simp)
theorem spn_eqs (s t a b : ByteArray) (W : World) : (binOp .eql 34 (.agg #[.string s, .string t]) (.agg #[.string a, .string b])).run Tryz.prog W = .ok (.bool (decide (s = a) && decide (t = b))) W := by
  have u9 := Tryz.underlying9
  have hS : Tryz.prog.underlying 34 = some (.struct (Tryz.prog.fieldsOf 34)) := by kernel_rfl
  have hp : Tryz.prog.stoodInHeld 34 = false := by kernel_rfl
  rw [run_eql_struct, show (10000 : Nat) = 9999 + 1 from rfl, run_equalIn_agg W 9999 34 _ _ hS hp]
  simp only [Program.fieldsOf, Tryz.underlying34]
  go_simp
  have e1 := Txt.eq_dec s a
  have e2 := Txt.eq_dec t b
  by_cases h1 : s = a <;> by_cases h2 : t = b <;> simp [h1, h2] at e1 e2 ⊢ <;> simp_all
end Go.Proofs.YteailgjiifdgcaaGreatDoor

/- The walks of span.Meet, Joins, Join. Condition: the library's variables as they were laid; texts of at most a million bytes. -/
namespace Go.Proofs.YteailgjiifdgcaaGreatDoor
open Go.RowKit Go.Lib VerN

/-- what two spans have in common; the least span of two -/
def mtV (lo hi lp hj : ByteArray) : ByteArray × ByteArray := if meetOk (lo.data.toList, hi.data.toList) (lp.data.toList, hj.data.toList) = true then (laterS lo lp, soonerS hi hj) else (⟨#[]⟩, ⟨#[]⟩)
theorem mtV_data (lo hi lp hj : ByteArray) : ((mtV lo hi lp hj).1.data.toList, (mtV lo hi lp hj).2.data.toList) = meetS (lo.data.toList, hi.data.toList) (lp.data.toList, hj.data.toList) := by
  unfold mtV meetS
  split
  · exact Prod.ext (laterS_data _ _) (soonerS_data _ _)
  · rfl
theorem if_data (P : Prop) [Decidable P] (x y : ByteArray) : (if P then x else y).data.toList = if P then x.data.toList else y.data.toList := by split <;> rfl
def jnV (lo hi lp hj : ByteArray) : ByteArray × ByteArray := if mayS (lo.data.toList, hi.data.toList) = true ∧ mayS (lp.data.toList, hj.data.toList) = true then (if lo.size ≠ 0 ∧ lp.size ≠ 0 then soonerS lo lp else ⟨#[]⟩, if hi.size ≠ 0 ∧ hj.size ≠ 0 then laterS hi hj else ⟨#[]⟩) else (⟨#[]⟩, ⟨#[]⟩)
theorem jnV_data (lo hi lp hj : ByteArray) : ((jnV lo hi lp hj).1.data.toList, (jnV lo hi lp hj).2.data.toList) = joinS (lo.data.toList, hi.data.toList) (lp.data.toList, hj.data.toList) := by
  unfold jnV joinS
  split
  · simp only [ne_eq, nil_size]
    exact Prod.ext (by rw [← soonerS_data]; exact if_data _ _ _) (by rw [← laterS_data]; exact if_data _ _ _)
  · rfl
theorem ret_spn1 {a b c d : ByteArray} (h1 : a = c) (h2 : b = d) : Ending.returned (.agg #[.string a, .string b]) = .returned (.agg #[.string c, .string d]) := by rw [h1, h2]
def CutBox (w0 : World) (x y : ByteArray) (v : Value) (W : World) : Prop := ∃ g, v = .pointer (some ⟨g, 0, none⟩) ∧ W.heap[g]? = some (.cells #[.string x, .string y] 34 (0, 0)) ∧ Below w0.heap.size w0 W
set_option maxRecDepth 10000 in
set_option maxHeartbeats 4000000 in
theorem meet_any (lo hi lp hj : ByteArray) (hl : lo.size ≤ 1000000) (hh : hi.size ≤ 1000000) (hl2 : lp.size ≤ 1000000) (hh2 : hj.size ≤ 1000000) {w : World} (hD : Doors w) : Calls Tryz.prog 121 #[.agg #[.string lo, .string hi], .agg #[.string lp, .string hj]] w fun e w' => e = .returned (.tuple #[.agg #[.string (mtV lo hi lp hj).1, .string (mtV lo hi lp hj).2], .bool (meetOk (lo.data.toList, hi.data.toList) (lp.data.toList, hj.data.toList))]) ∧ Below w.heap.size w w' := by
  obtain ⟨w0, hW0⟩ : ∃ W0, W0 = ((w.alloc (.cells #[.string lo, .string hi] 34)).alloc (.cells #[.string lp, .string hj] 34)).alloc (.cells #[.string ⟨#[]⟩, .string ⟨#[]⟩] 34) := ⟨_, rfl⟩
  obtain ⟨nb, hnb⟩ : ∃ nb, nb = w.heap.size := ⟨_, rfl⟩
  have hw : Below w.heap.size w w0 := by rw [hW0]; exact ((below_alloc1 _ _).alloc (below_alloc1 _ _).size _).alloc ((below_alloc1 _ _).alloc (below_alloc1 _ _).size _).size _
  have hb0 : Below w0.heap.size w0 w0 := Below.refl _ _
  have ha : w0.heap[nb]? = some (.cells #[.string lo, .string hi] 34 (0, 0)) := by rw [hW0, hnb]; exact pbox3_0 _ _ _ _ _ _ _
  obtain ⟨a0, a1, a2, a3⟩ := pair_cells ha
  have hb : w0.heap[nb + 1]? = some (.cells #[.string lp, .string hj] 34 (0, 0)) := by rw [hW0, hnb]; exact pbox3_1 _ _ _ _ _ _ _
  obtain ⟨b0, b1, b2, b3⟩ := pair_cells hb
  have hr : w0.heap[nb + 1 + 1]? = some (.cells #[.string ⟨#[]⟩, .string ⟨#[]⟩] 34 (0, 0)) := by rw [hW0, hnb]; exact pbox3_2 _ _ _ _ _ _ _
  obtain ⟨r0, r1, r2, r3⟩ := pair_cells hr
  have hl3 := laterS_size hl hl2
  have hh3 := soonerS_size hh hh2
  obtain ⟨lt, hlt⟩ : ∃ x, x = laterS lo lp := ⟨_, rfl⟩
  obtain ⟨st, hst⟩ : ∃ x, x = soonerS hi hj := ⟨_, rfl⟩
  rw [← hlt] at hl3
  rw [← hst] at hh3
  have hA := fun (W : World) (k : Below w0.heap.size w0 W) => spanMay_any lo hi hl hh (hD.below (below_on hw k))
  have hB := fun (W : World) (k : Below w0.heap.size w0 W) => spanMay_any lp hj hl2 hh2 (hD.below (below_on hw k))
  have hO := fun (W : World) (k : Below w0.heap.size w0 W) => spanMay_any lt st hl3 hh3 (hD.below (below_on hw k))
  have hL := fun (W : World) (k : Below w0.heap.size w0 W) => later_any lo lp hl hl2 (hD.below (below_on hw k))
  have hS := fun (W : World) (k : Below w0.heap.size w0 W) => sooner_any hi hj hh hh2 (hD.below (below_on hw k))
  obtain ⟨p, hp⟩ : ∃ x, x = mayS (lo.data.toList, hi.data.toList) := ⟨_, rfl⟩
  obtain ⟨q, hq⟩ : ∃ x, x = mayS (lp.data.toList, hj.data.toList) := ⟨_, rfl⟩
  obtain ⟨s, hs⟩ : ∃ x, x = mayS (lt.data.toList, st.data.toList) := ⟨_, rfl⟩
  have hok : meetOk (lo.data.toList, hi.data.toList) (lp.data.toList, hj.data.toList) = (p && q && s) := by
    unfold meetOk meetO
    rw [hp, hq, hs, hlt, hst, laterS_data, soonerS_data]
  have hval : mtV lo hi lp hj = if (p && q && s) = true then (lt, st) else (⟨#[]⟩, ⟨#[]⟩) := by unfold mtV; rw [hok, hlt, hst]
  have hle : w.heap.size ≤ nb + 1 + 1 := by omega
  rw [← hlt] at hL
  rw [← hst] at hS
  rw [← hp] at hA
  rw [← hq] at hB
  rw [← hs] at hO
  clear hp hq hs hlt hst
  have HA := Lib.hid hA; have HB := Lib.hid hB; have HO := Lib.hid hO; have HL := Lib.hid hL; have HS := Lib.hid hS; have Hok := Lib.hid hok; have Hval := Lib.hid hval; have Hle := Lib.hid hle; have Hw := Lib.hid hw; have Hb0 := Lib.hid hb0; have HD := Lib.hid hD; have Ha := Lib.hid ha; have Hb := Lib.hid hb; have Hr := Lib.hid hr; clear hA hB hO hL hS hok hval hle hw hb0 hD ha hb hr
  go_enter Tryz.func121, Tryz.ntmps121
  go_upto_region 1 with (fail)
  rw [← hW0, ← hnb]
  clear hW0 hnb
  have hczf : ∀ w', Below w0.heap.size w0 w' → w'.cell? ⟨nb, 0, none⟩ = some (.string lo) ∧ w'.cell? ⟨nb, 1, none⟩ = some (.string hi) ∧ w'.cell? ⟨nb + 1, 0, none⟩ = some (.string lp) ∧ w'.cell? ⟨nb + 1, 1, none⟩ = some (.string hj) := fun W k => by
    have h1 := pair_cells (heap_below k Ha.out)
    have h2 := pair_cells (heap_below k Hb.out)
    exact ⟨h1.1, h1.2.1, h2.1, h2.2.1⟩
  go_cut [6] (fun x W => CutBox w0 lt st x W)
  case first =>
    have hbz := bel_drewN Hb0.out 1
    have hcz := hczf _ hbz
    have Hcz := Lib.hid hczf
    clear hczf
    go_region_held3 (fun w' => w'.cell? ⟨nb, 0, none⟩ = some (.string lo) ∧ w'.cell? ⟨nb, 1, none⟩ = some (.string hi) ∧ w'.cell? ⟨nb + 1, 0, none⟩ = some (.string lp) ∧ w'.cell? ⟨nb + 1, 1, none⟩ = some (.string hj)) (first | exact hcz | exact Hcz.out _ (hbz.alloc hbz.size _) | exact Hcz.out _ (pair_bel _ _ hbz hgez) | go_keep) (first
      | (go_at_call 166; refine (HL.out _ (by exact hbz)).mono ?_; rintro e wz ⟨rfl, hsz⟩; (try (replace hgz := heap_below hsz hgz; obtain ⟨z0, z1, z2, z3⟩ := pair_cells hgz)); replace hbz := Below.trans (by exact hbz) (hsz.mono (Below.size (by exact hbz))); replace hcz := Hcz.out _ hbz)
      | (go_at_call 166; refine (HL.out _ (by exact hbz.alloc hbz.size _)).mono ?_; rintro e wz ⟨rfl, hsz⟩; have hgz := heap_below hsz (heap_alloc_new _ _); have hgez := hbz.size; obtain ⟨z0, z1, z2, z3⟩ := pair_cells hgz; replace hbz := Below.trans (by exact hbz.alloc hbz.size _) (hsz.mono (Below.size (by exact hbz.alloc hbz.size _))); replace hcz := Hcz.out _ hbz)
      | (go_at_call 165; refine (HS.out _ (by exact hbz)).mono ?_; rintro e wz ⟨rfl, hsz⟩; (try (replace hgz := heap_below hsz hgz; obtain ⟨z0, z1, z2, z3⟩ := pair_cells hgz)); replace hbz := Below.trans (by exact hbz) (hsz.mono (Below.size (by exact hbz))); replace hcz := Hcz.out _ hbz)
      | (go_at_call 165; refine (HS.out _ (by exact hbz.alloc hbz.size _)).mono ?_; rintro e wz ⟨rfl, hsz⟩; have hgz := heap_below hsz (heap_alloc_new _ _); have hgez := hbz.size; obtain ⟨z0, z1, z2, z3⟩ := pair_cells hgz; replace hbz := Below.trans (by exact hbz.alloc hbz.size _) (hsz.mono (Below.size (by exact hbz.alloc hbz.size _))); replace hcz := Hcz.out _ hbz))
    all_goals
      go_wp2_with fail
      go_meet
      first
        | exact ⟨_, rfl, heap_alloc_new _ _, hbz.alloc hbz.size _⟩
        | exact ⟨_, rfl, pair_set _ _ hgz, pair_bel _ _ hbz hgez⟩
  case rest =>
    obtain ⟨go, rfl, ho, hb1⟩ := hcut
    have ha := heap_below hb1 Ha.out
    have hb := heap_below hb1 Hb.out
    have hr := heap_below hb1 Hr.out
    clear Ha a0 a1 a2 a3 Hb b0 b1 b2 b3 Hr r0 r1 r2 r3 hczf
    obtain ⟨a0, a1, a2, a3⟩ := pair_cells ha
    obtain ⟨b0, b1, b2, b3⟩ := pair_cells hb
    obtain ⟨r0, r1, r2, r3⟩ := pair_cells hr
    obtain ⟨o0, o1, o2, o3⟩ := pair_cells ho
    have Hb1 := Lib.hid hb1; have Ha := Lib.hid ha; have Hb := Lib.hid hb; have Hr := Lib.hid hr; have Ho := Lib.hid ho; clear hb1 ha hb hr ho
    go_wp2_with fail
    refine (HA.out _ Hb1.out).mono ?_
    rintro e w2 ⟨rfl, hs⟩
    have hb2 := Hb1.out.trans (hs.mono Hb1.out.size)
    have ha := heap_below hs Ha.out
    clear Ha a0 a1 a2 a3
    obtain ⟨a0, a1, a2, a3⟩ := pair_cells ha
    have hb := heap_below hs Hb.out
    clear Hb b0 b1 b2 b3
    obtain ⟨b0, b1, b2, b3⟩ := pair_cells hb
    have hr := heap_below hs Hr.out
    clear Hr r0 r1 r2 r3
    obtain ⟨r0, r1, r2, r3⟩ := pair_cells hr
    have ho := heap_below hs Ho.out
    clear Ho o0 o1 o2 o3
    obtain ⟨o0, o1, o2, o3⟩ := pair_cells ho
    have Hs := Lib.hid hs; have Hb2 := Lib.hid hb2; have Ha := Lib.hid ha; have Hb := Lib.hid hb; have Hr := Lib.hid hr; have Ho := Lib.hid ho; clear hs hb2 ha hb hr ho
    cases p with
    | false =>
      go_wp2_with fail
      refine bodyPost_spn2 rfl rfl rfl (pair_set _ _ Hr.out) rfl ?_
      exact ⟨ret_spn2 (by rw [Hval.out]; rfl) (by rw [Hval.out]; rfl) (by rw [Hok.out]; rfl), pair_bel _ _ (below_on Hw.out Hb2.out) Hle.out⟩
    | true =>
      go_wp2_with fail
      refine (HB.out _ Hb2.out).mono ?_
      rintro e w3 ⟨rfl, hs⟩
      have hb3 := Hb2.out.trans (hs.mono Hb2.out.size)
      have ha := heap_below hs Ha.out
      clear Ha a0 a1 a2 a3
      obtain ⟨a0, a1, a2, a3⟩ := pair_cells ha
      have hb := heap_below hs Hb.out
      clear Hb b0 b1 b2 b3
      obtain ⟨b0, b1, b2, b3⟩ := pair_cells hb
      have hr := heap_below hs Hr.out
      clear Hr r0 r1 r2 r3
      obtain ⟨r0, r1, r2, r3⟩ := pair_cells hr
      have ho := heap_below hs Ho.out
      clear Ho o0 o1 o2 o3
      obtain ⟨o0, o1, o2, o3⟩ := pair_cells ho
      have Hs := Lib.hid hs; have Hb3 := Lib.hid hb3; have Ha := Lib.hid ha; have Hb := Lib.hid hb; have Hr := Lib.hid hr; have Ho := Lib.hid ho; clear hs hb3 ha hb hr ho
      cases q with
      | false =>
        go_wp2_with fail
        refine bodyPost_spn2 rfl rfl rfl (pair_set _ _ Hr.out) rfl ?_
        exact ⟨ret_spn2 (by rw [Hval.out]; rfl) (by rw [Hval.out]; rfl) (by rw [Hok.out]; rfl), pair_bel _ _ (below_on Hw.out Hb3.out) Hle.out⟩
      | true =>
        go_wp2_with fail
        refine (HO.out _ Hb3.out).mono ?_
        rintro e w4 ⟨rfl, hs⟩
        have hb4 := Hb3.out.trans (hs.mono Hb3.out.size)
        have ha := heap_below hs Ha.out
        clear Ha a0 a1 a2 a3
        obtain ⟨a0, a1, a2, a3⟩ := pair_cells ha
        have hb := heap_below hs Hb.out
        clear Hb b0 b1 b2 b3
        obtain ⟨b0, b1, b2, b3⟩ := pair_cells hb
        have hr := heap_below hs Hr.out
        clear Hr r0 r1 r2 r3
        obtain ⟨r0, r1, r2, r3⟩ := pair_cells hr
        have ho := heap_below hs Ho.out
        clear Ho o0 o1 o2 o3
        obtain ⟨o0, o1, o2, o3⟩ := pair_cells ho
        have Hs := Lib.hid hs; have Hb4 := Lib.hid hb4; have Ha := Lib.hid ha; have Hb := Lib.hid hb; have Hr := Lib.hid hr; have Ho := Lib.hid ho; clear hs hb4 ha hb hr ho
        cases s with
        | false =>
          go_wp2_with fail
          refine bodyPost_spn2 rfl rfl rfl (pair_set _ _ Hr.out) rfl ?_
          exact ⟨ret_spn2 (by rw [Hval.out]; rfl) (by rw [Hval.out]; rfl) (by rw [Hok.out]; rfl), pair_bel _ _ (below_on Hw.out Hb4.out) Hle.out⟩
        | true =>
          go_wp2_with fail
          refine bodyPost_spn2 rfl rfl rfl (pair_set _ _ Hr.out) rfl ?_
          exact ⟨ret_spn2 (by rw [Hval.out]; rfl) (by rw [Hval.out]; rfl) (by rw [Hok.out]; rfl), pair_bel _ _ (below_on Hw.out Hb4.out) Hle.out⟩
set_option maxRecDepth 10000 in
set_option maxHeartbeats 2000000 in
theorem joins_any (lo hi lp hj : ByteArray) (hl : lo.size ≤ 1000000) (hh : hi.size ≤ 1000000) (hl2 : lp.size ≤ 1000000) (hh2 : hj.size ≤ 1000000) {w : World} (hD : Doors w) : Calls Tryz.prog 108 #[.agg #[.string lo, .string hi], .agg #[.string lp, .string hj]] w fun e w' => e = .returned (.bool (meetOk (lo.data.toList, hi.data.toList) (lp.data.toList, hj.data.toList))) ∧ Below w.heap.size w w' := by
  obtain ⟨w0, hW0⟩ : ∃ W0, W0 = (w.alloc (.cells #[.string lo, .string hi] 34)).alloc (.cells #[.string lp, .string hj] 34) := ⟨_, rfl⟩
  obtain ⟨nb, hnb⟩ : ∃ nb, nb = w.heap.size := ⟨_, rfl⟩
  have hw : Below w.heap.size w w0 := by rw [hW0]; exact (below_alloc1 _ _).alloc (below_alloc1 _ _).size _
  have hb0 : Below w0.heap.size w0 w0 := Below.refl _ _
  have ha : w0.heap[nb]? = some (.cells #[.string lo, .string hi] 34 (0, 0)) := by rw [hW0, hnb]; exact pbox2_0 _ _ _ _ _
  obtain ⟨a0, a1, a2, a3⟩ := pair_cells ha
  have hb : w0.heap[nb + 1]? = some (.cells #[.string lp, .string hj] 34 (0, 0)) := by rw [hW0, hnb]; exact pbox2_1 _ _ _ _ _
  obtain ⟨b0, b1, b2, b3⟩ := pair_cells hb
  have hA := fun (W : World) (k : Below w0.heap.size w0 W) => meet_any lo hi lp hj hl hh hl2 hh2 (hD.below (below_on hw k))
  obtain ⟨p, hp⟩ : ∃ x, x = meetOk (lo.data.toList, hi.data.toList) (lp.data.toList, hj.data.toList) := ⟨_, rfl⟩
  obtain ⟨v, hv⟩ : ∃ x, x = mtV lo hi lp hj := ⟨_, rfl⟩
  rw [← hp]
  rw [← hp, ← hv] at hA
  clear hp hv hD
  have HA := Lib.hid hA; have Hw := Lib.hid hw; have Hb0 := Lib.hid hb0; have Ha := Lib.hid ha; have Hb := Lib.hid hb; clear hA hw hb0 ha hb
  go_enter Tryz.func108, Tryz.ntmps108
  go_upto_region 1 with (fail)
  rw [← hW0, ← hnb]
  clear hW0 hnb
  go_wp2_with fail
  refine (HA.out _ Hb0.out).mono ?_
  rintro e w1 ⟨rfl, hs⟩
  have hb1 := Hb0.out.trans (hs.mono Hb0.out.size)
  have ha := heap_below hs Ha.out
  clear Ha a0 a1 a2 a3
  obtain ⟨a0, a1, a2, a3⟩ := pair_cells ha
  have hb := heap_below hs Hb.out
  clear Hb b0 b1 b2 b3
  obtain ⟨b0, b1, b2, b3⟩ := pair_cells hb
  have Hs := Lib.hid hs; have Hb1 := Lib.hid hb1; have Ha := Lib.hid ha; have Hb := Lib.hid hb; clear hs hb1 ha hb
  go_wp2_with fail
  go_ret
  exact ⟨rfl, below_on Hw.out (Hb1.out.alloc Hb1.out.size _)⟩
set_option maxRecDepth 10000 in
set_option maxHeartbeats 4000000 in
theorem join_any (lo hi lp hj : ByteArray) (hl : lo.size ≤ 1000000) (hh : hi.size ≤ 1000000) (hl2 : lp.size ≤ 1000000) (hh2 : hj.size ≤ 1000000) {w : World} (hD : Doors w) : Calls Tryz.prog 109 #[.agg #[.string lo, .string hi], .agg #[.string lp, .string hj]] w fun e w' => e = .returned (.agg #[.string (jnV lo hi lp hj).1, .string (jnV lo hi lp hj).2]) ∧ Below w.heap.size w w' := by
  obtain ⟨w0, hW0⟩ : ∃ W0, W0 = ((w.alloc (.cells #[.string lo, .string hi] 34)).alloc (.cells #[.string lp, .string hj] 34)).alloc (.cells #[.string ⟨#[]⟩, .string ⟨#[]⟩] 34) := ⟨_, rfl⟩
  obtain ⟨nb, hnb⟩ : ∃ nb, nb = w.heap.size := ⟨_, rfl⟩
  have hw : Below w.heap.size w w0 := by rw [hW0]; exact ((below_alloc1 _ _).alloc (below_alloc1 _ _).size _).alloc ((below_alloc1 _ _).alloc (below_alloc1 _ _).size _).size _
  have hb0 : Below w0.heap.size w0 w0 := Below.refl _ _
  have ha : w0.heap[nb]? = some (.cells #[.string lo, .string hi] 34 (0, 0)) := by rw [hW0, hnb]; exact pbox3_0 _ _ _ _ _ _ _
  obtain ⟨a0, a1, a2, a3⟩ := pair_cells ha
  have hb : w0.heap[nb + 1]? = some (.cells #[.string lp, .string hj] 34 (0, 0)) := by rw [hW0, hnb]; exact pbox3_1 _ _ _ _ _ _ _
  obtain ⟨b0, b1, b2, b3⟩ := pair_cells hb
  have hr : w0.heap[nb + 1 + 1]? = some (.cells #[.string ⟨#[]⟩, .string ⟨#[]⟩] 34 (0, 0)) := by rw [hW0, hnb]; exact pbox3_2 _ _ _ _ _ _ _
  obtain ⟨r0, r1, r2, r3⟩ := pair_cells hr
  have hA := fun (W : World) (k : Below w0.heap.size w0 W) => spanMay_any lo hi hl hh (hD.below (below_on hw k))
  have hB := fun (W : World) (k : Below w0.heap.size w0 W) => spanMay_any lp hj hl2 hh2 (hD.below (below_on hw k))
  have hS := fun (W : World) (k : Below w0.heap.size w0 W) => sooner_any lo lp hl hl2 (hD.below (below_on hw k))
  have hL := fun (W : World) (k : Below w0.heap.size w0 W) => later_any hi hj hh hh2 (hD.below (below_on hw k))
  obtain ⟨lt, hlt⟩ : ∃ x, x = laterS hi hj := ⟨_, rfl⟩
  obtain ⟨st, hst⟩ : ∃ x, x = soonerS lo lp := ⟨_, rfl⟩
  obtain ⟨p, hp⟩ : ∃ x, x = mayS (lo.data.toList, hi.data.toList) := ⟨_, rfl⟩
  obtain ⟨q, hq⟩ : ∃ x, x = mayS (lp.data.toList, hj.data.toList) := ⟨_, rfl⟩
  obtain ⟨d1, k1⟩ : ∃ x, lo.toList.isEmpty = x := ⟨_, rfl⟩
  obtain ⟨d2, k2⟩ : ∃ x, lp.toList.isEmpty = x := ⟨_, rfl⟩
  obtain ⟨d3, k3⟩ : ∃ x, hi.toList.isEmpty = x := ⟨_, rfl⟩
  obtain ⟨d4, k4⟩ : ∃ x, hj.toList.isEmpty = x := ⟨_, rfl⟩
  have hval : jnV lo hi lp hj = if p = true ∧ q = true then (if d1 = false ∧ d2 = false then st else ⟨#[]⟩, if d3 = false ∧ d4 = false then lt else ⟨#[]⟩) else (⟨#[]⟩, ⟨#[]⟩) := by
    unfold jnV
    rw [← hp, ← hq, ← hlt, ← hst]
    simp only [← k1, ← k2, ← k3, ← k4, Txt.no_dec, decide_eq_false_iff_not, ne_eq]
  have hle : w.heap.size ≤ nb + 1 + 1 := by omega
  rw [← hlt] at hL
  rw [← hst] at hS
  rw [← hp] at hA
  rw [← hq] at hB
  clear hp hq hlt hst hD
  have HA := Lib.hid hA; have HB := Lib.hid hB; have HL := Lib.hid hL; have HS := Lib.hid hS; have Hval := Lib.hid hval; have Hle := Lib.hid hle; have Hw := Lib.hid hw; have Hb0 := Lib.hid hb0; have Ha := Lib.hid ha; have Hb := Lib.hid hb; have Hr := Lib.hid hr; clear hA hB hL hS hval hle hw hb0 ha hb hr
  go_enter Tryz.func109, Tryz.ntmps109
  go_upto_region 1 with (fail)
  rw [← hW0, ← hnb]
  clear hW0 hnb
  go_wp2_with fail
  refine (HA.out _ Hb0.out).mono ?_
  rintro e w1 ⟨rfl, hs⟩
  have hb1 := Hb0.out.trans (hs.mono Hb0.out.size)
  have ha := heap_below hs Ha.out
  clear Ha a0 a1 a2 a3
  obtain ⟨a0, a1, a2, a3⟩ := pair_cells ha
  have hb := heap_below hs Hb.out
  clear Hb b0 b1 b2 b3
  obtain ⟨b0, b1, b2, b3⟩ := pair_cells hb
  have hr := heap_below hs Hr.out
  clear Hr r0 r1 r2 r3
  obtain ⟨r0, r1, r2, r3⟩ := pair_cells hr
  have Hs := Lib.hid hs; have Hb1 := Lib.hid hb1; have Ha := Lib.hid ha; have Hb := Lib.hid hb; have Hr := Lib.hid hr; clear hs hb1 ha hb hr
  cases p with
  | false =>
    go_wp2_with fail
    refine bodyPost_spn1 rfl rfl (pair_set _ _ Hr.out) rfl ?_
    exact ⟨ret_spn1 (by rw [Hval.out]; rfl) (by rw [Hval.out]; rfl), pair_bel _ _ (below_on Hw.out Hb1.out) Hle.out⟩
  | true =>
    go_wp2_with fail
    refine (HB.out _ Hb1.out).mono ?_
    rintro e w2 ⟨rfl, hs⟩
    have hb2 := Hb1.out.trans (hs.mono Hb1.out.size)
    have ha := heap_below hs Ha.out
    clear Ha a0 a1 a2 a3
    obtain ⟨a0, a1, a2, a3⟩ := pair_cells ha
    have hb := heap_below hs Hb.out
    clear Hb b0 b1 b2 b3
    obtain ⟨b0, b1, b2, b3⟩ := pair_cells hb
    have hr := heap_below hs Hr.out
    clear Hr r0 r1 r2 r3
    obtain ⟨r0, r1, r2, r3⟩ := pair_cells hr
    have Hs := Lib.hid hs; have Hb2 := Lib.hid hb2; have Ha := Lib.hid ha; have Hb := Lib.hid hb; have Hr := Lib.hid hr; clear hs hb2 ha hb hr
    cases q with
    | false =>
      go_wp2_with fail
      refine bodyPost_spn1 rfl rfl (pair_set _ _ Hr.out) rfl ?_
      exact ⟨ret_spn1 (by rw [Hval.out]; rfl) (by rw [Hval.out]; rfl), pair_bel _ _ (below_on Hw.out Hb2.out) Hle.out⟩
    | true =>
      go_upto_region 4 with (fail)
      obtain ⟨w3, hv⟩ : ∃ W, W = w2.alloc (.cells #[.string ⟨#[]⟩, .string ⟨#[]⟩] 34) := ⟨_, rfl⟩
      obtain ⟨go, hg⟩ : ∃ g, g = w2.heap.size := ⟨_, rfl⟩
      have hs : Below w2.heap.size w2 w3 := by rw [hv]; exact below_alloc1 _ _
      have hb3 := Hb2.out.trans (hs.mono Hb2.out.size)
      have hgeo : w0.heap.size ≤ go := by rw [hg]; exact Hb2.out.size
      have hneao : nb ≠ go := by have := (Array.getElem?_eq_some_iff.1 Ha.out).1; omega
      have hnebo : nb + 1 ≠ go := by have := (Array.getElem?_eq_some_iff.1 Hb.out).1; omega
      have hnero : nb + 1 + 1 ≠ go := by have := (Array.getElem?_eq_some_iff.1 Hr.out).1; omega
      have ha := heap_below hs Ha.out
      clear Ha a0 a1 a2 a3
      obtain ⟨a0, a1, a2, a3⟩ := pair_cells ha
      have hb := heap_below hs Hb.out
      clear Hb b0 b1 b2 b3
      obtain ⟨b0, b1, b2, b3⟩ := pair_cells hb
      have hr := heap_below hs Hr.out
      clear Hr r0 r1 r2 r3
      obtain ⟨r0, r1, r2, r3⟩ := pair_cells hr
      have ho : w3.heap[go]? = some (.cells #[.string ⟨#[]⟩, .string ⟨#[]⟩] 34 (0, 0)) := by rw [hv, hg]; exact heap_alloc_new _ _
      obtain ⟨o0, o1, o2, o3⟩ := pair_cells ho
      rw [← hv, ← hg]
      clear hv hg
      have Hs := Lib.hid hs; have Hb3 := Lib.hid hb3; have Hgeo := Lib.hid hgeo; have Ha := Lib.hid ha; have Hb := Lib.hid hb; have Hr := Lib.hid hr; have Ho := Lib.hid ho; have Hneao := Lib.hid hneao; have Hnebo := Lib.hid hnebo; have Hnero := Lib.hid hnero; clear hs hb3 hgeo ha hb hr ho hneao hnebo hnero
      cases d1 with
      | false =>
        cases d2 with
        | false =>
          go_wp2_with fail
          refine (HS.out _ Hb3.out).mono ?_
          rintro e w4 ⟨rfl, hs⟩
          have hb4 := Hb3.out.trans (hs.mono Hb3.out.size)
          have ha := heap_below hs Ha.out
          clear Ha a0 a1 a2 a3
          obtain ⟨a0, a1, a2, a3⟩ := pair_cells ha
          have hb := heap_below hs Hb.out
          clear Hb b0 b1 b2 b3
          obtain ⟨b0, b1, b2, b3⟩ := pair_cells hb
          have hr := heap_below hs Hr.out
          clear Hr r0 r1 r2 r3
          obtain ⟨r0, r1, r2, r3⟩ := pair_cells hr
          have ho := heap_below hs Ho.out
          clear Ho o0 o1 o2 o3
          obtain ⟨o0, o1, o2, o3⟩ := pair_cells ho
          have Hs := Lib.hid hs; have Hb4 := Lib.hid hb4; have Ha := Lib.hid ha; have Hb := Lib.hid hb; have Hr := Lib.hid hr; have Ho := Lib.hid ho; clear hs hb4 ha hb hr ho
          go_upto_region 6 with (fail)
          obtain ⟨w5, hv⟩ : ∃ W, W = w4.setCell ⟨go, 0, none⟩ (.string st) := ⟨_, rfl⟩
          have hb5 : Below w0.heap.size w0 w5 := by rw [hv]; exact Hb4.out.setCell (p := ⟨go, 0, none⟩) Hgeo.out _
          have ha : w5.heap[nb]? = some (.cells #[.string lo, .string hi] 34 (0, 0)) := by rw [hv, Below.heap_setCell _ _ _ _ Hneao.out]; exact Ha.out
          clear Ha a0 a1 a2 a3
          obtain ⟨a0, a1, a2, a3⟩ := pair_cells ha
          have hb : w5.heap[nb + 1]? = some (.cells #[.string lp, .string hj] 34 (0, 0)) := by rw [hv, Below.heap_setCell _ _ _ _ Hnebo.out]; exact Hb.out
          clear Hb b0 b1 b2 b3
          obtain ⟨b0, b1, b2, b3⟩ := pair_cells hb
          have hr : w5.heap[nb + 1 + 1]? = some (.cells #[.string ⟨#[]⟩, .string ⟨#[]⟩] 34 (0, 0)) := by rw [hv, Below.heap_setCell _ _ _ _ Hnero.out]; exact Hr.out
          clear Hr r0 r1 r2 r3
          obtain ⟨r0, r1, r2, r3⟩ := pair_cells hr
          have ho : w5.heap[go]? = some (.cells #[.string st, .string ⟨#[]⟩] 34 (0, 0)) := by rw [hv]; exact heap_setCell_same _ go 0 _ _ _ Ho.out
          clear Ho o0 o1 o2 o3
          obtain ⟨o0, o1, o2, o3⟩ := pair_cells ho
          rw [← hv]
          clear hv
          have Hb5 := Lib.hid hb5; have Ha := Lib.hid ha; have Hb := Lib.hid hb; have Hr := Lib.hid hr; have Ho := Lib.hid ho; clear hb5 ha hb hr ho
          cases d3 with
          | false =>
            cases d4 with
            | false =>
              go_wp2_with fail
              refine (HL.out _ Hb5.out).mono ?_
              rintro e w6 ⟨rfl, hs⟩
              have hb6 := Hb5.out.trans (hs.mono Hb5.out.size)
              have ha := heap_below hs Ha.out
              clear Ha a0 a1 a2 a3
              obtain ⟨a0, a1, a2, a3⟩ := pair_cells ha
              have hb := heap_below hs Hb.out
              clear Hb b0 b1 b2 b3
              obtain ⟨b0, b1, b2, b3⟩ := pair_cells hb
              have hr := heap_below hs Hr.out
              clear Hr r0 r1 r2 r3
              obtain ⟨r0, r1, r2, r3⟩ := pair_cells hr
              have ho := heap_below hs Ho.out
              clear Ho o0 o1 o2 o3
              obtain ⟨o0, o1, o2, o3⟩ := pair_cells ho
              have Hs := Lib.hid hs; have Hb6 := Lib.hid hb6; have Ha := Lib.hid ha; have Hb := Lib.hid hb; have Hr := Lib.hid hr; have Ho := Lib.hid ho; clear hs hb6 ha hb hr ho
              go_upto_region 8 with (fail)
              obtain ⟨w7, hv⟩ : ∃ W, W = w6.setCell ⟨go, 1, none⟩ (.string lt) := ⟨_, rfl⟩
              have hb7 : Below w0.heap.size w0 w7 := by rw [hv]; exact Hb6.out.setCell (p := ⟨go, 1, none⟩) Hgeo.out _
              have ha : w7.heap[nb]? = some (.cells #[.string lo, .string hi] 34 (0, 0)) := by rw [hv, Below.heap_setCell _ _ _ _ Hneao.out]; exact Ha.out
              clear Ha a0 a1 a2 a3
              obtain ⟨a0, a1, a2, a3⟩ := pair_cells ha
              have hb : w7.heap[nb + 1]? = some (.cells #[.string lp, .string hj] 34 (0, 0)) := by rw [hv, Below.heap_setCell _ _ _ _ Hnebo.out]; exact Hb.out
              clear Hb b0 b1 b2 b3
              obtain ⟨b0, b1, b2, b3⟩ := pair_cells hb
              have hr : w7.heap[nb + 1 + 1]? = some (.cells #[.string ⟨#[]⟩, .string ⟨#[]⟩] 34 (0, 0)) := by rw [hv, Below.heap_setCell _ _ _ _ Hnero.out]; exact Hr.out
              clear Hr r0 r1 r2 r3
              obtain ⟨r0, r1, r2, r3⟩ := pair_cells hr
              have ho : w7.heap[go]? = some (.cells #[.string st, .string lt] 34 (0, 0)) := by rw [hv]; exact heap_setCell_same _ go 1 _ _ _ Ho.out
              clear Ho o0 o1 o2 o3
              obtain ⟨o0, o1, o2, o3⟩ := pair_cells ho
              rw [← hv]
              clear hv
              have Hb7 := Lib.hid hb7; have Ha := Lib.hid ha; have Hb := Lib.hid hb; have Hr := Lib.hid hr; have Ho := Lib.hid ho; clear hb7 ha hb hr ho
              go_wp2_with fail
              refine bodyPost_spn1 rfl rfl (pair_set _ _ Hr.out) rfl ?_
              exact ⟨ret_spn1 (by rw [Hval.out]; rfl) (by rw [Hval.out]; rfl), pair_bel _ _ (below_on Hw.out Hb7.out) Hle.out⟩
            | true =>
              go_wp2_with fail
              refine bodyPost_spn1 rfl rfl (pair_set _ _ Hr.out) rfl ?_
              exact ⟨ret_spn1 (by rw [Hval.out]; rfl) (by rw [Hval.out]; rfl), pair_bel _ _ (below_on Hw.out Hb5.out) Hle.out⟩
          | true =>
            go_wp2_with fail
            refine bodyPost_spn1 rfl rfl (pair_set _ _ Hr.out) rfl ?_
            exact ⟨ret_spn1 (by rw [Hval.out]; rfl) (by rw [Hval.out]; rfl), pair_bel _ _ (below_on Hw.out Hb5.out) Hle.out⟩
        | true =>
          cases d3 with
          | false =>
            cases d4 with
            | false =>
              go_wp2_with fail
              refine (HL.out _ Hb3.out).mono ?_
              rintro e w4 ⟨rfl, hs⟩
              have hb4 := Hb3.out.trans (hs.mono Hb3.out.size)
              have ha := heap_below hs Ha.out
              clear Ha a0 a1 a2 a3
              obtain ⟨a0, a1, a2, a3⟩ := pair_cells ha
              have hb := heap_below hs Hb.out
              clear Hb b0 b1 b2 b3
              obtain ⟨b0, b1, b2, b3⟩ := pair_cells hb
              have hr := heap_below hs Hr.out
              clear Hr r0 r1 r2 r3
              obtain ⟨r0, r1, r2, r3⟩ := pair_cells hr
              have ho := heap_below hs Ho.out
              clear Ho o0 o1 o2 o3
              obtain ⟨o0, o1, o2, o3⟩ := pair_cells ho
              have Hs := Lib.hid hs; have Hb4 := Lib.hid hb4; have Ha := Lib.hid ha; have Hb := Lib.hid hb; have Hr := Lib.hid hr; have Ho := Lib.hid ho; clear hs hb4 ha hb hr ho
              go_upto_region 8 with (fail)
              obtain ⟨w5, hv⟩ : ∃ W, W = w4.setCell ⟨go, 1, none⟩ (.string lt) := ⟨_, rfl⟩
              have hb5 : Below w0.heap.size w0 w5 := by rw [hv]; exact Hb4.out.setCell (p := ⟨go, 1, none⟩) Hgeo.out _
              have ha : w5.heap[nb]? = some (.cells #[.string lo, .string hi] 34 (0, 0)) := by rw [hv, Below.heap_setCell _ _ _ _ Hneao.out]; exact Ha.out
              clear Ha a0 a1 a2 a3
              obtain ⟨a0, a1, a2, a3⟩ := pair_cells ha
              have hb : w5.heap[nb + 1]? = some (.cells #[.string lp, .string hj] 34 (0, 0)) := by rw [hv, Below.heap_setCell _ _ _ _ Hnebo.out]; exact Hb.out
              clear Hb b0 b1 b2 b3
              obtain ⟨b0, b1, b2, b3⟩ := pair_cells hb
              have hr : w5.heap[nb + 1 + 1]? = some (.cells #[.string ⟨#[]⟩, .string ⟨#[]⟩] 34 (0, 0)) := by rw [hv, Below.heap_setCell _ _ _ _ Hnero.out]; exact Hr.out
              clear Hr r0 r1 r2 r3
              obtain ⟨r0, r1, r2, r3⟩ := pair_cells hr
              have ho : w5.heap[go]? = some (.cells #[.string ⟨#[]⟩, .string lt] 34 (0, 0)) := by rw [hv]; exact heap_setCell_same _ go 1 _ _ _ Ho.out
              clear Ho o0 o1 o2 o3
              obtain ⟨o0, o1, o2, o3⟩ := pair_cells ho
              rw [← hv]
              clear hv
              have Hb5 := Lib.hid hb5; have Ha := Lib.hid ha; have Hb := Lib.hid hb; have Hr := Lib.hid hr; have Ho := Lib.hid ho; clear hb5 ha hb hr ho
              go_wp2_with fail
              refine bodyPost_spn1 rfl rfl (pair_set _ _ Hr.out) rfl ?_
              exact ⟨ret_spn1 (by rw [Hval.out]; rfl) (by rw [Hval.out]; rfl), pair_bel _ _ (below_on Hw.out Hb5.out) Hle.out⟩
            | true =>
              go_wp2_with fail
              refine bodyPost_spn1 rfl rfl (pair_set _ _ Hr.out) rfl ?_
              exact ⟨ret_spn1 (by rw [Hval.out]; rfl) (by rw [Hval.out]; rfl), pair_bel _ _ (below_on Hw.out Hb3.out) Hle.out⟩
          | true =>
            go_wp2_with fail
            refine bodyPost_spn1 rfl rfl (pair_set _ _ Hr.out) rfl ?_
            exact ⟨ret_spn1 (by rw [Hval.out]; rfl) (by rw [Hval.out]; rfl), pair_bel _ _ (below_on Hw.out Hb3.out) Hle.out⟩
      | true =>
        cases d3 with
        | false =>
          cases d4 with
          | false =>
            go_wp2_with fail
            refine (HL.out _ Hb3.out).mono ?_
            rintro e w4 ⟨rfl, hs⟩
            have hb4 := Hb3.out.trans (hs.mono Hb3.out.size)
            have ha := heap_below hs Ha.out
            clear Ha a0 a1 a2 a3
            obtain ⟨a0, a1, a2, a3⟩ := pair_cells ha
            have hb := heap_below hs Hb.out
            clear Hb b0 b1 b2 b3
            obtain ⟨b0, b1, b2, b3⟩ := pair_cells hb
            have hr := heap_below hs Hr.out
            clear Hr r0 r1 r2 r3
            obtain ⟨r0, r1, r2, r3⟩ := pair_cells hr
            have ho := heap_below hs Ho.out
            clear Ho o0 o1 o2 o3
            obtain ⟨o0, o1, o2, o3⟩ := pair_cells ho
            have Hs := Lib.hid hs; have Hb4 := Lib.hid hb4; have Ha := Lib.hid ha; have Hb := Lib.hid hb; have Hr := Lib.hid hr; have Ho := Lib.hid ho; clear hs hb4 ha hb hr ho
            go_upto_region 8 with (fail)
            obtain ⟨w5, hv⟩ : ∃ W, W = w4.setCell ⟨go, 1, none⟩ (.string lt) := ⟨_, rfl⟩
            have hb5 : Below w0.heap.size w0 w5 := by rw [hv]; exact Hb4.out.setCell (p := ⟨go, 1, none⟩) Hgeo.out _
            have ha : w5.heap[nb]? = some (.cells #[.string lo, .string hi] 34 (0, 0)) := by rw [hv, Below.heap_setCell _ _ _ _ Hneao.out]; exact Ha.out
            clear Ha a0 a1 a2 a3
            obtain ⟨a0, a1, a2, a3⟩ := pair_cells ha
            have hb : w5.heap[nb + 1]? = some (.cells #[.string lp, .string hj] 34 (0, 0)) := by rw [hv, Below.heap_setCell _ _ _ _ Hnebo.out]; exact Hb.out
            clear Hb b0 b1 b2 b3
            obtain ⟨b0, b1, b2, b3⟩ := pair_cells hb
            have hr : w5.heap[nb + 1 + 1]? = some (.cells #[.string ⟨#[]⟩, .string ⟨#[]⟩] 34 (0, 0)) := by rw [hv, Below.heap_setCell _ _ _ _ Hnero.out]; exact Hr.out
            clear Hr r0 r1 r2 r3
            obtain ⟨r0, r1, r2, r3⟩ := pair_cells hr
            have ho : w5.heap[go]? = some (.cells #[.string ⟨#[]⟩, .string lt] 34 (0, 0)) := by rw [hv]; exact heap_setCell_same _ go 1 _ _ _ Ho.out
            clear Ho o0 o1 o2 o3
            obtain ⟨o0, o1, o2, o3⟩ := pair_cells ho
            rw [← hv]
            clear hv
            have Hb5 := Lib.hid hb5; have Ha := Lib.hid ha; have Hb := Lib.hid hb; have Hr := Lib.hid hr; have Ho := Lib.hid ho; clear hb5 ha hb hr ho
            go_wp2_with fail
            refine bodyPost_spn1 rfl rfl (pair_set _ _ Hr.out) rfl ?_
            exact ⟨ret_spn1 (by rw [Hval.out]; rfl) (by rw [Hval.out]; rfl), pair_bel _ _ (below_on Hw.out Hb5.out) Hle.out⟩
          | true =>
            go_wp2_with fail
            refine bodyPost_spn1 rfl rfl (pair_set _ _ Hr.out) rfl ?_
            exact ⟨ret_spn1 (by rw [Hval.out]; rfl) (by rw [Hval.out]; rfl), pair_bel _ _ (below_on Hw.out Hb3.out) Hle.out⟩
        | true =>
          go_wp2_with fail
          refine bodyPost_spn1 rfl rfl (pair_set _ _ Hr.out) rfl ?_
          exact ⟨ret_spn1 (by rw [Hval.out]; rfl) (by rw [Hval.out]; rfl), pair_bel _ _ (below_on Hw.out Hb3.out) Hle.out⟩
end Go.Proofs.YteailgjiifdgcaaGreatDoor

/- Plain facts: what the walks of the stable sort do to an array, told by lists: swaps, exchanges of runs, rotations, binary search, symMerge. -/
namespace Go.Proofs.YteailgjiifdgcaaGreatDoor.StbA
open Go.Sort Go.Proofs.YteailgjiifdgcaaGreatDoor.SortM
variable {α : Type}
theorem set_mid (p q : List α) (x y : α) (i : Nat) (hi : i = p.length) : (p ++ x :: q).set i y = p ++ y :: q := by subst hi; simp
/-- where a rotation stands: i elements ahead of m and j behind it are still to be exchanged -/
def RInv (tgt : List α) (m i j : Nat) (d : Array α) : Prop := ∃ p u v q, d.toList = p ++ u ++ v ++ q ∧ u.length = i ∧ v.length = j ∧ p.length + i = m ∧ tgt = p ++ v ++ u ++ q
theorem RInv.start {d : Array α} {p u v q : List α} (h : d.toList = p ++ u ++ v ++ q) {m i j : Nat} (hi : i = u.length) (hj : j = v.length) (hm : m = p.length + u.length) : RInv (p ++ v ++ u ++ q) m i j d := ⟨p, u, v, q, h, hi.symm, hj.symm, by omega, rfl⟩
theorem RInv.size {tgt : List α} {m i j : Nat} {d : Array α} (h : RInv tgt m i j d) : d.size = tgt.length := by
  obtain ⟨p, u, v, q, h1, _, _, _, h5⟩ := h
  rw [← Array.length_toList, h1, h5]; simp; omega
theorem RInv.le {tgt : List α} {m i j : Nat} {d : Array α} (h : RInv tgt m i j d) : i ≤ m ∧ m + j ≤ d.size := by
  obtain ⟨p, u, v, q, h1, h2, h3, h4, h5⟩ := h
  rw [← Array.length_toList, h1]; simp; omega
theorem swo_of {lt : α → α → Bool} (h : Swo lt) : SWO lt := ⟨irrefl h, fun x y z h1 h2 => by
    cases e : lt x z
    · have := h.ntrans y z x (h.asymm _ _ h2) e
      rw [h1] at this; cases this
    · rfl, fun x y z h1 h2 => h.ntrans z y x h2 h1⟩
variable [Inhabited α]
theorem get_of {d : Array α} {p q : List α} {x : α} (h : d.toList = p ++ x :: q) {i : Nat} (hi : i = p.length) : d[i]! = x := by
  subst hi
  have hl : p.length < d.size := by rw [← Array.length_toList, h]; simp
  rw [getElem!_pos d _ hl, ← Array.getElem_toList]
  simp [h]
theorem get_list (d : Array α) (i : Nat) : d[i]! = d.toList[i]! := by
  by_cases h : i < d.size
  · rw [getElem!_pos d _ h, getElem!_pos d.toList _ (by simpa using h), Array.getElem_toList]
  · rw [getElem!_neg d _ h, getElem!_neg d.toList _ (by simpa using h)]
theorem toList_swp (d : Array α) (i j : Nat) : (swp d i j).toList = (d.toList.set i d[j]!).set j d[i]! := by simp [swp]
theorem swp_split {d : Array α} {p m q : List α} {x y : α} (h : d.toList = p ++ x :: (m ++ y :: q)) {i j : Nat} (hi : i = p.length) (hj : j = p.length + 1 + m.length) : (swp d i j).toList = p ++ y :: (m ++ x :: q) := by
  have h1 : d[i]! = x := get_of h hi
  have h2 : d[j]! = y := get_of (p := p ++ x :: m) (q := q) (by rw [h]; simp) (by simp; omega)
  rw [toList_swp, h1, h2, h, set_mid p _ x y i hi]
  have e : p ++ y :: (m ++ y :: q) = (p ++ y :: m) ++ y :: q := by simp
  rw [e, set_mid _ _ _ _ _ (by simp; omega)]
  simp
theorem swp_comm (d : Array α) (i j : Nat) : swp d i j = swp d j i := by
  apply Array.ext'
  rw [toList_swp, toList_swp]
  by_cases h : i = j
  · subst h; rfl
  · exact List.set_comm _ _ h
theorem swp_split' {d : Array α} {p m q : List α} {x y : α} (h : d.toList = p ++ x :: (m ++ y :: q)) {i j : Nat} (hi : i = p.length) (hj : j = p.length + 1 + m.length) : (swp d j i).toList = p ++ y :: (m ++ x :: q) := by
  rw [swp_comm]; exact swp_split h hi hj

/-- n exchanges: a with b, a + 1 with b + 1, .. -/
def swr (d : Array α) (a b : Nat) : Nat → Array α
  | 0 => d
  | i + 1 => swp (swr d a b i) (a + i) (b + i)
theorem size_swr (d : Array α) (a b n : Nat) : (swr d a b n).size = d.size := by
  induction n with
  | zero => rfl
  | succ n ih => rw [swr, size_swp, ih]
theorem swr_rev (d : Array α) : ∀ (x y p m q : List α), x.length = y.length → d.toList = p ++ x.reverse ++ m ++ y.reverse ++ q → (swr d p.length (p.length + x.length + m.length) x.length).toList = p ++ y.reverse ++ m ++ x.reverse ++ q := by
  intro x
  induction x with
  | nil =>
    intro y p m q hl h
    obtain rfl : y = [] := List.eq_nil_of_length_eq_zero hl.symm
    exact h
  | cons u x ih =>
    intro y p m q hl h
    match y with
    | [] => simp at hl
    | v :: y =>
      have hl' : x.length = y.length := by simpa using hl
      have h1 := ih y p (u :: m) (v :: q) hl' (by rw [h]; simp)
      have e : p.length + (u :: x).length + m.length = p.length + x.length + (u :: m).length := by simp; omega
      rw [e, show (u :: x).length = x.length + 1 from rfl, swr]
      have h2 := swp_split (d := swr d p.length (p.length + x.length + (u :: m).length) x.length) (p := p ++ y.reverse) (m := m ++ x.reverse) (q := q) (x := u) (y := v) (by rw [h1]; simp) (i := p.length + x.length) (j := p.length + x.length + (u :: m).length + x.length) (by simp; omega) (by simp; omega)
      rw [h2]; simp
theorem swr_split {d : Array α} {p x m y q : List α} (hl : x.length = y.length) (h : d.toList = p ++ x ++ m ++ y ++ q) {a b n : Nat} (ha : a = p.length) (hb : b = p.length + x.length + m.length) (hn : n = x.length) : (swr d a b n).toList = p ++ y ++ m ++ x ++ q := by
  subst ha hb hn
  have := swr_rev d x.reverse y.reverse p m q (by simpa using hl) (by simpa using h)
  simpa using this

theorem RInv.gt {tgt : List α} {m i j : Nat} {d : Array α} (h : RInv tgt m i j d) (hij : j < i) : RInv tgt m (i - j) j (swr d (m - i) m j) := by
  obtain ⟨p, u, v, q, h1, h2, h3, h4, h5⟩ := h
  have hu : u = u.take j ++ u.drop j := (List.take_append_drop _ _).symm
  have hx : (u.take j).length = j := by simp; omega
  have hy : (u.drop j).length = i - j := by simp; omega
  generalize u.take j = x at hu hx
  generalize u.drop j = y at hu hy
  subst hu
  refine ⟨p ++ v, y, x, q, ?_, hy, hx, by simp; omega, by rw [h5]; simp⟩
  have := swr_split (d := d) (p := p) (x := x) (m := y) (y := v) (q := q) (by omega) (by rw [h1]; simp) (a := m - i) (b := m) (n := j) (by omega) (by simp at h2; omega) hx.symm
  rw [this]
theorem RInv.lt {tgt : List α} {m i j : Nat} {d : Array α} (h : RInv tgt m i j d) (hij : i < j) : RInv tgt m i (j - i) (swr d (m - i) (m + j - i) i) := by
  obtain ⟨p, u, v, q, h1, h2, h3, h4, h5⟩ := h
  have hv : v = v.take (j - i) ++ v.drop (j - i) := (List.take_append_drop _ _).symm
  have hx : (v.take (j - i)).length = j - i := by simp; omega
  have hy : (v.drop (j - i)).length = i := by simp; omega
  generalize v.take (j - i) = x at hv hx
  generalize v.drop (j - i) = y at hv hy
  subst hv
  refine ⟨p, y, x, u ++ q, ?_, hy, hx, by omega, by rw [h5]; simp⟩
  have := swr_split (d := d) (p := p) (x := u) (m := x) (y := y) (q := q) (by omega) (by rw [h1]; simp) (a := m - i) (b := m + j - i) (n := i) (by omega) (by omega) h2.symm
  rw [this]; simp
theorem RInv.eq {tgt : List α} {m i : Nat} {d : Array α} (h : RInv tgt m i i d) : (swr d (m - i) m i).toList = tgt := by
  obtain ⟨p, u, v, q, h1, h2, h3, h4, h5⟩ := h
  rw [h5]
  have := swr_split (d := d) (p := p) (x := u) (m := []) (y := v) (q := q) (by omega) (by rw [h1]; simp) (a := m - i) (b := m) (n := i) (by omega) (by simp; omega) h2.symm
  rw [this]; simp
/-- an element is carried n places up, or down -/
def upN (d : Array α) (a : Nat) : Nat → Array α
  | 0 => d
  | n + 1 => swp (upN d a n) (a + n) (a + n + 1)
def dnN (d : Array α) (m : Nat) : Nat → Array α
  | 0 => d
  | n + 1 => swp (dnN d m n) (m - n) (m - n - 1)
theorem size_upN (d : Array α) (a n : Nat) : (upN d a n).size = d.size := by
  induction n with
  | zero => rfl
  | succ n ih => rw [upN, size_swp, ih]
theorem size_dnN (d : Array α) (a n : Nat) : (dnN d a n).size = d.size := by
  induction n with
  | zero => rfl
  | succ n ih => rw [dnN, size_swp, ih]
theorem upN_rev (d : Array α) (x : α) (p : List α) : ∀ (v q : List α), d.toList = p ++ x :: (v.reverse ++ q) → (upN d p.length v.length).toList = p ++ v.reverse ++ x :: q := by
  intro v
  induction v with
  | nil => intro q h; simpa [upN] using h
  | cons y v ih =>
    intro q h
    have h1 := ih (y :: q) (by rw [h]; simp)
    have h2 := swp_split (d := upN d p.length v.length) (p := p ++ v.reverse) (m := []) (q := q) (x := x) (y := y) (by rw [h1]; simp) (i := p.length + v.length) (j := p.length + v.length + 1) (by simp) (by simp)
    rw [show (y :: v).length = v.length + 1 from rfl, upN, h2]; simp
theorem upN_split {d : Array α} {x : α} {p v q : List α} (h : d.toList = p ++ x :: (v ++ q)) {a n : Nat} (ha : a = p.length) (hn : n = v.length) : (upN d a n).toList = p ++ v ++ x :: q := by
  subst ha hn
  have := upN_rev d x p v.reverse q (by simpa using h)
  simpa using this
theorem dnN_split' (d : Array α) (x : α) (q : List α) (m : Nat) : ∀ (v p : List α), m = p.length + v.length → d.toList = p ++ v ++ x :: q → (dnN d m v.length).toList = p ++ x :: (v ++ q) := by
  intro v
  induction v with
  | nil => intro p _ h; simpa [dnN] using h
  | cons y v ih =>
    intro p hm h
    have hm' : m = p.length + (v.length + 1) := by simpa using hm
    have h1 := ih (p ++ [y]) (by simp; omega) (by rw [h]; simp)
    have h2 := swp_split' (d := dnN d m v.length) (p := p) (m := []) (q := v ++ q) (x := y) (y := x) (by rw [h1]; simp) (i := m - v.length - 1) (j := m - v.length) (by omega) (by simp; omega)
    rw [show (y :: v).length = v.length + 1 from rfl, dnN, h2]; simp
theorem dnN_split {d : Array α} {x : α} {p v q : List α} (h : d.toList = p ++ v ++ x :: q) {m n : Nat} (hm : m = p.length + v.length) (hn : n = v.length) : (dnN d m n).toList = p ++ x :: (v ++ q) := by
  subst hn; exact dnN_split' d x q m v p hm h

/-- where a binary search stands -/
structure BS (f : Nat → Bool) (lo hi i j : Nat) : Prop where
  l1 : lo ≤ i
  l2 : i ≤ j
  l3 : j ≤ hi
  yes : ∀ c, lo ≤ c → c < i → f c = true
  no : ∀ c, j ≤ c → c < hi → f c = false
def Mono (f : Nat → Bool) (lo hi : Nat) : Prop := ∀ c c', lo ≤ c' → c' ≤ c → c < hi → f c = true → f c' = true
theorem BS.start (f : Nat → Bool) {lo hi : Nat} (h : lo ≤ hi) : BS f lo hi lo hi := ⟨Nat.le_refl _, h, Nat.le_refl _, fun _ _ _ => by omega, fun _ _ _ => by omega⟩
theorem BS.left {f : Nat → Bool} {lo hi i j h : Nat} (hM : Mono f lo hi) (hB : BS f lo hi i j) (h1 : i ≤ h) (h2 : h < j) (hf : f h = true) : BS f lo hi (h + 1) j :=
  ⟨by have := hB.l1; omega, h2, hB.l3, fun c hc1 hc2 => hM h c hc1 (by omega) (by have := hB.l3; omega) hf, hB.no⟩
theorem BS.right {f : Nat → Bool} {lo hi i j h : Nat} (hM : Mono f lo hi) (hB : BS f lo hi i j) (h1 : i ≤ h) (h2 : h < j) (hf : f h = false) : BS f lo hi i h :=
  ⟨hB.l1, h1, by have := hB.l3; omega, hB.yes, fun c hc1 hc2 => by
    cases e : f c
    · rfl
    · have := hM c h (by have := hB.l1; omega) hc1 hc2 e; rw [hf] at this; cases this⟩

variable {lt : α → α → Bool}
/-- a part of the row that is sorted -/
def SortedIx (lt : α → α → Bool) (a b : Nat) (d : Array α) : Prop := ∀ i j, a ≤ i → i ≤ j → j < b → lt d[j]! d[i]! = false
theorem sortedIx_of (h : Swo lt) {d : Array α} {p u q : List α} (hd : d.toList = p ++ u ++ q) (hu : Sorted lt u) {a b : Nat} (ha : a = p.length) (hb : b = p.length + u.length) : SortedIx lt a b d := by
  intro i j hi hij hj
  rcases Nat.lt_or_eq_of_le hij with hij | rfl
  · have hs := List.pairwise_iff_getElem.1 hu (i - a) (j - a) (by omega) (by omega) (by omega)
    have g : ∀ k, (hk : k - a < u.length) → a ≤ k → d[k]! = u[k - a] := fun k hk h1 => by
      refine get_of (p := p ++ u.take (k - a)) (q := u.drop (k - a + 1) ++ q) ?_ (by simp; omega)
      rw [hd]
      conv => lhs; rw [← List.take_append_drop (k - a) u, List.drop_eq_getElem_cons hk]
      simp only [List.append_assoc, List.cons_append]
    rw [g i (by omega) hi, g j (by omega) (by omega)]; exact hs
  · exact irrefl h _
theorem get_in {d : Array α} {p u q : List α} (hd : d.toList = p ++ u ++ q) (k : Nat) (hk : k < u.length) : d[p.length + k]! = u[k] := by
  refine get_of (p := p ++ u.take k) (q := u.drop (k + 1) ++ q) ?_ (by simp; omega)
  rw [hd]
  conv => lhs; rw [← List.take_append_drop k u, List.drop_eq_getElem_cons hk]
  simp only [List.append_assoc, List.cons_append]

/-! one element ahead of a sorted run -/
theorem mono_left (h : Swo lt) {d : Array α} {a m b : Nat} (hs : SortedIx lt m b d) : Mono (fun c => lt d[c]! d[a]!) m b := by
  intro c c' h1 h2 h3 hc
  show lt d[c']! d[a]! = true
  cases e : lt d[c']! d[a]!
  · have := h.ntrans _ _ _ e (hs c' c h1 h2 h3)
    rw [show lt d[c]! d[a]! = true from hc] at this; cases this
  · rfl
theorem one_left (h : Swo lt) {d : Array α} {p v q : List α} {x : α} (hd : d.toList = p ++ x :: (v ++ q)) (hv : Sorted lt v) {a m b i : Nat} (ha : a = p.length) (hm : m = a + 1) (hb : b = m + v.length) (hB : BS (fun c => lt d[c]! d[a]!) m b i i) :
    (upN d a (i - 1 - a)).toList = p ++ ssort lt (x :: v) ++ q := by
  have hx : d[a]! = x := get_of hd ha
  have hd2 : d.toList = (p ++ [x]) ++ v ++ q := by rw [hd]; simp
  have hg : ∀ k, (hk : k < v.length) → d[m + k]! = v[k] := fun k hk => by
    have := get_in hd2 k hk
    rw [show (p ++ [x]).length + k = m + k from by simp; omega] at this; exact this
  have hi1 := hB.l1
  have hi2 := hB.l3
  have e1 : ∀ y ∈ v.take (i - m), lt y x = true := fun y hy => by
    obtain ⟨k, hk, rfl⟩ := List.getElem_of_mem hy
    simp only [List.length_take] at hk
    have := hB.yes (m + k) (by omega) (by omega)
    rw [hg k (by omega), hx] at this
    simpa using this
  have e2 : ∀ y ∈ v.drop (i - m), lt y x = false := fun y hy => by
    obtain ⟨k, hk, rfl⟩ := List.getElem_of_mem hy
    simp only [List.length_drop] at hk
    have := hB.no (m + (i - m + k)) (by omega) (by omega)
    rw [hg _ (by omega), hx] at this
    simpa using this
  have hsplit : v = v.take (i - m) ++ v.drop (i - m) := (List.take_append_drop _ _).symm
  have hl : (v.take (i - m)).length = i - m := by simp; omega
  generalize v.take (i - m) = v1 at *
  generalize v.drop (i - m) = v2 at *
  subst hsplit
  have hu := upN_split (d := d) (x := x) (p := p) (v := v1) (q := v2 ++ q) (by rw [hd]; simp) (a := a) (n := i - 1 - a) ha (by omega)
  rw [hu]
  have hp := List.pairwise_append.1 hv
  have : v1 ++ x :: v2 = ssort lt (x :: (v1 ++ v2)) := by
    apply ssort_eq h
    · have := (Sw.over (lt := lt) x v1 e1).ctx [] v2
      simpa using this
    · refine List.pairwise_append.2 ⟨hp.1, List.pairwise_cons.2 ⟨e2, hp.2.1⟩, fun y hy z hz => ?_⟩
      rcases List.mem_cons.1 hz with e | hz
      · rw [e]; exact h.asymm _ _ (e1 y hy)
      · exact hp.2.2 y hy z hz
  rw [← this]; simp
/-! one element behind a sorted run -/
theorem mono_right (h : Swo lt) {d : Array α} {a m : Nat} (hs : SortedIx lt a m d) : Mono (fun c => !lt d[m]! d[c]!) a m := by
  intro c c' h1 h2 h3 hc
  have hc' : lt d[m]! d[c]! = false := by simpa using hc
  show (!lt d[m]! d[c']!) = true
  rw [h.ntrans _ _ _ (hs c' c h1 h2 h3) hc']; rfl
theorem one_right (h : Swo lt) {d : Array α} {p u q : List α} {x : α} (hd : d.toList = p ++ u ++ x :: q) (hu : Sorted lt u) {a m i : Nat} (ha : a = p.length) (hm : m = a + u.length) (hB : BS (fun c => !lt d[m]! d[c]!) a m i i) :
    (dnN d m (m - i)).toList = p ++ ssort lt (u ++ [x]) ++ q := by
  have hx : d[m]! = x := get_of hd (by simp; omega)
  have hg : ∀ k, (hk : k < u.length) → d[a + k]! = u[k] := fun k hk => by
    have := get_in (q := x :: q) hd k hk
    rw [ha]; exact this
  have hi1 := hB.l1
  have hi2 := hB.l3
  have e1 : ∀ y ∈ u.take (i - a), lt x y = false := fun y hy => by
    obtain ⟨k, hk, rfl⟩ := List.getElem_of_mem hy
    simp only [List.length_take] at hk
    have := hB.yes (a + k) (by omega) (by omega)
    simp only [hg k (by omega), hx] at this
    simpa using this
  have e2 : ∀ y ∈ u.drop (i - a), lt x y = true := fun y hy => by
    obtain ⟨k, hk, rfl⟩ := List.getElem_of_mem hy
    simp only [List.length_drop] at hk
    have := hB.no (a + (i - a + k)) (by omega) (by omega)
    simp only [hg _ (show i - a + k < u.length by omega), hx] at this
    simpa using this
  have hsplit : u = u.take (i - a) ++ u.drop (i - a) := (List.take_append_drop _ _).symm
  have hl : (u.take (i - a)).length = i - a := by simp; omega
  have hl2 : (u.drop (i - a)).length = m - i := by simp; omega
  generalize u.take (i - a) = v1 at *
  generalize u.drop (i - a) = v2 at *
  subst hsplit
  have hdn := dnN_split (d := d) (x := x) (p := p ++ v1) (v := v2) (q := q) (by rw [hd]; simp) (m := m) (n := m - i) (by simp; omega) hl2.symm
  rw [hdn]
  have hp := List.pairwise_append.1 hu
  have : v1 ++ x :: v2 = ssort lt (v1 ++ v2 ++ [x]) := by
    apply ssort_eq h
    · have := (Sw.blocks (lt := lt) v2 [x] (fun a ha b hb => by simp at hb; subst hb; exact e2 a ha)).ctx v1 []
      simpa using this
    · refine List.pairwise_append.2 ⟨hp.1, List.pairwise_cons.2 ⟨fun y hy => h.asymm _ _ (e2 y hy), hp.2.1⟩, fun y hy z hz => ?_⟩
      rcases List.mem_cons.1 hz with e | hz
      · rw [e]; exact e1 y hy
      · exact hp.2.2 y hy z hz
  rw [← this]; simp
/-! the general cut -/
theorem mono_sym (h : Swo lt) {d : Array α} {a m b n lo hi : Nat} (hs1 : SortedIx lt a m d) (hs2 : SortedIx lt m b d) (h1 : a ≤ lo) (h2 : hi ≤ m) (h3 : n - hi ≥ m) (h4 : n - 1 - lo < b) (h5 : hi ≤ n) : Mono (fun c => !lt d[n - 1 - c]! d[c]!) lo hi := by
  intro c c' k1 k2 k3 hc
  have hc' : lt d[n - 1 - c]! d[c]! = false := by simpa using hc
  show (!lt d[n - 1 - c']! d[c']!) = true
  have e1 : lt d[c]! d[c']! = false := hs1 c' c (by omega) k2 (by omega)
  have e2 : lt d[n - 1 - c']! d[n - 1 - c]! = false := hs2 (n - 1 - c) (n - 1 - c') (by omega) (by omega) (by omega)
  rw [h.ntrans _ _ _ (h.ntrans _ _ _ e1 hc') e2]; rfl
theorem sym_cut (h : Swo lt) {d : Array α} {p u v q : List α} (hd : d.toList = p ++ u ++ v ++ q) (hu : Sorted lt u) (hv : Sorted lt v) {a m b mid n lo hi s : Nat} (ha : a = p.length) (hm : m = a + u.length) (hb : b = m + v.length)
    (hmid : mid = (a + b) / 2) (hn : n = mid + m) (hab : a < b) (hlo : (mid < m → lo = n - b ∧ hi = mid) ∧ (¬ mid < m → lo = a ∧ hi = m)) (hB : BS (fun c => !lt d[n - 1 - c]! d[c]!) lo hi s s) :
    ∃ l1 l2 r1 r2, u = l1 ++ l2 ∧ v = r1 ++ r2 ∧ a + l1.length = s ∧ m + r1.length = n - s ∧ ssort lt (u ++ v) = ssort lt (l1 ++ r1) ++ ssort lt (l2 ++ r2) := by
  have hs1 := hB.l1
  have hs3 := hB.l3
  have b1 : a ≤ s ∧ s ≤ m ∧ m ≤ n - s ∧ n - s ≤ b := by
    by_cases hc : mid < m
    · obtain ⟨rfl, rfl⟩ := hlo.1 hc; omega
    · obtain ⟨rfl, rfl⟩ := hlo.2 hc; omega
  have gu : ∀ k, (hk : k < u.length) → d[a + k]! = u[k] := fun k hk => by
    have := get_in (q := v ++ q) (by rw [hd]; simp : d.toList = p ++ u ++ (v ++ q)) k hk
    rw [ha]; exact this
  have gv : ∀ k, (hk : k < v.length) → d[m + k]! = v[k] := fun k hk => by
    have := get_in hd k hk
    rw [show (p ++ u).length + k = m + k from by simp; omega] at this; exact this
  refine ⟨u.take (s - a), u.drop (s - a), v.take (n - s - m), v.drop (n - s - m), (List.take_append_drop _ _).symm, (List.take_append_drop _ _).symm, by simp; omega, by simp; omega, ?_⟩
  have hsU : ∀ i j (hi : i < u.length) (hj : j < u.length), i ≤ j → lt u[j] u[i] = false := fun i j hi hj hij => by
    rcases Nat.lt_or_eq_of_le hij with hij | rfl
    · exact List.pairwise_iff_getElem.1 hu i j hi hj hij
    · exact irrefl h _
  have hsV : ∀ i j (hi : i < v.length) (hj : j < v.length), i ≤ j → lt v[j] v[i] = false := fun i j hi hj hij => by
    rcases Nat.lt_or_eq_of_le hij with hij | rfl
    · exact List.pairwise_iff_getElem.1 hv i j hi hj hij
    · exact irrefl h _
  have hpu : Sorted lt (u.take (s - a) ++ u.drop (s - a)) := by rw [List.take_append_drop]; exact hu
  have hpv : Sorted lt (v.take (n - s - m) ++ v.drop (n - s - m)) := by rw [List.take_append_drop]; exact hv
  have key := ssort_cut h (u.take (s - a)) (u.drop (s - a)) (v.take (n - s - m)) (v.drop (n - s - m)) ?_ (fun x hx y hy => (List.pairwise_append.1 hpu).2.2 x hx y hy) (fun x hx y hy => (List.pairwise_append.1 hpv).2.2 x hx y hy) ?_
  · rw [List.take_append_drop, List.take_append_drop] at key; exact key
  · -- l2 over r1
    intro x hx y hy
    obtain ⟨k, hk, rfl⟩ := List.getElem_of_mem hx
    obtain ⟨j, hj, rfl⟩ := List.getElem_of_mem hy
    simp only [List.length_drop] at hk
    simp only [List.length_take] at hj
    simp only [List.getElem_drop, List.getElem_take]
    -- s < hi
    have hsh : s < hi := by
      by_cases hc : mid < m
      · have := hlo.1 hc; omega
      · have := hlo.2 hc; omega
    have hN := hB.no s (Nat.le_refl _) hsh
    have hN' : lt d[n - 1 - s]! d[s]! = true := by simpa using hN
    have e1 : d[s]! = u[s - a]'(by omega) := by rw [← gu (s - a) (by omega)]; congr 1; omega
    have e2 : d[n - 1 - s]! = v[n - 1 - s - m]'(by omega) := by rw [← gv (n - 1 - s - m) (by omega)]; congr 1; omega
    rw [e1, e2] at hN'
    cases e : lt v[j] u[s - a + k]
    · have h1 := hsU (s - a) (s - a + k) (by omega) (by omega) (by omega)
      have h2 := hsV j (n - 1 - s - m) (by omega) (by omega) (by omega)
      have h3 := h.ntrans _ _ _ (h.ntrans _ _ _ h1 e) h2
      rw [hN'] at h3; cases h3
    · rfl
  · -- l1 over r2
    intro x hx y hy
    obtain ⟨k, hk, rfl⟩ := List.getElem_of_mem hx
    obtain ⟨j, hj, rfl⟩ := List.getElem_of_mem hy
    simp only [List.length_take] at hk
    simp only [List.length_drop] at hj
    simp only [List.getElem_drop, List.getElem_take]
    have hsh : lo < s := by
      by_cases hc : mid < m
      · have := hlo.1 hc; omega
      · have := hlo.2 hc; omega
    have hN := hB.yes (s - 1) (by omega) (by omega)
    have hN' : lt d[n - 1 - (s - 1)]! d[s - 1]! = false := by simpa using hN
    have e1 : d[s - 1]! = u[s - 1 - a]'(by omega) := by rw [← gu (s - 1 - a) (by omega)]; congr 1; omega
    have e2 : d[n - 1 - (s - 1)]! = v[n - s - m]'(by omega) := by rw [← gv (n - s - m) (by omega)]; congr 1; omega
    rw [e1, e2] at hN'
    have h1 := hsU k (s - 1 - a) (by omega) (by omega) (by omega)
    have h2 := hsV (n - s - m) (n - s - m + j) (by omega) (by omega) (by omega)
    exact h.ntrans _ _ _ (h.ntrans _ _ _ h1 hN') h2

/-! insertion -/
theorem insInner_sw (lt : α → α → Bool) (p q x0 : List α) : ∀ (j : Nat) (d : Array α), j < p.length + x0.length → (∃ x, d.toList = p ++ x ++ q ∧ Sw lt x0 x) → ∃ x, (insInner lt p.length j d).toList = p ++ x ++ q ∧ Sw lt x0 x := by
  intro j
  induction j with
  | zero => intro d _ h; rw [insInner]; exact h
  | succ j ih =>
    intro d hj h
    rw [insInner]
    split
    · rename_i hc
      simp only [Bool.and_eq_true, decide_eq_true_eq] at hc
      refine ih _ (by omega) ?_
      obtain ⟨x, hx, hs⟩ := h
      have hl : x.length = x0.length := hs.perm.length_eq.symm
      have k1 : j - p.length < x.length := by omega
      have k2 : j - p.length + 1 < x.length := by omega
      have e : x = x.take (j - p.length) ++ x[j - p.length] :: x[j - p.length + 1] :: x.drop (j - p.length + 2) := by
        conv => lhs; rw [← List.take_append_drop (j - p.length) x, List.drop_eq_getElem_cons k1, List.drop_eq_getElem_cons k2]
      have g1 : d[j]! = x[j - p.length] := by rw [← get_in hx (j - p.length) k1]; congr 1; omega
      have g2 : d[j + 1]! = x[j - p.length + 1] := by rw [← get_in hx (j - p.length + 1) k2]; congr 1; omega
      have hlt := hc.2
      rw [g1, g2] at hlt
      have hpl : (x.take (j - p.length)).length = j - p.length := by simp; omega
      generalize x.take (j - p.length) = xa at e hpl
      generalize x.drop (j - p.length + 2) = xb at e
      generalize x[j - p.length] = y at *
      generalize x[j - p.length + 1] = z at *
      subst e
      have hsw := swp_split' (d := d) (p := p ++ xa) (m := []) (q := xb ++ q) (x := y) (y := z) (by rw [hx]; simp) (i := j) (j := j + 1) (by simp; omega) (by simp; omega)
      exact ⟨xa ++ z :: y :: xb, by rw [hsw]; simp, .step xa y z xb hs hlt⟩
    · exact h
theorem insOuter_sw (lt : α → α → Bool) (p q x0 : List α) (b : Nat) (hb : b = p.length + x0.length) : ∀ (k i : Nat) (d : Array α), b - i ≤ k → (∃ x, d.toList = p ++ x ++ q ∧ Sw lt x0 x) → ∃ x, (insOuter lt p.length b i d).toList = p ++ x ++ q ∧ Sw lt x0 x := by
  intro k
  induction k with
  | zero => intro i d hk h; rw [insOuter, if_neg (by omega)]; exact h
  | succ k ih =>
    intro i d hk h
    rw [insOuter]
    split
    · exact ih _ _ (by omega) (insInner_sw lt p q x0 i d (by omega) h)
    · exact h
theorem insertion_is (h : Swo lt) {d : Array α} {p x q : List α} (hd : d.toList = p ++ x ++ q) {a b : Nat} (ha : a = p.length) (hb : b = p.length + x.length) : (insertionSort lt d a b).toList = p ++ ssort lt x ++ q := by
  subst ha
  obtain ⟨y, hy, hs⟩ := insOuter_sw lt p q x b hb b (p.length + 1) d (by omega) ⟨x, hd, .refl⟩
  have hsz : b ≤ d.size := by rw [← Array.length_toList, hd]; simp; omega
  have hso := (insertionSort_holds (lt := lt) (swo_of h) d p.length b (by omega) hsz).2
  have hl : y.length = x.length := hs.perm.length_eq.symm
  have : y = ssort lt x := by
    apply ssort_eq h hs
    refine List.pairwise_iff_getElem.2 fun i j hi hj hij => ?_
    have := hso (p.length + i) (p.length + j) (by omega) (by omega) (by omega)
    rw [show insertionSort lt d p.length b = insOuter lt p.length b (p.length + 1) d from rfl, get_in hy i hi, get_in hy j hj] at this
    exact this
  rw [← this]; exact hy
end Go.Proofs.YteailgjiifdgcaaGreatDoor.StbA

/- Plain facts: the form of a set of spans, of texts; the order by bounds below. No condition. -/
namespace Go.Proofs.YteailgjiifdgcaaGreatDoor
open Go.Lib VerN SortM

def cmpLoI (a b : List UInt8) : Int := if a = b then 0 else if a = [] then -1 else if b = [] then 1 else compareL a b
theorem cmpLoI_lt (a b : List UInt8) : decide (cmpLoI a b < 0) = ltLo a b := by
  have hn := row_compare.neg a a
  have h0 : ¬ compareL a a < 0 := by omega
  unfold cmpLoI ltLo
  by_cases h : a = b
  · subst h
    by_cases h1 : a = []
    · simp [h1]
    · simp [h1, h0]
  · by_cases h1 : a = []
    · subst h1
      have h2 : b ≠ [] := fun e => h e.symm
      simp [h, h2]
    · by_cases h2 : b = []
      · subst h2; simp [h1]
      · simp [h, h1, h2]
theorem ltLo_asymm {a b : List UInt8} (h : ltLo a b = true) : ltLo b a = false := by
  rw [ltLo_no]
  unfold ltLo at h
  simp only [Bool.and_eq_true, Bool.or_eq_true, decide_eq_true_eq] at h
  obtain ⟨h1, h2 | h2⟩ := h
  · exact .inl h2
  · refine .inr ⟨h1, ?_⟩
    unfold le; omega
theorem loLe_trans {a b c : List UInt8} (h1 : loLe a b) (h2 : loLe b c) : loLe a c := by
  rcases h1 with h | ⟨k1, h⟩
  · exact .inl h
  · rcases h2 with m | ⟨m1, m⟩
    · exact absurd m k1
    · exact .inr ⟨m1, le_trans h m⟩

/-- a span of texts -/
abbrev BSp := ByteArray × ByteArray
def dS (s : BSp) : Sp := (s.1.data.toList, s.2.data.toList)
theorem dS_inj {s t : BSp} (h : dS s = dS t) : s = t := by
  have h1 := congrArg Prod.fst h
  have h2 := congrArg Prod.snd h
  exact Prod.ext (Txt.ext h1) (Txt.ext h2)
theorem map_dS_inj {l m : List BSp} (h : l.map dS = m.map dS) : l = m := (List.map_inj_right fun _ _ e => dS_inj e).1 h
/-- a span of texts, with a bound -/
abbrev Tp := { s : BSp // s.1.size ≤ 9000 ∧ s.2.size ≤ 9000 }
instance : Inhabited Tp := ⟨⟨(⟨#[]⟩, ⟨#[]⟩), by decide⟩⟩
def cfSp (x y : Tp) : Int := cmpLoI x.1.1.data.toList y.1.1.data.toList
theorem ltSp (x y : Tp) : Go.Proofs.ltOf cfSp x y = ltLo (dS x.1).1 (dS y.1).1 := cmpLoI_lt _ _
theorem swoSp : Swo (Go.Proofs.ltOf cfSp) where
  asymm a b h := by rw [ltSp] at *; exact ltLo_asymm h
  ntrans a b c h1 h2 := by
    rw [ltSp, ltLo_no] at *
    exact loLe_trans h1 h2
def sortSp (l : List Tp) : List Tp := ssort (Go.Proofs.ltOf cfSp) l
theorem sortSp_lo (l : List Tp) : ((sortSp l).map fun x => dS x.1).Pairwise Lo := by
  have h := ssort_sorted swoSp l
  rw [List.pairwise_map]
  refine List.Pairwise.imp ?_ h
  intro a b hab
  rw [ltSp, ltLo_no] at hab
  exact hab
theorem sortSp_perm (l : List Tp) : (sortSp l).Perm l := (ssort_sw swoSp l).perm.symm
/-- what is put together -/
def addB (out : List BSp) (x : BSp) : List BSp := match out.getLast? with
  | some z => if meetOk (dS z) (dS x) = true then out.dropLast ++ [jnV z.1 z.2 x.1 x.2] else out ++ [x]
  | none => [x]
def mergeB (l : List BSp) : List BSp := l.foldl addB []
theorem jn_dS (z x : BSp) : dS (jnV z.1 z.2 x.1 x.2) = joinS (dS z) (dS x) := jnV_data _ _ _ _
theorem addB_nil (x : BSp) : addB [] x = [x] := rfl
theorem addB_snoc (O : List BSp) (z x : BSp) : addB (O ++ [z]) x = if meetOk (dS z) (dS x) = true then O ++ [jnV z.1 z.2 x.1 x.2] else O ++ [z] ++ [x] := by
  unfold addB
  simp
theorem addB_dS (O : List BSp) (x : BSp) : (addB O x).map dS = addS (O.map dS) (dS x) := by
  rcases List.eq_nil_or_concat O with rfl | ⟨Q, z, rfl⟩
  · rfl
  · rw [List.concat_eq_append, addB_snoc, List.map_append, List.map_cons, List.map_nil, addS_snoc]
    cases meetOk (dS z) (dS x) with
    | true => simp [jn_dS]
    | false => simp
theorem fold_dS : ∀ (r O : List BSp), (r.foldl addB O).map dS = (r.map dS).foldl addS (O.map dS)
  | [], O => rfl
  | x :: r, O => by rw [List.foldl_cons, List.map_cons, List.foldl_cons, fold_dS r (addB O x), addB_dS]
theorem mergeB_dS (r : List BSp) : (mergeB r).map dS = mergeS (r.map dS) := fold_dS r []
theorem mergeB_len : ∀ (r O : List BSp), (r.foldl addB O).length ≤ O.length + r.length
  | [], O => by simp
  | x :: r, O => by
    have h := mergeB_len r (addB O x)
    have : (addB O x).length ≤ O.length + 1 := by
      rcases List.eq_nil_or_concat O with rfl | ⟨Q, z, rfl⟩
      · simp [addB_nil]
      · rw [List.concat_eq_append, addB_snoc]
        split <;> simp
    rw [List.foldl_cons, List.length_cons]
    omega
/-- the form: what the row by bounds below is put together to -/
def formB (l : List Tp) : List BSp := mergeB ((sortSp l).map (·.1))
def allMay (l : List BSp) : Bool := l.all fun s => mayS (dS s)
theorem allMay_iff {l : List BSp} : allMay l = true ↔ ∀ s ∈ l.map dS, mayS s = true := by
  unfold allMay
  rw [List.all_eq_true]
  constructor
  · intro h s hs
    obtain ⟨x, hx, rfl⟩ := List.mem_map.1 hs
    exact h x hx
  · intro h x hx
    exact h _ (List.mem_map.2 ⟨x, hx, rfl⟩)
theorem form_sep {l : List Tp} (h : allMay (l.map (·.1)) = true) : Sep ((formB l).map dS) ∧ ∀ p, cov ((formB l).map dS) p ↔ cov ((l.map (·.1)).map dS) p := by
  have e : ((sortSp l).map (·.1)).map dS = (sortSp l).map fun x => dS x.1 := by rw [List.map_map]; rfl
  have hp : (((sortSp l).map (·.1)).map dS).Perm ((l.map (·.1)).map dS) := ((sortSp_perm l).map _).map _
  have h1 := merge_sep (r := ((sortSp l).map (·.1)).map dS) (fun s hs => allMay_iff.1 h s (hp.mem_iff.1 hs)) (by rw [e]; exact sortSp_lo l)
  unfold formB
  rw [mergeB_dS]
  exact ⟨h1.1, fun p => by rw [h1.2 p, cov_perm hp]⟩
/-- a row of texts that stands apart and covers the same is the form -/
theorem form_of {l : List Tp} (h : allMay (l.map (·.1)) = true) {F : List BSp} (hF : Sep (F.map dS)) (hc : ∀ p, cov (F.map dS) p ↔ cov ((l.map (·.1)).map dS) p) : formB l = F := by
  obtain ⟨h1, h2⟩ := form_sep h
  exact map_dS_inj (sep_one _ _ h1 hF fun p => by rw [h2 p, hc p])
theorem form_len (l : List Tp) : (formB l).length ≤ l.length := by
  have h := mergeB_len ((sortSp l).map (·.1)) []
  have h2 := (sortSp_perm l).length_eq
  unfold formB mergeB
  simp only [List.length_map, List.length_nil] at h
  omega
end Go.Proofs.YteailgjiifdgcaaGreatDoor

/- Laws for an append of what is read. No condition. -/
namespace Go.Proofs.YteailgjiifdgcaaGreatDoor
open Go.RowKit

theorem run_append_from {P : Program} {t e : TypeId} {z : Value} {size bytes : Nat} (E : Elem P t e z size bytes) (w : World) (base : Nat) (ty : TypeId)
    (v : Value) (n : Nat) (xs : List Value) (hown : w.ownsRow base e size v n xs)
    (ao : Option Addr) (m c : Nat) (news : List Value) (hl : news.length = m * size) (hnews : ∀ j u, news[j]? = some u → ∃ b off, ao = some ⟨b, off, none⟩ ∧ w.cell? ⟨b, off + j, none⟩ = some u) (h1 : ∀ u ∈ news, u.oneCell' = true)
    (h63 : n + m ≤ maxLen) (hbytes : (n + m) * bytes ≤ 140737488355328) (hbase : base ≤ w.heap.size) :
    ∃ v' w', (Builtin.append_ #[t, t] ty #[v, .slice ao m c]).run P w = .ok v' w' ∧ w'.ownsRow base e size v' (n + m) (xs ++ news) ∧ w.grownBy w' v.ownBlock ∧ Moved w v v' := by
  obtain ⟨i, hi, hz, hsz, hby⟩ := info_parts E.info
  cases ao with
  | some a =>
    obtain ⟨v', w', hr, h2, h3, h4⟩ := run_append_where (P := P) w base t ty e i z size bytes E.slice hi hz hsz hby E.zero E.pos v n xs hown a m c news hl (by
      intro j u hu
      obtain ⟨b, off, e1, e2⟩ := hnews j u hu
      cases e1
      rw [Addr.add_lit]
      exact e2) h1 h63 hbytes hbase
    refine ⟨v', w', hr, h2, h3, fun k hk => ?_⟩
    rcases h4 with h4 | h4
    · exact .inl (by rw [← h4]; exact hk)
    · right; rw [h4] at hk; simp at hk; omega
  | none =>
    have hn : news = [] := by
      cases news with
      | nil => rfl
      | cons x r => obtain ⟨b, off, e1, _⟩ := hnews 0 x rfl; cases e1
    subst hn
    have hm : m = 0 := by
      have hp := E.pos
      rcases Nat.eq_zero_or_pos m with h | h
      · exact h
      · have := Nat.mul_pos h hp; simp at hl; omega
    subst hm
    refine ⟨v, w, ?_, by simpa using hown, World.grownBy.refl _ _, fun k hk => .inl hk⟩
    rcases hown.2 with ⟨rfl, rfl⟩ | ⟨g, cap, cur, rfl, _, _, hnc, _⟩
    · simp [Builtin.append_, run_underlying E.slice, sizeOf, typeInfo, hi, Builtin.lenOf, Builtin.firstCells]
    · simp [Builtin.append_, run_underlying E.slice, sizeOf, typeInfo, hi, Builtin.lenOf, Builtin.firstCells, hnc, storeCells]

theorem wp_append_from {P : Program} {t e : TypeId} {z : Value} {size bytes : Nat} (E : Elem P t e z size bytes) {w : World} {o : Oper} {a : Act} {K : Act → World → Prop} {Q : Exit → Act → World → Prop}
    (s x : Operand) (ho : o.op = .call { callee := .builtin .append, args := #[s, x], argTypes := #[t, t] })
    (base : Nat) (v : Value) (n : Nat) (xs : List Value) (hs : a.eval s = v) (hown : w.ownsRow base e size v n xs)
    (ao : Option Addr) (m c : Nat) (news : List Value) (hx : a.eval x = .slice ao m c) (hl : news.length = m * size) (hnews : ∀ j u, news[j]? = some u → ∃ b off, ao = some ⟨b, off, none⟩ ∧ w.cell? ⟨b, off + j, none⟩ = some u) (h1 : ∀ u ∈ news, u.oneCell' = true)
    (hb : (n + m) * bytes ≤ 140737488355328) (hb1 : n + m ≤ maxLen) (hbase : base ≤ w.heap.size)
    (h : ∀ v' w', w'.ownsRow base e size v' (n + m) (xs ++ news) → w.grownBy w' v.ownBlock → Moved w v v' → K (a.put o.dst v') w') :
    o.wp P a w K Q := by
  obtain ⟨v', w', hr, h2, h3, h4⟩ := run_append_from E w base o.type v n xs hown ao m c news hl hnews h1 hb1 hb hbase
  unfold Oper.wp execOp
  simp only [ho, resolve, invoke, builtin, Sem.run_bind, Sem.run_pure, Result.andThen_ok, List.map_toArray, List.map_cons, List.map_nil, hs, hx, hr]
  exact h v' w' h2 h3 h4
theorem wpList_append_from {P : Program} {t e : TypeId} {z : Value} {size bytes : Nat} (E : Elem P t e z size bytes) {w : World} {ops : Array Oper} {rest : List Oper} {o : Oper} {a : Act} {Q : Exit → Act → World → Prop}
    (hgd : o.guard = none) (s x : Operand) (ho : o.op = .call { callee := .builtin .append, args := #[s, x], argTypes := #[t, t] })
    (base : Nat) (v : Value) (n : Nat) (xs : List Value) (hs : a.eval s = v) (hown : w.ownsRow base e size v n xs)
    (ao : Option Addr) (m c : Nat) (news : List Value) (hx : a.eval x = .slice ao m c) (hl : news.length = m * size) (hnews : ∀ j u, news[j]? = some u → ∃ b off, ao = some ⟨b, off, none⟩ ∧ w.cell? ⟨b, off + j, none⟩ = some u) (h1 : ∀ u ∈ news, u.oneCell' = true)
    (hb : (n + m) * bytes ≤ 140737488355328) (hb1 : n + m ≤ maxLen) (hbase : base ≤ w.heap.size)
    (h : ∀ v' w', w'.ownsRow base e size v' (n + m) (xs ++ news) → w.grownBy w' v.ownBlock → Moved w v v' → wpList P ops Q rest (a.put o.dst v') w') :
    wpList P ops Q (o :: rest) a w :=
  wpList_plain hgd fun _ hK => wp_append_from E s x ho base v n xs hs hown ao m c news hx hl hnews h1 hb hb1 hbase fun v' w' h2 h3 h4 => hK _ _ (h v' w' h2 h3 h4)

end Go.Proofs.YteailgjiifdgcaaGreatDoor

/- Rows of elements of some cells each: an element is put, two are exchanged. No condition. -/
namespace Go.Proofs.YteailgjiifdgcaaGreatDoor
open Go.RowKit
open SortM

/-- values written from a place on -/
def wr (xs : List Value) : Nat → List Value → List Value
  | _, [] => xs
  | o, v :: vs => wr (xs.set o v) (o + 1) vs
theorem wr_mid : ∀ (vs as1 pre r : List Value), as1.length = vs.length → wr (pre ++ as1 ++ r) pre.length vs = pre ++ vs ++ r := by
  intro vs
  induction vs with
  | nil => intro as1 pre r h; have := List.eq_nil_of_length_eq_zero h; subst this; rfl
  | cons v vs ih =>
    intro as1 pre r h
    match as1, h with
    | a :: as1, h =>
      unfold wr
      have e : (pre ++ a :: as1 ++ r).set pre.length v = (pre ++ [v]) ++ as1 ++ r := by
        rw [List.append_assoc, List.set_append_right _ _ (Nat.le_refl _)]
        simp
      rw [e]
      have := ih as1 (pre ++ [v]) r (by simpa using h)
      rw [List.length_append, List.length_singleton] at this
      rw [this]
      simp
theorem flat_set {α : Type} (f : α → List Value) (k : Nat) (hk : ∀ x, (f x).length = k) (l : List α) (i : Nat) (h : i < l.length) (y : α) : wr (l.flatMap f) (i * k) (f y) = (l.set i y).flatMap f := by
  have h1 : l = l.take i ++ l[i] :: l.drop (i + 1) := by rw [← List.drop_eq_getElem_cons h, List.take_append_drop]
  have h2 : l.set i y = l.take i ++ y :: l.drop (i + 1) := by rw [List.set_eq_take_append_cons_drop, if_pos h]
  have hl : ((l.take i).flatMap f).length = i * k := by
    have : ∀ m : List α, (m.flatMap f).length = m.length * k := by
      intro m
      induction m with
      | nil => simp
      | cons a m ih => rw [List.flatMap_cons, List.length_append, ih, hk, List.length_cons, Nat.succ_mul]; omega
    rw [this, List.length_take, Nat.min_eq_left (by omega)]
  have e1 : l.flatMap f = (l.take i).flatMap f ++ f l[i] ++ (l.drop (i + 1)).flatMap f := by
    conv => lhs; rw [h1]
    rw [List.flatMap_append, List.flatMap_cons, List.append_assoc]
  rw [h2, e1, ← hl, wr_mid _ _ _ _ (by rw [hk, hk]), List.flatMap_append, List.flatMap_cons, List.append_assoc]
theorem flat_get {α : Type} (f : α → List Value) (k : Nat) (hk : ∀ x, (f x).length = k) (l : List α) (i : Nat) (h : i < l.length) (j : Nat) (hj : j < k) : (l.flatMap f)[i * k + j]? = (f l[i])[j]? := by
  induction l generalizing i with
  | nil => simp at h
  | cons a l ih =>
    rw [List.flatMap_cons]
    match i, h with
    | 0, _ =>
      rw [List.getElem?_append_left (by rw [hk]; omega)]
      simp
    | i + 1, h =>
      have hge : (f a).length ≤ (i + 1) * k + j := by rw [hk, Nat.succ_mul]; omega
      rw [List.getElem?_append_right hge, hk, show (i + 1) * k + j - k = i * k + j by rw [Nat.succ_mul]; omega]
      exact ih i (by simpa using h)
def swapAt {α : Type} (l : List α) (i j : Nat) : List α := match l[i]?, l[j]? with
  | some x, some y => (l.set i y).set j x
  | _, _ => l
theorem swapAt_len {α : Type} (l : List α) (i j : Nat) : (swapAt l i j).length = l.length := by
  unfold swapAt; split <;> simp
theorem swapAt_eq {α : Type} (l : List α) (i j : Nat) (hi : i < l.length) (hj : j < l.length) : swapAt l i j = (l.set i l[j]).set j l[i] := by
  unfold swapAt
  rw [List.getElem?_eq_getElem hi, List.getElem?_eq_getElem hj]
/-- two neighbours, as1 parts of the row -/
theorem swapAt_next {α : Type} (p : List α) (x y : α) (q : List α) : swapAt (p ++ x :: y :: q) p.length (p.length + 1) = p ++ y :: x :: q := by
  rw [swapAt_eq _ _ _ (by simp) (by simp)]
  have e1 : (p ++ x :: y :: q)[p.length + 1]'(by simp) = y := by
    rw [List.getElem_append_right (by omega)]; simp
  have e2 : (p ++ x :: y :: q)[p.length]'(by simp) = x := by
    rw [List.getElem_append_right (by omega)]; simp
  rw [e1, e2, List.set_append_right _ _ (Nat.le_refl _), List.set_append_right _ _ (by omega)]
  simp
end Go.Proofs.YteailgjiifdgcaaGreatDoor

/- The walk of slices.Clone at spans, and rows of spans that a call owns. Condition: few spans. -/
namespace Go.Proofs.YteailgjiifdgcaaGreatDoor
open Go.RowKit Go.Shelf

def spCells (x : BSp) : List Value := [.string x.1, .string x.2]
theorem elem_spn : Elem Tryz.prog 23 34 (.agg #[.string ⟨#[]⟩, .string ⟨#[]⟩]) 2 32 := ⟨Tryz.underlying23, by kernel_rfl, rfl, by decide⟩
/-- a span's two cells -/
def RSpn : Rd BSp := fun _ cs x => cs = [.string x.1, .string x.2] ∧ x.1.size ≤ maxLen ∧ x.2.size ≤ maxLen
theorem stays_spn : Stays RSpn := fun _ _ _ _ h _ => h
abbrev RSps : Rd (List BSp) := RSlice 2 RSpn
theorem spCells_len (x : BSp) : (spCells x).length = 2 := rfl
theorem spsFlat_len : ∀ (l : List BSp), (l.flatMap spCells).length = l.length * 2
  | [] => rfl
  | x :: l => by rw [List.flatMap_cons, List.length_append, spsFlat_len l, spCells_len, List.length_cons]; omega
theorem sps_one (l : List BSp) : ∀ u ∈ l.flatMap spCells, u.oneCell' = true := by
  intro u hu
  obtain ⟨x, _, h⟩ := List.mem_flatMap.1 hu
  simp [spCells] at h
  rcases h with rfl | rfl <;> rfl
theorem sps_flat (f : List BSp) (i : Nat) (h : i < f.length) (j : Nat) (hj : j < 2) : (f.flatMap spCells)[i * 2 + j]? = (spCells f[i])[j]? := flat_get spCells 2 spCells_len f i h j hj
/-- the cells of a slice of spans -/
theorem sps_news {w : World} {o : Option Addr} {n c : Nat} {f : List BSp} (h : RSps w [.slice o n c] f) : ∀ j u, (f.flatMap spCells)[j]? = some u → ∃ b off, o = some ⟨b, off, none⟩ ∧ w.cell? ⟨b, off + j, none⟩ = some u := by
  obtain ⟨a, cap, hv, _, _, hel⟩ := h
  simp only [List.cons.injEq, and_true, Value.slice.injEq] at hv
  obtain ⟨rfl, _, _⟩ := hv
  intro j u hu
  have hj := (List.getElem?_eq_some_iff.1 hu).1
  rw [spsFlat_len] at hj
  have hi : j / 2 < f.length := by omega
  have e := sps_flat f (j / 2) hi (j % 2) (by omega)
  have ej : j / 2 * 2 + j % 2 = j := by omega
  rw [ej, hu] at e
  obtain ⟨b, off, ecs, h1, h2, h3, h4, _⟩ := hel (j / 2) f[j / 2] (List.getElem?_eq_getElem hi)
  subst h4
  refine ⟨b, off, h1, ?_⟩
  have := h3 (j % 2) u e.symm
  rwa [Nat.add_assoc, ej] at this
theorem sps_shape {w : World} {v : Value} {f : List BSp} (h : RSps w [v] f) : ∃ a c, v = .slice a f.length c := by
  obtain ⟨a, cap, hv, _⟩ := h
  simp only [List.cons.injEq, and_true] at hv
  exact ⟨a, cap, hv⟩
theorem lit_sps {w : World} {B : Nat} (h : B ≤ w.heap.size) : (w.alloc (.cells #[] 34)).ownsRow B 34 2 (.slice (some ⟨w.heap.size, 0, none⟩) 0 0) 0 [] := World.ownsRow_lit (base := B) (e := 34) (size := 2) w #[] 0 h (by decide) rfl
def CloneSpPost (w : World) (n : Nat) (N : List Value) (e : Ending) (w' : World) : Prop := ∃ o, e = .returned o ∧ w'.ownsRow w.heap.size 34 2 o n N ∧ Below w.heap.size w w'
set_option maxRecDepth 10000 in
theorem cloneSpn_any {w : World} {v : Value} {l : List BSp} (h : RSps w [v] l) (hl : l.length ≤ 1000000) : Calls Tryz.prog 105 #[v] w (CloneSpPost w l.length (l.flatMap spCells)) := by
  obtain ⟨a, c, rfl⟩ := sps_shape h
  have hN : ∀ j u, (l.flatMap spCells)[j]? = some u → ∃ b off, a = some ⟨b, off, none⟩ ∧ (w.alloc (.cells #[] 34)).cell? ⟨b, off + j, none⟩ = some u := fun j u hu => by
    obtain ⟨b, off, h1, h2⟩ := sps_news h j u hu
    exact ⟨b, off, h1, cell_later (below_alloc1 _ _) h2⟩
  have h1 := sps_one l
  have hfl := spsFlat_len l
  have hlit := lit_sps (w := w) (B := w.heap.size) (Nat.le_refl _)
  obtain ⟨n, hn⟩ : ∃ n, n = l.length := ⟨_, rfl⟩
  obtain ⟨N, hNN⟩ : ∃ N, N = l.flatMap spCells := ⟨_, rfl⟩
  rw [← hNN] at hN h1 hfl
  rw [← hn] at hfl hl h ⊢
  rw [← hNN]
  cases a with
  | none =>
    have hl0 : l = [] := by
      cases l with
      | nil => rfl
      | cons x r =>
        obtain ⟨_, _, hv, _, _, hel⟩ := h
        simp only [List.cons.injEq, and_true, Value.slice.injEq] at hv
        obtain ⟨rfl, _, _⟩ := hv
        obtain ⟨b, off, ecs, h1, _⟩ := hel 0 x rfl
        cases h1
    have hn0 : n = 0 := by rw [hn, hl0]; rfl
    have hN0 : N = [] := by rw [hNN, hl0]; rfl
    subst hn0
    have hnil : ∀ W, (binOp .eql 23 (.slice none 0 c) (.slice none 0 0)).run Tryz.prog W = .ok (.bool true) W := fun W => Lib.run_eql_slice_nil W 23 34 none 0 c 0 0 Tryz.underlying23
    have Hh := Lib.hid h; have HN := Lib.hid hN; have H1 := Lib.hid h1; have Hfl := Lib.hid hfl; have Hlit := Lib.hid hlit; have Hn := Lib.hid hn; have HNN := Lib.hid hNN; have Hl0 := Lib.hid hl0; have HN0 := Lib.hid hN0; clear h hN h1 hfl hlit hn hNN hl0 hN0
    go_enter Tryz.func105, Tryz.ntmps105
    go_wp2_with fail
    go_ret
    exact ⟨_, rfl, by rw [HN0.out]; exact World.ownsRow_nil _ _ _ _, Below.refl _ _⟩
  | some p =>
    have hnil : ∀ W, (binOp .eql 23 (.slice (some p) n c) (.slice none 0 0)).run Tryz.prog W = .ok (.bool false) W := fun W => Lib.run_eql_slice_nil W 23 34 (some p) n c 0 0 Tryz.underlying23
    have Hh := Lib.hid h; have HN := Lib.hid hN; have H1 := Lib.hid h1; have Hfl := Lib.hid hfl; have Hlit := Lib.hid hlit; have Hn := Lib.hid hn; have HNN := Lib.hid hNN; clear h hN h1 hfl hlit hn hNN
    go_enter Tryz.func105, Tryz.ntmps105
    go_wp2_with (at_builtin; (refine wpList_append_from elem_spn rfl (.tmp 5) (.tmp 6) rfl w.heap.size (.slice (some ⟨w.heap.size, 0, none⟩) 0 0) 0 [] rfl Hlit.out (some p) n c N rfl Hfl.out HN.out H1.out (by omega) (by unfold maxLen; omega) (by simp) ?_; intro v1 w1 hown1 hg1 hm1; obtain ⟨oa, oc, rfl⟩ := own_shape hown1; generalize hN7 : 0 + n = N7 at hown1 ⊢; have Hown1 := Lib.hid hown1; have Hg1 := Lib.hid hg1; have HN7 := Lib.hid hN7; clear hown1 hg1 hm1 hN7))
    go_ret
    have hb1 : Below w.heap.size w w1 := bel_own (below_alloc1 w _) Hlit.out (Nat.le_refl _) Hg1.out (by simp)
    refine ⟨_, rfl, ?_, hb1⟩
    have h9 := Hown1.out
    have e : N7 = n := by have := HN7.out; omega
    rw [List.nil_append] at h9
    rw [e] at h9 ⊢
    exact h9
/-- a row of spans that the call owns reads as they are -/
theorem sps_reads {w : World} {B : Nat} {v : Value} {f : List BSp} (hw : ∀ x ∈ f, x.1.size ≤ maxLen ∧ x.2.size ≤ maxLen) (h : w.ownsRow B 34 2 v f.length (f.flatMap spCells)) : RSps w [v] f := by
  obtain ⟨a, cap, rfl, h1, h2, h3⟩ := Sl.of_owns h
  refine ⟨a, cap, rfl, h1, h2, fun i x hi => ?_⟩
  have hil := (List.getElem?_eq_some_iff.1 hi).1
  have hx := (List.getElem?_eq_some_iff.1 hi).2
  have hc : ∀ c, c < 2 → ∀ u, (spCells x)[c]? = some u → ∃ b off, a = some ⟨b, off, none⟩ ∧ w.cell? ⟨b, off + (i * 2 + c), none⟩ = some u := fun c hc u hu => h3 (i * 2 + c) u (by rw [sps_flat f i hil c hc, hx]; exact hu)
  obtain ⟨b, off, ha, h4⟩ := hc 0 (by omega) _ rfl
  obtain ⟨b', off', ha', h5⟩ := hc 1 (by omega) _ rfl
  rw [ha] at ha'
  cases ha'
  refine ⟨b, off, spCells x, ha, rfl, fun j u hu => ?_, rfl, (hw x (List.mem_of_getElem? hi)).1, (hw x (List.mem_of_getElem? hi)).2⟩
  match j, hu with
  | 0, hu => simp [spCells] at hu; subst hu; rw [← Nat.add_assoc] at h4; exact h4
  | 1, hu => simp [spCells] at hu; subst hu; rw [← Nat.add_assoc] at h5; exact h5
theorem sps_open {w : World} {v : Value} {l : List BSp} (h : RSps w [v] l) : ∃ a cap, v = .slice a l.length cap ∧ l.length ≤ 9223372036854775807 ∧ ∀ i x, l[i]? = some x → ∃ b off, a = some ⟨b, off, none⟩ ∧ w.cell? ⟨b, off + i * 2, none⟩ = some (.string x.1) ∧ w.cell? ⟨b, off + i * 2 + 1, none⟩ = some (.string x.2) ∧ x.1.size ≤ 9223372036854775807 ∧ x.2.size ≤ 9223372036854775807 := by
  obtain ⟨a, cap, hv, hcap, hmax, hel⟩ := h
  simp only [List.cons.injEq, and_true] at hv
  unfold maxLen at hmax
  refine ⟨a, cap, hv, by omega, fun i x hi => ?_⟩
  obtain ⟨b, off, ecs, h1, h2, h3, h4, h5, h6⟩ := hel i x hi
  subst h4
  unfold maxLen at h5 h6
  exact ⟨b, off, h1, by simpa using h3 0 _ rfl, by simpa using h3 1 _ rfl, by omega, by omega⟩
theorem sps_size {w : World} {v : Value} {l : List BSp} (h : RSps w [v] l) : ∀ x ∈ l, x.1.size ≤ maxLen ∧ x.2.size ≤ maxLen := by
  obtain ⟨a, cap, _, _, g⟩ := sps_open h
  intro x hx
  obtain ⟨i, hi, rfl⟩ := List.getElem_of_mem hx
  obtain ⟨b, off, _, _, _, h1, h2⟩ := g i _ (List.getElem?_eq_getElem hi)
  exact ⟨h1, h2⟩
set_option maxHeartbeats 1000000 in
theorem insertionSp_nil (cv : Value) (w : World) : Calls Tryz.prog 195 #[.slice none 0 0, .int .i64 0, .int .i64 0, cv] w fun e w' => e = .returned (.tuple #[]) ∧ w = w' := by
  go_enter Tryz.func195, Tryz.ntmps195
  go_wp2_with fail
  refine wp_loop_rounds 1 ?_
  rw [rounds_succ]
  go_wp2_with fail
  go_end0
  exact ⟨rfl, rfl⟩
set_option maxRecDepth 10000 in
set_option maxHeartbeats 1000000 in
theorem stableSp_nil (cv : Value) (w : World) : Calls Tryz.prog 163 #[.slice none 0 0, .int .i64 0, cv] w fun e w' => e = .returned (.tuple #[]) ∧ w = w' := by
  have h := insertionSp_nil cv
  have Hh := Lib.hid h; clear h
  go_enter Tryz.func163, Tryz.ntmps163
  go_wp2_with fail
  refine wp_loop_rounds 1 ?_
  rw [rounds_succ]
  go_wp2_with fail
  refine (Hh.out _).mono ?_
  rintro e w2 ⟨rfl, rfl⟩
  go_wp2_with fail
  refine wp_loop_rounds 1 ?_
  rw [rounds_succ]
  go_wp2_with fail
  go_end0
  exact ⟨rfl, rfl⟩
set_option maxRecDepth 10000 in
theorem sortStableSp_nil (cv : Value) (w : World) : Calls Tryz.prog 106 #[.slice none 0 0, cv] w fun e w' => e = .returned (.tuple #[]) ∧ w = w' := by
  have h := stableSp_nil cv
  have Hh := Lib.hid h; clear h
  go_enter Tryz.func106, Tryz.ntmps106
  go_wp2_with fail
  refine (Hh.out _).mono ?_
  rintro e w2 ⟨rfl, rfl⟩
  go_wp2_with fail
  go_end0
  exact ⟨rfl, rfl⟩
end Go.Proofs.YteailgjiifdgcaaGreatDoor

/- The walks of spans.compare and of the closures of spans.Form and spans.Has. Condition: the library's variables as they were laid; bounds of at most a million bytes. -/
namespace Go.Proofs.YteailgjiifdgcaaGreatDoor
open Go.RowKit Go.Lib VerN

theorem ret_i {a b : Int} (h : a = b) : Ending.returned (.int .i64 a) = .returned (.int .i64 b) := by rw [h]
set_option maxRecDepth 10000 in
set_option maxHeartbeats 1000000 in
theorem spsCompare_any (lo hi lp hj : ByteArray) (hl : lo.size ≤ 1000000) (hl2 : lp.size ≤ 1000000) {w : World} (hD : Doors w) : Calls Tryz.prog 107 #[.agg #[.string lo, .string hi], .agg #[.string lp, .string hj]] w fun e w' => e = .returned (.int .i64 (cmpLoI lo.data.toList lp.data.toList)) ∧ Below w.heap.size w w' := by
  obtain ⟨W0, hW0⟩ : ∃ W0, W0 = (w.alloc (.cells #[.string lo, .string hi] 34)).alloc (.cells #[.string lp, .string hj] 34) := ⟨_, rfl⟩
  obtain ⟨nb, hnb⟩ : ∃ nb, nb = w.heap.size := ⟨_, rfl⟩
  have hw : Below w.heap.size w W0 := by rw [hW0]; exact (below_alloc1 _ _).alloc (by simp) _
  have c0 : W0.cell? ⟨nb, 0, none⟩ = some (.string lo) := by rw [hW0, hnb]; exact (pair_cells (pbox2_0 _ _ _ _ _)).1
  have d0 : W0.cell? ⟨nb + 1, 0, none⟩ = some (.string lp) := by rw [hW0, hnb]; exact (pair_cells (pbox2_1 _ _ _ _ _)).1
  have k1 : (lo.toList == lp.toList) = decide (lo.data.toList = lp.data.toList) := by rw [Txt.eq_dec]; exact decide_eq_decide.2 ba_eq
  have k2 : lo.toList.isEmpty = decide (lo.data.toList = []) := empty_bool lo
  have k3 : lp.toList.isEmpty = decide (lp.data.toList = []) := empty_bool lp
  have hP := calls_to hw (verCompare_any lo lp hl hl2 (hD.below hw))
  obtain ⟨p, hp⟩ : ∃ p, p = decide (lo.data.toList = lp.data.toList) := ⟨_, rfl⟩
  obtain ⟨q, hq⟩ : ∃ p, p = decide (lo.data.toList = []) := ⟨_, rfl⟩
  obtain ⟨r, hr⟩ : ∃ p, p = decide (lp.data.toList = []) := ⟨_, rfl⟩
  have hv : cmpLoI lo.data.toList lp.data.toList = if p = true then 0 else if q = true then -1 else if r = true then 1 else compareL lo.data.toList lp.data.toList := by
    rw [hp, hq, hr]; simp only [decide_eq_true_eq]; rfl
  rw [← hp] at k1
  rw [← hq] at k2
  rw [← hr] at k3
  clear hp hq hr
  have HP := Lib.hid hP; have Hw := Lib.hid hw; have HD := Lib.hid hD; have Hv := Lib.hid hv; clear hP hw hD hv
  go_enter Tryz.func107, Tryz.ntmps107
  go_upto_region 1 with (fail)
  rw [← hW0, ← hnb]
  clear hW0 hnb
  cases p with
  | true =>
    go_wp2_with fail
    go_ret
    exact ⟨ret_i (by rw [Hv.out]; rfl), Hw.out⟩
  | false =>
    cases q with
    | true =>
      go_wp2_with fail
      go_ret
      exact ⟨ret_i (by rw [Hv.out]; rfl), Hw.out⟩
    | false =>
      cases r with
      | true =>
        go_wp2_with fail
        go_ret
        exact ⟨ret_i (by rw [Hv.out]; rfl), Hw.out⟩
      | false =>
        go_wp2_with fail
        refine HP.out.mono ?_
        rintro e w1 ⟨rfl, hb1⟩
        have Hb1 := Lib.hid hb1; clear hb1
        go_wp2_with fail
        go_ret
        exact ⟨ret_i (by rw [Hv.out]; rfl), Hb1.out⟩
end Go.Proofs.YteailgjiifdgcaaGreatDoor

/- Plain facts: the stable sort's blocks: blocks of twenty are sorted, then merged two by two. -/
namespace Go.Proofs.YteailgjiifdgcaaGreatDoor.StbB
open Go.Sort Go.Proofs.YteailgjiifdgcaaGreatDoor.SortM Go.Proofs.YteailgjiifdgcaaGreatDoor.StbA
variable {α : Type} {lt : α → α → Bool}

def P1 (lt : α → α → Bool) (l0 : List α) (bs a : Nat) (d : Array α) : Prop := ∃ (cs : List (List α)) (rest : List α), l0 = cs.flatten ++ rest ∧ d.toList = (cs.map (ssort lt)).flatten ++ rest ∧ (∀ c ∈ cs, c.length = bs) ∧ a = cs.flatten.length
def P2 (lt : α → α → Bool) (l0 : List α) (bs : Nat) (d : Array α) : Prop := ∃ (cs : List (List α)) (rest : List α), l0 = cs.flatten ++ rest ∧ d.toList = (cs.map (ssort lt)).flatten ++ ssort lt rest ∧ (∀ c ∈ cs, c.length = bs) ∧ rest.length < bs
def P3 (lt : α → α → Bool) (l0 : List α) (bs a : Nat) (d : Array α) : Prop := ∃ (ds cs : List (List α)) (rest : List α), l0 = ds.flatten ++ (cs.flatten ++ rest) ∧ d.toList = (ds.map (ssort lt)).flatten ++ ((cs.map (ssort lt)).flatten ++ ssort lt rest) ∧ (∀ c ∈ ds, c.length = 2 * bs) ∧ (∀ c ∈ cs, c.length = bs) ∧ rest.length < bs ∧ a = ds.flatten.length

theorem flat_len (h : Swo lt) (cs : List (List α)) : ((cs.map (ssort lt)).flatten).length = cs.flatten.length := by
  induction cs with
  | nil => rfl
  | cons c cs ih => simp only [List.map_cons, List.flatten_cons, List.length_append, ssort_len h, ih]
theorem ssort_nil : ssort lt ([] : List α) = [] := rfl
theorem P1.start (l0 : List α) (bs : Nat) {d : Array α} (hd : d.toList = l0) : P1 lt l0 bs 0 d := ⟨[], l0, rfl, hd, by simp, rfl⟩
theorem P1.size (h : Swo lt) {l0 : List α} {bs a : Nat} {d : Array α} (hP : P1 lt l0 bs a d) : d.size = l0.length := by
  obtain ⟨cs, rest, h1, h2, _, _⟩ := hP
  rw [← Array.length_toList, h2, h1, List.length_append, List.length_append, flat_len h]
theorem P1.step [Inhabited α] (h : Swo lt) {l0 : List α} {bs a : Nat} {d : Array α} (hP : P1 lt l0 bs a d) (hb : a + bs ≤ l0.length) : P1 lt l0 bs (a + bs) (insertionSort lt d a (a + bs)) := by
  obtain ⟨cs, rest, h1, h2, h3, h4⟩ := hP
  have hl : rest = rest.take bs ++ rest.drop bs := (List.take_append_drop _ _).symm
  have hx : (rest.take bs).length = bs := by simp; rw [h1] at hb; simp at hb; simp at h4; omega
  generalize rest.take bs = x at hl hx
  generalize rest.drop bs = y at hl
  subst hl
  refine ⟨cs ++ [x], y, by rw [h1]; simp, ?_, fun c hc => ?_, by simp only [List.flatten_append, List.length_append, List.flatten_cons, List.flatten_nil, List.append_nil]; omega⟩
  · rw [insertion_is h (d := d) (p := (cs.map (ssort lt)).flatten) (x := x) (q := y) (by rw [h2]; simp) (by rw [flat_len h]; exact h4) (by rw [flat_len h]; omega)]
    simp
  · rcases List.mem_append.1 hc with hc | hc
    · exact h3 c hc
    · simp at hc; subst hc; exact hx
theorem P1.last [Inhabited α] (h : Swo lt) {l0 : List α} {bs a n : Nat} {d : Array α} (hP : P1 lt l0 bs a d) (hn : n = l0.length) (hb : n < a + bs) : P2 lt l0 bs (insertionSort lt d a n) := by
  obtain ⟨cs, rest, h1, h2, h3, h4⟩ := hP
  have hr : n = a + rest.length := by rw [hn, h1, List.length_append]; omega
  refine ⟨cs, rest, h1, ?_, h3, by omega⟩
  rw [insertion_is h (d := d) (p := (cs.map (ssort lt)).flatten) (x := rest) (q := []) (by rw [h2]; simp) (by rw [flat_len h]; exact h4) (by rw [flat_len h]; omega)]
  simp
theorem P1.le {l0 : List α} {bs a : Nat} {d : Array α} (hP : P1 lt l0 bs a d) : a ≤ l0.length := by
  obtain ⟨cs, rest, h1, h2, h3, h4⟩ := hP
  rw [h1, List.length_append]; omega
theorem P2.size (h : Swo lt) {l0 : List α} {bs : Nat} {d : Array α} (hP : P2 lt l0 bs d) : d.size = l0.length := by
  obtain ⟨cs, rest, h1, h2, _, _⟩ := hP
  rw [← Array.length_toList, h2, h1, List.length_append, List.length_append, flat_len h, ssort_len h]
theorem P3.start {l0 : List α} {bs : Nat} {d : Array α} (hP : P2 lt l0 bs d) : P3 lt l0 bs 0 d := by
  obtain ⟨cs, rest, h1, h2, h3, h4⟩ := hP
  exact ⟨[], cs, rest, h1, h2, by simp, h3, h4, rfl⟩
theorem P3.size (h : Swo lt) {l0 : List α} {bs a : Nat} {d : Array α} (hP : P3 lt l0 bs a d) : d.size = l0.length ∧ a ≤ d.size := by
  obtain ⟨ds, cs, rest, h1, h2, _, _, _, h3⟩ := hP
  have e1 : d.size = ds.flatten.length + (cs.flatten.length + rest.length) := by rw [← Array.length_toList, h2, List.length_append, List.length_append, flat_len h, flat_len h, ssort_len h]
  have e2 : l0.length = ds.flatten.length + (cs.flatten.length + rest.length) := by rw [h1, List.length_append, List.length_append]
  omega
theorem P3.step (h : Swo lt) {l0 : List α} {bs a : Nat} {d : Array α} (hP : P3 lt l0 bs a d) (hb : a + 2 * bs ≤ l0.length) (h0 : 0 < bs) :
    ∃ p u v q, d.toList = p ++ u ++ v ++ q ∧ Sorted lt u ∧ Sorted lt v ∧ a = p.length ∧ u.length = bs ∧ v.length = bs ∧ ∀ d' : Array α, d'.toList = p ++ ssort lt (u ++ v) ++ q → P3 lt l0 bs (a + 2 * bs) d' := by
  obtain ⟨ds, cs, rest, h1, h2, h3, h4, h5, h6⟩ := hP
  have hl : l0.length = a + (cs.flatten.length + rest.length) := by rw [h1, List.length_append, List.length_append, h6]
  match cs with
  | [] => simp at hl; omega
  | [c] => have := h4 c (by simp); simp at hl; omega
  | c1 :: c2 :: cs =>
    have k1 := h4 c1 (by simp)
    have k2 := h4 c2 (by simp)
    refine ⟨(ds.map (ssort lt)).flatten, ssort lt c1, ssort lt c2, (cs.map (ssort lt)).flatten ++ ssort lt rest, by rw [h2]; simp, ssort_sorted h _, ssort_sorted h _, by rw [flat_len h]; exact h6, by rw [ssort_len h]; exact k1, by rw [ssort_len h]; exact k2, fun d' hd' => ?_⟩
    refine ⟨ds ++ [c1 ++ c2], cs, rest, by rw [h1]; simp, ?_, fun c hc => ?_, fun c hc => h4 c (by simp [hc]), h5, by simp only [List.flatten_append, List.length_append, List.flatten_cons, List.flatten_nil, List.append_nil]; omega⟩
    · rw [hd', ssort_app h]; simp
    · rcases List.mem_append.1 hc with hc | hc
      · exact h3 c hc
      · simp at hc; subst hc; rw [List.length_append]; omega
theorem P3.last1 (h : Swo lt) {l0 : List α} {bs a n : Nat} {d : Array α} (hP : P3 lt l0 bs a d) (hn : n = l0.length) (hb : n < a + 2 * bs) (hm : a + bs < n) :
    ∃ p u v, d.toList = p ++ u ++ v ++ [] ∧ Sorted lt u ∧ Sorted lt v ∧ a = p.length ∧ u.length = bs ∧ a + bs + v.length = n ∧ ∀ d' : Array α, d'.toList = p ++ ssort lt (u ++ v) ++ [] → P2 lt l0 (2 * bs) d' := by
  obtain ⟨ds, cs, rest, h1, h2, h3, h4, h5, h6⟩ := hP
  have hl : n = a + (cs.flatten.length + rest.length) := by rw [hn, h1, List.length_append, List.length_append, h6]
  match cs with
  | [] => simp at hl; omega
  | c1 :: c2 :: cs =>
    have k1 := h4 c1 (by simp)
    have k2 := h4 c2 (by simp)
    simp at hl; omega
  | [c] =>
    have k1 := h4 c (by simp)
    have hl' : n = a + (c.length + rest.length) := by simpa using hl
    refine ⟨(ds.map (ssort lt)).flatten, ssort lt c, ssort lt rest, by rw [h2]; simp, ssort_sorted h _, ssort_sorted h _, by rw [flat_len h]; exact h6, by rw [ssort_len h]; exact k1, by rw [ssort_len h]; omega, fun d' hd' => ?_⟩
    refine ⟨ds, c ++ rest, by rw [h1]; simp, ?_, h3, by rw [List.length_append]; omega⟩
    rw [hd', ssort_app h]; simp
theorem P3.last2 {l0 : List α} {bs a n : Nat} {d : Array α} (hP : P3 lt l0 bs a d) (hn : n = l0.length) (hb : n < a + 2 * bs) (hm : ¬ a + bs < n) (h0 : 0 < bs) : P2 lt l0 (2 * bs) d := by
  obtain ⟨ds, cs, rest, h1, h2, h3, h4, h5, h6⟩ := hP
  have hl : n = a + (cs.flatten.length + rest.length) := by rw [hn, h1, List.length_append, List.length_append, h6]
  match cs with
  | [] => exact ⟨ds, rest, by rw [h1]; simp, by rw [h2]; simp, h3, by omega⟩
  | c1 :: c2 :: cs =>
    have k1 := h4 c1 (by simp)
    have k2 := h4 c2 (by simp)
    simp at hl; omega
  | [c] =>
    have k1 := h4 c (by simp)
    have hl' : n = a + (c.length + rest.length) := by simpa using hl
    have hr : rest = [] := List.eq_nil_of_length_eq_zero (by omega)
    subst hr
    exact ⟨ds, c, by rw [h1]; simp, by rw [h2, ssort_nil]; simp, h3, by omega⟩
theorem P2.done {l0 : List α} {bs : Nat} {d : Array α} (hP : P2 lt l0 bs d) (hb : ¬ bs < l0.length) : d.toList = ssort lt l0 := by
  obtain ⟨cs, rest, h1, h2, h3, h4⟩ := hP
  match cs with
  | [] => rw [h2, h1]; simp
  | [c] =>
    have k1 := h3 c (by simp)
    have hl : l0.length = c.length + rest.length := by rw [h1]; simp
    have hr : rest = [] := List.eq_nil_of_length_eq_zero (by omega)
    subst hr
    rw [h2, h1, ssort_nil]; simp
  | c1 :: c2 :: cs =>
    have k1 := h3 c1 (by simp)
    have k2 := h3 c2 (by simp)
    have hl : l0.length = c1.length + (c2.length + (cs.flatten.length + rest.length)) := by rw [h1]; simp
    omega
end Go.Proofs.YteailgjiifdgcaaGreatDoor.StbB
