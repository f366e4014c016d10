/- The walk of cnf.Form: a clause's form. Condition: at most a million literals. -/
import Derived.Test.YtalliggdfoeahaaGreatDoorCnfW
import Derived.Test.YtalliggdfoeahaaGreatDoorIdxInt
import Derived.Test.YtalliggdfoeahaaGreatDoorShelf
import Derived.Test.YtalliggdfoeahaaGreatDoorOpen
import Derived.Lib.OwnBridge
set_option linter.unusedVariables false
set_option linter.unusedSimpArgs false
namespace Go.Proofs.YtalliggdfoeahaaGreatDoor
open Go.RowKit Go.Lib Go.Sort

abbrev RIs : Rd (List Int) := RSlice 1 (RInt .i64)
abbrev intv : Int → Value := Value.int .i64

theorem grownBy_of_grow {w w' : World} {row : Option Nat} (h : w.grownBy w' row) (os : Array Obj) : w.grownBy (grow w' os) row :=
  ⟨h.os, h.tape, h.output, by have := h.size; simp; omega, fun k hk hne => by rw [heap_grow_old w' os (by have := h.size; omega)]; exact h.block k hk hne⟩
theorem grownBy_putRow {α : Type} [Inhabited α] (enc : α → Value) (w : World) (g q : Nat) (d : Array α) : w.grownBy (putRow enc (Sort.ahead w q) g 0 d) (some g) :=
  ⟨rfl, rfl, rfl, by simp [putRow, mapBlock, Sort.ahead], fun k _ hne => by
    have : g ≠ k := fun e => hne (by rw [e])
    simp [putRow, mapBlock, Sort.ahead, Array.getElem?_modify, this]⟩
theorem owns_nil_or {w : World} {B : Nat} {e : TypeId} {v : Value} {n : Nat} {xs : List Value} (h : w.ownsRow B e 1 v n xs) (hn : n = 0) : ∃ a cap, v = .slice a 0 cap := by
  rcases h.2 with ⟨h1, _⟩ | ⟨g, cap, cur, h1, _⟩
  · exact ⟨none, 0, h1⟩
  · exact ⟨_, cap, by rw [h1, hn]⟩
theorem owns_some_of {w : World} {B : Nat} {e : TypeId} {v : Value} {n : Nat} {xs : List Value} (h : w.ownsRow B e 1 v n xs) (hn : 0 < n) : v ≠ .slice none 0 0 := by
  rintro rfl
  rcases h.2 with ⟨_, h2⟩ | ⟨g, cap, cur, h1, _⟩
  · have := h.1; rw [h2] at this; simp at this; omega
  · cases h1

/-- the sort of a row of literals that the call owns -/
theorem sort_own {W : World} {B : Nat} {v : Value} {l : List Int} (hown : W.ownsRow B 3 1 v l.length (l.map intv)) (hn : l.length ≤ 1000000) :
    Calls Tryz.prog 44 #[v, .func (.func 45) #[] #[]] W fun e w' => e = .returned (.tuple #[]) ∧ w'.ownsRow B 3 1 v l.length ((CnfM.srt l).map intv) ∧ W.grownBy w' v.ownBlock := by
  by_cases h0 : l.length = 0
  · obtain ⟨a, cap, rfl⟩ := owns_nil_or hown h0
    have hl : l = [] := List.eq_nil_of_length_eq_zero h0
    subst hl
    exact (Tryz.slices_SortFunc_none (α := Int) a cap _ W).mono fun e w' ⟨he, hw⟩ => ⟨he, by rw [hw]; simpa [CnfM.srt] using hown, by rw [hw]; exact World.grownBy.refl _ _⟩
  · obtain ⟨g, cap, rfl, hb, hlt, hnc, hcm, hl, hH⟩ := holds_of_ownsRow hown (owns_some_of hown (by omega))
    have eg : ∀ args w, (callFunc 45 args).run Tryz.prog w = .ok (.enter 45 args) w := enters_of Tryz.func45 (by kernel_rfl) rfl
    have hcmp : CmpLays1 Tryz.prog 45 #[] intv CnfM.cf g 0 l.toArray.size W := fun m os dk _ x y => closure_any x y _
    have hC := Tryz.slices_SortFunc_total intv (fun _ => rfl) CnfM.cf CnfM.swo 45 #[] g 0 cap l.toArray W eg hcmp hH hlt (by simp; omega) CnfM.total
    simp only [List.size_toArray] at hC
    refine hC.mono fun e w' ⟨he, n, os, hw⟩ => ⟨he, ?_, ?_⟩
    · rw [hw]
      have h1 := ownsRow_putRow (q := n) (ys := CnfM.srt l) hown (CnfM.srt_len l) (Nat.le_refl _)
      rw [List.take_of_length_le (Nat.le_of_eq (CnfM.srt_len l))] at h1
      exact h1.kept (grownBy_of_grow (World.grownBy.refl _ none) os) (.inr (by simp [Value.ownBlock]))
    · rw [hw]
      exact grownBy_of_grow (grownBy_putRow _ _ _ _ _) os
theorem cpt_eq (l : List Int) : Lib.compact l = CnfM.cpt l := rfl
theorem compact_own {W : World} {B : Nat} {v : Value} {l : List Int} (hown : W.ownsRow B 3 1 v l.length (l.map intv)) (hn : l.length ≤ 1000000) :
    Calls Tryz.prog 48 #[v] W fun e w' => ∃ v', e = .returned v' ∧ v'.ownBlock = v.ownBlock ∧ w'.ownsRow B 3 1 v' (CnfM.cpt l).length ((CnfM.cpt l).map intv) ∧ W.grownBy w' v.ownBlock := by
  by_cases h0 : l.length = 0
  · have hl : l = [] := List.eq_nil_of_length_eq_zero h0
    subst hl
    obtain ⟨a, cap, rfl⟩ := owns_nil_or hown rfl
    exact (Tryz.slices_Compact_int_empty a cap W).mono fun e w' ⟨he, hw⟩ => ⟨_, he, rfl, by rw [hw]; exact hown, by rw [hw]; exact World.grownBy.refl _ _⟩
  · obtain ⟨g, cap, rfl, hb, hlt, hnc, hcm, hl, hH⟩ := holds_of_ownsRow hown (owns_some_of hown (by omega))
    refine (Tryz.slices_Compact_int g 0 cap l W hH (by omega) hnc).mono fun e w' ⟨he, q, hw⟩ => ⟨_, he, rfl, ?_, ?_⟩
    · rw [hw, cpt_eq]
      have hlen : (CnfM.cpt l).length ≤ l.length := CnfM.cptUpTo_len _ _
      have h1 := ownsRow_putRow (q := q) (k := (CnfM.cpt l).length) (ys := CnfM.cpt l ++ List.replicate (l.length - (CnfM.cpt l).length) 0) hown (by simp; omega) hlen
      rw [List.take_left] at h1
      exact h1
    · rw [hw]
      exact grownBy_putRow _ _ _ _ _
theorem clone_own {W : World} {v : Value} {l : List Int} (h : RIs W [v] l) (hn : l.length ≤ 1000000) :
    Calls Tryz.prog 27 #[v] W fun e w' => ∃ v', e = .returned v' ∧ w'.ownsRow W.heap.size 3 1 v' l.length (l.map intv) ∧ Below W.heap.size W w' := by
  obtain ⟨a, cap, hv, hcap, hmax, hel⟩ := h
  simp only [List.cons.injEq, and_true] at hv
  subst hv
  cases a with
  | none =>
    have hl : l = [] := by
      cases l with
      | nil => rfl
      | cons x r => obtain ⟨b, off, ecs, h1, _⟩ := hel 0 x rfl; cases h1
    subst hl
    exact (Tryz.slices_Clone_int_nil 0 cap W).mono fun e w' ⟨he, hw⟩ => ⟨_, he, by rw [hw]; exact World.ownsRow_nil _ _ _ _, by rw [hw]; exact Below.refl _ _⟩
  | some a =>
    by_cases h0 : l.length = 0
    · have hl : l = [] := List.eq_nil_of_length_eq_zero h0
      subst hl
      exact (Tryz.slices_Clone_int_zero a cap W).mono fun e w' ⟨v', he, h1, _, h2⟩ => ⟨v', he, h1, h2⟩
    · obtain ⟨b, off, _, h1, _⟩ := hel 0 l[0] (List.getElem?_eq_getElem (by omega))
      cases h1
      have hc : ∀ j, j < l.length → W.cell? ⟨b, off + j, none⟩ = some (.int .i64 (l.getD j 0)) := by
        intro j hj
        obtain ⟨b', off', h2, h3, _⟩ := ints_cell hel j hj
        cases h2
        rw [h3, List.getD_eq_getElem?_getD, List.getElem?_eq_getElem hj]; rfl
      refine (Tryz.slices_Clone_int b off l.length cap l W (Nat.le_refl _) (by omega) hc).mono fun e w' ⟨v', he, h1, _, h2⟩ => ⟨v', he, ?_, h2⟩
      rw [List.take_length] at h1
      exact h1

theorem rint_wf' {x : Int} (h : -9223372036854775808 ≤ x ∧ x ≤ 9223372036854775807) : (Lit.int .i64 x).wf = true := by
  simp [Lit.wf, IntKind.min, IntKind.max, IntKind.signed, IntKind.bits]
  omega
/-- a row of numbers that the call owns reads as they are -/
theorem ints_reads {w : World} {B : Nat} {v : Value} {f : List Int} (hw : ∀ x ∈ f, -9223372036854775808 ≤ x ∧ x ≤ 9223372036854775807) (h : w.ownsRow B 3 1 v f.length (f.map intv)) : RIs w [v] f := by
  obtain ⟨a, cap, rfl, h1, h2, h3⟩ := Sl.of_owns h
  refine ⟨a, cap, rfl, h1, h2, fun i x hi => ?_⟩
  obtain ⟨b, off, ha, hc⟩ := h3 i (intv x) (by rw [List.getElem?_map, hi]; rfl)
  refine ⟨b, off, [intv x], ha, rfl, fun j u hu => ?_, rfl, rint_wf' (hw x (List.mem_of_getElem? hi))⟩
  have hj : j = 0 := by have := (List.getElem?_eq_some_iff.1 hu).1; simp at this; omega
  subst hj
  simp at hu
  subst hu
  simpa using hc
theorem bad_at : ∀ (l : List Int) (k : Nat) (h : k + 1 < l.length), l[k + 1] = CnfM.neg l[k] → CnfM.bad l = true
  | a :: b :: l, 0, _, e => by unfold CnfM.bad; simp at e; simp [e]
  | a :: b :: l, k + 1, h, e => by
    unfold CnfM.bad
    have := bad_at (b :: l) k (by simpa using h) (by simpa using e)
    simp [this]
  | [], _, h, _ => by simp at h
  | [a], _, h, _ => by simp at h
theorem bad_none : ∀ (l : List Int), (∀ k (h : k + 1 < l.length), ¬ l[k + 1] = CnfM.neg l[k]) → CnfM.bad l = false
  | [], _ => rfl
  | [a], _ => rfl
  | a :: b :: l, h => by
    unfold CnfM.bad
    have h0 := h 0 (by simp)
    have h1 := bad_none (b :: l) (fun k hk => by have := h (k + 1) (by simpa using hk); simpa using this)
    simp at h0
    simp [h0, h1]
/-- what Form gives -/
def FormPost (w : World) (l : List Int) (e : Ending) (w' : World) : Prop := ∃ r, e = .returned (.tuple #[r, .bool (CnfM.form l).2]) ∧ w'.ownsRow w.heap.size 3 1 r (CnfM.form l).1.length ((CnfM.form l).1.map intv) ∧ Below w.heap.size w w'
theorem form_post {w w' : World} {l : List Int} {r : Value} {b : Bool} {f : List Int} (h1 : (CnfM.form l) = (f, b)) (h2 : w'.ownsRow w.heap.size 3 1 r f.length (f.map intv)) (h3 : Below w.heap.size w w') : FormPost w l (.returned (.tuple #[r, .bool b])) w' := ⟨r, by rw [h1], by rw [h1]; exact h2, h3⟩
theorem wrong_pred (l : List Int) (w : World) : IdxInt.Pred (RInt .i64) CnfM.wrong 19 #[] l w := by
  intro W u0 x _ _ h
  obtain ⟨h1, _⟩ := h
  simp only [List.cons.injEq, and_true] at h1
  subst h1
  exact (wrong_any x W).mono fun e w' ⟨he, hw⟩ => ⟨he, hw ▸ Below.refl _ _⟩
theorem enters_wrong : ∀ args w, (callFunc 19 args).run Tryz.prog w = .ok (.enter 19 args) w := enters_of Tryz.func19 (by kernel_rfl) rfl
set_option maxRecDepth 10000 in
set_option maxHeartbeats 1000000 in
theorem form_any {w : World} {v : Value} {l : List Int} (h : RIs w [v] l) (hn : l.length ≤ 1000000) : Calls Tryz.prog 35 #[v] w (FormPost w l) := by
  have hW := IdxInt.has_any (stays_int .i64) CnfM.wrong 19 #[] enters_wrong h (wrong_pred l w)
  cases hq : l.any CnfM.wrong with
  | true =>
    rw [hq] at hW
    have hf : CnfM.form l = ([], false) := by unfold CnfM.form; rw [if_pos hq]
    have HW := Lib.hid hW; have Hh := Lib.hid h; have Hq := Lib.hid hq; have Hf := Lib.hid hf; clear hW h hq hf
    go_enter Tryz.func35, Tryz.ntmps35
    go_wp2_with fail
    refine HW.out.mono ?_
    rintro e w1 ⟨rfl, hb1⟩
    have Hb1 := Lib.hid hb1; clear hb1
    go_wp2_with fail
    go_ret2
    exact form_post Hf.out (World.ownsRow_nil _ _ _ _) Hb1.out
  | false =>
    rw [hq] at hW
    have hC := fun (W : World) (hb : Below w.heap.size w W) => clone_own (stays_slice (stays_int .i64) _ _ _ _ h hb) hn
    have hf : CnfM.form l = if CnfM.bad (CnfM.cpt (CnfM.srt l)) = true then ([], false) else (CnfM.cpt (CnfM.srt l), true) := by unfold CnfM.form; rw [if_neg (by rw [hq]; simp)]
    have hS := fun (W : World) B v' (ho : W.ownsRow B 3 1 v' l.length (l.map intv)) => sort_own ho hn
    have hK := fun (W : World) B v' (ho : W.ownsRow B 3 1 v' l.length ((CnfM.srt l).map intv)) => by have hl := CnfM.srt_len l; exact compact_own (l := CnfM.srt l) (by rw [hl]; exact ho) (by rw [hl]; exact hn)
    have hr := CnfM.row_len l
    obtain ⟨r, hrr⟩ : ∃ r, r = CnfM.cpt (CnfM.srt l) := ⟨_, rfl⟩
    rw [← hrr] at hf hr hK
    have hN := hn
    have HW := Lib.hid hW; have Hh := Lib.hid h; have Hq := Lib.hid hq; have Hf := Lib.hid hf; have HC := Lib.hid hC; have HS := Lib.hid hS; have HK := Lib.hid hK; have Hrr := Lib.hid hrr; have Hn := Lib.hid hn; clear hW h hq hf hC hS hK hrr hn
    go_enter Tryz.func35, Tryz.ntmps35
    go_wp2_with fail
    refine HW.out.mono ?_
    rintro e w1 ⟨rfl, hb1⟩
    have hc1 := HC.out w1 hb1
    have Hb1 := Lib.hid hb1; have Hc1 := Lib.hid hc1; clear hb1 hc1
    go_wp2_with fail
    refine Hc1.out.mono ?_
    rintro e w2 ⟨v2, rfl, ho2, hb2⟩
    have hs2 := HS.out w2 _ v2 ho2
    have hb2' := Hb1.out.trans (hb2.mono Hb1.out.size)
    have hz2 : w.heap.size ≤ w1.heap.size := Hb1.out.size
    have Ho2 := Lib.hid ho2; have Hb2 := Lib.hid hb2; have Hs2 := Lib.hid hs2; have Hb2' := Lib.hid hb2'; clear ho2 hb2 hs2 hb2'
    go_wp2_with fail
    refine Hs2.out.mono ?_
    rintro e w3 ⟨rfl, ho3, hg3⟩
    have hb3 := bel_own Hb2'.out Ho2.out hz2 hg3 Hb2'.out.size
    have hk3 := HK.out w3 _ v2 ho3
    have Hg3 := Lib.hid hg3; have Hb3 := Lib.hid hb3; have Hk3 := Lib.hid hk3; clear hg3 hb3 hk3
    go_wp2_with fail
    refine Hk3.out.mono ?_
    rintro e w4 ⟨v4, rfl, hv4, ho4, hg4⟩
    have hb4 := bel_own Hb3.out ho3 hz2 hg4 Hb3.out.size
    have ho5 := ownsRow_mono ho4 hz2
    have hsl := Sl.of_owns ho5
    obtain ⟨a, cap, rfl, hcap, hmax, hel⟩ := hsl
    unfold maxLen at hmax
    obtain ⟨n, hnn⟩ : ∃ n, n = r.length := ⟨_, rfl⟩
    rw [← hnn] at hr hcap ⊢
    have Ho3 := Lib.hid ho3; have Hv4 := Lib.hid hv4; have Ho4 := Lib.hid ho4; have Hg4 := Lib.hid hg4; have Hb4 := Lib.hid hb4; have Ho5 := Lib.hid ho5; have Hel := Lib.hid hel; have Hnn := Lib.hid hnn; clear ho3 hv4 ho4 hg4 hb4 ho5 hel hnn
    go_wp2_with fail
    go_loopw [5] (fun i wr => ∃ k : Nat, 1 ≤ k ∧ i = .int .i64 k ∧ k ≤ n + 1 ∧ (∀ j (hj : j + 1 < r.length), j + 1 < k → ¬ r[j + 1] = CnfM.neg r[j]) ∧ ∃ q, wr = w4.drewN q) (fun i _ => n + 1 - (intOf i).toNat)
    case atStart => exact ⟨1, Nat.le_refl _, rfl, by omega, fun j _ h => by omega, 0, rfl⟩
    case round =>
      obtain ⟨k, hk1, rfl, hk2, hno, q, rfl⟩ := hrel
      by_cases hlt : k < n
      · have hkl : k < r.length := by have := Hnn.out; omega
        obtain ⟨j, rfl⟩ : ∃ j, k = j + 1 := ⟨k - 1, by omega⟩
        obtain ⟨x, hx⟩ : ∃ x, x = r[j]'(by omega) := ⟨_, rfl⟩
        obtain ⟨y, hy⟩ : ∃ y, y = r[j + 1]'hkl := ⟨_, rfl⟩
        obtain ⟨b, off, rfl, c1⟩ := Hel.out (j + 1) (intv y) (by rw [List.getElem?_map, List.getElem?_eq_getElem hkl, hy]; rfl)
        obtain ⟨b', off', h1, c0⟩ := Hel.out j (intv x) (by rw [List.getElem?_map, List.getElem?_eq_getElem (by omega), hx]; rfl)
        cases h1
        have k1 : IntKind.i64.wrap (((j : Int) + 1) - 1) = (j : Int) := by rw [IntWalk.i64_in _ (by omega)]; omega
        have k2 : ((j : Int) + 1).toNat = j + 1 := by omega
        have k3 : (0 : Int) ≤ (j : Int) + 1 := by omega
        have k4 : (j : Int) + 1 < (n : Int) := by omega
        have k5 : (0 : Int) ≤ (j : Int) := by omega
        have k6 : (j : Int) < (n : Int) := by omega
        by_cases he : y = wrap64 (-x)
        · have e1 : (y == wrap64 (-x)) = true := by rw [he]; exact beq_self_eq_true _
          have hbad : CnfM.bad r = true := bad_at r j hkl (by rw [← hx, ← hy]; exact he)
          have hff : CnfM.form l = ([], false) := by rw [Hf.out, if_pos hbad]
          have Hx := Lib.hid hx; have Hy := Lib.hid hy; have Hno := Lib.hid hno; have He := Lib.hid he; have Hbad := Lib.hid hbad; have Hff := Lib.hid hff; clear hx hy hno he hbad hff
          go_wp2_with fail
          go_quiet (fail)
          go_wp2_with fail
          go_ret2
          exact form_post Hff.out (World.ownsRow_nil _ _ _ _) (bel_drewN (bel_drewN Hb4.out _) _)
        · have e1 : (y == wrap64 (-x)) = false := by simpa using he
          have hno2 : ∀ i (hi : i + 1 < r.length), i + 1 < j + 1 + 1 → ¬ r[i + 1] = CnfM.neg r[i] := by
            intro i hi hij
            by_cases e : i = j
            · subst e; rw [← hx, ← hy]; exact he
            · exact hno i hi (by omega)
          have Hx := Lib.hid hx; have Hy := Lib.hid hy; have Hno := Lib.hid hno; have He := Lib.hid he; have Hno2 := Lib.hid hno2; clear hx hy hno he hno2
          go_wp2_with fail
          go_quiet (fail)
          go_wp2_with fail
          go_roundw
          case rel => exact ⟨j + 1 + 1, by omega, by go_num, by omega, Hno2.out, _, rfl⟩
          case measure => simp [intOf]; omega
      · have hbad : CnfM.bad r = false := bad_none r (fun j hj => hno j hj (by have := Hnn.out; omega))
        have hff : CnfM.form l = (r, true) := by rw [Hf.out, if_neg (by rw [hbad]; simp)]
        have Hno := Lib.hid hno; have Hbad := Lib.hid hbad; have Hff := Lib.hid hff; clear hno hbad hff
        go_wp2_with fail
        go_ret2
        exact form_post Hff.out (by have := Ho5.out; rw [← Hnn.out] at this ⊢; exact this) (bel_drewN Hb4.out _)
end Go.Proofs.YtalliggdfoeahaaGreatDoor
