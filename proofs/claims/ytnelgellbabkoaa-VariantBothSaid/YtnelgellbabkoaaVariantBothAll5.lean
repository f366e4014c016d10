/- Walks and plain facts. Texts merged: CnfF, CnfS, VarW, BothB, BothC, BothD, BothE, BothF, BothG, VarG, BothL. Condition: none beyond what each says. -/
import Derived.Test.YtnelgellbabkoaaShelf
import Derived.Lib.OwnBridge
import Derived.Lib.SlicesCompact
import Derived.Test.YtnelgellbabkoaaVariantBothAll1
import Derived.Test.YtnelgellbabkoaaVariantBothAll2
import Derived.Test.YtnelgellbabkoaaVariantBothAll3
import Derived.Test.YtnelgellbabkoaaVariantBothAll4
/- The walk of cnf.Form: a clause's form. Condition: at most a million literals. -/
namespace Go.Proofs.Ytnelgellbabkoaa
open Go.RowKit Go.Lib Go.Sort

abbrev RIs : Rd (List Int) := RSlice 1 (RInt .i64)
abbrev intv : Int → Value := Value.int .i64

theorem grownBy_of_grow {w w' : World} {row : Option Nat} (h : w.grownBy w' row) (os : Array Obj) : w.grownBy (grow w' os) row :=
  ⟨h.os, h.tape, h.output, by have := h.size; simp; omega, fun k hk hne => by rw [heap_grow_old w' os (by have := h.size; omega)]; exact h.block k hk hne⟩
theorem grownBy_putRow {α : Type} [Inhabited α] (enc : α → Value) (w : World) (g q : Nat) (d : Array α) : w.grownBy (putRow enc (Sort.ahead w q) g 0 d) (some g) :=
  ⟨rfl, rfl, rfl, by simp [putRow, mapBlock, Sort.ahead], fun k _ hne => by
    have : g ≠ k := fun e => hne (by rw [e])
    simp [putRow, mapBlock, Sort.ahead, Array.getElem?_modify, this]⟩
theorem owns_nil_or {w : World} {B : Nat} {e : TypeId} {v : Value} {n : Nat} {xs : List Value} (h : w.ownsRow B e 1 v n xs) (hn : n = 0) : ∃ a cap, v = .slice a 0 cap := by
  rcases h.2 with ⟨h1, _⟩ | ⟨g, cap, cur, h1, _⟩
  · exact ⟨none, 0, h1⟩
  · exact ⟨_, cap, by rw [h1, hn]⟩
theorem owns_some_of {w : World} {B : Nat} {e : TypeId} {v : Value} {n : Nat} {xs : List Value} (h : w.ownsRow B e 1 v n xs) (hn : 0 < n) : v ≠ .slice none 0 0 := by
  rintro rfl
  rcases h.2 with ⟨_, h2⟩ | ⟨g, cap, cur, h1, _⟩
  · have := h.1; rw [h2] at this; simp at this; omega
  · cases h1

/-- the sort of a row of literals that the call owns -/
theorem sort_own {W : World} {B : Nat} {v : Value} {l : List Int} (hown : W.ownsRow B 3 1 v l.length (l.map intv)) (hn : l.length ≤ 1000000) :
    Calls Try.prog 56 #[v, .func (.func 57) #[] #[]] W fun e w' => e = .returned (.tuple #[]) ∧ w'.ownsRow B 3 1 v l.length ((CnfM.srt l).map intv) ∧ W.grownBy w' v.ownBlock := by
  by_cases h0 : l.length = 0
  · obtain ⟨a, cap, rfl⟩ := owns_nil_or hown h0
    have hl : l = [] := List.eq_nil_of_length_eq_zero h0
    subst hl
    exact (Try.slices_SortFunc_none (α := Int) a cap _ W).mono fun e w' ⟨he, hw⟩ => ⟨he, by rw [hw]; simpa [CnfM.srt] using hown, by rw [hw]; exact World.grownBy.refl _ _⟩
  · obtain ⟨g, cap, rfl, hb, hlt, hnc, hcm, hl, hH⟩ := holds_of_ownsRow hown (owns_some_of hown (by omega))
    have eg : ∀ args w, (callFunc 57 args).run Try.prog w = .ok (.enter 57 args) w := enters_of Try.func57 (by kernel_rfl) rfl
    have hcmp : CmpLays1 Try.prog 57 #[] intv CnfM.cf g 0 l.toArray.size W := fun m os dk _ x y => closure_any x y _
    have hC := Try.slices_SortFunc_total intv (fun _ => rfl) CnfM.cf CnfM.swo 57 #[] g 0 cap l.toArray W eg hcmp hH hlt (by simp; omega) CnfM.total
    simp only [List.size_toArray] at hC
    refine hC.mono fun e w' ⟨he, n, os, hw⟩ => ⟨he, ?_, ?_⟩
    · rw [hw]
      have h1 := ownsRow_putRow (q := n) (ys := CnfM.srt l) hown (CnfM.srt_len l) (Nat.le_refl _)
      rw [List.take_of_length_le (Nat.le_of_eq (CnfM.srt_len l))] at h1
      exact h1.kept (grownBy_of_grow (World.grownBy.refl _ none) os) (.inr (by simp [Value.ownBlock]))
    · rw [hw]
      exact grownBy_of_grow (grownBy_putRow _ _ _ _ _) os
theorem cpt_eq (l : List Int) : Lib.compact l = CnfM.cpt l := rfl
theorem compact_own {W : World} {B : Nat} {v : Value} {l : List Int} (hown : W.ownsRow B 3 1 v l.length (l.map intv)) (hn : l.length ≤ 1000000) :
    Calls Try.prog 61 #[v] W fun e w' => ∃ v', e = .returned v' ∧ v'.ownBlock = v.ownBlock ∧ w'.ownsRow B 3 1 v' (CnfM.cpt l).length ((CnfM.cpt l).map intv) ∧ W.grownBy w' v.ownBlock := by
  by_cases h0 : l.length = 0
  · have hl : l = [] := List.eq_nil_of_length_eq_zero h0
    subst hl
    obtain ⟨a, cap, rfl⟩ := owns_nil_or hown rfl
    exact (Try.slices_Compact_int_empty a cap W).mono fun e w' ⟨he, hw⟩ => ⟨_, he, rfl, by rw [hw]; exact hown, by rw [hw]; exact World.grownBy.refl _ _⟩
  · obtain ⟨g, cap, rfl, hb, hlt, hnc, hcm, hl, hH⟩ := holds_of_ownsRow hown (owns_some_of hown (by omega))
    refine (Try.slices_Compact_int g 0 cap l W hH (by omega) hnc).mono fun e w' ⟨he, q, hw⟩ => ⟨_, he, rfl, ?_, ?_⟩
    · rw [hw, cpt_eq]
      have hlen : (CnfM.cpt l).length ≤ l.length := CnfM.cptUpTo_len _ _
      have h1 := ownsRow_putRow (q := q) (k := (CnfM.cpt l).length) (ys := CnfM.cpt l ++ List.replicate (l.length - (CnfM.cpt l).length) 0) hown (by simp; omega) hlen
      rw [List.take_left] at h1
      exact h1
    · rw [hw]
      exact grownBy_putRow _ _ _ _ _
theorem clone_own {W : World} {v : Value} {l : List Int} (h : RIs W [v] l) (hn : l.length ≤ 1000000) :
    Calls Try.prog 55 #[v] W fun e w' => ∃ v', e = .returned v' ∧ w'.ownsRow W.heap.size 3 1 v' l.length (l.map intv) ∧ Below W.heap.size W w' := by
  obtain ⟨a, cap, hv, hcap, hmax, hel⟩ := h
  simp only [List.cons.injEq, and_true] at hv
  subst hv
  cases a with
  | none =>
    have hl : l = [] := by
      cases l with
      | nil => rfl
      | cons x r => obtain ⟨b, off, ecs, h1, _⟩ := hel 0 x rfl; cases h1
    subst hl
    exact (Try.slices_Clone_int_nil 0 cap W).mono fun e w' ⟨he, hw⟩ => ⟨_, he, by rw [hw]; exact World.ownsRow_nil _ _ _ _, by rw [hw]; exact Below.refl _ _⟩
  | some a =>
    by_cases h0 : l.length = 0
    · have hl : l = [] := List.eq_nil_of_length_eq_zero h0
      subst hl
      exact (Try.slices_Clone_int_zero a cap W).mono fun e w' ⟨v', he, h1, _, h2⟩ => ⟨v', he, h1, h2⟩
    · obtain ⟨b, off, _, h1, _⟩ := hel 0 l[0] (List.getElem?_eq_getElem (by omega))
      cases h1
      have hc : ∀ j, j < l.length → W.cell? ⟨b, off + j, none⟩ = some (.int .i64 (l.getD j 0)) := by
        intro j hj
        obtain ⟨b', off', h2, h3, _⟩ := ints_cell hel j hj
        cases h2
        rw [h3, List.getD_eq_getElem?_getD, List.getElem?_eq_getElem hj]; rfl
      refine (Try.slices_Clone_int b off l.length cap l W (Nat.le_refl _) (by omega) hc).mono fun e w' ⟨v', he, h1, _, h2⟩ => ⟨v', he, ?_, h2⟩
      rw [List.take_length] at h1
      exact h1

theorem rint_wf' {x : Int} (h : -9223372036854775808 ≤ x ∧ x ≤ 9223372036854775807) : (Lit.int .i64 x).wf = true := by
  simp [Lit.wf, IntKind.min, IntKind.max, IntKind.signed, IntKind.bits]
  omega
/-- a row of numbers that the call owns reads as they are -/
theorem ints_reads {w : World} {B : Nat} {v : Value} {f : List Int} (hw : ∀ x ∈ f, -9223372036854775808 ≤ x ∧ x ≤ 9223372036854775807) (h : w.ownsRow B 3 1 v f.length (f.map intv)) : RIs w [v] f := by
  obtain ⟨a, cap, rfl, h1, h2, h3⟩ := Sl.of_owns h
  refine ⟨a, cap, rfl, h1, h2, fun i x hi => ?_⟩
  obtain ⟨b, off, ha, hc⟩ := h3 i (intv x) (by rw [List.getElem?_map, hi]; rfl)
  refine ⟨b, off, [intv x], ha, rfl, fun j u hu => ?_, rfl, rint_wf' (hw x (List.mem_of_getElem? hi))⟩
  have hj : j = 0 := by have := (List.getElem?_eq_some_iff.1 hu).1; simp at this; omega
  subst hj
  simp at hu
  subst hu
  simpa using hc
theorem bad_at : ∀ (l : List Int) (k : Nat) (h : k + 1 < l.length), l[k + 1] = CnfM.neg l[k] → CnfM.bad l = true
  | a :: b :: l, 0, _, e => by unfold CnfM.bad; simp at e; simp [e]
  | a :: b :: l, k + 1, h, e => by
    unfold CnfM.bad
    have := bad_at (b :: l) k (by simpa using h) (by simpa using e)
    simp [this]
  | [], _, h, _ => by simp at h
  | [a], _, h, _ => by simp at h
theorem bad_none : ∀ (l : List Int), (∀ k (h : k + 1 < l.length), ¬ l[k + 1] = CnfM.neg l[k]) → CnfM.bad l = false
  | [], _ => rfl
  | [a], _ => rfl
  | a :: b :: l, h => by
    unfold CnfM.bad
    have h0 := h 0 (by simp)
    have h1 := bad_none (b :: l) (fun k hk => by have := h (k + 1) (by simpa using hk); simpa using this)
    simp at h0
    simp [h0, h1]
/-- what Form gives -/
def FormPost (w : World) (l : List Int) (e : Ending) (w' : World) : Prop := ∃ r, e = .returned (.tuple #[r, .bool (CnfM.form l).2]) ∧ w'.ownsRow w.heap.size 3 1 r (CnfM.form l).1.length ((CnfM.form l).1.map intv) ∧ Below w.heap.size w w'
theorem form_post {w w' : World} {l : List Int} {r : Value} {b : Bool} {f : List Int} (h1 : (CnfM.form l) = (f, b)) (h2 : w'.ownsRow w.heap.size 3 1 r f.length (f.map intv)) (h3 : Below w.heap.size w w') : FormPost w l (.returned (.tuple #[r, .bool b])) w' := ⟨r, by rw [h1], by rw [h1]; exact h2, h3⟩
theorem wrong_pred (l : List Int) (w : World) : IdxInt.Pred (RInt .i64) CnfM.wrong 54 #[] l w := by
  intro W u0 x _ _ h
  obtain ⟨h1, _⟩ := h
  simp only [List.cons.injEq, and_true] at h1
  subst h1
  exact (wrong_any x W).mono fun e w' ⟨he, hw⟩ => ⟨he, hw ▸ Below.refl _ _⟩
theorem enters_wrong : ∀ args w, (callFunc 54 args).run Try.prog w = .ok (.enter 54 args) w := enters_of Try.func54 (by kernel_rfl) rfl
set_option maxRecDepth 10000 in
set_option maxHeartbeats 1000000 in
theorem form_any {w : World} {v : Value} {l : List Int} (h : RIs w [v] l) (hn : l.length ≤ 1000000) : Calls Try.prog 14 #[v] w (FormPost w l) := by
  have hW := IdxInt.has_any (stays_int .i64) CnfM.wrong 54 #[] enters_wrong h (wrong_pred l w)
  cases hq : l.any CnfM.wrong with
  | true =>
    rw [hq] at hW
    have hf : CnfM.form l = ([], false) := by unfold CnfM.form; rw [if_pos hq]
    have HW := Lib.hid hW; have Hh := Lib.hid h; have Hq := Lib.hid hq; have Hf := Lib.hid hf; clear hW h hq hf
    go_enter Try.func14, Try.ntmps14
    go_wp2_with fail
    refine HW.out.mono ?_
    rintro e w1 ⟨rfl, hb1⟩
    have Hb1 := Lib.hid hb1; clear hb1
    go_wp2_with fail
    go_ret2
    exact form_post Hf.out (World.ownsRow_nil _ _ _ _) Hb1.out
  | false =>
    rw [hq] at hW
    have hC := fun (W : World) (hb : Below w.heap.size w W) => clone_own (stays_slice (stays_int .i64) _ _ _ _ h hb) hn
    have hf : CnfM.form l = if CnfM.bad (CnfM.cpt (CnfM.srt l)) = true then ([], false) else (CnfM.cpt (CnfM.srt l), true) := by unfold CnfM.form; rw [if_neg (by rw [hq]; simp)]
    have hS := fun (W : World) B v' (ho : W.ownsRow B 3 1 v' l.length (l.map intv)) => sort_own ho hn
    have hK := fun (W : World) B v' (ho : W.ownsRow B 3 1 v' l.length ((CnfM.srt l).map intv)) => by have hl := CnfM.srt_len l; exact compact_own (l := CnfM.srt l) (by rw [hl]; exact ho) (by rw [hl]; exact hn)
    have hr := CnfM.row_len l
    obtain ⟨r, hrr⟩ : ∃ r, r = CnfM.cpt (CnfM.srt l) := ⟨_, rfl⟩
    rw [← hrr] at hf hr hK
    have hN := hn
    have HW := Lib.hid hW; have Hh := Lib.hid h; have Hq := Lib.hid hq; have Hf := Lib.hid hf; have HC := Lib.hid hC; have HS := Lib.hid hS; have HK := Lib.hid hK; have Hrr := Lib.hid hrr; have Hn := Lib.hid hn; clear hW h hq hf hC hS hK hrr hn
    go_enter Try.func14, Try.ntmps14
    go_wp2_with fail
    refine HW.out.mono ?_
    rintro e w1 ⟨rfl, hb1⟩
    have hc1 := HC.out w1 hb1
    have Hb1 := Lib.hid hb1; have Hc1 := Lib.hid hc1; clear hb1 hc1
    go_wp2_with fail
    refine Hc1.out.mono ?_
    rintro e w2 ⟨v2, rfl, ho2, hb2⟩
    have hs2 := HS.out w2 _ v2 ho2
    have hb2' := Hb1.out.trans (hb2.mono Hb1.out.size)
    have hz2 : w.heap.size ≤ w1.heap.size := Hb1.out.size
    have Ho2 := Lib.hid ho2; have Hb2 := Lib.hid hb2; have Hs2 := Lib.hid hs2; have Hb2' := Lib.hid hb2'; clear ho2 hb2 hs2 hb2'
    go_wp2_with fail
    refine Hs2.out.mono ?_
    rintro e w3 ⟨rfl, ho3, hg3⟩
    have hb3 := bel_own Hb2'.out Ho2.out hz2 hg3 Hb2'.out.size
    have hk3 := HK.out w3 _ v2 ho3
    have Hg3 := Lib.hid hg3; have Hb3 := Lib.hid hb3; have Hk3 := Lib.hid hk3; clear hg3 hb3 hk3
    go_wp2_with fail
    refine Hk3.out.mono ?_
    rintro e w4 ⟨v4, rfl, hv4, ho4, hg4⟩
    have hb4 := bel_own Hb3.out ho3 hz2 hg4 Hb3.out.size
    have ho5 := ownsRow_mono ho4 hz2
    have hsl := Sl.of_owns ho5
    obtain ⟨a, cap, rfl, hcap, hmax, hel⟩ := hsl
    unfold maxLen at hmax
    obtain ⟨n, hnn⟩ : ∃ n, n = r.length := ⟨_, rfl⟩
    rw [← hnn] at hr hcap ⊢
    have Ho3 := Lib.hid ho3; have Hv4 := Lib.hid hv4; have Ho4 := Lib.hid ho4; have Hg4 := Lib.hid hg4; have Hb4 := Lib.hid hb4; have Ho5 := Lib.hid ho5; have Hel := Lib.hid hel; have Hnn := Lib.hid hnn; clear ho3 hv4 ho4 hg4 hb4 ho5 hel hnn
    go_wp2_with fail
    go_loopw [5] (fun i wr => ∃ k : Nat, 1 ≤ k ∧ i = .int .i64 k ∧ k ≤ n + 1 ∧ (∀ j (hj : j + 1 < r.length), j + 1 < k → ¬ r[j + 1] = CnfM.neg r[j]) ∧ ∃ q, wr = w4.drewN q) (fun i _ => n + 1 - (intOf i).toNat)
    case atStart => exact ⟨1, Nat.le_refl _, rfl, by omega, fun j _ h => by omega, 0, rfl⟩
    case round =>
      obtain ⟨k, hk1, rfl, hk2, hno, q, rfl⟩ := hrel
      by_cases hlt : k < n
      · have hkl : k < r.length := by have := Hnn.out; omega
        obtain ⟨j, rfl⟩ : ∃ j, k = j + 1 := ⟨k - 1, by omega⟩
        obtain ⟨x, hx⟩ : ∃ x, x = r[j]'(by omega) := ⟨_, rfl⟩
        obtain ⟨y, hy⟩ : ∃ y, y = r[j + 1]'hkl := ⟨_, rfl⟩
        obtain ⟨b, off, rfl, c1⟩ := Hel.out (j + 1) (intv y) (by rw [List.getElem?_map, List.getElem?_eq_getElem hkl, hy]; rfl)
        obtain ⟨b', off', h1, c0⟩ := Hel.out j (intv x) (by rw [List.getElem?_map, List.getElem?_eq_getElem (by omega), hx]; rfl)
        cases h1
        have k1 : IntKind.i64.wrap (((j : Int) + 1) - 1) = (j : Int) := by rw [IntWalk.i64_in _ (by omega)]; omega
        have k2 : ((j : Int) + 1).toNat = j + 1 := by omega
        have k3 : (0 : Int) ≤ (j : Int) + 1 := by omega
        have k4 : (j : Int) + 1 < (n : Int) := by omega
        have k5 : (0 : Int) ≤ (j : Int) := by omega
        have k6 : (j : Int) < (n : Int) := by omega
        by_cases he : y = wrap64 (-x)
        · have e1 : (y == wrap64 (-x)) = true := by rw [he]; exact beq_self_eq_true _
          have hbad : CnfM.bad r = true := bad_at r j hkl (by rw [← hx, ← hy]; exact he)
          have hff : CnfM.form l = ([], false) := by rw [Hf.out, if_pos hbad]
          have Hx := Lib.hid hx; have Hy := Lib.hid hy; have Hno := Lib.hid hno; have He := Lib.hid he; have Hbad := Lib.hid hbad; have Hff := Lib.hid hff; clear hx hy hno he hbad hff
          go_wp2_with fail
          go_quiet (fail)
          go_wp2_with fail
          go_ret2
          exact form_post Hff.out (World.ownsRow_nil _ _ _ _) (bel_drewN (bel_drewN Hb4.out _) _)
        · have e1 : (y == wrap64 (-x)) = false := by simpa using he
          have hno2 : ∀ i (hi : i + 1 < r.length), i + 1 < j + 1 + 1 → ¬ r[i + 1] = CnfM.neg r[i] := by
            intro i hi hij
            by_cases e : i = j
            · subst e; rw [← hx, ← hy]; exact he
            · exact hno i hi (by omega)
          have Hx := Lib.hid hx; have Hy := Lib.hid hy; have Hno := Lib.hid hno; have He := Lib.hid he; have Hno2 := Lib.hid hno2; clear hx hy hno he hno2
          go_wp2_with fail
          go_quiet (fail)
          go_wp2_with fail
          go_roundw
          case rel => exact ⟨j + 1 + 1, by omega, by go_num, by omega, Hno2.out, _, rfl⟩
          case measure => simp [intOf]; omega
      · have hbad : CnfM.bad r = false := bad_none r (fun j hj => hno j hj (by have := Hnn.out; omega))
        have hff : CnfM.form l = (r, true) := by rw [Hf.out, if_neg (by rw [hbad]; simp)]
        have Hno := Lib.hid hno; have Hbad := Lib.hid hbad; have Hff := Lib.hid hff; clear hno hbad hff
        go_wp2_with fail
        go_ret2
        exact form_post Hff.out (by have := Ho5.out; rw [← Hnn.out] at this ⊢; exact this) (bel_drewN Hb4.out _)
end Go.Proofs.Ytnelgellbabkoaa

/- The walks of cooperref12: Same, SameAll. No condition. -/
namespace Go.Proofs.Ytnelgellbabkoaa
open Go.RowKit Go.Lib Go.Sort

theorem quiet_eq {P : Program} {f : FuncId} {args : Array Value} {w : World} {n : Nat} {v : Value}
    (h : Calls P f args (w.drewN n) fun e w' => e = .returned v ∧ ∃ q, w' = (w.drewN n).drewN q) : Calls P f args (w.drewN n) fun e w'' => e = .returned v ∧ ∃ m, w'' = w.drewN m :=
  h.mono fun _ _ ⟨he, q, hq⟩ => ⟨he, n + q, by rw [hq, World.drewN_drewN]⟩
theorem quiet_addl {P : Program} {f : FuncId} {args : Array Value} {w : World} {a n : Nat} {v : Value}
    (h : Calls P f args (w.drewN (a + n)) fun e w' => e = .returned v ∧ ∃ m, w' = (w.drewN (a + n)).drewN m) :
    Calls P f args (w.drewN (a + n)) fun e w'' => e = .returned v ∧ ∃ m, w'' = w.drewN (a + m) :=
  h.mono fun _ _ ⟨he, m, hm⟩ => ⟨he, n + m, by rw [hm, World.drewN_drewN, Nat.add_assoc]⟩
theorem rslice_drewN {α : Type} {sz : Nat} {R : Rd α} (hR : Stays R) {w : World} {cs : List Value} {l : List α} (h : RSlice sz R w cs l) (n : Nat) : RSlice sz R (w.drewN n) cs l := stays_slice hR _ _ _ _ h (bel_drewN (Below.refl _ _) n)
theorem ints_open {w : World} {v : Value} {l : List Int} (h : RIs w [v] l) : ∃ a cap, v = .slice a l.length cap ∧ l.length ≤ 9223372036854775807 ∧ ∀ i (hi : i < l.length), ∃ b off, a = some ⟨b, off, none⟩ ∧ w.cell? ⟨b, off + i, none⟩ = some (.int .i64 l[i]) ∧ -9223372036854775808 ≤ l[i] ∧ l[i] ≤ 9223372036854775807 := by
  obtain ⟨a, cap, hv, hcap, hmax, hel⟩ := h
  simp only [List.cons.injEq, and_true] at hv
  unfold maxLen at hmax
  exact ⟨a, cap, hv, by omega, fun i hi => ints_cell hel i hi⟩
/-- a difference at a place -/
theorem ne_at {α : Type} {l m : List α} {k : Nat} (h1 : k < l.length) (h2 : k < m.length) (h : l[k] ≠ m[k]) : l ≠ m := by rintro rfl; exact h rfl
theorem eq_all {α : Type} {l m : List α} (h : l.length = m.length) (hk : ∀ i (h1 : i < l.length) (h2 : i < m.length), l[i] = m[i]) : l = m := List.ext_getElem h hk
set_option maxRecDepth 10000 in
set_option maxHeartbeats 1000000 in
theorem same12_any {w : World} {u v : Value} {l m : List Int} (hl : RIs w [u] l) (hm : RIs w [v] m) : Calls Try.prog 15 #[u, v] w fun e w' => e = .returned (.bool (decide (l = m))) ∧ ∃ q, w' = w.drewN q := by
  obtain ⟨a1, c1, rfl, hz1, g1⟩ := ints_open hl
  obtain ⟨a2, c2, rfl, hz2, g2⟩ := ints_open hm
  clear hl hm
  obtain ⟨n, hn⟩ : ∃ n, n = l.length := ⟨_, rfl⟩
  obtain ⟨n2, hn2⟩ : ∃ n, n = m.length := ⟨_, rfl⟩
  obtain ⟨r, hr⟩ : ∃ r, r = decide (l = m) := ⟨_, rfl⟩
  rw [← hn] at hz1 ⊢
  rw [← hn2] at hz2 ⊢
  rw [← hr]
  by_cases hne : n = n2
  · subst hne
    have e0 : ((n : Int) != (n : Int)) = false := by simp
    have Hg1 := Lib.hid g1; have Hg2 := Lib.hid g2; have Hn := Lib.hid hn; have Hn2 := Lib.hid hn2; have Hr := Lib.hid hr; clear g1 g2 hn hn2 hr
    go_enter Try.func15, Try.ntmps15
    go_wp2_with fail
    go_loopw [13] (fun i wr => ∃ k : Nat, k ≤ n ∧ i = .int .i64 k ∧ (∀ j (h1 : j < l.length) (h2 : j < m.length), j < k → l[j] = m[j]) ∧ ∃ q, wr = w.drewN q) (fun i _ => n - (intOf i).toNat)
    case atStart => exact ⟨0, Nat.zero_le _, rfl, fun j _ _ h => by omega, 0, rfl⟩
    case round =>
      obtain ⟨k, hk, rfl, heq, q, rfl⟩ := hrel
      by_cases hlt : k < n
      · have hk1 : k < l.length := by have := Hn.out; omega
        have hk2 : k < m.length := by have := Hn2.out; omega
        obtain ⟨b1, o1, rfl, d1, _⟩ := Hg1.out k hk1
        obtain ⟨b2, o2, rfl, d2, _⟩ := Hg2.out k hk2
        obtain ⟨x, hx⟩ : ∃ x, x = l[k] := ⟨_, rfl⟩
        obtain ⟨y, hy⟩ : ∃ y, y = m[k] := ⟨_, rfl⟩
        rw [← hx] at d1
        rw [← hy] at d2
        have k5 : (0 : Int) ≤ (k : Int) := by omega
        have k6 : (k : Int) < (n : Int) := by omega
        by_cases he : x = y
        · have e1 : (x != y) = false := by rw [he]; simp
          have heq2 : ∀ j (h1 : j < l.length) (h2 : j < m.length), j < k + 1 → l[j] = m[j] := fun j h1 h2 hj => by
            by_cases e : j = k
            · subst e; rw [← hx, ← hy]; exact he
            · exact heq j h1 h2 (by omega)
          have Hx := Lib.hid hx; have Hy := Lib.hid hy; have Heq := Lib.hid heq; have He := Lib.hid he; have Heq2 := Lib.hid heq2; clear hx hy heq he heq2
          go_wp2_with fail
          go_quiet (fail)
          go_wp2_with fail
          go_roundw
          case rel => exact ⟨k + 1, by omega, by go_num, Heq2.out, _, rfl⟩
          case measure => simp [intOf]; omega
        · have e1 : (x != y) = true := by simpa using he
          have hf : r = false := by rw [Hr.out]; exact decide_eq_false (ne_at hk1 hk2 (by rw [← hx, ← hy]; exact he))
          have Hx := Lib.hid hx; have Hy := Lib.hid hy; have Heq := Lib.hid heq; have He := Lib.hid he; have Hf := Lib.hid hf; clear hx hy heq he hf
          go_wp2_with fail
          go_quiet (fail)
          go_wp2_with fail
          go_ret
          exact ⟨ret_bool Hf.out.symm, q + nq, World.drewN_drewN _ _ _⟩
      · have hf : r = true := by
          rw [Hr.out]
          exact decide_eq_true (eq_all (by rw [← Hn.out, ← Hn2.out]) (fun j h1 h2 => heq j h1 h2 (by have := Hn.out; omega)))
        have Heq := Lib.hid heq; have Hf := Lib.hid hf; clear heq hf
        go_wp2_with fail
        go_ret
        exact ⟨ret_bool Hf.out.symm, _, rfl⟩
  · have e0 : ((n : Int) != (n2 : Int)) = true := by rw [bne_iff_ne]; omega
    have hf : r = false := by rw [hr]; exact decide_eq_false (by rintro rfl; omega)
    have Hg1 := Lib.hid g1; have Hg2 := Lib.hid g2; have Hn := Lib.hid hn; have Hn2 := Lib.hid hn2; have Hr := Lib.hid hr; have Hf := Lib.hid hf; have Hne := Lib.hid hne; clear g1 g2 hn hn2 hr hf hne
    go_enter Try.func15, Try.ntmps15
    go_wp2_with fail
    go_ret
    exact ⟨ret_bool Hf.out.symm, 0, rfl⟩
abbrev RIss : Rd (List (List Int)) := RSlice 1 RIs
theorem rows_open {w : World} {v : Value} {l : List (List Int)} (h : RIss w [v] l) : ∃ a cap, v = .slice a l.length cap ∧ l.length ≤ 9223372036854775807 ∧ ∀ i (hi : i < l.length), ∃ b off u, a = some ⟨b, off, none⟩ ∧ w.cell? ⟨b, off + i, none⟩ = some u ∧ RIs w [u] l[i] := by
  obtain ⟨a, cap, hv, hcap, hmax, hel⟩ := h
  simp only [List.cons.injEq, and_true] at hv
  unfold maxLen at hmax
  refine ⟨a, cap, hv, by omega, fun i hi => ?_⟩
  obtain ⟨b, off, ecs, h1, h2, h3, h4⟩ := hel i l[i] (List.getElem?_eq_getElem hi)
  obtain ⟨u, rfl⟩ := IdxInt.cells_1 h2
  exact ⟨b, off, u, h1, by simpa using h3 0 u rfl, h4⟩
set_option maxRecDepth 10000 in
set_option maxHeartbeats 1000000 in
theorem sameAll12_any {w : World} {u v : Value} {l m : List (List Int)} (hl : RIss w [u] l) (hm : RIss w [v] m) : Calls Try.prog 51 #[u, v] w fun e w' => e = .returned (.bool (decide (l = m))) ∧ ∃ q, w' = w.drewN q := by
  obtain ⟨a1, c1, rfl, hz1, g1⟩ := rows_open hl
  obtain ⟨a2, c2, rfl, hz2, g2⟩ := rows_open hm
  clear hl hm
  obtain ⟨n, hn⟩ : ∃ n, n = l.length := ⟨_, rfl⟩
  obtain ⟨n2, hn2⟩ : ∃ n, n = m.length := ⟨_, rfl⟩
  obtain ⟨r, hr⟩ : ∃ r, r = decide (l = m) := ⟨_, rfl⟩
  rw [← hn] at hz1 ⊢
  rw [← hn2] at hz2 ⊢
  rw [← hr]
  by_cases hne : n = n2
  · subst hne
    have e0 : ((n : Int) != (n : Int)) = false := by simp
    have Hg1 := Lib.hid g1; have Hg2 := Lib.hid g2; have Hn := Lib.hid hn; have Hn2 := Lib.hid hn2; have Hr := Lib.hid hr; clear g1 g2 hn hn2 hr
    go_enter Try.func51, Try.ntmps51
    go_wp2_with fail
    go_loopw [13] (fun i wr => ∃ k : Nat, k ≤ n ∧ i = .int .i64 k ∧ (∀ j (h1 : j < l.length) (h2 : j < m.length), j < k → l[j] = m[j]) ∧ ∃ q, wr = w.drewN q) (fun i _ => n - (intOf i).toNat)
    case atStart => exact ⟨0, Nat.zero_le _, rfl, fun j _ _ h => by omega, 0, rfl⟩
    case round =>
      obtain ⟨k, hk, rfl, heq, q, rfl⟩ := hrel
      by_cases hlt : k < n
      · have hk1 : k < l.length := by have := Hn.out; omega
        have hk2 : k < m.length := by have := Hn2.out; omega
        obtain ⟨b1, o1, u1, rfl, d1, s1⟩ := Hg1.out k hk1
        obtain ⟨b2, o2, u2, rfl, d2, s2⟩ := Hg2.out k hk2
        obtain ⟨x, hx⟩ : ∃ x, x = l[k] := ⟨_, rfl⟩
        obtain ⟨y, hy⟩ : ∃ y, y = m[k] := ⟨_, rfl⟩
        rw [← hx] at s1
        rw [← hy] at s2
        have k5 : (0 : Int) ≤ (k : Int) := by omega
        have k6 : (k : Int) < (n : Int) := by omega
        have hcall := fun i => same12_any (rslice_drewN (stays_int .i64) s1 i) (rslice_drewN (stays_int .i64) s2 i)
        by_cases he : x = y
        · have e1 : decide (x = y) = true := decide_eq_true he
          rw [e1] at hcall
          have heq2 : ∀ j (h1 : j < l.length) (h2 : j < m.length), j < k + 1 → l[j] = m[j] := fun j h1 h2 hj => by
            by_cases e : j = k
            · subst e; rw [← hx, ← hy]; exact he
            · exact heq j h1 h2 (by omega)
          have Hx := Lib.hid hx; have Hy := Lib.hid hy; have Heq := Lib.hid heq; have He := Lib.hid he; have Heq2 := Lib.hid heq2; have Hs1 := Lib.hid s1; have Hs2 := Lib.hid s2; have Hcall := Lib.hid hcall; clear hx hy heq he heq2 s1 s2 hcall
          clear e1
          go_wp2_with fail
          go_quiet ((go_at_call 15; exact quiet_addl (Hcall.out _)))
          go_wp2_with fail
          go_roundw
          case rel => exact ⟨k + 1, by omega, by go_num, Heq2.out, _, rfl⟩
          case measure => simp [intOf]; omega
        · have e1 : decide (x = y) = false := decide_eq_false he
          rw [e1] at hcall
          have hf : r = false := by rw [Hr.out]; exact decide_eq_false (ne_at hk1 hk2 (by rw [← hx, ← hy]; exact he))
          have Hx := Lib.hid hx; have Hy := Lib.hid hy; have Heq := Lib.hid heq; have He := Lib.hid he; have Hf := Lib.hid hf; have Hs1 := Lib.hid s1; have Hs2 := Lib.hid s2; have Hcall := Lib.hid hcall; clear hx hy heq he hf s1 s2 hcall
          clear e1
          go_wp2_with fail
          go_quiet ((go_at_call 15; exact quiet_addl (Hcall.out _)))
          go_wp2_with fail
          go_ret
          exact ⟨ret_bool Hf.out.symm, _, World.drewN_drewN _ _ _⟩
      · have hf : r = true := by
          rw [Hr.out]
          exact decide_eq_true (eq_all (by rw [← Hn.out, ← Hn2.out]) (fun j h1 h2 => heq j h1 h2 (by have := Hn.out; omega)))
        have Heq := Lib.hid heq; have Hf := Lib.hid hf; clear heq hf
        go_wp2_with fail
        go_ret
        exact ⟨ret_bool Hf.out.symm, _, rfl⟩
  · have e0 : ((n : Int) != (n2 : Int)) = true := by rw [bne_iff_ne]; omega
    have hf : r = false := by rw [hr]; exact decide_eq_false (by rintro rfl; omega)
    have Hg1 := Lib.hid g1; have Hg2 := Lib.hid g2; have Hn := Lib.hid hn; have Hn2 := Lib.hid hn2; have Hr := Lib.hid hr; have Hf := Lib.hid hf; have Hne := Lib.hid hne; clear g1 g2 hn hn2 hr hf hne
    go_enter Try.func51, Try.ntmps51
    go_wp2_with fail
    go_ret
    exact ⟨ret_bool Hf.out.symm, 0, rfl⟩
end Go.Proofs.Ytnelgellbabkoaa

/- The walks of cooperref04.Great and Wish: they answer. No condition. -/
namespace Go.Proofs.Ytnelgellbabkoaa
open Go.RowKit Go.Shelf VarM

set_option maxRecDepth 10000 in
set_option maxHeartbeats 1000000 in
theorem greatSets_any {w : World} {v : Value} {l : List Setg} (h : RSets w [v] l) : Calls Try.prog 30 #[v] w fun e w' => (∃ r, e = .returned (.bool r) ∧ (r = false → l.length ≤ 50)) ∧ w = w' := by
  obtain ⟨a, cap, rfl, hz, g⟩ := sets_open h
  obtain ⟨n, hn⟩ : ∃ n, n = l.length := ⟨_, rfl⟩
  rw [← hn] at hz h ⊢
  have Hh := Lib.hid h; have Hg := Lib.hid g; have Hn := Lib.hid hn; clear h g hn
  go_enter Try.func30, Try.ntmps30
  by_cases h50 : 50 < n
  · have k1 : decide ((50 : Int) < (n : Int)) = true := by simp; omega
    go_wp2_with fail
    go_ret
    exact ⟨⟨true, rfl, fun h => by cases h⟩, rfl⟩
  · have k1 : decide ((50 : Int) < (n : Int)) = false := by simp; omega
    have h50' : n ≤ 50 := by omega
    go_wp2_with fail
    clear k1 h50
    go_loopw [9] (fun i wr => ∃ k : Nat, k ≤ n ∧ i = .int .i64 k ∧ w = wr) (fun i _ => n - (intOf i).toNat)
    case atStart => exact ⟨0, Nat.zero_le _, rfl, rfl⟩
    case round =>
      obtain ⟨k, hk, rfl, rfl⟩ := hrel
      by_cases hlt : k < n
      · have hkl : k < l.length := by have := Hn.out; omega
        obtain ⟨b, off, rfl, d0, d1, hs1, hs2⟩ := Hg.out k _ (List.getElem?_eq_getElem hkl)
        obtain ⟨x, hx⟩ : ∃ x, x = l[k] := ⟨_, rfl⟩
        rw [← hx] at d0 d1 hs1 hs2
        obtain ⟨s, hs⟩ : ∃ s, s = x.1 := ⟨_, rfl⟩
        obtain ⟨t, ht⟩ : ∃ s, s = x.2 := ⟨_, rfl⟩
        rw [← hs] at d0 hs1
        rw [← ht] at d1 hs2
        have k5 : (0 : Int) ≤ (k : Int) := by omega
        have k6 : (k : Int) < (n : Int) := by omega
        clear hx hkl hs ht
        by_cases h100 : 100 < s.size
        · have k7 : decide ((100 : Int) < (s.size : Int)) = true := by simp; omega
          go_wp2_with fail
          go_ret
          exact ⟨⟨true, rfl, fun h => by cases h⟩, rfl⟩
        · have k7 : decide ((100 : Int) < (s.size : Int)) = false := by simp; omega
          by_cases hm20 : 100 < t.size
          · have k8 : decide ((100 : Int) < (t.size : Int)) = true := by simp; omega
            go_wp2_with fail
            go_ret
            exact ⟨⟨true, rfl, fun h => by cases h⟩, rfl⟩
          · have k8 : decide ((100 : Int) < (t.size : Int)) = false := by simp; omega
            go_wp2_with fail
            go_roundw
            case rel => exact ⟨k + 1, by omega, by go_num, by first | rfl | trivial⟩
            case measure => simp [intOf]; omega
      · obtain rfl : k = n := by omega
        go_wp2_with fail
        go_ret
        exact ⟨⟨false, rfl, fun _ => by have := Hn.out; omega⟩, rfl⟩
set_option maxRecDepth 10000 in
set_option maxHeartbeats 2000000 in
theorem wishRef_any {w : World} {v : Value} {l : List Setg} (h : RSets w [v] l) : Calls Try.prog 31 #[v] w fun e w' => (∃ r, e = .returned (.bool r)) ∧ ∃ q, w' = w.drewN q := by
  obtain ⟨a, cap, rfl, hz, g⟩ := sets_open h
  obtain ⟨n, hn⟩ : ∃ n, n = l.length := ⟨_, rfl⟩
  rw [← hn] at hz h ⊢
  have Hh := Lib.hid h; have Hg := Lib.hid g; have Hn := Lib.hid hn; clear h g hn
  go_enter Try.func31, Try.ntmps31
  go_wp2_with fail
  go_loopw [6] (fun i wr => ∃ k : Nat, k ≤ n ∧ i = .int .i64 k ∧ ∃ q, wr = w.drewN q) (fun i _ => n - (intOf i).toNat)
  case atStart => exact ⟨0, Nat.zero_le _, rfl, 0, rfl⟩
  case round =>
    obtain ⟨k, hk, rfl, q, rfl⟩ := hrel
    by_cases hlt : k < n
    · have hkl : k < l.length := by have := Hn.out; omega
      obtain ⟨b, off, rfl, d0, d1, hs1, hs2⟩ := Hg.out k _ (List.getElem?_eq_getElem hkl)
      obtain ⟨x, hx⟩ : ∃ x, x = l[k] := ⟨_, rfl⟩
      rw [← hx] at d0 d1 hs1 hs2
      obtain ⟨s, hs⟩ : ∃ s, s = x.1 := ⟨_, rfl⟩
      obtain ⟨t, ht⟩ : ∃ s, s = x.2 := ⟨_, rfl⟩
      rw [← hs] at d0 hs1
      rw [← ht] at d1 hs2
      have hN := fun (W : World) => (nameRef_any s hs1 W).mono (fun e w' (⟨he, hw⟩ : _ ∧ W = w') => (⟨he, 0, hw.symm⟩ : e = _ ∧ ∃ m, w' = W.drewN m))
      have hV := fun (W : World) => (valueRef_any t hs2 W).mono (fun e w' (⟨he, hw⟩ : _ ∧ W = w') => (⟨he, 0, hw.symm⟩ : e = _ ∧ ∃ m, w' = W.drewN m))
      obtain ⟨p1, hp1⟩ : ∃ p, p = nameOf s.data.toList := ⟨_, rfl⟩
      obtain ⟨p2, hp2⟩ : ∃ p, p = valueOf t.data.toList := ⟨_, rfl⟩
      rw [← hp1] at hN
      rw [← hp2] at hV
      have k5 : (0 : Int) ≤ (k : Int) := by omega
      have k6 : (k : Int) < (n : Int) := by omega
      clear hx hkl hs ht
      have HN := Lib.hid hN; have HV := Lib.hid hV; have Hp1 := Lib.hid hp1; have Hp2 := Lib.hid hp2; clear hN hV hp1 hp2
      cases p1 with
      | false =>
        go_wp2_with fail
        go_quiet (first | (go_at_call 18; exact quiet_addl (HN.out _)) | (go_at_call 20; exact quiet_addl (HV.out _)))
        go_wp2_with fail
        go_ret
        exact ⟨⟨_, rfl⟩, _, by rw [World.drewN_drewN]⟩
      | true =>
        cases p2 with
        | false =>
          go_wp2_with fail
          go_quiet (first | (go_at_call 18; exact quiet_addl (HN.out _)) | (go_at_call 20; exact quiet_addl (HV.out _)))
          go_wp2_with fail
          go_ret
          exact ⟨⟨_, rfl⟩, _, by rw [World.drewN_drewN]⟩
        | true =>
          by_cases h0 : 0 < k
          · obtain ⟨k', rfl⟩ : ∃ k', k = k' + 1 := ⟨k - 1, by omega⟩
            have hkl' : k' < l.length := by have := Hn.out; omega
            obtain ⟨b2, off2, e2, f0, f1, hs3, hs4⟩ := Hg.out k' _ (List.getElem?_eq_getElem hkl')
            injection e2 with e2
            injection e2 with e3 e4
            subst e3 e4
            obtain ⟨z, hz4⟩ : ∃ z, z = l[k'].1 := ⟨_, rfl⟩
            rw [← hz4] at f0 hs3
            clear hz4 hkl' f1 hs4
            have k7 : decide ((0 : Int) < ((k' + 1 : Nat) : Int)) = true := by rw [decide_eq_true_eq]; omega
            have k8 : (((k' + 1 : Nat) : Int) - 1) = (k' : Int) := by omega
            have k11 : IntKind.i64.wrap (((k' + 1 : Nat) : Int) - 1) = (k' : Int) := by rw [k8]; exact IntWalk.i64_in _ (by omega)
            have k9 : (0 : Int) ≤ (k' : Int) := by omega
            have k10 : (k' : Int) < (n : Int) := by omega
            go_wp2_with fail
            go_quiet (first | (go_at_call 18; exact quiet_addl (HN.out _)) | (go_at_call 20; exact quiet_addl (HV.out _)))
            cases Op.bytesLess z.toList s.toList with
            | true =>
              go_wp2_with fail
              go_roundw
              case rel => exact ⟨k' + 1 + 1, by omega, by go_num, _, rfl⟩
              case measure => simp [intOf]; omega
            | false =>
              go_wp2_with fail
              go_ret
              exact ⟨⟨_, rfl⟩, _, by rw [World.drewN_drewN]⟩
          · have k7 : decide ((0 : Int) < (k : Int)) = false := by rw [decide_eq_false_iff_not]; omega
            go_wp2_with fail
            go_quiet (first | (go_at_call 18; exact quiet_addl (HN.out _)) | (go_at_call 20; exact quiet_addl (HV.out _)))
            go_wp2_with fail
            go_roundw
            case rel => exact ⟨k + 1, by omega, by go_num, _, rfl⟩
            case measure => simp [intOf]; omega
    · obtain rfl : n = k := by omega
      go_wp2_with fail
      go_ret
      exact ⟨⟨_, rfl⟩, _, rfl⟩
end Go.Proofs.Ytnelgellbabkoaa

/- The walk of cooperref04.Wish, exactly: are settings a wish. No condition. -/
namespace Go.Proofs.Ytnelgellbabkoaa
open Go.RowKit Go.Shelf VarM
attribute [local go_sem ↓] Go.wp_at_zero Go.wp_at_succ

/-- may a setting stand at its place in a wish? -/
def wishAt (l : List Setg) (i : Nat) : Bool := match l[i]? with
  | none => true
  | some x => nameOf x.1.data.toList && valueOf x.2.data.toList && (decide (i = 0) || Op.bytesLess (l.getD (i - 1) (⟨#[]⟩, ⟨#[]⟩)).1.toList x.1.toList)
def wishIs (l : List Setg) : Bool := (List.range l.length).all (wishAt l)
theorem wishAt_eq {l : List Setg} {i : Nat} (h : i < l.length) : wishAt l i = (nameOf l[i].1.data.toList && valueOf l[i].2.data.toList && (decide (i = 0) || Op.bytesLess (l.getD (i - 1) (⟨#[]⟩, ⟨#[]⟩)).1.toList l[i].1.toList)) := by
  unfold wishAt
  rw [List.getElem?_eq_getElem h]
theorem wishIs_no {l : List Setg} {i : Nat} (h : i < l.length) (hi : wishAt l i = false) : wishIs l = false := by
  unfold wishIs
  rw [List.all_eq_false]
  exact ⟨i, List.mem_range.2 h, by rw [hi]; simp⟩
theorem wishIs_yes {l : List Setg} (h : ∀ i, i < l.length → wishAt l i = true) : wishIs l = true := by
  unfold wishIs
  rw [List.all_eq_true]
  exact fun i hi => h i (List.mem_range.1 hi)
set_option maxRecDepth 10000 in
set_option maxHeartbeats 2000000 in
theorem wishRef_is {w : World} {v : Value} {l : List Setg} (h : RSets w [v] l) : Calls Try.prog 31 #[v] w fun e w' => e = .returned (.bool (wishIs l)) ∧ ∃ q, w' = w.drewN q := by
  obtain ⟨a, cap, rfl, hz, g⟩ := sets_open h
  obtain ⟨n, hn⟩ : ∃ n, n = l.length := ⟨_, rfl⟩
  obtain ⟨r, hr⟩ : ∃ r, r = wishIs l := ⟨_, rfl⟩
  rw [← hr]
  rw [← hn] at hz h ⊢
  have Hh := Lib.hid h; have Hg := Lib.hid g; have Hn := Lib.hid hn; have Hr := Lib.hid hr; clear h g hn hr
  go_enter Try.func31, Try.ntmps31
  go_wp2_with fail
  go_loopw [6] (fun i wr => ∃ k : Nat, k ≤ n ∧ i = .int .i64 k ∧ (∀ j, j < k → wishAt l j = true) ∧ ∃ q, wr = w.drewN q) (fun i _ => n - (intOf i).toNat)
  case atStart => exact ⟨0, Nat.zero_le _, rfl, fun _ h => by omega, 0, rfl⟩
  case round =>
    obtain ⟨k, hk, rfl, hno, q, rfl⟩ := hrel
    by_cases hlt : k < n
    · have hkl : k < l.length := by have := Hn.out; omega
      obtain ⟨b, off, rfl, d0, d1, hs1, hs2⟩ := Hg.out k _ (List.getElem?_eq_getElem hkl)
      have hwa := wishAt_eq hkl
      have hnx : wishAt l k = true → ∀ j, j < k + 1 → wishAt l j = true := fun h j hj => by
        by_cases e : j = k
        · rw [e]; exact h
        · exact hno j (by omega)
      have hbd := fun (h : wishAt l k = false) => wishIs_no hkl h
      obtain ⟨x, hx⟩ : ∃ x, x = l[k] := ⟨_, rfl⟩
      rw [← hx] at d0 d1 hs1 hs2 hwa
      obtain ⟨s, hs⟩ : ∃ s, s = x.1 := ⟨_, rfl⟩
      obtain ⟨t, ht⟩ : ∃ s, s = x.2 := ⟨_, rfl⟩
      rw [← hs] at d0 hs1 hwa
      rw [← ht] at d1 hs2 hwa
      have hN := fun (W : World) => (nameRef_any s hs1 W).mono (fun e w' (⟨he, hw⟩ : _ ∧ W = w') => (⟨he, 0, hw.symm⟩ : e = _ ∧ ∃ m, w' = W.drewN m))
      have hV := fun (W : World) => (valueRef_any t hs2 W).mono (fun e w' (⟨he, hw⟩ : _ ∧ W = w') => (⟨he, 0, hw.symm⟩ : e = _ ∧ ∃ m, w' = W.drewN m))
      obtain ⟨p1, hp1⟩ : ∃ p, p = nameOf s.data.toList := ⟨_, rfl⟩
      obtain ⟨p2, hp2⟩ : ∃ p, p = valueOf t.data.toList := ⟨_, rfl⟩
      rw [← hp1] at hN hwa
      rw [← hp2] at hV hwa
      have k5 : (0 : Int) ≤ (k : Int) := by omega
      have k6 : (k : Int) < (n : Int) := by omega
      clear hx hkl hs ht
      have HN := Lib.hid hN; have HV := Lib.hid hV; have Hp1 := Lib.hid hp1; have Hp2 := Lib.hid hp2; have Hno := Lib.hid hno; have Hnx := Lib.hid hnx; have Hbd := Lib.hid hbd; have Hwa := Lib.hid hwa; clear hN hV hp1 hp2 hno hnx hbd hwa
      cases p1 with
      | false =>
        have hf : r = false := by rw [Hr.out]; exact Hbd.out (by rw [Hwa.out]; rfl)
        have Hf := Lib.hid hf; clear hf
        go_wp2_with fail
        go_quiet (first | (go_at_call 18; exact quiet_addl (HN.out _)) | (go_at_call 20; exact quiet_addl (HV.out _)))
        go_wp2_with fail
        go_ret
        exact ⟨ret_bool Hf.out.symm, _, by rw [World.drewN_drewN]⟩
      | true =>
        cases p2 with
        | false =>
          have hf : r = false := by rw [Hr.out]; exact Hbd.out (by rw [Hwa.out]; rfl)
          have Hf := Lib.hid hf; clear hf
          go_wp2_with fail
          go_quiet (first | (go_at_call 18; exact quiet_addl (HN.out _)) | (go_at_call 20; exact quiet_addl (HV.out _)))
          go_wp2_with fail
          go_ret
          exact ⟨ret_bool Hf.out.symm, _, by rw [World.drewN_drewN]⟩
        | true =>
          by_cases h0 : 0 < k
          · obtain ⟨k', rfl⟩ : ∃ k', k = k' + 1 := ⟨k - 1, by omega⟩
            have hkl' : k' < l.length := by have := Hn.out; omega
            obtain ⟨b2, off2, e2, f0, f1, hs3, hs4⟩ := Hg.out k' _ (List.getElem?_eq_getElem hkl')
            injection e2 with e2
            injection e2 with e3 e4
            subst e3 e4
            obtain ⟨z, hz4⟩ : ∃ z, z = l[k'].1 := ⟨_, rfl⟩
            rw [← hz4] at f0 hs3
            have hwb : wishAt l (k' + 1) = Op.bytesLess z.toList s.toList := by rw [Hwa.out, hz4]; simp [List.getD_eq_getElem?_getD, List.getElem?_eq_getElem hkl']
            have Hz4 := Lib.hid hz4; have Hwb := Lib.hid hwb; clear hz4 hwb
            clear f1 hs4
            have k7 : decide ((0 : Int) < ((k' + 1 : Nat) : Int)) = true := by rw [decide_eq_true_eq]; omega
            have k8 : (((k' + 1 : Nat) : Int) - 1) = (k' : Int) := by omega
            have k11 : IntKind.i64.wrap (((k' + 1 : Nat) : Int) - 1) = (k' : Int) := by rw [k8]; exact IntWalk.i64_in _ (by omega)
            have k9 : (0 : Int) ≤ (k' : Int) := by omega
            have k10 : (k' : Int) < (n : Int) := by omega
            go_wp2_with fail
            go_quiet (first | (go_at_call 18; exact quiet_addl (HN.out _)) | (go_at_call 20; exact quiet_addl (HV.out _)))
            obtain ⟨bl, hbl⟩ : ∃ b, b = Op.bytesLess z.toList s.toList := ⟨_, rfl⟩
            have hwb := Hwb.out
            rw [← hbl] at hwb ⊢
            have Hbl := Lib.hid hbl; have Hwb := Lib.hid hwb; clear hbl hwb
            cases bl with
            | true =>
              have hq := Hnx.out Hwb.out
              have Hq := Lib.hid hq; clear hq
              go_wp2_with fail
              go_roundw
              case rel => exact ⟨k' + 1 + 1, by omega, by go_num, Hq.out, _, rfl⟩
              case measure => simp [intOf]; omega
            | false =>
              have hf : r = false := by rw [Hr.out]; exact Hbd.out Hwb.out
              have Hf := Lib.hid hf; clear hf
              go_wp2_with fail
              go_ret
              exact ⟨ret_bool Hf.out.symm, _, by rw [World.drewN_drewN]⟩
          · have k7 : decide ((0 : Int) < (k : Int)) = false := by rw [decide_eq_false_iff_not]; omega
            have hq := Hnx.out (by rw [Hwa.out, show k = 0 by omega]; rfl)
            have Hq := Lib.hid hq; clear hq
            go_wp2_with fail
            go_quiet (first | (go_at_call 18; exact quiet_addl (HN.out _)) | (go_at_call 20; exact quiet_addl (HV.out _)))
            go_wp2_with fail
            go_roundw
            case rel => exact ⟨k + 1, by omega, by go_num, Hq.out, _, rfl⟩
            case measure => simp [intOf]; omega
    · obtain rfl : n = k := by omega
      have hf : r = true := by rw [Hr.out]; exact wishIs_yes (by rw [← Hn.out]; exact hno)
      have Hno := Lib.hid hno; have Hf := Lib.hid hf; clear hno hf
      go_wp2_with fail
      go_ret
      exact ⟨ret_bool Hf.out.symm, _, rfl⟩
end Go.Proofs.Ytnelgellbabkoaa

/- The walk of variant.Wish, exactly: are settings a wish. No condition. -/
namespace Go.Proofs.Ytnelgellbabkoaa
open Go.RowKit Go.Shelf VarM
attribute [local go_sem ↓] Go.wp_at_zero Go.wp_at_succ

set_option maxRecDepth 10000 in
set_option maxHeartbeats 4000000 in
theorem wish04_any {w : World} {v : Value} {l : List Setg} (h : RSets w [v] l) : Calls Try.prog 45 #[v] w fun e w' => e = .returned (.bool (wishIs l)) ∧ Below w.heap.size w w' := by
  obtain ⟨a, cap, rfl, hz, g⟩ := sets_open h
  obtain ⟨n, hn⟩ : ∃ n, n = l.length := ⟨_, rfl⟩
  obtain ⟨r, hr⟩ : ∃ r, r = wishIs l := ⟨_, rfl⟩
  rw [← hr]
  rw [← hn] at hz h ⊢
  have Hh := Lib.hid h; have Hg := Lib.hid g; have Hn := Lib.hid hn; have Hr := Lib.hid hr; clear h g hn hr
  go_enter Try.func45, Try.ntmps45
  go_wp2_with fail
  go_loopw [7] (fun i wr => ∃ k : Nat, k ≤ n ∧ i = .int .i64 k ∧ (∀ j, j < k → wishAt l j = true) ∧ Below w.heap.size w wr) (fun i _ => n - (intOf i).toNat)
  case atStart => exact ⟨0, Nat.zero_le _, rfl, fun _ h => by omega, Below.refl _ _⟩
  case round =>
    obtain ⟨k, hk, rfl, hno, hb⟩ := hrel
    by_cases hlt : k < n
    · have hkl : k < l.length := by have := Hn.out; omega
      obtain ⟨b, off, rfl, d0, d1, hs1, hs2⟩ := Hg.out k _ (List.getElem?_eq_getElem hkl)
      have hwa := wishAt_eq hkl
      have hnx : wishAt l k = true → ∀ j, j < k + 1 → wishAt l j = true := fun h j hj => by
        by_cases e : j = k
        · rw [e]; exact h
        · exact hno j (by omega)
      have hbd := fun (h : wishAt l k = false) => wishIs_no hkl h
      obtain ⟨x, hx⟩ : ∃ x, x = l[k] := ⟨_, rfl⟩
      rw [← hx] at d0 d1 hs1 hs2 hwa
      obtain ⟨s, hs⟩ : ∃ s, s = x.1 := ⟨_, rfl⟩
      obtain ⟨t, ht⟩ : ∃ s, s = x.2 := ⟨_, rfl⟩
      rw [← hs] at d0 hs1 hwa
      rw [← ht] at d1 hs2 hwa
      have hN := fun (W : World) => (name_any s hs1 W).mono (fun e w' (⟨he, hw⟩ : _ ∧ W = w') => (⟨he, 0, hw.symm⟩ : e = _ ∧ ∃ m, w' = W.drewN m))
      have hV := fun (W : World) => (value_any t hs2 W).mono (fun e w' (⟨he, hw⟩ : _ ∧ W = w') => (⟨he, 0, hw.symm⟩ : e = _ ∧ ∃ m, w' = W.drewN m))
      obtain ⟨p1, hp1⟩ : ∃ p, p = nameOf s.data.toList := ⟨_, rfl⟩
      obtain ⟨p2, hp2⟩ : ∃ p, p = valueOf t.data.toList := ⟨_, rfl⟩
      rw [← hp1] at hN hwa
      rw [← hp2] at hV hwa
      have e0 := cell_later hb d0
      have e1 := cell_later hb d1
      obtain ⟨W1, hW1⟩ : ∃ W1, W1 = wr.alloc (.cells #[.string s, .string t] 38) := ⟨_, rfl⟩
      have hbn : Below wr.heap.size wr W1 := by rw [hW1]; exact below_alloc1 _ _
      have hb1 := hb.trans (hbn.mono hb.size)
      obtain ⟨D, hD⟩ : ∃ D, D = wr.heap.size := ⟨_, rfl⟩
      have hdb : W1.heap[D]? = some (.cells #[.string s, .string t] 38 (0, 0)) := by rw [hW1, hD]; exact heap_alloc_new _ _
      have f0 := cells_at hdb 0
      have f1 := cells_at hdb 1
      simp only [List.getElem?_toArray, List.getElem?_cons_zero, List.getElem?_cons_succ] at f0 f1
      have k5 : (0 : Int) ≤ (k : Int) := by omega
      have k6 : (k : Int) < (n : Int) := by omega
      clear hx hs ht
      have HN := Lib.hid hN; have HV := Lib.hid hV; have Hp1 := Lib.hid hp1; have Hp2 := Lib.hid hp2; have Hno := Lib.hid hno; have Hnx := Lib.hid hnx; have Hbd := Lib.hid hbd; have Hwa := Lib.hid hwa; have Hb := Lib.hid hb; have Hbn := Lib.hid hbn; have Hb1 := Lib.hid hb1; have Hdb := Lib.hid hdb; clear hN hV hp1 hp2 hno hnx hbd hwa hb hbn hb1 hdb
      go_upto_region 4 with (fail)
      rw [← hW1, ← hD]
      have HW1 := Lib.hid hW1; have HD := Lib.hid hD; clear hW1 hD
      clear e0 e1
      cases p1 with
      | false =>
        have hf : r = false := by rw [Hr.out]; exact Hbd.out (by rw [Hwa.out]; rfl)
        have Hf := Lib.hid hf; clear hf
        go_quiet (first | (go_at_call 17; exact quiet_eq (HN.out _)) | (go_at_call 19; exact quiet_eq (HV.out _)))
        go_wp2_with fail
        go_ret
        exact ⟨ret_bool Hf.out.symm, bel_drewN Hb1.out _⟩
      | true =>
        cases p2 with
        | false =>
          have hf : r = false := by rw [Hr.out]; exact Hbd.out (by rw [Hwa.out]; rfl)
          have Hf := Lib.hid hf; clear hf
          go_quiet (first | (go_at_call 17; exact quiet_eq (HN.out _)) | (go_at_call 19; exact quiet_eq (HV.out _)))
          go_wp2_with fail
          go_ret
          exact ⟨ret_bool Hf.out.symm, bel_drewN Hb1.out _⟩
        | true =>
          by_cases h0 : 0 < k
          · obtain ⟨k', rfl⟩ : ∃ k', k = k' + 1 := ⟨k - 1, by omega⟩
            have hkl' : k' < l.length := by have := Hn.out; omega
            obtain ⟨b2, off2, e2, y0, _, _, _⟩ := Hg.out k' _ (List.getElem?_eq_getElem hkl')
            injection e2 with e2
            injection e2 with e3 e4
            subst e3 e4
            obtain ⟨z, hz4⟩ : ∃ z, z = l[k'].1 := ⟨_, rfl⟩
            rw [← hz4] at y0
            have y0 := cell_later Hb1.out y0
            have hwb : wishAt l (k' + 1) = Op.bytesLess z.toList s.toList := by rw [Hwa.out, hz4]; simp [List.getD_eq_getElem?_getD, List.getElem?_eq_getElem hkl']
            have Hz4 := Lib.hid hz4; have Hwb := Lib.hid hwb; clear hz4 hwb

            have k7 : decide ((0 : Int) < ((k' + 1 : Nat) : Int)) = true := by rw [decide_eq_true_eq]; omega
            have k8 : (((k' + 1 : Nat) : Int) - 1) = (k' : Int) := by omega
            have k11 : IntKind.i64.wrap (((k' + 1 : Nat) : Int) - 1) = (k' : Int) := by rw [k8]; exact IntWalk.i64_in _ (by omega)
            have k9 : (0 : Int) ≤ (k' : Int) := by omega
            have k10 : (k' : Int) < (n : Int) := by omega
            go_quiet (first | (go_at_call 17; exact quiet_eq (HN.out _)) | (go_at_call 19; exact quiet_eq (HV.out _)))
            obtain ⟨bl, hbl⟩ : ∃ b, b = Op.bytesLess z.toList s.toList := ⟨_, rfl⟩
            have hwb := Hwb.out
            rw [← hbl] at hwb ⊢
            have Hbl := Lib.hid hbl; have Hwb := Lib.hid hwb; clear hbl hwb
            cases bl with
            | true =>
              have hq := Hnx.out Hwb.out
              have Hq := Lib.hid hq; clear hq
              go_wp2_with fail
              go_roundw
              case rel => exact ⟨k' + 1 + 1, by omega, by go_num, Hq.out, bel_drewN Hb1.out _⟩
              case measure => simp [intOf]; omega
            | false =>
              have hf : r = false := by rw [Hr.out]; exact Hbd.out Hwb.out
              have Hf := Lib.hid hf; clear hf
              go_wp2_with fail
              go_ret
              exact ⟨ret_bool Hf.out.symm, bel_drewN Hb1.out _⟩
          · have k7 : decide ((0 : Int) < (k : Int)) = false := by rw [decide_eq_false_iff_not]; omega
            have hq := Hnx.out (by rw [Hwa.out, show k = 0 by omega]; rfl)
            have Hq := Lib.hid hq; clear hq
            go_quiet (first | (go_at_call 17; exact quiet_eq (HN.out _)) | (go_at_call 19; exact quiet_eq (HV.out _)))
            go_wp2_with fail
            go_roundw
            case rel => exact ⟨k + 1, by omega, by go_num, Hq.out, bel_drewN Hb1.out _⟩
            case measure => simp [intOf]; omega
    · obtain rfl : n = k := by omega
      have hf : r = true := by rw [Hr.out]; exact wishIs_yes (by rw [← Hn.out]; exact hno)
      have Hno := Lib.hid hno; have Hf := Lib.hid hf; have Hb := Lib.hid hb; clear hno hf hb
      go_wp2_with fail
      go_ret
      exact ⟨ret_bool Hf.out.symm, Hb.out⟩
end Go.Proofs.Ytnelgellbabkoaa

/- Plain facts: slices.Compact, as the kit tells it and as the law wants it. -/
namespace Go.Proofs.Ytnelgellbabkoaa.BothP
open Go.Lib

/-- what is not the same as the one ahead of it -/
def keepL : Option S → List S → List S
  | _, [] => []
  | p, x :: l => if p = some x then keepL (some x) l else x :: keepL (some x) l
theorem keepL_snoc (x : S) : ∀ (l : List S) (p : Option S), keepL p (l ++ [x]) = keepL p l ++ (if (l.getLast?.or p) = some x then [] else [x])
  | [], p => by by_cases h : p = some x <;> simp [keepL, h]
  | y :: l, p => by
    have ih := keepL_snoc x l (some y)
    have e : ((y :: l).getLast?.or p) = (l.getLast?.or (some y)) := by
      cases l with
      | nil => simp
      | cons z l =>
        rw [List.getLast?_cons_cons]
        cases h : (z :: l).getLast? with
        | none => simp at h
        | some _ => rfl
    rw [e]
    simp only [List.cons_append, keepL]
    split <;> rw [ih] <;> simp
theorem cmpct_keep : ∀ (x : S) (l : List S), cmpct (x :: l) = x :: keepL (some x) l
  | x, [] => rfl
  | x, y :: l => by
    have ih := cmpct_keep y l
    unfold cmpct keepL
    by_cases h : x = y
    · subst h
      rw [if_pos rfl, if_pos rfl]; exact ih
    · rw [if_neg h, if_neg (by simpa using h), ih]
theorem compactUpTo_keep (l : List S) : ∀ m, m ≤ l.length → compactUpTo l.toArray m = keepL none (l.take m)
  | 0, _ => by simp [compactUpTo, keepL]
  | m + 1, h => by
    have hm : m < l.length := by omega
    rw [compactUpTo_succ, compactUpTo_keep l m (by omega), List.take_succ_eq_append_getElem hm, keepL_snoc]
    congr 1
    have e1 : l.toArray[m]! = l[m] := by rw [getElem!_pos _ m (by simpa using hm)]; rfl
    rw [e1]
    match m, hm with
    | 0, hm => simp [keeps]
    | k + 1, hm =>
      have e2 : l.toArray[k + 1 - 1]! = l[k] := by rw [Nat.add_sub_cancel, getElem!_pos _ k (by simp; omega)]; rfl
      have e3 : (l.take (k + 1)).getLast? = some l[k] := by
        rw [List.take_succ_eq_append_getElem (by omega)]; exact List.getLast?_concat
      rw [e3]
      unfold keeps
      rw [e1, e2]
      by_cases hx : l[k + 1] = l[k]
      · simp [hx]
      · have hx' : ¬ l[k] = l[k + 1] := fun e => hx e.symm
        simp [hx, hx']
theorem compact_is (l : List S) : compactUpTo l.toArray l.length = cmpct l := by
  rw [compactUpTo_keep l _ (Nat.le_refl _), List.take_length]
  match l with
  | [] => rfl
  | x :: l => rw [cmpct_keep]; simp [keepL]
end Go.Proofs.Ytnelgellbabkoaa.BothP

/- The walk of variant.Both: what it returns. Condition: at most a thousand settings each. -/
namespace Go.Proofs.Ytnelgellbabkoaa
open Go.Shelf Go.RowKit Go.Lib Go.Sort SortM BothP
attribute [local go_sem ↓] Go.wp_at_zero Go.wp_at_succ

/-- two wishes are met together -/
def bothIs (a b : List Setg) : Bool := wishIs a && (wishIs b && wishIs (bothOf a b))
def BothPost (w : World) (a b : List Setg) (e : Ending) (w' : World) : Prop := Below w.heap.size w w' ∧ ((bothIs a b = true ∧ ∃ o, e = .returned (.tuple #[o, .bool true]) ∧ RSets w' [o] (bothOf a b)) ∨ (bothIs a b = false ∧ e = .returned (.tuple #[.slice none 0 0, .bool false])))
set_option maxRecDepth 10000 in
set_option maxHeartbeats 1000000 in
theorem insertion_nil (cv : Value) (w : World) : Calls Try.prog 144 #[.slice none 0 0, .int .i64 0, .int .i64 0, cv] w fun e w' => e = .returned (.tuple #[]) ∧ w = w' := by
  go_enter Try.func144, Try.ntmps144
  go_wp2_with fail
  refine wp_loop_rounds 1 ?_
  rw [rounds_succ]
  go_wp2_with fail
  go_end0
  exact ⟨rfl, rfl⟩
set_option maxRecDepth 10000 in
set_option maxHeartbeats 1000000 in
theorem stable_nil (cv : Value) (w : World) : Calls Try.prog 122 #[.slice none 0 0, .int .i64 0, cv] w fun e w' => e = .returned (.tuple #[]) ∧ w = w' := by
  have h := insertion_nil cv
  have Hh := Lib.hid h; clear h
  go_enter Try.func122, Try.ntmps122
  go_wp2_with fail
  refine wp_loop_rounds 1 ?_
  rw [rounds_succ]
  go_wp2_with fail
  refine (Hh.out _).mono ?_
  rintro e w2 ⟨rfl, rfl⟩
  go_wp2_with fail
  refine wp_loop_rounds 1 ?_
  rw [rounds_succ]
  go_wp2_with fail
  go_end0
  exact ⟨rfl, rfl⟩
set_option maxRecDepth 10000 in
theorem sortStable_nil (cv : Value) (w : World) : Calls Try.prog 95 #[.slice none 0 0, cv] w fun e w' => e = .returned (.tuple #[]) ∧ w = w' := by
  have h := stable_nil cv
  have Hh := Lib.hid h; clear h
  go_enter Try.func95, Try.ntmps95
  go_wp2_with fail
  refine (Hh.out _).mono ?_
  rintro e w2 ⟨rfl, rfl⟩
  go_wp2_with fail
  go_end0
  exact ⟨rfl, rfl⟩
set_option maxRecDepth 10000 in
theorem compact_nil (w : World) : Calls Try.prog 97 #[.slice none 0 0] w fun e w' => e = .returned (.slice none 0 0) ∧ w = w' := by
  go_enter Try.func97, Try.ntmps97
  go_wp2_with fail
  go_ret
  exact ⟨rfl, rfl⟩
/-- SortStableFunc by the names, of a row that a call owns -/
def SortedPost (B : Nat) (v : Value) (n : Nat) (l : List Setg) (w : World) (e : Ending) (w' : World) : Prop := e = .returned (.tuple #[]) ∧ w'.ownsRow B 38 2 v n (l.flatMap setCells) ∧ ∀ w0, Below B w0 w → B ≤ w.heap.size → Below B w0 w' ∧ B ≤ w'.heap.size
theorem sortOwned_any {w : World} {B : Nat} {v : Value} {n : Nat} {l : List Setg} (h : w.ownsRow B 38 2 v n (l.flatMap setCells)) (hn : l.length = n) (hb : n ≤ 1000000) :
    Calls Try.prog 95 #[v, .func (.func 96) #[] #[]] w (SortedPost B v n (ssort ltN l) w) := by
  rcases h.2 with ⟨rfl, rfl⟩ | ⟨g, cap, cur, rfl, hbg, hg, hnc, _, _, _⟩
  · obtain rfl : l = [] := List.eq_nil_of_length_eq_zero hn
    refine (sortStable_nil _ w).mono ?_
    rintro e w' ⟨rfl, rfl⟩
    exact ⟨rfl, World.ownsRow_nil _ _ _ _, fun w0 hb hB => ⟨hb, hB⟩⟩
  · have R := rowK_of_owns (enc := setCells) setCells_two (fun x v hv => by
      have := sets_one [x] v (by simpa using hv)
      exact this) (by decide) h hn
    have R' : RowK sEnc 2 w g 0 l.toArray := R
    have hs : l.toArray.size = n := by simpa using hn
    have hc := sortNames_any R' cap (by rw [hs]; exact hb)
    rw [hs] at hc
    refine hc.mono ?_
    rintro e w' ⟨rfl, d, S, hd⟩
    have hds : d.size = n := by rw [← Array.length_toList, hd, ssort_len ltN_swo, ← hn]
    have ho := owns_of_swk (enc := setCells) setCells_two (by decide) h S hds
    rw [hd] at ho
    refine ⟨rfl, ho.1, fun w0 hb hB => ⟨ho.2 w0 hb hB, Nat.le_trans hB S.le⟩⟩
/-- Compact of a row that a call owns -/
def CompactedPost (B : Nat) (l : List Setg) (w : World) (e : Ending) (w' : World) : Prop := ∃ o, e = .returned o ∧ w'.ownsRow B 38 2 o l.length (l.flatMap setCells) ∧ ∀ w0, Below B w0 w → B ≤ w.heap.size → Below B w0 w'
theorem compactOwned_any {w : World} {B : Nat} {v : Value} {n : Nat} {l : List Setg} (h : w.ownsRow B 38 2 v n (l.flatMap setCells)) (hn : l.length = n) (hb : n ≤ 1000000) :
    Calls Try.prog 97 #[v] w (CompactedPost B (cmpct l) w) := by
  rcases h.2 with ⟨rfl, rfl⟩ | ⟨g, cap, cur, rfl, hbg, hg, hnc, _, _, _⟩
  · obtain rfl : l = [] := List.eq_nil_of_length_eq_zero hn
    refine (compact_nil w).mono ?_
    rintro e w' ⟨rfl, rfl⟩
    exact ⟨_, rfl, World.ownsRow_nil _ _ _ _, fun w0 hb hB => hb⟩
  · have hc := compactSet_any h hn hb
    subst hn
    rw [compact_is] at hc
    refine hc.mono ?_
    rintro e w' ⟨rfl, h1, h2⟩
    exact ⟨_, rfl, h1, h2⟩
theorem sets_size {w : World} {v : Value} {l : List Setg} (h : RSets w [v] l) : ∀ x ∈ l, x.1.size ≤ maxLen ∧ x.2.size ≤ maxLen := by
  obtain ⟨a, cap, _, _, g⟩ := sets_open h
  intro x hx
  obtain ⟨i, hi, rfl⟩ := List.getElem_of_mem hx
  obtain ⟨b, off, _, _, _, h1, h2⟩ := g i _ (List.getElem?_eq_getElem hi)
  exact ⟨h1, h2⟩
set_option maxRecDepth 10000 in
set_option maxHeartbeats 2000000 in
theorem both_any {w : World} {u v : Value} {a b : List Setg} (ha : RSets w [u] a) (hb : RSets w [v] b) (hla : a.length ≤ 1000) (hlb : b.length ≤ 1000) :
    Calls Try.prog 47 #[u, v] w (BothPost w a b) := by
  obtain ⟨au, cu, rfl⟩ := sets_shape ha
  obtain ⟨av, cv, rfl⟩ := sets_shape hb
  obtain ⟨na, hna⟩ : ∃ n, n = a.length := ⟨_, rfl⟩
  obtain ⟨nc, hnc⟩ : ∃ n, n = b.length := ⟨_, rfl⟩
  rw [← hna] at ha ⊢
  rw [← hnc] at hb ⊢
  obtain ⟨u, hu⟩ : ∃ u, u = Value.slice au na cu := ⟨_, rfl⟩
  obtain ⟨v, hv⟩ : ∃ u, u = Value.slice av nc cv := ⟨_, rfl⟩
  rw [← hu] at ha
  rw [← hv] at hb
  have hA := fun W (hbw : Below w.heap.size w W) => wish04_any (stays_slice stays_set _ _ _ _ ha hbw)
  have hB := fun W (hbw : Below w.heap.size w W) => wish04_any (stays_slice stays_set _ _ _ _ hb hbw)
  have hC := fun (W : World) (g : Nat) (hbw : Below w.heap.size w W) (hg : W.heap[g]? = some (Obj.cells #[u, v] 36 (0, 0))) => concSet_any hg (stays_slice stays_set _ _ _ _ ha hbw) (stays_slice stays_set _ _ _ _ hb hbw) (by omega) (by omega)
  have hsz : ∀ x ∈ bothOf a b, x.1.size ≤ maxLen ∧ x.2.size ≤ maxLen := fun x hx => by
    rcases (mem_both x).1 hx with h | h
    · exact sets_size ha x h
    · exact sets_size hb x h
  have hlen : (a ++ b).length ≤ 2000 := by rw [List.length_append]; omega
  obtain ⟨wa, hwa⟩ : ∃ c, c = wishIs a := ⟨_, rfl⟩
  obtain ⟨wb, hwb⟩ : ∃ c, c = wishIs b := ⟨_, rfl⟩
  obtain ⟨wc, hwc⟩ : ∃ c, c = wishIs (bothOf a b) := ⟨_, rfl⟩
  have hbi : bothIs a b = (wa && (wb && wc)) := by rw [hwa, hwb, hwc]; rfl
  rw [← hwa] at hA
  rw [← hwb] at hB
  rw [hu] at hA
  rw [hv] at hB
  rw [hu, hv] at hC
  rw [hu] at ha
  rw [hv] at hb
  clear hla hlb hu hv u v
  cases wa with
  | false =>
    have Ha := Lib.hid ha; have Hb := Lib.hid hb; have HA := Lib.hid hA; have HB := Lib.hid hB; have HC := Lib.hid hC; have Hsz := Lib.hid hsz; have Hlen := Lib.hid hlen; have Hwa := Lib.hid hwa; have Hwb := Lib.hid hwb; have Hwc := Lib.hid hwc; have Hbi := Lib.hid hbi; have Hna := Lib.hid hna; have Hnc := Lib.hid hnc; clear ha hb hA hB hC hsz hlen hwa hwb hwc hbi hna hnc
    go_enter Try.func47, Try.ntmps47
    go_wp2_with fail
    refine (HA.out _ (Below.refl _ _)).mono ?_
    rintro e w1 ⟨rfl, hb1⟩
    have Hb1 := Lib.hid hb1; clear hb1
    go_wp2_with fail
    go_ret2
    exact ⟨Hb1.out, .inr ⟨by rw [Hbi.out]; rfl, rfl⟩⟩
  | true =>
    cases wb with
    | false =>
      have Ha := Lib.hid ha; have Hb := Lib.hid hb; have HA := Lib.hid hA; have HB := Lib.hid hB; have HC := Lib.hid hC; have Hsz := Lib.hid hsz; have Hlen := Lib.hid hlen; have Hwa := Lib.hid hwa; have Hwb := Lib.hid hwb; have Hwc := Lib.hid hwc; have Hbi := Lib.hid hbi; have Hna := Lib.hid hna; have Hnc := Lib.hid hnc; clear ha hb hA hB hC hsz hlen hwa hwb hwc hbi hna hnc
      go_enter Try.func47, Try.ntmps47
      go_wp2_with fail
      refine (HA.out _ (Below.refl _ _)).mono ?_
      rintro e w1 ⟨rfl, hb1⟩
      have Hb1 := Lib.hid hb1; clear hb1
      go_wp2_with fail
      refine (HB.out _ Hb1.out).mono ?_
      rintro e w2 ⟨rfl, hb2⟩
      have hb3 := Hb1.out.trans (hb2.mono Hb1.out.size)
      have Hb2 := Lib.hid hb2; have Hb3 := Lib.hid hb3; clear hb2 hb3
      go_wp2_with fail
      go_ret2
      exact ⟨Hb3.out, .inr ⟨by rw [Hbi.out]; rfl, rfl⟩⟩
    | true =>
      have Ha := Lib.hid ha; have Hb := Lib.hid hb; have HA := Lib.hid hA; have HB := Lib.hid hB; have HC := Lib.hid hC; have Hsz := Lib.hid hsz; have Hlen := Lib.hid hlen; have Hwa := Lib.hid hwa; have Hwb := Lib.hid hwb; have Hwc := Lib.hid hwc; have Hbi := Lib.hid hbi; have Hna := Lib.hid hna; have Hnc := Lib.hid hnc; clear ha hb hA hB hC hsz hlen hwa hwb hwc hbi hna hnc
      go_enter Try.func47, Try.ntmps47
      go_wp2_with fail
      refine (HA.out _ (Below.refl _ _)).mono ?_
      rintro e w1 ⟨rfl, hb1⟩
      have Hb1 := Lib.hid hb1; clear hb1
      go_wp2_with fail
      refine (HB.out _ Hb1.out).mono ?_
      rintro e w2 ⟨rfl, hb2⟩
      have hb3 := Hb1.out.trans (hb2.mono Hb1.out.size)
      have Hb2 := Lib.hid hb2; have Hb3 := Lib.hid hb3; clear hb2 hb3
      obtain ⟨nb, hnb⟩ : ∃ nb, nb = w2.heap.size := ⟨_, rfl⟩
      obtain ⟨W0, hW0⟩ : ∃ W0, W0 = w2.alloc (.cells #[.slice au na cu, .slice av nc cv] 36) := ⟨_, rfl⟩
      have hbW : Below w.heap.size w W0 := by rw [hW0]; exact Hb3.out.trans ((below_alloc1 _ _).mono Hb3.out.size)
      have hcon := HC.out W0 nb hbW (by rw [hW0, hnb]; exact heap_alloc_new _ _)
      have HbW := Lib.hid hbW; have Hcon := Lib.hid hcon; clear hbW hcon
      go_upto_region 3 with fail
      go_wp2_with fail
      rw [← hW0, ← hnb]
      refine Hcon.out.mono ?_
      rintro e w3 ⟨o, rfl, ho, hb4⟩
      have hb5 := HbW.out.trans (hb4.mono HbW.out.size)
      obtain ⟨NL, hNL⟩ : ∃ n, n = (a ++ b).length := ⟨_, rfl⟩
      rw [← hNL] at ho
      have hNLb : NL ≤ 1000000 := by have := Hlen.out; omega
      obtain ⟨oa, oc, rfl⟩ := own_shape ho
      have hso := sortOwned_any ho hNL.symm hNLb
      have Hso := Lib.hid hso; have Hb4 := Lib.hid hb4; have Hb5 := Lib.hid hb5; have Ho := Lib.hid ho; have HW0 := Lib.hid hW0; have Hnb := Lib.hid hnb; have HNL := Lib.hid hNL; have HNLb := Lib.hid hNLb; clear hso hb4 hb5 ho hW0 hnb hNL hNLb
      go_wp2_with fail
      refine Hso.out.mono ?_
      rintro e w4 ⟨rfl, ho2, hb6⟩
      have hb7 := hb6 W0 Hb4.out Hb4.out.size
      have hco := compactOwned_any ho2 (by rw [ssort_len ltN_swo]; exact HNL.out.symm) HNLb.out
      have Ho2 := Lib.hid ho2; have Hb6 := Lib.hid hb6; have Hb7 := Lib.hid hb7; have Hco := Lib.hid hco; clear ho2 hb6 hb7 hco
      go_wp2_with fail
      refine Hco.out.mono ?_
      rintro e w5 ⟨o3, rfl, ho3, hb8⟩
      have hb9 := hb8 W0 Hb7.out.1 Hb7.out.2
      have hbA := HbW.out.trans (hb9.mono HbW.out.size)
      have hrd : RSets w5 [o3] (bothOf a b) := sets_reads Hsz.out ho3
      have hw3 := wish04_any hrd
      rw [show cmpct (ssort ltN (a ++ b)) = bothOf a b from rfl] at ho3
      obtain ⟨pa, pc, rfl⟩ := own_shape ho3
      rw [← Hwc.out] at hw3
      obtain ⟨N3, hN3⟩ : ∃ n, n = (bothOf a b).length := ⟨_, rfl⟩
      rw [← hN3] at hw3 hrd ⊢
      cases wc with
      | true =>
        have Hb8 := Lib.hid hb8; have Hb9 := Lib.hid hb9; have HbA := Lib.hid hbA; have Hrd := Lib.hid hrd; have Hw3 := Lib.hid hw3; have Ho3 := Lib.hid ho3; have HN3 := Lib.hid hN3; clear hb8 hb9 hbA hrd hw3 ho3 hN3
        go_wp2_with fail
        refine Hw3.out.mono ?_
        rintro e w6 ⟨rfl, hbB⟩
        have hbC := HbA.out.trans (hbB.mono HbA.out.size)
        have hrd2 := stays_slice stays_set _ _ _ _ Hrd.out hbB
        have HbB := Lib.hid hbB; have HbC := Lib.hid hbC; have Hrd2 := Lib.hid hrd2; clear hbB hbC hrd2
        go_wp2_with fail
        go_ret2
        exact ⟨HbC.out, .inl ⟨by rw [Hbi.out]; rfl, _, rfl, Hrd2.out⟩⟩
      | false =>
        have Hb8 := Lib.hid hb8; have Hb9 := Lib.hid hb9; have HbA := Lib.hid hbA; have Hrd := Lib.hid hrd; have Hw3 := Lib.hid hw3; have Ho3 := Lib.hid ho3; have HN3 := Lib.hid hN3; clear hb8 hb9 hbA hrd hw3 ho3 hN3
        go_wp2_with fail
        refine Hw3.out.mono ?_
        rintro e w6 ⟨rfl, hbB⟩
        have hbC := HbA.out.trans (hbB.mono HbA.out.size)
        have HbB := Lib.hid hbB; have HbC := Lib.hid hbC; clear hbB hbC
        go_wp2_with fail
        go_ret2
        exact ⟨HbC.out, .inr ⟨by rw [Hbi.out]; rfl, rfl⟩⟩
end Go.Proofs.Ytnelgellbabkoaa

/- The walk of cooperref04.Legal: where it says yes the names are the variants'. No condition. -/
namespace Go.Proofs.Ytnelgellbabkoaa
open Go.RowKit Go.Shelf
attribute [local go_sem ↓] Go.wp_at_zero Go.wp_at_succ

def NamesIs (l : List Var) (s : List Setg) : Prop := l.length = s.length ∧ ∀ (k : Nat) (x : Var) (y : Setg), l[k]? = some x → s[k]? = some y → x.1 = y.1
def LegalPost (w : World) (l : List Var) (s : List Setg) (e : Ending) (w' : World) : Prop := (∃ r, e = .returned (.bool r) ∧ (r = true → NamesIs l s)) ∧ ∃ q, w' = w.drewN q
set_option maxRecDepth 10000 in
set_option maxHeartbeats 2000000 in
theorem legal_any {w : World} {v u : Value} {l : List Var} {s : List Setg} (h : RVars w [v] l) (hs : RSets w [u] s) : Calls Try.prog 24 #[v, u] w (LegalPost w l s) := by
  obtain ⟨a, cap, rfl, hz, g⟩ := vars_open h
  obtain ⟨sa, sc, rfl, hsz, g2⟩ := sets_open hs
  obtain ⟨n, hn⟩ : ∃ n, n = l.length := ⟨_, rfl⟩
  obtain ⟨ns, hns⟩ : ∃ n, n = s.length := ⟨_, rfl⟩
  rw [← hn] at hz h ⊢
  rw [← hns] at hs hsz ⊢
  by_cases hlen : n = ns
  · subst hlen
    have e1 : ((n : Int) == (n : Int)) = true := by simp
    have e2 : ((n : Int) != (n : Int)) = false := by simp
    clear hsz
    have Hh := Lib.hid h; have Hs := Lib.hid hs; have Hg := Lib.hid g; have Hg2 := Lib.hid g2; have Hn := Lib.hid hn; have Hns := Lib.hid hns; clear h hs g g2 hn hns
    go_enter Try.func24, Try.ntmps24
    go_wp2_with fail
    go_loopw [15] (fun i wr => ∃ k : Nat, k ≤ n ∧ i = .int .i64 k ∧ (∀ j x y, j < k → l[j]? = some x → s[j]? = some y → x.1 = y.1) ∧ ∃ q, wr = w.drewN q) (fun i _ => n - (intOf i).toNat)
    case atStart => exact ⟨0, Nat.zero_le _, rfl, fun j x y hj => by omega, 0, rfl⟩
    case round =>
      obtain ⟨k, hk, rfl, hall, q1, rfl⟩ := hrel
      by_cases hlt : k < n
      · have hkl : k < l.length := by have := Hn.out; omega
        have hks : k < s.length := by have := Hns.out; omega
        obtain ⟨b, off, u, rfl, d0, d1, hsx, hu⟩ := Hg.out k hkl
        obtain ⟨b2, off2, rfl, c0, c1, hs1, hs2⟩ := Hg2.out k _ (List.getElem?_eq_getElem hks)
        have hall2 : l[k].1 = s[k].1 → ∀ j x y, j < k + 1 → l[j]? = some x → s[j]? = some y → x.1 = y.1 := fun he j x y hj hx hy => by
          by_cases e : j = k
          · subst e
            rw [List.getElem?_eq_getElem hkl] at hx
            rw [List.getElem?_eq_getElem hks] at hy
            cases hx; cases hy; exact he
          · exact hall j x y (by omega) hx hy
        obtain ⟨x, hx⟩ : ∃ x, x = l[k] := ⟨_, rfl⟩
        rw [← hx] at d0 hu hsx hall2
        obtain ⟨y, hy⟩ : ∃ x, x = s[k] := ⟨_, rfl⟩
        rw [← hy] at c0 c1 hs1 hs2 hall2
        obtain ⟨ua, uc, rfl, hz2, g3⟩ := strs_open hu
        obtain ⟨m, hm⟩ : ∃ m, m = x.2.length := ⟨_, rfl⟩
        rw [← hm] at d1 hu hz2
        obtain ⟨t, ht⟩ : ∃ s, s = x.1 := ⟨_, rfl⟩
        rw [← ht] at d0 hsx hall2
        obtain ⟨y0, hy0⟩ : ∃ s, s = y.1 := ⟨_, rfl⟩
        obtain ⟨y1, hy1⟩ : ∃ s, s = y.2 := ⟨_, rfl⟩
        rw [← hy0] at c0 hs1 hall2
        rw [← hy1] at c1 hs2
        have k5 : (0 : Int) ≤ (k : Int) := by omega
        have k6 : (k : Int) < (n : Int) := by omega
        clear hall
        have Hu := Lib.hid hu; have Hg3 := Lib.hid g3; have Hm := Lib.hid hm; have Ht := Lib.hid ht; have Hx := Lib.hid hx; have Hy := Lib.hid hy; have Hy0 := Lib.hid hy0; have Hy1 := Lib.hid hy1; have Hall2 := Lib.hid hall2; clear hu g3 hm ht hx hy hy0 hy1 hall2
        go_wp2_with fail
        go_loopw [6, 24] (fun o j wr => ∃ (i : Nat) (f : Bool), i ≤ m ∧ j = .int .i64 i ∧ o = .bool f ∧ ∃ q, wr = w.drewN q) (fun _ j _ => m - (intOf j).toNat)
        case atStart => exact ⟨0, false, Nat.zero_le _, rfl, rfl, q1, rfl⟩
        case round =>
          obtain ⟨i, f, hi, rfl, rfl, q2, rfl⟩ := hrel
          by_cases hlt2 : i < m
          · have hil : i < x.2.length := by have := Hm.out; omega
            obtain ⟨b3, off3, rfl, d2, hys⟩ := Hg3.out i hil
            obtain ⟨z, hz3⟩ : ∃ z, z = x.2[i] := ⟨_, rfl⟩
            rw [← hz3] at d2 hys
            obtain ⟨p, hp⟩ : ∃ p, p = (z.toList == y1.toList) := ⟨_, rfl⟩
            have hpe := hp.symm
            have k7 : (0 : Int) ≤ (i : Int) := by omega
            have k8 : (i : Int) < (m : Int) := by omega
            have Hp := Lib.hid hp; have Hz3 := Lib.hid hz3; clear hp hz3
            cases f with
            | true =>
              go_wp2_with fail
              go_region
              go_wp2_with fail
              go_roundw
              case rel => exact ⟨i + 1, true, by omega, by go_num, rfl, _, rfl⟩
              case measure => simp [intOf]; omega
            | false =>
              go_wp2_with fail
              go_region
              go_wp2_with fail
              go_roundw
              case rel => exact ⟨i + 1, p, by omega, by go_num, by first | rfl | (rw [← hpe]), _, rfl⟩
              case measure => simp [intOf]; omega
          · obtain rfl : m = i := by omega
            obtain ⟨p, hp⟩ : ∃ p, p = (t.toList == y0.toList) := ⟨_, rfl⟩
            have hpe := hp.symm
            cases p with
            | false =>
              have Hp := Lib.hid hp; clear hp
              go_wp2_with fail
              go_region
              go_wp2_with fail
              go_ret
              exact ⟨⟨false, rfl, fun h => by cases h⟩, _, rfl⟩
            | true =>
              have he : t = y0 := by rw [bytes_dec] at hp; exact of_decide_eq_true hp.symm
              have hnx := Hall2.out he
              cases f with
              | false =>
                have Hp := Lib.hid hp; have He := Lib.hid he; have Hnx := Lib.hid hnx; clear hp he hnx
                go_wp2_with fail
                go_region
                go_wp2_with fail
                go_ret
                exact ⟨⟨false, rfl, fun h => by cases h⟩, _, rfl⟩
              | true =>
                have Hp := Lib.hid hp; have He := Lib.hid he; have Hnx := Lib.hid hnx; clear hp he hnx
                go_wp2_with fail
                go_region
                go_wp2_with fail
                go_roundw
                case rel => exact ⟨k + 1, by omega, by go_num, Hnx.out, _, rfl⟩
                case measure => simp [intOf]; omega
      · obtain rfl : n = k := by omega
        have hfin : NamesIs l s := ⟨by rw [← Hn.out, ← Hns.out], fun k x y hx hy => hall k x y (by have := (List.getElem?_eq_some_iff.1 hx).1; have := Hn.out; omega) hx hy⟩
        have Hall := Lib.hid hall; have Hfin := Lib.hid hfin; clear hall hfin
        go_wp2_with fail
        go_ret
        exact ⟨⟨true, rfl, fun _ => Hfin.out⟩, _, rfl⟩
  · have e1 : ((n : Int) == (ns : Int)) = false := by rw [beq_eq_false_iff_ne]; omega
    have e2 : ((n : Int) != (ns : Int)) = true := by simp; omega
    clear hsz
    have Hh := Lib.hid h; have Hs := Lib.hid hs; have Hg := Lib.hid g; have Hg2 := Lib.hid g2; have Hn := Lib.hid hn; have Hns := Lib.hid hns; have Hlen := Lib.hid hlen; clear h hs g g2 hn hns hlen
    go_enter Try.func24, Try.ntmps24
    go_wp2_with fail
    go_ret
    exact ⟨⟨false, rfl, fun h => by cases h⟩, 0, rfl⟩
end Go.Proofs.Ytnelgellbabkoaa

/- Plain facts for the law VariantBoth. -/
namespace Go.Proofs.Ytnelgellbabkoaa
open Go.RowKit Go.Shelf VarM SortM BothP

theorem isSet_eq (x z : Setg) : isSet x z = true ↔ x = z := by
  unfold isSet
  simp only [Bool.and_eq_true, decide_eq_true_eq]
  exact Prod.ext_iff.symm
theorem meets_iff {s w : List Setg} : meetsOf s w = true ↔ ∀ x ∈ w, x ∈ s := by
  unfold meetsOf
  simp only [List.all_eq_true, List.any_eq_true, isSet_eq]
  exact ⟨fun h x hx => by obtain ⟨y, hy, e⟩ := h x hx; exact e ▸ hy, fun h x hx => ⟨x, h x hx, rfl⟩⟩
theorem meets_both (s a b : List Setg) : meetsOf s (bothOf a b) = (meetsOf s a && meetsOf s b) := by
  refine Bool.eq_iff_iff.2 ?_
  rw [Bool.and_eq_true, meets_iff, meets_iff, meets_iff]
  exact ⟨fun h => ⟨fun x hx => h x ((mem_both x).2 (.inl hx)), fun x hx => h x ((mem_both x).2 (.inr hx))⟩, fun h x hx => by
    rcases (mem_both x).1 hx with hx | hx
    · exact h.1 x hx
    · exact h.2 x hx⟩
def partOk (x : Setg) : Bool := nameOf x.1.data.toList && valueOf x.2.data.toList
theorem wish_at {l : List Setg} (h : wishIs l = true) (i : Nat) (hi : i < l.length) : partOk l[i] = true ∧ (0 < i → ltN (l[i - 1]'(by omega)) l[i] = true) := by
  unfold wishIs at h
  rw [List.all_eq_true] at h
  have h1 := h i (List.mem_range.2 hi)
  rw [wishAt_eq hi, Bool.and_eq_true] at h1
  refine ⟨h1.1, fun h0 => ?_⟩
  have h2 := h1.2
  rw [decide_eq_false (by omega), Bool.false_or] at h2
  have e : l.getD (i - 1) (⟨#[]⟩, ⟨#[]⟩) = l[i - 1]'(by omega) := by
    rw [List.getD_eq_getElem?_getD, List.getElem?_eq_getElem (by omega)]; rfl
  rw [e] at h2
  exact h2
theorem wish_mem {l : List Setg} (h : wishIs l = true) : ∀ x ∈ l, partOk x = true := fun x hx => by
  obtain ⟨i, hi, rfl⟩ := List.getElem_of_mem hx
  exact (wish_at h i hi).1
theorem wish_str {l : List Setg} (h : wishIs l = true) : Str l := by
  refine List.pairwise_iff_getElem.2 fun i j hi hj hij => ?_
  have key : ∀ d, (hd : i + d + 1 < l.length) → ltN l[i] l[i + d + 1] = true := by
    intro d
    induction d with
    | zero => intro hd; exact (wish_at h (i + 1) hd).2 (by omega)
    | succ d ih =>
      intro hd
      exact ltN_trans (ih (by omega)) ((wish_at h (i + (d + 1) + 1) hd).2 (by omega))
  obtain ⟨d, rfl⟩ : ∃ d, j = i + d + 1 := ⟨j - i - 1, by omega⟩
  exact key d hj
theorem wish_of {l : List Setg} (h : Str l) (hp : ∀ x ∈ l, partOk x = true) : wishIs l = true := by
  refine wishIs_yes fun i hi => ?_
  rw [wishAt_eq hi]
  have h1 := hp l[i] (List.getElem_mem hi)
  unfold partOk at h1
  rw [h1, Bool.true_and]
  by_cases h0 : i = 0
  · rw [decide_eq_true h0]; rfl
  · rw [decide_eq_false h0, Bool.false_or]
    have e : l.getD (i - 1) (⟨#[]⟩, ⟨#[]⟩) = l[i - 1]'(by omega) := by
      rw [List.getD_eq_getElem?_getD, List.getElem?_eq_getElem (by omega)]; rfl
    rw [e]
    exact List.pairwise_iff_getElem.1 h (i - 1) i (by omega) hi (by omega)
theorem both_wish {a b : List Setg} (ha : wishIs a = true) (hb : wishIs b = true) : wishIs (bothOf a b) = !twoOf a b := by
  cases h : twoOf a b
  · exact wish_of (both_str (wish_str ha) (wish_str hb) h) fun x hx => by
      rcases (mem_both x).1 hx with hx | hx
      · exact wish_mem ha x hx
      · exact wish_mem hb x hx
  · cases e : wishIs (bothOf a b)
    · rfl
    · exact absurd (wish_str e) (both_not h)
theorem both_is {a b : List Setg} (ha : wishIs a = true) (hb : wishIs b = true) : bothIs a b = !twoOf a b := by
  unfold bothIs
  rw [ha, hb, both_wish ha hb]
  rfl
theorem two_none {a b : List Setg} {l : List Var} {s : List Setg} (h : twoOf a b = true) (hm : mayOf l = true) (hn : NamesIs l s) (h1 : meetsOf s a = true) (h2 : meetsOf s b = true) : False := by
  obtain ⟨x, hx, y, hy, e1, e2⟩ := two_true.1 h
  obtain ⟨i, hi, hxi⟩ := List.getElem_of_mem (meets_iff.1 h1 x hx)
  obtain ⟨j, hj, hyj⟩ := List.getElem_of_mem (meets_iff.1 h2 y hy)
  unfold mayOf at hm
  simp only [Bool.and_eq_true, decide_eq_true_eq] at hm
  have hnd := hm.2.2
  have hij : i ≠ j := fun e => by
    subst e
    rw [hxi] at hyj
    exact e2 (by rw [hyj])
  have hil : i < l.length := by rw [hn.1]; exact hi
  have hjl : j < l.length := by rw [hn.1]; exact hj
  have g1 := hn.2 i _ _ (List.getElem?_eq_getElem hil) (List.getElem?_eq_getElem hi)
  have g2 := hn.2 j _ _ (List.getElem?_eq_getElem hjl) (List.getElem?_eq_getElem hj)
  rw [hxi] at g1
  rw [hyj] at g2
  have g3 : l[i].1 = l[j].1 := by rw [g1, g2, e1]
  have hd := List.pairwise_iff_getElem.1 hnd
  rcases Nat.lt_or_gt_of_ne hij with h | h
  · exact hd i j (by simpa using hil) (by simpa using hjl) h (by simpa using g3)
  · exact hd j i (by simpa using hjl) (by simpa using hil) h (by simpa using g3.symm)
end Go.Proofs.Ytnelgellbabkoaa

/- The walks of cooperref01.Great and cooperref04.GreatVariants: a bound. No condition. -/
namespace Go.Proofs.Ytnelgellbabkoaa
open Go.RowKit Go.Shelf

set_option maxRecDepth 10000 in
set_option maxHeartbeats 1000000 in
theorem great01_any {w : World} {v : Value} {l : List ByteArray} (h : RSs w [v] l) : Calls Try.prog 66 #[v] w fun e w' => (∃ r, e = .returned (.bool r)) ∧ w = w' := by
  obtain ⟨a, cap, rfl, hz, g⟩ := strs_open h
  obtain ⟨n, hn⟩ : ∃ n, n = l.length := ⟨_, rfl⟩
  rw [← hn] at hz h ⊢
  have Hh := Lib.hid h; have Hg := Lib.hid g; have Hn := Lib.hid hn; clear h g hn
  go_enter Try.func66, Try.ntmps66
  go_wp2_with fail
  go_loopw [3, 7] (fun o i wr => ∃ k c : Nat, k ≤ n ∧ i = .int .i64 k ∧ o = .int .i64 c ∧ c ≤ 9000 ∧ w = wr) (fun _ i _ => n - (intOf i).toNat)
  case atStart => exact ⟨0, 0, Nat.zero_le _, rfl, rfl, by omega, rfl⟩
  case round =>
    obtain ⟨k, c, hk, rfl, rfl, hc, rfl⟩ := hrel
    by_cases hlt : k < n
    · have hkl : k < l.length := by have := Hn.out; omega
      obtain ⟨b, off, rfl, d0, hsx⟩ := Hg.out k hkl
      obtain ⟨x, hx⟩ : ∃ x, x = l[k] := ⟨_, rfl⟩
      rw [← hx] at d0 hsx
      obtain ⟨q, hq⟩ : ∃ q, q = min x.size 9000 := ⟨_, rfl⟩
      have hq9 : q ≤ 9000 := by omega
      have k5 : (0 : Int) ≤ (k : Int) := by omega
      have k6 : (k : Int) < (n : Int) := by omega
      clear hx hkl
      by_cases hbig : 9000 < c + (1 + q)
      · have k7 : decide ((9000 : Int) < (c : Int) + (1 + (q : Int))) = true := by simp; omega
        go_wp2_with fail
        go_ret
        exact ⟨⟨_, rfl⟩, rfl⟩
      · have k7 : decide ((9000 : Int) < (c : Int) + (1 + (q : Int))) = false := by simp; omega
        go_wp2_with fail
        go_roundw
        case rel => exact ⟨k + 1, c + (1 + q), by omega, by go_num, by rw [show (c : Int) + (1 + min (x.size : Int) 9000) = ((c + (1 + q) : Nat) : Int) by omega], by omega, by first | rfl | trivial⟩
        case measure => simp [intOf]; omega
    · obtain rfl : k = n := by omega
      go_wp2_with fail
      go_ret
      exact ⟨⟨_, rfl⟩, rfl⟩
set_option maxRecDepth 10000 in
set_option maxHeartbeats 1000000 in
theorem greatVars_any {w : World} {v : Value} {l : List Var} (h : RVars w [v] l) : Calls Try.prog 21 #[v] w fun e w' => (∃ r, e = .returned (.bool r) ∧ (r = false → l.length ≤ 20 ∧ ∀ x ∈ l, x.2.length ≤ 20)) ∧ w = w' := by
  obtain ⟨a, cap, rfl, hz, g⟩ := vars_open h
  obtain ⟨n, hn⟩ : ∃ n, n = l.length := ⟨_, rfl⟩
  rw [← hn] at hz h ⊢
  have Hh := Lib.hid h; have Hg := Lib.hid g; have Hn := Lib.hid hn; clear h g hn
  go_enter Try.func21, Try.ntmps21
  by_cases h20 : 20 < n
  · have k1 : decide ((20 : Int) < (n : Int)) = true := by simp; omega
    go_wp2_with fail
    go_ret
    exact ⟨⟨true, rfl, fun h => by cases h⟩, rfl⟩
  · have k1 : decide ((20 : Int) < (n : Int)) = false := by simp; omega
    have h20' : n ≤ 20 := by omega
    go_wp2_with fail
    clear k1 h20
    go_loopw [9] (fun i wr => ∃ k : Nat, k ≤ n ∧ i = .int .i64 k ∧ (∀ x ∈ l.take k, x.2.length ≤ 20) ∧ w = wr) (fun i _ => n - (intOf i).toNat)
    case atStart => exact ⟨0, Nat.zero_le _, rfl, by simp, rfl⟩
    case round =>
      obtain ⟨k, hk, rfl, hall, rfl⟩ := hrel
      by_cases hlt : k < n
      · have hkl : k < l.length := by have := Hn.out; omega
        obtain ⟨b, off, u, rfl, d0, d1, hsx, hu⟩ := Hg.out k hkl
        obtain ⟨x, hx⟩ : ∃ x, x = l[k] := ⟨_, rfl⟩
        rw [← hx] at d0 hu hsx
        obtain ⟨ua, uc, rfl, hz2, _⟩ := strs_open hu
        have hG := great01_any hu
        obtain ⟨m, hm⟩ : ∃ m, m = x.2.length := ⟨_, rfl⟩
        rw [← hm] at d1 hu hz2 hG
        have hnext : m ≤ 20 → ∀ y ∈ l.take (k + 1), y.2.length ≤ 20 := fun h y hy => by
          rw [List.take_succ_eq_append_getElem hkl, ← hx] at hy
          rcases List.mem_append.1 hy with hy | hy
          · exact hall y hy
          · simp at hy; subst hy; omega
        obtain ⟨s, hs⟩ : ∃ s, s = x.1 := ⟨_, rfl⟩
        rw [← hs] at d0 hsx
        have k5 : (0 : Int) ≤ (k : Int) := by omega
        have k6 : (k : Int) < (n : Int) := by omega
        clear hx hkl
        have Hall := Lib.hid hall; have Hu := Lib.hid hu; have HG := Lib.hid hG; have Hm := Lib.hid hm; have Hs := Lib.hid hs; have Hnext := Lib.hid hnext; clear hall hu hG hm hs hnext
        by_cases h100 : 100 < s.size
        · have k7 : decide ((100 : Int) < (s.size : Int)) = true := by simp; omega
          go_wp2_with fail
          go_ret
          exact ⟨⟨true, rfl, fun h => by cases h⟩, rfl⟩
        · have k7 : decide ((100 : Int) < (s.size : Int)) = false := by simp; omega
          by_cases hm20 : 20 < m
          · have k8 : decide ((20 : Int) < (m : Int)) = true := by simp; omega
            go_wp2_with fail
            go_ret
            exact ⟨⟨true, rfl, fun h => by cases h⟩, rfl⟩
          · have k8 : decide ((20 : Int) < (m : Int)) = false := by simp; omega
            have hnx := Hnext.out (by omega)
            have Hnx := Lib.hid hnx; clear hnx
            go_wp2_with fail
            refine HG.out.mono ?_
            rintro e w1 ⟨⟨r, rfl⟩, rfl⟩
            cases r with
            | true =>
              go_wp2_with fail
              go_ret
              exact ⟨⟨true, rfl, fun h => by cases h⟩, rfl⟩
            | false =>
              go_wp2_with fail
              go_roundw
              case rel => exact ⟨k + 1, by omega, by go_num, Hnx.out, by first | rfl | trivial⟩
              case measure => simp [intOf]; omega
      · obtain rfl : k = n := by omega
        have e : l.take k = l := List.take_of_length_le (by have := Hn.out; omega)
        rw [e] at hall
        have hfin : k ≤ 20 ∧ ∀ x ∈ l, x.2.length ≤ 20 := ⟨h20', hall⟩
        clear e hall
        have Hfin := Lib.hid hfin; clear hfin
        go_wp2_with fail
        go_ret
        exact ⟨⟨false, rfl, fun _ => Hfin.out⟩, rfl⟩
end Go.Proofs.Ytnelgellbabkoaa

/- The walk of the law VariantBoth: it returns true. Printed by gen_bothlaw.py. -/
namespace Go.Proofs.Ytnelgellbabkoaa
open Go.RowKit Go.Shelf VarM BothP
attribute [local go_sem ↓] Go.wp_at_zero Go.wp_at_succ

theorem calls_bel {P : Program} {f : FuncId} {args : Array Value} {W : World} {v : Ending} (h : Calls P f args W fun e w' => e = v ∧ ∃ q, w' = W.drewN q) : Calls P f args W fun e w' => e = v ∧ Below W.heap.size W w' :=
  h.mono fun _ _ ⟨he, q, hq⟩ => ⟨he, by rw [hq]; exact bel_drewN (Below.refl _ _) q⟩
def Pt (x y : Setg) : Bool := decide (x.1 = y.1) && !decide (x.2 = y.2)
theorem two_any (a b : List Setg) : twoOf a b = a.any fun x => b.any (Pt x) := rfl
theorem anyP_succ {α : Type} (p : α → Bool) {l : List α} {k : Nat} (h : k < l.length) : (l.take (k + 1)).any p = ((l.take k).any p || p l[k]) := by
  rw [List.take_succ_eq_append_getElem h, List.any_append]; simp
def LawPost (w : World) (e : Ending) (w' : World) : Prop := e = .returned (.bool true) ∧ Below w.heap.size w w'
set_option maxRecDepth 10000 in
set_option maxHeartbeats 8000000 in
theorem variantBoth_true {w : World} {u v t m : Value} {a b s : List Setg} {l : List Var} (ha : RSets w [u] a) (hb : RSets w [v] b) (hs : RSets w [t] s) (hl : RVars w [m] l) :
    Calls Try.prog 12 #[u, v, t, m] w (LawPost w) := by
  have St := fun (W : World) (hw : Below w.heap.size w W) => (⟨stays_slice stays_set _ _ _ _ ha hw, stays_slice stays_set _ _ _ _ hb hw, stays_slice stays_set _ _ _ _ hs hw⟩ : RSets W [u] a ∧ RSets W [v] b ∧ RSets W [t] s)
  have StV := fun (W : World) (hw : Below w.heap.size w W) => stays_slice stays_var _ _ _ _ hl hw
  have hF := fun W (_ : Below w.heap.size w W) => fixed04 W
  have hGa := fun W (hw : Below w.heap.size w W) => greatSets_any (St W hw).1
  have hGb := fun W (hw : Below w.heap.size w W) => greatSets_any (St W hw).2.1
  have hGs := fun W (hw : Below w.heap.size w W) => greatSets_any (St W hw).2.2
  have hGl := fun W (hw : Below w.heap.size w W) => greatVars_any (StV W hw)
  have hWa := fun W (hw : Below w.heap.size w W) => wish04_any (St W hw).1
  have hRa := fun W (hw : Below w.heap.size w W) => calls_bel (wishRef_is (St W hw).1)
  have hRb := fun W (hw : Below w.heap.size w W) => calls_bel (wishRef_is (St W hw).2.1)
  have hMa := fun W (hw : Below w.heap.size w W) => meetsRef_any (St W hw).2.2 (St W hw).1
  have hMb := fun W (hw : Below w.heap.size w W) => meetsRef_any (St W hw).2.2 (St W hw).2.1
  have hVa := fun W (hw : Below w.heap.size w W) => meets_any (St W hw).2.2 (St W hw).1
  have hMay := fun W (hw : Below w.heap.size w W) => calls_bel (mayRef_any (StV W hw))
  have hLeg := fun W (hw : Below w.heap.size w W) => legal_any (StV W hw) (St W hw).2.2
  obtain ⟨wa, hwa⟩ : ∃ c, c = wishIs a := ⟨_, rfl⟩
  obtain ⟨wb, hwb⟩ : ∃ c, c = wishIs b := ⟨_, rfl⟩
  obtain ⟨ma, hma⟩ : ∃ c, c = meetsOf s a := ⟨_, rfl⟩
  obtain ⟨mb, hmb⟩ : ∃ c, c = meetsOf s b := ⟨_, rfl⟩
  obtain ⟨my, hmy⟩ : ∃ c, c = mayOf l := ⟨_, rfl⟩
  rw [← hwa] at hWa hRa
  rw [← hwb] at hRb
  rw [← hma] at hMa hVa
  rw [← hmb] at hMb
  rw [← hmy] at hMay
  obtain ⟨au, cu, eu⟩ := sets_shape ha
  obtain ⟨av, cv, ev⟩ := sets_shape hb
  obtain ⟨at_, ct, et⟩ := sets_shape hs
  obtain ⟨na, hna⟩ : ∃ n, n = a.length := ⟨_, rfl⟩
  obtain ⟨nb, hnb⟩ : ∃ n, n = b.length := ⟨_, rfl⟩
  obtain ⟨ns, hns⟩ : ∃ n, n = s.length := ⟨_, rfl⟩
  rw [← hna] at eu
  rw [← hnb] at ev
  rw [← hns] at et
  subst eu ev et
  have gA : ∀ (i : Nat) (x : Setg), a[i]? = some x → ∃ b off, au = some ⟨b, off, none⟩ ∧ w.cell? ⟨b, off + i * 2, none⟩ = some (.string x.1) ∧ w.cell? ⟨b, off + i * 2 + 1, none⟩ = some (.string x.2) := fun i x hi => by
    obtain ⟨a', c', e, _, g⟩ := sets_open ha
    injection e with e1 _ _
    subst e1
    obtain ⟨b, off, h1, h2, h3, _⟩ := g i x hi
    exact ⟨b, off, h1, h2, h3⟩
  have gB : ∀ (i : Nat) (x : Setg), b[i]? = some x → ∃ b off, av = some ⟨b, off, none⟩ ∧ w.cell? ⟨b, off + i * 2, none⟩ = some (.string x.1) ∧ w.cell? ⟨b, off + i * 2 + 1, none⟩ = some (.string x.2) := fun i x hi => by
    obtain ⟨a', c', e, _, g⟩ := sets_open hb
    injection e with e1 _ _
    subst e1
    obtain ⟨b, off, h1, h2, h3, _⟩ := g i x hi
    exact ⟨b, off, h1, h2, h3⟩
  have hba := fun W (hw : Below w.heap.size w W) h1 h2 => both_any (St W hw).1 (St W hw).2.1 h1 h2
  have hbb := fun W (hw : Below w.heap.size w W) h1 h2 => both_any (St W hw).2.1 (St W hw).1 h1 h2
  have hw0 : Below w.heap.size w w := Below.refl _ _
  have Ha := Lib.hid ha; have Hb := Lib.hid hb; have Hs := Lib.hid hs; have Hl := Lib.hid hl; have HSt := Lib.hid St; have HStV := Lib.hid StV; have HF := Lib.hid hF; have HGa := Lib.hid hGa; have HGb := Lib.hid hGb; have HGs := Lib.hid hGs; have HGl := Lib.hid hGl; have HWa := Lib.hid hWa; have HRa := Lib.hid hRa; have HRb := Lib.hid hRb; have HMa := Lib.hid hMa; have HMb := Lib.hid hMb; have HVa := Lib.hid hVa; have HMay := Lib.hid hMay; have HLeg := Lib.hid hLeg; have Hwa := Lib.hid hwa; have Hwb := Lib.hid hwb; have Hma := Lib.hid hma; have Hmb := Lib.hid hmb; have Hmy := Lib.hid hmy; have Hna := Lib.hid hna; have Hnb := Lib.hid hnb; have Hns := Lib.hid hns; have HgA := Lib.hid gA; have HgB := Lib.hid gB; have Hba := Lib.hid hba; have Hbb := Lib.hid hbb; have Hw0 := Lib.hid hw0; clear ha hb hs hl St StV hF hGa hGb hGs hGl hWa hRa hRb hMa hMb hVa hMay hLeg hwa hwb hma hmb hmy hna hnb hns gA gB hba hbb hw0
  go_enter Try.func12, Try.ntmps12
  go_wp2_with fail
  refine (HGa.out _ Hw0.out).mono ?_
  rintro e w_ ⟨⟨r, rfl, hla⟩, rfl⟩
  cases r with
  | true =>
    have Hla := Lib.hid hla; clear hla
    go_wp2_with fail
    refine (HF.out _ Hw0.out).mono ?_
    rintro e w1 ⟨rfl, hxb1⟩
    have hb1 := Hw0.out.trans (hxb1.mono Hw0.out.size)
    have Hxb1 := Lib.hid hxb1; have Hb1 := Lib.hid hb1; clear hxb1 hb1
    go_wp2_with fail
    go_ret
    exact ⟨rfl, Hb1.out⟩
  | false =>
    have hla := hla rfl
    have Hla := Lib.hid hla; clear hla
    go_wp2_with fail
    refine (HGb.out _ Hw0.out).mono ?_
    rintro e w_ ⟨⟨r, rfl, hlb⟩, rfl⟩
    cases r with
    | true =>
      have Hlb := Lib.hid hlb; clear hlb
      go_wp2_with fail
      refine (HF.out _ Hw0.out).mono ?_
      rintro e w2 ⟨rfl, hxb2⟩
      have hb2 := Hw0.out.trans (hxb2.mono Hw0.out.size)
      have Hxb2 := Lib.hid hxb2; have Hb2 := Lib.hid hb2; clear hxb2 hb2
      go_wp2_with fail
      go_ret
      exact ⟨rfl, Hb2.out⟩
    | false =>
      have hlb := hlb rfl
      have Hlb := Lib.hid hlb; clear hlb
      go_wp2_with fail
      refine (HGs.out _ Hw0.out).mono ?_
      rintro e w_ ⟨⟨r, rfl, hls⟩, rfl⟩
      cases r with
      | true =>
        have Hls := Lib.hid hls; clear hls
        go_wp2_with fail
        refine (HF.out _ Hw0.out).mono ?_
        rintro e w3 ⟨rfl, hxb3⟩
        have hb3 := Hw0.out.trans (hxb3.mono Hw0.out.size)
        have Hxb3 := Lib.hid hxb3; have Hb3 := Lib.hid hb3; clear hxb3 hb3
        go_wp2_with fail
        go_ret
        exact ⟨rfl, Hb3.out⟩
      | false =>
        have hls := hls rfl
        have Hls := Lib.hid hls; clear hls
        go_wp2_with fail
        refine (HGl.out _ Hw0.out).mono ?_
        rintro e w_ ⟨⟨r, rfl, hlv⟩, rfl⟩
        cases r with
        | true =>
          have Hlv := Lib.hid hlv; clear hlv
          go_wp2_with fail
          refine (HF.out _ Hw0.out).mono ?_
          rintro e w4 ⟨rfl, hxb4⟩
          have hb4 := Hw0.out.trans (hxb4.mono Hw0.out.size)
          have Hxb4 := Lib.hid hxb4; have Hb4 := Lib.hid hb4; clear hxb4 hb4
          go_wp2_with fail
          go_ret
          exact ⟨rfl, Hb4.out⟩
        | false =>
          have hlv := hlv rfl
          have Hlv := Lib.hid hlv; clear hlv
          go_wp2_with fail
          have qa : (wa == wa) = true := by simp
          have qa' : (wa != wa) = false := by simp
          have qm : (ma == ma) = true := by simp
          have qm' : (ma != ma) = false := by simp
          refine (HWa.out _ Hw0.out).mono ?_
          rintro e w5 ⟨rfl, hxb5⟩
          have hb5 := Hw0.out.trans (hxb5.mono Hw0.out.size)
          have Hxb5 := Lib.hid hxb5; have Hb5 := Lib.hid hb5; clear hxb5 hb5
          go_wp2_with fail
          refine (HRa.out _ Hb5.out).mono ?_
          rintro e w6 ⟨rfl, hxb6⟩
          have hb6 := Hb5.out.trans (hxb6.mono Hb5.out.size)
          have Hxb6 := Lib.hid hxb6; have Hb6 := Lib.hid hb6; clear hxb6 hb6
          go_wp2_with fail
          refine (HVa.out _ Hb6.out).mono ?_
          rintro e w7 ⟨rfl, hxb7⟩
          have hb7 := Hb6.out.trans (hxb7.mono Hb6.out.size)
          have Hxb7 := Lib.hid hxb7; have Hb7 := Lib.hid hb7; clear hxb7 hb7
          go_wp2_with fail
          refine (HMa.out _ Hb7.out).mono ?_
          rintro e w8 ⟨rfl, hxb8⟩
          have hb8 := Hb7.out.trans (hxb8.mono Hb7.out.size)
          have Hxb8 := Lib.hid hxb8; have Hb8 := Lib.hid hb8; clear hxb8 hb8
          go_wp2_with fail
          clear qa qa' qm qm'
          refine (Hba.out _ Hb8.out (by have := Hla.out; omega) (by have := Hlb.out; omega)).mono ?_
          rintro e w9 ⟨hxb9, hpb9⟩
          have hb9 := Hb8.out.trans (hxb9.mono Hb8.out.size)
          cases wa with
          | false =>
            have hz : e = .returned (.tuple #[.slice none 0 0, .bool false]) := by
              rcases hpb9 with ⟨h1, _⟩ | ⟨_, h2⟩
              · unfold bothIs at h1
                rw [← Hwa.out] at h1
                simp at h1
              · exact h2
            subst hz
            clear hpb9
            have Hxb9 := Lib.hid hxb9; have Hb9 := Lib.hid hb9; clear hxb9 hb9
            go_wp2_with fail
            refine (HRa.out _ Hb9.out).mono ?_
            rintro e w10 ⟨rfl, hxb10⟩
            have hb10 := Hb9.out.trans (hxb10.mono Hb9.out.size)
            have Hxb10 := Lib.hid hxb10; have Hb10 := Lib.hid hb10; clear hxb10 hb10
            go_wp2_with fail
            refine (HF.out _ Hb10.out).mono ?_
            rintro e w11 ⟨rfl, hxb11⟩
            have hb11 := Hb10.out.trans (hxb11.mono Hb10.out.size)
            have Hxb11 := Lib.hid hxb11; have Hb11 := Lib.hid hb11; clear hxb11 hb11
            go_wp2_with fail
            go_ret
            exact ⟨rfl, Hb11.out⟩
          | true =>
            cases wb with
            | false =>
              have hz : e = .returned (.tuple #[.slice none 0 0, .bool false]) := by
                rcases hpb9 with ⟨h1, _⟩ | ⟨_, h2⟩
                · unfold bothIs at h1
                  rw [← Hwb.out] at h1
                  simp at h1
                · exact h2
              subst hz
              clear hpb9
              have Hxb9 := Lib.hid hxb9; have Hb9 := Lib.hid hb9; clear hxb9 hb9
              go_wp2_with fail
              refine (HRa.out _ Hb9.out).mono ?_
              rintro e w12 ⟨rfl, hxb12⟩
              have hb12 := Hb9.out.trans (hxb12.mono Hb9.out.size)
              have Hxb12 := Lib.hid hxb12; have Hb12 := Lib.hid hb12; clear hxb12 hb12
              go_wp2_with fail
              refine (HRb.out _ Hb12.out).mono ?_
              rintro e w13 ⟨rfl, hxb13⟩
              have hb13 := Hb12.out.trans (hxb13.mono Hb12.out.size)
              have Hxb13 := Lib.hid hxb13; have Hb13 := Lib.hid hb13; clear hxb13 hb13
              go_wp2_with fail
              refine (HF.out _ Hb13.out).mono ?_
              rintro e w14 ⟨rfl, hxb14⟩
              have hb14 := Hb13.out.trans (hxb14.mono Hb13.out.size)
              have Hxb14 := Lib.hid hxb14; have Hb14 := Lib.hid hb14; clear hxb14 hb14
              go_wp2_with fail
              go_ret
              exact ⟨rfl, Hb14.out⟩
            | true =>
              have hia := both_is Hwa.out.symm Hwb.out.symm
              have hib := both_is Hwb.out.symm Hwa.out.symm
              rw [two_comm b a] at hib
              obtain ⟨tw, htw⟩ : ∃ c, c = twoOf a b := ⟨_, rfl⟩
              rw [← htw] at hia hib
              cases tw with
              | false =>
                -- both are met together
                have hcm := both_comm (wish_str Hwa.out.symm) (wish_str Hwb.out.symm) htw.symm
                have hwc : wishIs (bothOf a b) = true := by rw [both_wish Hwa.out.symm Hwb.out.symm, ← htw]; rfl
                obtain ⟨c, hc⟩ : ∃ c, c = bothOf a b := ⟨_, rfl⟩
                have hz : ∃ o, e = .returned (.tuple #[o, .bool true]) ∧ RSets w9 [o] c := by
                  rw [hc]
                  rcases hpb9 with ⟨_, h2⟩ | ⟨h1, _⟩
                  · exact h2
                  · rw [hia] at h1; cases h1
                obtain ⟨o, rfl, ho⟩ := hz
                have hc2 : bothOf b a = c := by rw [hc, hcm]
                obtain ⟨ao, co, rfl⟩ := sets_shape ho
                obtain ⟨nc, hnc⟩ : ∃ n, n = c.length := ⟨_, rfl⟩
                rw [← hnc] at ho ⊢
                clear hpb9
                have Hxb9 := Lib.hid hxb9; have Hb9 := Lib.hid hb9; have Hia := Lib.hid hia; have Hib := Lib.hid hib; have Htw := Lib.hid htw; have Hcm := Lib.hid hcm; have Hwc := Lib.hid hwc; have Hc := Lib.hid hc; have Hc2 := Lib.hid hc2; have Ho := Lib.hid ho; have Hnc := Lib.hid hnc; clear hxb9 hb9 hia hib htw hcm hwc hc hc2 ho hnc
                go_wp2_with fail
                refine (HRa.out _ Hb9.out).mono ?_
                rintro e w15 ⟨rfl, hxb15⟩
                have hb15 := Hb9.out.trans (hxb15.mono Hb9.out.size)
                have Hxb15 := Lib.hid hxb15; have Hb15 := Lib.hid hb15; clear hxb15 hb15
                go_wp2_with fail
                refine (HRb.out _ Hb15.out).mono ?_
                rintro e w16 ⟨rfl, hxb16⟩
                have hb16 := Hb15.out.trans (hxb16.mono Hb15.out.size)
                have Hxb16 := Lib.hid hxb16; have Hb16 := Lib.hid hb16; clear hxb16 hb16
                go_wp2_with fail
                refine (Hbb.out _ Hb16.out (by have := Hlb.out; omega) (by have := Hla.out; omega)).mono ?_
                rintro e w17 ⟨hxb17, hpb17⟩
                have hb17 := Hb16.out.trans (hxb17.mono Hb16.out.size)
                have hz : ∃ o, e = .returned (.tuple #[o, .bool true]) ∧ RSets w17 [o] c := by
                  rw [← Hc2.out]
                  rcases hpb17 with ⟨_, h2⟩ | ⟨h1, _⟩
                  · exact h2
                  · rw [Hib.out] at h1; cases h1
                obtain ⟨o2, rfl, ho2⟩ := hz
                obtain ⟨ao2, co2, rfl⟩ := sets_shape ho2
                rw [← Hnc.out] at ho2 ⊢
                clear hpb17
                have ho3 := stays_slice stays_set _ _ _ _ Ho.out (Hxb15.out.trans ((Hxb16.out.trans (hxb17.mono Hxb16.out.size)).mono Hxb15.out.size))
                have hSm := calls_bel (sameRef_any ho3 ho2)
                rw [decide_eq_true (rfl : c = c)] at hSm
                have Hxb17 := Lib.hid hxb17; have Hb17 := Lib.hid hb17; have Ho2 := Lib.hid ho2; have Ho3 := Lib.hid ho3; have HSm := Lib.hid hSm; clear hxb17 hb17 ho2 ho3 hSm
                go_wp2_with fail
                refine HSm.out.mono ?_
                rintro e w90 ⟨rfl, hx90⟩
                have h90 := Hb17.out.trans (hx90.mono Hb17.out.size)
                have Hx90 := Lib.hid hx90; have H90 := Lib.hid h90; clear hx90 h90
                go_wp2_with fail
                refine (HF.out _ H90.out).mono ?_
                rintro e w91 ⟨rfl, hx91⟩
                have h91 := H90.out.trans (hx91.mono H90.out.size)
                have ho4 := stays_slice stays_set _ _ _ _ Ho3.out (Hx90.out.trans (hx91.mono Hx90.out.size))
                have hWc := calls_bel (wishRef_is ho4)
                rw [Hc.out, Hwc.out] at hWc
                have Hx91 := Lib.hid hx91; have H91 := Lib.hid h91; have Ho4 := Lib.hid ho4; have HWc := Lib.hid hWc; clear hx91 h91 ho4 hWc
                go_wp2_with fail
                refine HWc.out.mono ?_
                rintro e w92 ⟨rfl, hx92⟩
                have h92 := H91.out.trans (hx92.mono H91.out.size)
                have ho5 := stays_slice stays_set _ _ _ _ Ho4.out hx92
                have hMc := meetsRef_any (HSt.out _ h92).2.2 ho5
                rw [Hc.out, meets_both, ← Hma.out, ← Hmb.out] at hMc
                have Hx92 := Lib.hid hx92; have H92 := Lib.hid h92; have Ho5 := Lib.hid ho5; have HMc := Lib.hid hMc; clear hx92 h92 ho5 hMc
                go_wp2_with fail
                refine HMc.out.mono ?_
                rintro e w93 ⟨rfl, hx93⟩
                have h93 := H92.out.trans (hx93.mono H92.out.size)
                have Hx93 := Lib.hid hx93; have H93 := Lib.hid h93; clear hx93 h93
                go_wp2_with fail
                refine (HMa.out _ H93.out).mono ?_
                rintro e w94 ⟨rfl, hx94⟩
                have h94 := H93.out.trans (hx94.mono H93.out.size)
                have Hx94 := Lib.hid hx94; have H94 := Lib.hid h94; clear hx94 h94
                cases ma with
                | false =>
                  go_wp2_with fail
                  go_ret
                  exact ⟨rfl, H94.out⟩
                | true =>
                  go_wp2_with fail
                  refine (HMb.out _ H94.out).mono ?_
                  rintro e w95 ⟨rfl, hx95⟩
                  have h95 := H94.out.trans (hx95.mono H94.out.size)
                  have Hx95 := Lib.hid hx95; have H95 := Lib.hid h95; clear hx95 h95
                  cases mb with
                  | false =>
                    go_wp2_with fail
                    go_ret
                    exact ⟨rfl, H95.out⟩
                  | true =>
                    go_wp2_with fail
                    go_ret
                    exact ⟨rfl, H95.out⟩
              | true =>
                have hz : e = .returned (.tuple #[.slice none 0 0, .bool false]) := by
                  rcases hpb9 with ⟨h1, _⟩ | ⟨_, h2⟩
                  · rw [hia] at h1; cases h1
                  · exact h2
                subst hz
                clear hpb9
                have Hxb9 := Lib.hid hxb9; have Hb9 := Lib.hid hb9; have Hia := Lib.hid hia; have Hib := Lib.hid hib; have Htw := Lib.hid htw; clear hxb9 hb9 hia hib htw
                go_wp2_with fail
                refine (HRa.out _ Hb9.out).mono ?_
                rintro e w18 ⟨rfl, hxb18⟩
                have hb18 := Hb9.out.trans (hxb18.mono Hb9.out.size)
                have Hxb18 := Lib.hid hxb18; have Hb18 := Lib.hid hb18; clear hxb18 hb18
                go_wp2_with fail
                refine (HRb.out _ Hb18.out).mono ?_
                rintro e w19 ⟨rfl, hxb19⟩
                have hb19 := Hb18.out.trans (hxb19.mono Hb18.out.size)
                have Hxb19 := Lib.hid hxb19; have Hb19 := Lib.hid hb19; clear hxb19 hb19
                go_wp2_with fail
                refine (Hbb.out _ Hb19.out (by have := Hlb.out; omega) (by have := Hla.out; omega)).mono ?_
                rintro e w20 ⟨hxb20, hpb20⟩
                have hb20 := Hb19.out.trans (hxb20.mono Hb19.out.size)
                have hz : e = .returned (.tuple #[.slice none 0 0, .bool false]) := by
                  rcases hpb20 with ⟨h1, _⟩ | ⟨_, h2⟩
                  · rw [Hib.out] at h1; cases h1
                  · exact h2
                subst hz
                clear hpb20
                have hnil : ∀ W, RSets W [.slice none 0 0] [] := fun W => ⟨none, 0, rfl, Nat.le_refl _, Nat.zero_le _, fun i x hi => by simp at hi⟩
                have hSm := fun W => calls_bel (sameRef_any (hnil W) (hnil W))
                simp only [decide_true] at hSm
                have Hxb20 := Lib.hid hxb20; have Hb20 := Lib.hid hb20; have HSm := Lib.hid hSm; have Hnil := Lib.hid hnil; clear hxb20 hb20 hSm hnil
                go_wp2_with fail
                refine (HSm.out _).mono ?_
                rintro e w90 ⟨rfl, hx90⟩
                have h90 := Hb20.out.trans (hx90.mono Hb20.out.size)
                have Hx90 := Lib.hid hx90; have H90 := Lib.hid h90; clear hx90 h90
                go_wp2_with fail
                go_loopw [13, 90] (fun x y wr => ∃ k : Nat, k ≤ na ∧ y = .int .i64 k ∧ x = .bool ((a.take k).any fun x => b.any (Pt x)) ∧ Below w.heap.size w wr) (fun _ y _ => na - (intOf y).toNat)
                case atStart => exact ⟨0, Nat.zero_le _, rfl, rfl, H90.out⟩
                case round =>
                  obtain ⟨k, hk, rfl, rfl, hbw⟩ := hrel
                  by_cases hlt : k < na
                  · have hka : k < a.length := by have := Hna.out; omega
                    obtain ⟨bl, ofs, rfl, c0, c1⟩ := HgA.out k _ (List.getElem?_eq_getElem hka)
                    have hsucc := anyP_succ (fun x => b.any (Pt x)) hka
                    obtain ⟨x, hx⟩ : ∃ x, x = a[k] := ⟨_, rfl⟩
                    rw [← hx] at c0 c1 hsucc
                    have d0 := cell_later hbw c0
                    have d1 := cell_later hbw c1
                    obtain ⟨x0, hx0⟩ : ∃ v, v = x.1 := ⟨_, rfl⟩
                    obtain ⟨x1, hx1⟩ : ∃ v, v = x.2 := ⟨_, rfl⟩
                    rw [← hx0] at d0
                    rw [← hx1] at d1
                    obtain ⟨T, hT⟩ : ∃ T, T = ((a.take k).any fun x => b.any (Pt x)) := ⟨_, rfl⟩
                    rw [← hT] at hsucc ⊢
                    have k5 : (0 : Int) ≤ (k : Int) := by omega
                    have k9 : k ≤ 1000 := by have := Hla.out; have := Hna.out; omega
                    have k6 : (k : Int) < (na : Int) := by omega
                    clear c0 c1
                    have Hbw := Lib.hid hbw; have Hsucc := Lib.hid hsucc; have Hx := Lib.hid hx; have Hx0 := Lib.hid hx0; have Hx1 := Lib.hid hx1; have HT := Lib.hid hT; clear hbw hsucc hx hx0 hx1 hT
                    go_wp2_with fail
                    obtain ⟨bx, hbx⟩ : ∃ n, n = wr.heap.size := ⟨_, rfl⟩
                    obtain ⟨W0, hW0⟩ : ∃ W0, W0 = wr.alloc (Obj.cells #[.string x0, .string x1] 38) := ⟨_, rfl⟩
                    rw [← hW0, ← hbx]
                    have hX0 : W0.heap[bx]? = some (Obj.cells #[.string x0, .string x1] 38 (0, 0)) := by rw [hW0, hbx]; exact heap_alloc_new _ _
                    have hb0 : Below w.heap.size w W0 := by rw [hW0]; exact Hbw.out.trans ((below_alloc1 _ _).mono Hbw.out.size)
                    clear d0 d1
                    have Hbx := Lib.hid hbx; have HW0 := Lib.hid hW0; have HX0 := Lib.hid hX0; have Hb0 := Lib.hid hb0; clear hbx hW0 hX0 hb0
                    go_loopw [13, 96] (fun p q wr => ∃ j : Nat, j ≤ nb ∧ q = .int .i64 j ∧ p = .bool (T || (b.take j).any (Pt x)) ∧ Below w.heap.size w wr ∧ wr.heap[bx]? = some (Obj.cells #[.string x0, .string x1] 38 (0, 0))) (fun _ q _ => nb - (intOf q).toNat)
                    case atStart => exact ⟨0, Nat.zero_le _, rfl, by simp, Hb0.out, HX0.out⟩
                    case round =>
                      obtain ⟨j, hj, rfl, rfl, hbw2, hX⟩ := hrel
                      by_cases hlt2 : j < nb
                      · have hjb : j < b.length := by have := Hnb.out; omega
                        obtain ⟨bl2, ofs2, rfl, c0, c1⟩ := HgB.out j _ (List.getElem?_eq_getElem hjb)
                        have hsucc2 := anyP_succ (Pt x) hjb
                        obtain ⟨y, hy⟩ : ∃ x, x = b[j] := ⟨_, rfl⟩
                        rw [← hy] at c0 c1 hsucc2
                        have d0 := cell_later hbw2 c0
                        have d1 := cell_later hbw2 c1
                        obtain ⟨y0, hy0⟩ : ∃ v, v = y.1 := ⟨_, rfl⟩
                        obtain ⟨y1, hy1⟩ : ∃ v, v = y.2 := ⟨_, rfl⟩
                        rw [← hy0] at d0
                        rw [← hy1] at d1
                        obtain ⟨Q, hQ⟩ : ∃ Q, Q = (T || (b.take j).any (Pt x)) := ⟨_, rfl⟩
                        rw [← hQ]
                        obtain ⟨n0, hn0⟩ : ∃ n, n = (x0.toList == y0.toList) := ⟨_, rfl⟩
                        obtain ⟨n1, hn1⟩ : ∃ n, n = (x1.toList == y1.toList) := ⟨_, rfl⟩
                        have hnext : (T || (b.take (j + 1)).any (Pt x)) = (Q || (n0 && !n1)) := by
                          rw [hsucc2, hQ, hn0, hn1, bytes_dec, bytes_dec, ← Bool.or_assoc, Hx0.out, Hx1.out, hy0, hy1]; rfl
                        have hp0 := hn0.symm
                        have hp1 := hn1.symm
                        have k7 : (0 : Int) ≤ (j : Int) := by omega
                        have k9 : j ≤ 1000 := by have := Hlb.out; have := Hnb.out; omega
                        have k8 : (j : Int) < (nb : Int) := by omega
                        obtain ⟨by_, hby⟩ : ∃ n, n = wr.heap.size := ⟨_, rfl⟩
                        obtain ⟨W1, hW1⟩ : ∃ W0, W0 = wr.alloc (Obj.cells #[.string y0, .string y1] 38) := ⟨_, rfl⟩
                        have hb1 : Below w.heap.size w W1 := by rw [hW1]; exact hbw2.trans ((below_alloc1 _ _).mono hbw2.size)
                        have hX1 : W1.heap[bx]? = some (Obj.cells #[.string x0, .string x1] 38 (0, 0)) := by rw [hW1]; exact heap_below (below_alloc1 _ _) hX
                        have hY1 : W1.heap[by_]? = some (Obj.cells #[.string y0, .string y1] 38 (0, 0)) := by rw [hW1, hby]; exact heap_alloc_new _ _
                        have f0 := cells_at hX1 0
                        have f1 := cells_at hX1 1
                        have g0 := cells_at hY1 0
                        have g1 := cells_at hY1 1
                        simp only [List.getElem?_toArray, List.getElem?_cons_succ, List.getElem?_cons_zero] at f0 f1 g0 g1
                        clear c0 c1
                        have Hbw2 := Lib.hid hbw2; have HX := Lib.hid hX; have Hsucc2 := Lib.hid hsucc2; have Hy := Lib.hid hy; have Hy0 := Lib.hid hy0; have Hy1 := Lib.hid hy1; have HQ := Lib.hid hQ; have Hn0 := Lib.hid hn0; have Hn1 := Lib.hid hn1; have Hnext := Lib.hid hnext; have Hb1 := Lib.hid hb1; have HX1 := Lib.hid hX1; have HY1 := Lib.hid hY1; clear hbw2 hX hsucc2 hy hy0 hy1 hQ hn0 hn1 hnext hb1 hX1 hY1
                        go_upto_region 19 with fail
                        rw [← hW1, ← hby]
                        clear d0 d1
                        have HW1 := Lib.hid hW1; have Hby := Lib.hid hby; clear hW1 hby
                        cases Q with
                        | true =>
                          go_wp2_with fail
                          go_roundw
                          case rel => exact ⟨j + 1, by omega, by go_num, by rw [Hnext.out]; rfl, Hb1.out, HX1.out⟩
                          case measure => simp [intOf]; omega
                        | false =>
                          cases n0 with
                          | false =>
                            go_wp2_with fail
                            go_roundw
                            case rel => exact ⟨j + 1, by omega, by go_num, by rw [Hnext.out]; rfl, Hb1.out, HX1.out⟩
                            case measure => simp [intOf]; omega
                          | true =>
                            cases n1 with
                            | false =>
                              go_wp2_with fail
                              go_roundw
                              case rel => exact ⟨j + 1, by omega, by go_num, by rw [Hnext.out]; rfl, Hb1.out, HX1.out⟩
                              case measure => simp [intOf]; omega
                            | true =>
                              go_wp2_with fail
                              go_roundw
                              case rel => exact ⟨j + 1, by omega, by go_num, by rw [Hnext.out]; rfl, Hb1.out, HX1.out⟩
                              case measure => simp [intOf]; omega
                      · obtain rfl : nb = j := by omega
                        have hfin : ((a.take (k + 1)).any fun x => b.any (Pt x)) = (T || (b.take nb).any (Pt x)) := by
                          rw [Hsucc.out, List.take_of_length_le (by have := Hnb.out; omega)]
                        obtain ⟨Q, hQ⟩ : ∃ Q, Q = (T || (b.take nb).any (Pt x)) := ⟨_, rfl⟩
                        rw [← hQ] at hfin ⊢
                        have Hbw2 := Lib.hid hbw2; have HX := Lib.hid hX; have Hfin := Lib.hid hfin; have HQ := Lib.hid hQ; clear hbw2 hX hfin hQ
                        go_wp2_with fail
                        go_roundw
                        case rel => exact ⟨k + 1, by omega, by go_num, by rw [Hfin.out], Hbw2.out⟩
                        case measure => simp [intOf]; omega
                  · obtain rfl : na = k := by omega
                    have hfin : ((a.take na).any fun x => b.any (Pt x)) = true := by
                      rw [List.take_of_length_le (by have := Hna.out; omega), ← two_any, ← Htw.out]
                    rw [hfin]
                    have Hbw := Lib.hid hbw; have Hfin := Lib.hid hfin; clear hbw hfin
                    go_wp2_with fail
                    refine (HF.out _ Hbw.out).mono ?_
                    rintro e w91 ⟨rfl, hx91⟩
                    have h91 := Hbw.out.trans (hx91.mono Hbw.out.size)
                    have Hx91 := Lib.hid hx91; have H91 := Lib.hid h91; clear hx91 h91
                    go_wp2_with fail
                    refine (HMay.out _ H91.out).mono ?_
                    rintro e w92 ⟨rfl, hx92⟩
                    have h92 := H91.out.trans (hx92.mono H91.out.size)
                    have Hx92 := Lib.hid hx92; have H92 := Lib.hid h92; clear hx92 h92
                    cases my with
                    | false =>
                      go_wp2_with fail
                      go_ret
                      exact ⟨rfl, H92.out⟩
                    | true =>
                      go_wp2_with fail
                      refine (HLeg.out _ H92.out).mono ?_
                      rintro e w93 ⟨⟨r, rfl, hr⟩, q, rfl⟩
                      have h93 := bel_drewN H92.out q
                      have H93 := Lib.hid h93; clear h93
                      cases r with
                      | false =>
                        have Hr := Lib.hid hr; clear hr
                        go_wp2_with fail
                        go_ret
                        exact ⟨rfl, H93.out⟩
                      | true =>
                        have hNm := hr rfl
                        have Hr := Lib.hid hr; have HNm := Lib.hid hNm; clear hr hNm
                        go_wp2_with fail
                        refine (HMa.out _ H93.out).mono ?_
                        rintro e w94 ⟨rfl, hx94⟩
                        have h94 := H93.out.trans (hx94.mono H93.out.size)
                        have Hx94 := Lib.hid hx94; have H94 := Lib.hid h94; clear hx94 h94
                        cases ma with
                        | false =>
                          go_wp2_with fail
                          go_ret
                          exact ⟨rfl, H94.out⟩
                        | true =>
                          go_wp2_with fail
                          refine (HMb.out _ H94.out).mono ?_
                          rintro e w95 ⟨rfl, hx95⟩
                          have h95 := H94.out.trans (hx95.mono H94.out.size)
                          have Hx95 := Lib.hid hx95; have H95 := Lib.hid h95; clear hx95 h95
                          cases mb with
                          | false =>
                            go_wp2_with fail
                            go_ret
                            exact ⟨rfl, H95.out⟩
                          | true => exact (two_none Htw.out.symm Hmy.out.symm HNm.out Hma.out.symm Hmb.out.symm).elim
end Go.Proofs.Ytnelgellbabkoaa
