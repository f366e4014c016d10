/- Atoms as values, their places in a row, and a map that gives each its place. No condition. -/
import Derived.Test.YtoljhahmmdibfaaRows
import Derived.Test.YtoljhahmmdibfaaOpen
import Derived.Maps.OwnOps
import Derived.Maps.Views
import Derived.DeepKeys4
namespace Go.Proofs.Ytoljhahmmdibfaa
open Go.RowKit
open Go.Maps (Keyed)

/-- an atom: kind, a, b, c -/
abbrev At := Int × Int × Int × Int
def AtWf (x : At) : Prop := (Lit.int .u8 x.1).wf = true ∧ (Lit.int .i64 x.2.1).wf = true ∧ (Lit.int .i64 x.2.2.1).wf = true ∧ (Lit.int .i64 x.2.2.2).wf = true
def atV (x : At) : Value := .agg #[.int .u8 x.1, .int .i64 x.2.1, .int .i64 x.2.2.1, .int .i64 x.2.2.2]
def atCells (x : At) : List Value := [.int .u8 x.1, .int .i64 x.2.1, .int .i64 x.2.2.1, .int .i64 x.2.2.2]
theorem atV_inj {x y : At} (h : atV x = atV y) : x = y := by
  obtain ⟨a, b, c, d⟩ := x
  obtain ⟨a', b', c', d'⟩ := y
  simpa [atV] using h

/-- the place of an atom in a row, from 1 on; 0: it is not there -/
def findAt : List At → At → Nat
  | [], _ => 0
  | x :: l, a => if x = a then 1 else (if findAt l a = 0 then 0 else findAt l a + 1)
theorem findAt_le (l : List At) (a : At) : findAt l a ≤ l.length := by
  induction l with
  | nil => simp [findAt]
  | cons x l ih =>
    unfold findAt
    split
    · simp
    · split
      · simp
      · simp; omega
theorem findAt_snoc (l : List At) (x a : At) : findAt (l ++ [x]) a = if findAt l a = 0 then (if x = a then l.length + 1 else 0) else findAt l a := by
  induction l with
  | nil => simp [findAt]
  | cons y l ih =>
    simp only [List.cons_append, findAt, ih, List.length_cons]
    by_cases h1 : y = a
    · simp [h1]
    · by_cases h2 : findAt l a = 0
      · by_cases h3 : x = a
        · simp [h1, h2, h3]
        · simp [h1, h2, h3]
      · simp [h1, h2]

theorem elem_atoms : Elem Try.prog 22 27 (.agg #[.int .u8 0, .int .i64 0, .int .i64 0, .int .i64 0]) 4 32 := ⟨Try.underlying22, by kernel_rfl, rfl, by decide⟩

theorem keyed_at : Keyed Try.prog 27 :=
  Keyed.of_law (deep_law_laid (P := Try.prog) (by kernel_rfl) (m := 10) (by decide) (k := 27) (of_decide_eq_true (by kernel_rfl)) (by kernel_rfl) (by kernel_rfl))

theorem types_two : ∃ m, Try.prog.types.size = m + 1 := by
  have h : (Try.prog.types.size == 0) = false := by kernel_rfl
  have h2 : Try.prog.types.size ≠ 0 := by intro e; rw [e] at h; cases h
  exact ⟨Try.prog.types.size - 1, by omega⟩
theorem keyOf_at (x : At) (h : AtWf x) : ∃ l, keyOf Try.prog 27 (atV x) = some l := by
  obtain ⟨m, hm⟩ := types_two
  have hk : Try.prog.keyType 27 = true := by kernel_rfl
  have hc : Try.prog.cellsOf 27 = 4 := by kernel_rfl
  have hc3 : Try.prog.cellsOf 3 = 1 := by kernel_rfl
  have hc5 : Try.prog.cellsOf 5 = 1 := by kernel_rfl
  obtain ⟨h1, h2, h3, h4⟩ := h
  unfold keyOf
  simp only [Try.underlying27, hk, hm, atV]
  simp [Value.formed, Try.underlying27, hc, Value.cells, Program.keyLits, Try.underlying3, Try.underlying5, hc3, hc5, h1, h2, h3, h4]

/-- an atom, read -/
def RAt : Rd At := fun _ cs x => cs = atCells x ∧ AtWf x
theorem stays_at : Stays RAt := fun _ _ _ _ h _ => h
theorem opens_at : Opens Try.prog 27 RAt := by
  refine opens_map (R := RCons 1 (RInt .u8) (RCons 1 (RInt .i64) (RCons 1 (RInt .i64) (RCons 1 (RInt .i64) RNil)))) (opens_struct Try.underlying27 ?_) ?_
  · have hN : Try.prog.cellsOf 27 = 4 := by kernel_rfl
    have h5 : Try.prog.cellsOf 5 = 1 := by kernel_rfl
    have h3 : Try.prog.cellsOf 3 = 1 := by kernel_rfl
    rw [hN]
    exact fields_cons rfl h5 (opens_int Try.underlying5) (fields_cons rfl h3 (opens_int Try.underlying3) (fields_cons rfl h3 (opens_int Try.underlying3) (fields_cons rfl h3 (opens_int Try.underlying3) fields_nil)))
  · rintro w cs ⟨a, b, c, d, u⟩ ⟨c1, r1, rfl, l1, ⟨rfl, w1⟩, c2, r2, rfl, l2, ⟨rfl, w2⟩, c3, r3, rfl, l3, ⟨rfl, w3⟩, c4, r4, rfl, l4, ⟨rfl, w4⟩, rfl⟩
    exact ⟨(a, b, c, d), rfl, w1, w2, w3, w4⟩
theorem opens_atoms : Opens Try.prog 22 (RSlice 4 RAt) := opens_slice Try.underlying22 (by kernel_rfl) (by decide) opens_at

/-- block bm is a map that gives each atom of l its place -/
def AtMap (w : World) (bm : Nat) (l : List At) : Prop :=
  ∃ D : DataW Unit, w.ownsMap Try.prog 27 (plainElem Try.prog 3) bm l.length D ∧ Maps.IsMap D ∧
    ∀ a kl, keyOf Try.prog 27 (atV a) = some kl → D.atKey kl (.lit (.int .i64 0)) = .lit (.int .i64 (findAt l a))
theorem atMap_made (w : World) : AtMap (w.alloc (.map #[] 0)) w.heap.size [] :=
  ⟨.map [], World.ownsMap_made w _ _ _, ⟨[], rfl⟩, fun _ _ _ => rfl⟩
theorem AtMap.lt {w : World} {bm : Nat} {l : List At} (h : AtMap w bm l) : bm < w.heap.size := by
  obtain ⟨D, h1, _⟩ := h
  exact h1.lt
theorem AtMap.kept {w w' : World} {bm : Nat} {l : List At} (h : AtMap w bm l) {S : Nat → Prop} (hf : Frm S w w') (hS : ¬ S bm) : AtMap w' bm l := by
  obtain ⟨D, h1, h2, h3⟩ := h
  obtain ⟨es, clock, hb, F, hs, hD⟩ := h1
  exact ⟨D, ⟨es, clock, (hf.block bm (Array.getElem?_eq_some_iff.1 hb).1 hS).trans hb, F, hs, hD⟩, h2, h3⟩
theorem zero_int (w : World) : (zeroValue 3).run Try.prog w = .ok (.int .i64 0) w := by kernel_rfl
theorem AtMap.look {w : World} {bm : Nat} {l : List At} (h : AtMap w bm l) (a : At) (ha : AtWf a) :
    (Instr.lookup 81 (.map (some bm)) (atV a) false).run Try.prog w = .ok (.int .i64 (findAt l a)) w := by
  obtain ⟨D, h1, h2, h3⟩ := h
  obtain ⟨kl, hk⟩ := keyOf_at a ha
  obtain ⟨c, hr, hat, _⟩ := h1.lookup_int keyed_at Try.underlying81 Try.underlying3 (zero_int w) hk
  rw [h3 a kl hk] at hat
  simp at hat
  rw [hr, hat]
theorem AtMap.store {w : World} {bm : Nat} {l : List At} (h : AtMap w bm l) (a : At) (ha : AtWf a) (hn : findAt l a = 0) (hl : l.length ≤ 65536) :
    ∃ w', (Instr.mapUpdate 81 (.map (some bm)) (atV a) (.int .i64 ((l.length : Int) + 1))).run Try.prog w = .ok () w' ∧ AtMap w' bm (l ++ [a]) ∧ w.grownBy w' (some bm) := by
  obtain ⟨D, h1, h2, h3⟩ := h
  obtain ⟨kl, hk⟩ := keyOf_at a ha
  have hwf : (Lit.int .i64 ((l.length : Int) + 1)).wf = true := by
    simp [Lit.wf, IntKind.min, IntKind.max, IntKind.signed, IntKind.bits]; omega
  obtain ⟨w', hr, r1, r2⟩ := h1.update keyed_at Try.underlying81 (by unfold maxLen; omega) hk (plainElem_int Try.underlying3 hwf)
  refine ⟨w', hr, ⟨_, by simpa using r1, ?_, ?_⟩, r2⟩
  · exact h2.put _ _
  · intro b klb hb
    by_cases hab : a = b
    · subst hab
      rw [hk] at hb
      cases hb
      rw [Maps.atKey_put_same h2 (keyed_at.key hk), findAt_snoc, if_pos hn, if_pos rfl]
      simp
    · have hne : klb ≠ kl := fun e => hab (atV_inj (keyed_at.inj hk (by rw [hb, e])))
      rw [Maps.atKey_put_other hne, h3 b klb hb, findAt_snoc]
      split
      · rename_i h0
        rw [h0]
      · rfl
end Go.Proofs.Ytoljhahmmdibfaa
