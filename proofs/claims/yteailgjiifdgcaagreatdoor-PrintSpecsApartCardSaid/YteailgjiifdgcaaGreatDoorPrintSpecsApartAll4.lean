/- Walks and plain facts. Texts merged: Parts, VerAt, VerCmp, Txs, SpnA, SpnB, SpnC, SpnT, SpnD, SpnK, SpnMt. Condition: none beyond what each says. -/
import Derived.Deep.RegionHeld3
import Derived.Deep.CutRange
import Derived.Lib.SmallJoins
import Derived.Lib.CutLaws
import Derived.Deep.DeepCutAuto
import Derived.Test.YteailgjiifdgcaaGreatDoorPrintSpecsApartAll3
set_option linter.unusedVariables false
set_option linter.unusedSimpArgs false
/- The walk of version.parts: a version's parts, or that it is none. Condition: the library's variables as they were laid. -/
namespace Go.Proofs.YteailgjiifdgcaaGreatDoor
open Go.RowKit Go.Shelf Go.Lib VerN

attribute [local go_sem] Oper.semAt_some

abbrev fSplit : Nat := 167
def partCells (l : List UInt8) : List Value := [.int .i64 (rankOf l), .int .i64 (numOf l), .string ⟨(wordOf l).toArray⟩]
def partsCells (ps : List (List UInt8)) : List Value := ps.flatMap partCells
theorem partsCells_snoc (ps : List (List UInt8)) (l : List UInt8) : partsCells (ps ++ [l]) = partsCells ps ++ partCells l := by simp [partsCells]
theorem part_cells {l : List UInt8} {r m : Int} {x : ByteArray} (h : IsPart l r m x) : partCells l = [.int .i64 r, .int .i64 m, .string x] := by
 obtain ⟨rfl, rfl, h⟩ := h
 unfold partCells
 rw [← h]
set_option maxRecDepth 10000 in
theorem splitSeq_any (s : ByteArray) (c : UInt8) (w : World) : Calls Tryz.prog 52 #[.string s, .string ⟨#[c]⟩] w fun e w' =>
  e = .returned (.func (.func fSplit) #[] #[.pointer (some ⟨w.heap.size + 1, 0, none⟩), .pointer (some ⟨w.heap.size, 0, none⟩), .pointer (some ⟨w.heap.size + 1 + 1, 0, none⟩)]) ∧
  w' = ((w.alloc (.cells #[.string s] 9)).alloc (.cells #[.string ⟨#[c]⟩] 9)).alloc (.cells #[.int .i64 0] 3) := by
 go_enter Tryz.func52, Tryz.ntmps52
 go_wp2
 go_ret
 exact ⟨rfl, rfl⟩
structure PI (w W : World) (pre : List ByteArray) : Prop where
 bel : Below w.heap.size w W
 r2 : W.heap[w.heap.size]? = some (.cells #[.slice none 0 0] 224 (0, 0))
 r3 : W.heap[w.heap.size + 1]? = some (.cells #[.bool false] 4 (0, 0))
 out : ∃ v, W.heap[w.heap.size + 1 + 1]? = some (.cells #[v] 224 (0, 0)) ∧ W.ownsRow (w.heap.size + 6) 241 3 v pre.length (partsCells (pre.map (·.data.toList)))
 ok : ∀ p ∈ pre, partL p.data.toList = true
 len : pre.length ≤ 8
structure PX (w W : World) (pre : List ByteArray) : Prop where
 bel : Below w.heap.size w W
 r2 : W.heap[w.heap.size]? = some (.cells #[.slice none 0 0] 224 (0, 0))
 r3 : W.heap[w.heap.size + 1]? = some (.cells #[.bool false] 4 (0, 0))
 bad : (∃ p ∈ pre, partL p.data.toList = false) ∨ 8 < pre.length
theorem heap_kept {W W' : World} {row : Option Nat} {k : Nat} {o : Obj} {B : Nat} (hg : W.grownBy W' row) (hr : ∀ r, row = some r → B ≤ r) (hk : k < B) (h : W.heap[k]? = some o) : W'.heap[k]? = some o :=
 (hg.block k (Array.getElem?_eq_some_iff.1 h).1 (fun e => by have := hr k e.symm; omega)).trans h
theorem ownFrom_size {B : Nat} (m : Nat) : OwnFrom B (fun (_ : List ByteArray) W => m ≤ W.heap.size) := fun _ _ _ _ h hg _ => Nat.le_trans h hg.size
theorem PI.own {w : World} {B : Nat} (hB : w.heap.size + 6 ≤ B) : OwnFrom B (fun (pre : List ByteArray) W => PI w W pre) := by
 rintro pre W W' row h hg hr
 have hr' : ∀ r, row = some r → B ≤ r := fun r e => (hr r e).1
 obtain ⟨v, hv, hrow⟩ := h.out
 refine ⟨h.bel.grown hg h.bel.size (fun k e => by have := hr' k e; omega), heap_kept hg hr' (by omega) h.r2, heap_kept hg hr' (by omega) h.r3, ⟨v, heap_kept hg hr' (by omega) hv, hrow.kept hg ?_⟩, h.ok, h.len⟩
 rcases hrow.2 with ⟨rfl, _⟩ | ⟨g, cap, cur, rfl, _, hgb, _⟩
 ·exact .inl rfl
 ·refine .inr fun e' => ?_
  obtain ⟨_, o, ho, hc⟩ := hr g (by simpa [Value.ownBlock] using e'.symm)
  rw [hgb] at ho
  cases ho
  cases hc
theorem PX.own {w : World} {B : Nat} (hB : w.heap.size + 6 ≤ B) : OwnFrom B (fun (pre : List ByteArray) W => PX w W pre) := by
 rintro pre W W' row h hg hr
 have hr' : ∀ r, row = some r → B ≤ r := fun r e => (hr r e).1
 exact ⟨h.bel.grown hg h.bel.size (fun k e => by have := hr' k e; omega), heap_kept hg hr' (by omega) h.r2, heap_kept hg hr' (by omega) h.r3, h.bad⟩
theorem own_set {W : World} {B : Nat} {e : TypeId} {size : Nat} {v : Value} {n : Nat} {xs : List Value} (h : W.ownsRow B e size v n xs) {p : Nat} (hp : p < B) (i : Nat) (u : Value) : (W.setCell ⟨p, i, none⟩ u).ownsRow B e size v n xs := by
 refine h.kept (row := some p) ⟨rfl, rfl, rfl, by simp [World.setCell], fun k _ hk => Below.heap_setCell _ _ _ _ (fun e => hk (by rw [e]))⟩ ?_
 rcases h.2 with ⟨rfl, _⟩ | ⟨g, cap, cur, rfl, hg, _⟩
 ·exact .inl rfl
 ·exact .inr fun e' => by simp [Value.ownBlock] at e'; omega
theorem PI.lets (w : World) : Lets (w.heap.size + 1 + 1 + 1) (fun (pre : List ByteArray) W => PI w W pre) := by
 rintro pre W i u h
 obtain ⟨v, hv, hrow⟩ := h.out
 exact ⟨h.bel.setCell (p := ⟨w.heap.size + 1 + 1 + 1, i, none⟩) (by show w.heap.size ≤ w.heap.size + 1 + 1 + 1; omega) _, heap_other h.r2 (by omega), heap_other h.r3 (by omega), ⟨v, heap_other hv (by omega), own_set hrow (by omega) i u⟩, h.ok, h.len⟩
theorem PX.lets (w : World) : Lets (w.heap.size + 1 + 1 + 1) (fun (pre : List ByteArray) W => PX w W pre) := by
 rintro pre W i u h
 exact ⟨h.bel.setCell (p := ⟨w.heap.size + 1 + 1 + 1, i, none⟩) (by show w.heap.size ≤ w.heap.size + 1 + 1 + 1; omega) _, heap_other h.r2 (by omega), heap_other h.r3 (by omega), h.bad⟩
abbrev sb (w : World) : Nat → Prop := Three (w.heap.size + 1 + 1 + 1) (w.heap.size + 1 + 1 + 1 + 1) (w.heap.size + 1 + 1 + 1 + 1 + 1)
theorem keepsFrom_below {B : Nat} {W W' : World} (h : Below W.heap.size W W') : KeepsFrom B W W' := ⟨h.size, fun k o _ hk _ => heap_below h hk⟩
theorem PI.size {w W : World} {pre : List ByteArray} (h : PI w W pre) (hs : w.heap.size + 6 ≤ W.heap.size) : ∀ k, sb w k → k < W.heap.size := by
 rintro k (rfl | rfl | rfl) <;> omega
theorem lit3 (w : World) (x y z : Value) (t : TypeId) {n : Nat} (hn : w.heap.size = n) : ∀ j u, [x, y, z][j]? = some u → (w.alloc (.cells #[x, y, z] t)).cell? ((⟨n, 0, none⟩ : Addr).add j) = some u := by
 intro j u hu
 subst hn
 rw [Addr.add_lit, Nat.zero_add, World.cell?_alloc_new]
 simpa using hu
theorem PI.add {w W W3 w1 : World} {pre : List ByteArray} {x : ByteArray} {tmp : Obj} {B : Nat} (h : PI w W pre) (hs : w.heap.size + 6 ≤ W.heap.size) (hb : Below W.heap.size W W3) {v v' : Value}
  (hv : W.heap[w.heap.size + 1 + 1]? = some (.cells #[v] 224 (0, 0))) (hrow : W.ownsRow (w.heap.size + 6) 241 3 v pre.length (partsCells (pre.map (·.data.toList))))
  (hown : w1.ownsRow (w.heap.size + 6) 241 3 v' (pre.length + 1) (partsCells (pre.map (·.data.toList)) ++ partCells x.data.toList)) (hg : (W3.alloc tmp).grownBy w1 v.ownBlock) (hx : partL x.data.toList = true) (h8 : pre.length ≠ 8) :
  KeepsFrom B W (w1.setCell ⟨w.heap.size + 1 + 1, 0, none⟩ v') ∧ KeepS (sb w) W (w1.setCell ⟨w.heap.size + 1 + 1, 0, none⟩ v') ∧ PI w (w1.setCell ⟨w.heap.size + 1 + 1, 0, none⟩ v') (pre ++ [x]) ∧ w1.heap[w.heap.size + 1 + 1]? = some (.cells #[v] 224 (0, 0)) ∧ w.heap.size + 6 ≤ (w1.setCell ⟨w.heap.size + 1 + 1, 0, none⟩ v').heap.size := by
 have hb3 : Below W.heap.size W (W3.alloc tmp) := hb.alloc hb.size _
 have hrow3 : (W3.alloc tmp).ownsRow (w.heap.size + 6) 241 3 v pre.length (partsCells (pre.map (·.data.toList))) := ownsRow_below hrow hb3
 have old : ∀ {k : Nat} {o : Obj}, k < w.heap.size + 6 → W.heap[k]? = some o → w1.heap[k]? = some o := fun {k o} hk ho =>
  (hg.block k (by have := hb3.size; have := (Array.getElem?_eq_some_iff.1 ho).1; omega) (fun e => by have := (hrow3.lt k e.symm).1; omega)).trans (heap_below hb3 ho)
 refine ⟨?_, ?_, ⟨?_, heap_other (old (by omega) h.r2) (by omega), heap_other (old (by omega) h.r3) (by omega), ⟨v', heap_setCell_same _ _ 0 _ _ _ (old (by omega) hv), ?_⟩, ?_, ?_⟩, old (by omega) hv, by have := hg.size; have := hb3.size; simp [World.setCell]; omega⟩
 ·have k1 : KeepsFrom B W (W3.alloc tmp) := keepsFrom_below hb3
  have k2 : KeepsFrom B (W3.alloc tmp) w1 := ⟨hg.size, fun k o _ hk hc => (hg.block k (Array.getElem?_eq_some_iff.1 hk).1 (fun e => by
   obtain ⟨cs, hcs⟩ := own_type hrow3 k e.symm
   rw [hcs] at hk
   cases hk
   cases hc)).trans hk⟩
  exact (k1.trans k2).trans ((KeepsOthers.setCell _ _ _).from B)
 ·intro k hk
  have hlt := h.size hs k hk
  have hlt6 : k < w.heap.size + 6 := by rcases hk with rfl | rfl | rfl <;> omega
  have hne : k ≠ w.heap.size + 1 + 1 := by rcases hk with h | h | h <;> omega
  rw [Below.heap_setCell _ _ _ _ hne]
  cases ho : W.heap[k]? with
  | none => exact absurd ho (by rw [Array.getElem?_eq_getElem hlt]; simp)
  | some o => exact old hlt6 ho
 ·exact ((h.bel.trans (hb3.mono h.bel.size)).grown hg (by have := hb3.size; have := h.bel.size; omega) (fun k e => by have := (hrow3.lt k e).1; omega)).setCell (p := ⟨w.heap.size + 1 + 1, 0, none⟩) (by show w.heap.size ≤ w.heap.size + 1 + 1; omega) _
 ·rw [List.map_append, List.map_singleton, partsCells_snoc, List.length_append]
  exact own_set hown (by omega) 0 v'
 ·intro p hp
  rcases List.mem_append.1 hp with hp | hp
  ·exact h.ok p hp
  ·rw [List.mem_singleton] at hp; subst hp; exact hx
 ·have := h.len; rw [List.length_append, List.length_singleton]; omega
theorem PI.no {w W W3 : World} {pre : List ByteArray} {x : ByteArray} {B : Nat} (h : PI w W pre) (hs : w.heap.size + 6 ≤ W.heap.size) (hb : Below W.heap.size W W3) (hx : partL x.data.toList = false ∨ pre.length = 8) :
  KeepsFrom B W ((W3.setCell ⟨w.heap.size, 0, none⟩ (.slice none 0 0)).setCell ⟨w.heap.size + 1, 0, none⟩ (.bool false)) ∧ PX w ((W3.setCell ⟨w.heap.size, 0, none⟩ (.slice none 0 0)).setCell ⟨w.heap.size + 1, 0, none⟩ (.bool false)) (pre ++ [x]) := by
 refine ⟨((keepsFrom_below hb).trans ((KeepsOthers.setCell _ _ _).from B)).trans ((KeepsOthers.setCell _ _ _).from B), ?_, ?_, ?_, ?_⟩
 ·exact (((h.bel.trans (hb.mono h.bel.size)).setCell (p := ⟨w.heap.size, 0, none⟩) (Nat.le_refl _) _).setCell (p := ⟨w.heap.size + 1, 0, none⟩) (by show w.heap.size ≤ w.heap.size + 1; omega) _)
 ·exact heap_other (heap_setCell_same _ _ 0 _ _ _ (heap_below hb h.r2)) (by omega)
 ·exact heap_setCell_same _ _ 0 _ _ _ (heap_other (heap_below hb h.r3) (by omega))
 ·rcases hx with hx | hx
  ·exact .inl ⟨x, by simp, hx⟩
  ·right; rw [List.length_append, List.length_singleton]; omega
theorem info_part : (Tryz.prog.info? 241).map (fun i => (i.zero, i.size, i.bytes)) = some (some (.agg #[.int .i64 0, .int .i64 0, .string ⟨#[]⟩]), 3, 32) := by kernel_rfl
def partsPost (l : List UInt8) (w : World) (e : Ending) (w' : World) : Prop :=
 ∃ v, e = .returned (.tuple #[v, .bool (mayL l)]) ∧ (mayL l = true → w'.ownsRow w.heap.size 241 3 v (cutL 46 l).length (partsCells (cutL 46 l))) ∧ (mayL l = false → v = .slice none 0 0) ∧ Below w.heap.size w w'
theorem may_no {s : ByteArray} {pre : List ByteArray} (h : pre <+: cutS 46 s) (hb : (∃ p ∈ pre, partL p.data.toList = false) ∨ 8 < pre.length) : mayL s.data.toList = false := by
 rw [Bool.eq_false_iff]
 intro hm
 obtain ⟨_, _, h1, h2⟩ := (may_iff _).1 hm
 rcases hb with ⟨p, hp, hf⟩ | hb
 ·have := h1 p.data.toList (by rw [← cutS_data]; exact List.mem_map.2 ⟨p, h.subset hp, rfl⟩)
  rw [hf] at this; cases this
 ·have := h.length_le
  rw [cutS_len] at this
  omega
theorem may_yes {s : ByteArray} (h0 : s.size ≠ 0) (h40 : s.size ≤ 40) (hok : ∀ p ∈ cutS 46 s, partL p.data.toList = true) (hl : (cutS 46 s).length ≤ 8) : mayL s.data.toList = true := by
 rw [may_iff]
 refine ⟨fun e => h0 (by rw [← Txt.len, e]; rfl), by rw [Txt.len]; exact h40, fun p hp => ?_, by rw [← cutS_len]; exact hl⟩
 rw [← cutS_data] at hp
 obtain ⟨x, hx, rfl⟩ := List.mem_map.1 hp
 exact hok x hx
set_option maxRecDepth 100000 in
set_option maxHeartbeats 2000000 in
theorem parts_any (s : ByteArray) (hs : s.size ≤ 1000000) {w : World} (hD : Doors w) : Calls Tryz.prog 175 #[.string s] w (partsPost s.data.toList w) := by
 refine (callsIn_wide (n := 8)).1 ?_
 refine callsIn_of_wp_marks Tryz.func175 rfl trivial ?_ rfl
 simp only [Tryz.ntmps175, List.size_toArray, List.length_cons, List.length_nil, Nat.reduceAdd, Nat.reduceSub, Array.replicate_succ, Array.replicate_zero, List.push_toArray, List.append_toArray, List.nil_append, List.cons_append]
 by_cases h0 : s.size = 0
 ·have k1 : s.toList.isEmpty = true := by rw [Txt.no_dec, decide_eq_true h0]
  have hm : mayL s.data.toList = false := by
   rw [Bool.eq_false_iff]
   intro h
   exact ((may_iff _).1 h).1 (List.length_eq_zero_iff.1 (by rw [Txt.len]; exact h0))
  obtain ⟨Hm, HD⟩ := hd2 hm hD; clear hm hD
  gi_wp2
  refine ⟨_, results_cells rfl rfl rfl (heap_below (below_alloc1 _ _) (heap_new_at rfl)) (heap_new_at (by simp)) (Tryz.isAgg224 _) (Tryz.isAgg4 _), ?_⟩
  refine ⟨_, by rw [Hm.out], fun h => (by rw [Hm.out] at h; cases h), fun _ => rfl, ((Below.refl _ w).alloc (Nat.le_refl _) _).alloc (by simp) _⟩
 ·by_cases h40 : 40 < s.size
  ·have k1 : s.toList.isEmpty = false := by rw [Txt.no_dec, decide_eq_false h0]
   have k2 : decide ((40 : Int) < (s.size : Int)) = true := decide_eq_true (by omega)
   have hm : mayL s.data.toList = false := by
    rw [Bool.eq_false_iff]
    intro h
    have := ((may_iff _).1 h).2.1
    rw [Txt.len] at this
    omega
   obtain ⟨Hm, HD⟩ := hd2 hm hD; clear hm hD
   gi_wp2
   refine ⟨_, results_cells rfl rfl rfl (heap_below (below_alloc1 _ _) (heap_new_at rfl)) (heap_new_at (by simp)) (Tryz.isAgg224 _) (Tryz.isAgg4 _), ?_⟩
   refine ⟨_, by rw [Hm.out], fun h => (by rw [Hm.out] at h; cases h), fun _ => rfl, ((Below.refl _ w).alloc (Nat.le_refl _) _).alloc (by simp) _⟩
  ·have k1 : s.toList.isEmpty = false := by rw [Txt.no_dec, decide_eq_false h0]
   have k2 : decide ((40 : Int) < (s.size : Int)) = false := decide_eq_false (by omega)
   have hq := splitSeq_any s 46 (((w.alloc (.cells #[.slice none 0 0] 224)).alloc (.cells #[.bool false] 4)).alloc (.cells #[.slice none 0 0] 224))
   obtain ⟨Hq, HD⟩ := hd2 hq hD; clear hq hD
   gi_wp2
   refine ⟨trivial, (callsIn_wide.2 Hq.out).mono ?_⟩
   rintro e w2 ⟨rfl, rfl⟩
   gi_wp2
   have hsb : SBox (w.heap.size + 1 + 1 + 1) (w.heap.size + 1 + 1 + 1 + 1) (w.heap.size + 1 + 1 + 1 + 1 + 1) 46 s ((((((w.alloc (.cells #[.slice none 0 0] 224)).alloc (.cells #[.bool false] 4)).alloc (.cells #[.slice none 0 0] 224)).alloc (.cells #[.string s] 9)).alloc (.cells #[.string ⟨#[46]⟩] 9)).alloc (.cells #[.int .i64 0] 3)) := by
    have a1 := heap_new_at (w := (((w.alloc (.cells #[.slice none 0 0] 224)).alloc (.cells #[.bool false] 4)).alloc (.cells #[.slice none 0 0] 224))) (o := .cells #[.string s] 9) (n := w.heap.size + 1 + 1 + 1) (by simp)
    have a2 := heap_new_at (w := ((((w.alloc (.cells #[.slice none 0 0] 224)).alloc (.cells #[.bool false] 4)).alloc (.cells #[.slice none 0 0] 224)).alloc (.cells #[.string s] 9))) (o := .cells #[.string ⟨#[46]⟩] 9) (n := w.heap.size + 1 + 1 + 1 + 1) (by simp)
    have a3 := heap_new_at (w := (((((w.alloc (.cells #[.slice none 0 0] 224)).alloc (.cells #[.bool false] 4)).alloc (.cells #[.slice none 0 0] 224)).alloc (.cells #[.string s] 9)).alloc (.cells #[.string ⟨#[46]⟩] 9))) (o := .cells #[.int .i64 0] 3) (n := w.heap.size + 1 + 1 + 1 + 1 + 1) (by simp)
    exact ⟨heap_below (below_alloc1 _ _) (heap_below (below_alloc1 _ _) a1), heap_below (below_alloc1 _ _) a2, a3⟩
   obtain ⟨W0, hW0⟩ : ∃ W0, W0 = ((((((w.alloc (.cells #[.slice none 0 0] 224)).alloc (.cells #[.bool false] 4)).alloc (.cells #[.slice none 0 0] 224)).alloc (.cells #[.string s] 9)).alloc (.cells #[.string ⟨#[46]⟩] 9)).alloc (.cells #[.int .i64 0] 3)) := ⟨_, rfl⟩
   have hs0 : W0.heap.size = w.heap.size + 6 := by rw [hW0]; simp
   rw [← hW0] at hsb ⊢
   have hPI : PI w W0 [] := by
    rw [hW0]
    have k1 : ∀ {w' : World} {o : Obj} {k : Nat} {o' : Obj}, w'.heap[k]? = some o → (w'.alloc o').heap[k]? = some o := fun h => heap_below (below_alloc1 _ _) h
    refine ⟨(((((((Below.refl _ w).alloc (Nat.le_refl _) _).alloc (by simp) _).alloc (by simp; omega) _).alloc (by simp; omega) _).alloc (by simp; omega) _).alloc (by simp; omega) _), k1 (k1 (k1 (k1 (k1 (heap_new_at rfl))))), k1 (k1 (k1 (k1 (heap_new_at (by simp))))), ⟨_, k1 (k1 (k1 (heap_new_at (by simp)))), World.ownsRow_nil _ _ _ _⟩, (fun p hp => by cases hp), Nat.zero_le _⟩
   have HW0 := hd hW0; clear hW0
   refine wpIn_range_own rfl (by omega) (gf := fSplit) rfl trivial (enters_of Tryz.func167 (by kernel_rfl) rfl) (split_stops 7 (by omega) _ _ _ 46 s hs W0 (by omega) (by omega) (by omega) (by omega) (by omega) hsb)
    (fun k hk => by rcases hk with h | h | h <;> omega) (by omega) (Below.refl _ _) rfl
    (fun pre W => w.heap.size + 6 ≤ W.heap.size ∧ PI w W pre) (fun pre W => w.heap.size + 6 ≤ W.heap.size ∧ PX w W pre) (OwnFrom.and (ownFrom_size _) (PI.own (by omega))) (OwnFrom.and (ownFrom_size _) (PX.own (by omega))) (fun pre W i u h => ⟨by simp [World.setCell]; exact h.1, PI.lets w pre W i u h.2⟩) (fun pre W i u h => ⟨by simp [World.setCell]; exact h.1, PX.lets w pre W i u h.2⟩) ⟨by omega, hPI⟩
    (fun x => { tmps := #[.string s, undef, .pointer (some ⟨w.heap.size, 0, none⟩), .pointer (some ⟨w.heap.size + 1, 0, none⟩), .pointer (some ⟨w.heap.size + 1 + 1, 0, none⟩), .string x, undef, undef, .string s, .bool false, .bool false, .string s, .int .i64 (s.size : Int), .bool false, .bool false, .string s,
     .func (.func fSplit) #[] #[.pointer (some ⟨w.heap.size + 1 + 1 + 1 + 1, 0, none⟩), .pointer (some ⟨w.heap.size + 1 + 1 + 1, 0, none⟩), .pointer (some ⟨w.heap.size + 1 + 1 + 1 + 1 + 1, 0, none⟩)], .string x, undef, undef, undef, undef, undef, undef, undef, undef, undef, undef, undef, undef, undef, undef, undef, undef, undef], defers := [] }) ?assign ?body ?done ?stop
   case assign =>
    intro l x W K hK
    gi_wp2
    exact hK
   case body =>
    rintro l pre x W ⟨hsz, h⟩ ⟨hx, _⟩
    obtain ⟨v, hv, hrow⟩ := h.out
    obtain ⟨a, cap, rfl⟩ := own_shape hrow
    have hR := read_any x (by omega) (HD.out.below h.bel)
    obtain ⟨b, hb⟩ : ∃ b, b = partL x.data.toList := ⟨_, rfl⟩
    obtain ⟨m, hm⟩ : ∃ m, m = pre.length := ⟨_, rfl⟩
    have c0 : W.cell? ⟨w.heap.size + 1 + 1, 0, none⟩ = some (.slice a pre.length cap) := cells_at hv 0
    unfold readPost at hR
    rw [← hb] at hR
    obtain ⟨Hv, Hrow, HR, Hh, Hc0, Hx⟩ := hd6 hv hrow hR h c0 hx; clear hv hrow hR h c0 hx
    gi_wp2
    refine ⟨trivial, (CallsIn.inRound l (callsIn_wide.2 HR.out)).mono ?_⟩
    rintro e W2 ⟨⟨r, q, y, rfl, hpt⟩, hb2⟩
    have hb3 : Below W.heap.size W (W2.alloc (.cells #[.int .i64 r, .int .i64 q, .string y] 241)) := hb2.alloc hb2.size _
    have r2 := heap_below hb3 Hh.out.r2
    have r3 := heap_below hb3 Hh.out.r3
    have d0 : (W2.alloc (.cells #[.int .i64 r, .int .i64 q, .string y] 241)).cell? ⟨w.heap.size + 1 + 1, 0, none⟩ = some (.slice a pre.length cap) := cell_later hb3 Hc0.out
    have d1 : (W2.alloc (.cells #[.int .i64 r, .int .i64 q, .string y] 241)).cell? ⟨w.heap.size, 0, none⟩ = some (.slice none 0 0) := cells_at r2 0
    have d2 : (W2.alloc (.cells #[.int .i64 r, .int .i64 q, .string y] 241)).cell? ⟨w.heap.size + 1, 0, none⟩ = some (.bool false) := cells_at r3 0
    have f1 := frozen_at r2 0
    have f2 := frozen_at r3 0
    obtain ⟨Hb2, Hb3, Hr2, Hr3, Hpt, Hb, Hm⟩ := hd7 hb2 hb3 r2 r3 hpt hb hm; clear hb2 hb3 r2 r3 hpt hb hm
    clear Hq
    cases b with
    | false =>
     have hno := Hh.out.no (B := W0.heap.size) hsz Hb3.out (.inl Hb.out.symm)
     have hs3 : w.heap.size + 6 ≤ (((W2.alloc (.cells #[.int .i64 r, .int .i64 q, .string y] 241)).setCell ⟨w.heap.size, 0, none⟩ (.slice none 0 0)).setCell ⟨w.heap.size + 1, 0, none⟩ (.bool false)).heap.size := by have := Hb3.out.size; simp [World.setCell] at this ⊢; omega
     have Hno := hd hno; clear hno
     gi_wp2
     exact ⟨Hno.out.1, hs3, Hno.out.2⟩
    | true =>
     by_cases h8 : pre.length = 8
     ·have hno := Hh.out.no (B := W0.heap.size) hsz Hb3.out (x := x) (.inr h8)
      have hs3 : w.heap.size + 6 ≤ (((W2.alloc (.cells #[.int .i64 r, .int .i64 q, .string y] 241)).setCell ⟨w.heap.size, 0, none⟩ (.slice none 0 0)).setCell ⟨w.heap.size + 1, 0, none⟩ (.bool false)).heap.size := by have := Hb3.out.size; simp [World.setCell] at this ⊢; omega
      have k8 : ((pre.length : Int) == 8) = true := by rw [h8]; rfl
      obtain ⟨Hno, H8⟩ := hd2 hno h8; clear hno h8
      gi_wp2
      exact ⟨Hno.out.1, hs3, Hno.out.2⟩
     ·have k8 : ((pre.length : Int) == 8) = false := by rw [beq_eq_false_iff_ne]; omega
      have hlen := Hh.out.len
      have hrow3 := ownsRow_below Hrow.out Hb3.out
      have hpc := part_cells (Hpt.out rfl)
      obtain ⟨i0, hi, hz0, hz1, hz2⟩ := info_parts info_part
      have hadd := fun (w1 : World) (v' : Value) => Hh.out.add (B := W0.heap.size) hsz Hb3.out Hv.out Hrow.out (w1 := w1) (v' := v') (x := x) (tmp := .cells #[.int .i64 r, .int .i64 q, .string y] 241)
      rw [hpc] at hadd
      have hz9 : w.heap.size + 6 ≤ (W2.alloc (.cells #[.int .i64 r, .int .i64 q, .string y] 241)).heap.size := by have := Hb3.out.size; omega
      have g1 : pre.length + 1 ≤ maxLen := by unfold maxLen; omega
      have g2 : (pre.length + 1) * 32 ≤ 140737488355328 := by omega
      have g3 : w.heap.size + 6 ≤ ((W2.alloc (.cells #[.int .i64 r, .int .i64 q, .string y] 241)).alloc (.cells #[.int .i64 r, .int .i64 q, .string y] 241)).heap.size := by simp at hz9 ⊢; omega
      have g4 := lit3 (W2.alloc (.cells #[.int .i64 r, .int .i64 q, .string y] 241)) (.int .i64 r) (.int .i64 q) (.string y) 241 (n := W2.heap.size + 1) (by simp)
      have g5 : ∀ u ∈ [Value.int .i64 r, .int .i64 q, .string y], u.oneCell' = true := by simp [Value.oneCell']
      obtain ⟨Hrow3, Hpc, Hadd, Hz9, H8, Hlen, Hg1, Hg2, Hg3, Hg4, Hg5⟩ := hd11 hrow3 hpc hadd hz9 h8 hlen g1 g2 g3 g4 g5; clear hrow3 hpc hadd hz9 h8 hlen g1 g2 g3 g4 g5
      gi_wp2_with (gi_at_builtin; refine wpListIn_append_own _ rfl _ _ 224 rfl (w.heap.size + 6) 241 i0 (.agg #[.int .i64 0, .int .i64 0, .string ⟨#[]⟩]) 3 32 Tryz.underlying224 hi hz0 hz1 hz2 rfl (by decide) _ _ _ rfl (Hrow3.out.alloc _) ⟨W2.heap.size + 1, 0, none⟩ 1 1 [.int .i64 r, .int .i64 q, .string y] rfl rfl Hg4.out Hg5.out Hg1.out Hg2.out Hg3.out ?_; intro v' w1 hown' hgrow _; obtain ⟨g', cap', rfl⟩ := ownsRow_succ hown'; have hfin := Hadd.out w1 _ hown' hgrow Hb.out.symm H8.out; clear hown' hgrow; refine Hid.out ?_)
      have e1 := cells_at hfin.2.2.2.1 0
      have e2 := frozen_at hfin.2.2.2.1 0
      simp only [List.getElem?_toArray, List.getElem?_cons_zero] at e1
      have Hfin := hd hfin; clear hfin
      refine Lib.hid ?_
      gi_wp2
      exact ⟨Hfin.out.1, Hfin.out.2.1, Hfin.out.2.2.2.2, Hfin.out.2.2.1⟩
   case done =>
    rintro D ys W hD rfl ⟨hsz, h⟩ hK
    obtain ⟨v, hv, hrow⟩ := h.out
    obtain ⟨a, cap, rfl⟩ := own_shape hrow
    have c0 : W.cell? ⟨w.heap.size + 1 + 1, 0, none⟩ = some (.slice a (cutS 46 s).length cap) := cells_at hv 0
    have c1 := cells_at h.r2 0
    have c2 := cells_at h.r3 0
    have f1 := frozen_at h.r2 0
    have f2 := frozen_at h.r3 0
    simp only [List.getElem?_toArray, List.getElem?_cons_zero] at c1 c2
    have hm := may_yes h0 (by omega) h.ok h.len
    obtain ⟨Hv, Hrow, Hh, Hm⟩ := hd4 hv hrow h hm; clear hv hrow h hm
    gi_wp2
    have hK2 : ((W.setCell ⟨w.heap.size, 0, none⟩ (.slice a (cutS 46 s).length cap)).setCell ⟨w.heap.size + 1, 0, none⟩ (.bool true)).heap[D]? = some (.deferred (some [])) := heap_other (heap_other hK (by omega)) (by omega)
    have x1 := heap_other (b := w.heap.size + 1) (i := 0) (u := .bool true) (heap_setCell_same W w.heap.size 0 _ _ (.slice a (cutS 46 s).length cap) Hh.out.r2) (by omega)
    have x2 := heap_setCell_same _ (w.heap.size + 1) 0 _ _ (.bool true) (heap_other (b := w.heap.size) (i := 0) (u := .slice a (cutS 46 s).length cap) Hh.out.r3 (by omega))
    have hb9 : Below w.heap.size w ((W.setCell ⟨w.heap.size, 0, none⟩ (.slice a (cutS 46 s).length cap)).setCell ⟨w.heap.size + 1, 0, none⟩ (.bool true)) := (Hh.out.bel.setCell (p := ⟨w.heap.size, 0, none⟩) (Nat.le_refl _) _).setCell (p := ⟨w.heap.size + 1, 0, none⟩) (by show w.heap.size ≤ w.heap.size + 1; omega) _
    have ho : ((W.setCell ⟨w.heap.size, 0, none⟩ (.slice a (cutS 46 s).length cap)).setCell ⟨w.heap.size + 1, 0, none⟩ (.bool true)).ownsRow (w.heap.size + 6) 241 3 (.slice a (cutS 46 s).length cap) (cutL 46 s.data.toList).length (partsCells (cutL 46 s.data.toList)) := by
     have hlen := cutS_len 46 s
     rw [← hlen, ← cutS_data]
     have := own_set (own_set Hrow.out (p := w.heap.size) (by omega) 0 (.slice a (cutS 46 s).length cap)) (p := w.heap.size + 1) (by omega) 0 (.bool true)
     exact this
    refine ⟨by simp, .inl ⟨_, _, rfl, run_takeDeferred hK2, ?_⟩⟩
    refine ⟨_, results_cells rfl rfl rfl ((World.putObj_heap_other (by omega)).trans x1) ((World.putObj_heap_other (by omega)).trans x2) (Tryz.isAgg224 _) (Tryz.isAgg4 _), ?_⟩
    refine ⟨_, by rw [Hm.out], fun _ => ownsRow_mono (ownsRow_putObj ho _ hK2 rfl) (by omega), fun h => (by rw [Hm.out] at h; cases h), hb9.trans (belowK_b (w := w) (Nat.le_refl _) _ D _ _ (by omega) hK2 rfl rfl)⟩
   case stop =>
    rintro D pre W hD hpre ⟨hsz, h⟩ hK
    have hm := may_no hpre h.bad
    have Hm := hd hm; clear hm
    gi_wp2
    refine ⟨by simp, .inl ⟨_, _, rfl, run_takeDeferred hK, ?_⟩⟩
    refine ⟨_, results_cells rfl rfl rfl ((World.putObj_heap_other (by omega)).trans h.r2) ((World.putObj_heap_other (by omega)).trans h.r3) (Tryz.isAgg224 _) (Tryz.isAgg4 _), ?_⟩
    refine ⟨_, by rw [Hm.out], fun h => (by rw [Hm.out] at h; cases h), fun _ => rfl, h.bel.trans (belowK_b (w := w) (Nat.le_refl _) _ D _ _ (by omega) hK rfl rfl)⟩
end Go.Proofs.YteailgjiifdgcaaGreatDoor

/- The walk of version.at: the part at a place, or the end. Condition: few parts. -/
namespace Go.Proofs.YteailgjiifdgcaaGreatDoor
open Go.RowKit Go.Lib VerN

theorem bodyPost_part1 {fn : Func} {p : Tmp} (hres : fn.results = #[.cell p 241]) {R : Ending → World → Prop} {a : Act} {w : World} {g : Nat} {x y z : Value} (hp : a.tmps.getD p undef = .pointer (some ⟨g, 0, none⟩))
  (hg : w.heap[g]? = some (.cells #[x, y, z] 241 (0, 0))) (hd : a.defers = []) (hR : R (.returned (.agg #[x, y, z])) w) : bodyPost Tryz.prog fn R .ret a w :=
 bodyPost_ret (results_cell_row hres a.tmps w g _ _ _ _ hp hg Tryz.underlying241 rfl (by kernel_rfl)) hd hR
theorem partsCells_at : ∀ (ps : List (List UInt8)) (i j : Nat) (h : i < ps.length), j < 3 → (partsCells ps)[i * 3 + j]? = (partCells ps[i])[j]?
 | p :: r, 0, j, _, hj => by
  simp only [partsCells, List.flatMap_cons, Nat.zero_mul, Nat.zero_add, List.getElem_cons_zero]
  rw [List.getElem?_append_left (by simpa [partCells] using hj)]
 | p :: r, i + 1, j, h, hj => by
  have := partsCells_at r i j (by simpa using h) hj
  simp only [partsCells, List.flatMap_cons, List.getElem_cons_succ] at this ⊢
  rw [List.getElem?_append_right (by simp [partCells]; omega), ← this]
  congr 1
  simp [partCells]
  omega
theorem parts_cell {w : World} {B : Nat} {v : Value} {n : Nat} {ps : List (List UInt8)} (h : w.ownsRow B 241 3 v n (partsCells ps)) (hn : n = ps.length) (i : Nat) (hi : i < ps.length) :
  ∃ g cap, v = .slice (some ⟨g, 0, none⟩) n cap ∧ n ≤ cap ∧ w.cell? ⟨g, i * 3, none⟩ = some (.int .i64 (rankOf ps[i])) ∧ w.cell? ⟨g, i * 3 + 1, none⟩ = some (.int .i64 (numOf ps[i])) ∧ w.cell? ⟨g, i * 3 + 2, none⟩ = some (.string ⟨(wordOf ps[i]).toArray⟩) := by
 obtain ⟨g, cap, rfl, _, _, h1, _, h2⟩ := ownsRow_some h (by omega)
 exact ⟨g, cap, rfl, h1, h2 _ _ (partsCells_at ps i 0 hi (by omega)), h2 _ _ (partsCells_at ps i 1 hi (by omega)), h2 _ _ (partsCells_at ps i 2 hi (by omega))⟩
set_option maxRecDepth 10000 in
set_option maxHeartbeats 1000000 in
theorem at_any {w : World} {B : Nat} {v : Value} {ps : List (List UInt8)} (h : w.ownsRow B 241 3 v ps.length (partsCells ps)) (h8 : ps.length ≤ 8) (i : Nat) (hi8 : i < 8) :
  Calls Tryz.prog 197 #[v, .int .i64 i] w fun e w' => e = .returned (.agg #[.int .i64 (rankOf (ps.getD i [])), .int .i64 (numOf (ps.getD i [])), .string ⟨(wordOf (ps.getD i [])).toArray⟩]) ∧ Below w.heap.size w w' := by
 have hb1 : Below w.heap.size w (w.alloc (.cells #[.int .i64 0, .int .i64 0, .string ⟨#[]⟩] 241)) := below_alloc1 _ _
 have hr1 : (w.alloc (.cells #[.int .i64 0, .int .i64 0, .string ⟨#[]⟩] 241)).heap[w.heap.size]? = some (.cells #[.int .i64 0, .int .i64 0, .string ⟨#[]⟩] 241 (0, 0)) := heap_new_at rfl
 by_cases hi : i < ps.length
 ·obtain ⟨g, cap, rfl, hcap, c0, c1, c2⟩ := parts_cell h rfl i hi
  rw [getD_lt hi]
  have d0 := cell_later hb1 c0
  have d1 := cell_later hb1 c1
  have d2 := cell_later hb1 c2
  obtain ⟨n, hn⟩ : ∃ n, n = ps.length := ⟨_, rfl⟩
  obtain ⟨x, hx⟩ : ∃ x, x = rankOf ps[i] := ⟨_, rfl⟩
  obtain ⟨y, hy⟩ : ∃ y, y = numOf ps[i] := ⟨_, rfl⟩
  obtain ⟨z, hz⟩ : ∃ z, z = (⟨(wordOf ps[i]).toArray⟩ : ByteArray) := ⟨_, rfl⟩
  rw [← hx] at c0 d0 ⊢
  rw [← hy] at c1 d1 ⊢
  rw [← hz] at c2 d2 ⊢
  rw [← hn] at h h8 hi hcap ⊢
  have k1 : (i : Int) < (n : Int) := by omega
  have k2 : decide ((i : Int) < (n : Int)) = true := decide_eq_true k1
  obtain ⟨Hh, Hn, Hx, Hy, Hz, Hb1, Hr1⟩ := hd7 h hn hx hy hz hb1 hr1; clear h hn hx hy hz hb1 hr1
  clear c0 c1 c2
  go_enter Tryz.func197, Tryz.ntmps197
  go_wp2_with fail
  exact bodyPost_part1 rfl rfl (heap_new_at rfl) rfl ⟨by rw [Hx.out, Hy.out, Hz.out], below_alloc1 _ _⟩
 ·obtain ⟨a, cap, rfl⟩ := own_shape h
  rw [getD_ge (by omega)]
  obtain ⟨n, hn⟩ : ∃ n, n = ps.length := ⟨_, rfl⟩
  rw [← hn] at h h8 hi ⊢
  have k1 : decide ((i : Int) < (n : Int)) = false := decide_eq_false (by omega)
  obtain ⟨Hh, Hn, Hb1, Hr1⟩ := hd4 h hn hb1 hr1; clear h hn hb1 hr1
  go_enter Tryz.func197, Tryz.ntmps197
  go_wp2_with fail
  exact bodyPost_part1 rfl rfl (heap_new_at rfl) rfl ⟨rfl, below_alloc1 _ _⟩
end Go.Proofs.YteailgjiifdgcaaGreatDoor

/- The walk of version.Compare: how two texts stand to each other. Condition: the library's variables as they were laid. -/
namespace Go.Proofs.YteailgjiifdgcaaGreatDoor
open Go.Shelf Go.RowKit Go.Lib Go.Sort VerN

theorem or3 (r a b c : Int) (h : (if a ≠ 0 then a else if b ≠ 0 then b else c) = r) : orOf [a, b, c] = r := by
 rw [← h]
 unfold orOf orOf orOf orOf
 split
 ·rfl
 ·split
  ·rfl
  ·split
   ·rfl
   ·rename_i h; simpa using Eq.symm (by simpa using h)
theorem or3_any (c1 c2 c3 r : Int) (hO : orOf [c1, c2, c3] = r) (W : World) : Calls Tryz.prog 198 #[.slice (some ⟨W.heap.size, 0, none⟩) 3 3] (W.alloc (.cells #[.int .i64 c1, .int .i64 c2, .int .i64 c3] 3)).drew fun e w' => e = .returned (.int .i64 r) ∧ (W.alloc (.cells #[.int .i64 c1, .int .i64 c2, .int .i64 c3] 3)).drew = w' := by
 rw [← hO]
 exact or_any W.heap.size 0 3 [c1, c2, c3] _ (by simp) (by
  intro i x hx
  show (W.alloc (.cells #[.int .i64 c1, .int .i64 c2, .int .i64 c3] 3)).cell? ⟨W.heap.size, 0 + i, none⟩ = _
  rw [Nat.zero_add, World.cell?_alloc_new]
  match i, hx with
  | 0, hx => simpa using hx
  | 1, hx => simpa using hx
  | 2, hx => simpa using hx)
set_option maxRecDepth 10000 in
set_option maxHeartbeats 4000000 in
theorem verCompare_any (a b : ByteArray) (ha : a.size ≤ 1000000) (hb : b.size ≤ 1000000) {w : World} (hD : Doors w) :
  Calls Tryz.prog 164 #[.string a, .string b] w fun e w' => e = .returned (.int .i64 (compareL a.data.toList b.data.toList)) ∧ Below w.heap.size w w' := by
 obtain ⟨r, hr⟩ : ∃ r, r = compareL a.data.toList b.data.toList := ⟨_, rfl⟩
 have hP := parts_any a ha hD
 have hQ := fun (W : World) (h : Below w.heap.size w W) => parts_any b hb (hD.below h)
 obtain ⟨ps, hps⟩ : ∃ x, x = cutL 46 a.data.toList := ⟨_, rfl⟩
 obtain ⟨qs, hqs⟩ : ∃ x, x = cutL 46 b.data.toList := ⟨_, rfl⟩
 obtain ⟨p, hp⟩ : ∃ x, x = mayL a.data.toList := ⟨_, rfl⟩
 obtain ⟨q, hq⟩ : ∃ x, x = mayL b.data.toList := ⟨_, rfl⟩
 have hcmp : r = if p = false ∧ q = false then 0 else if p = false then -1 else if q = false then 1 else cmpFrom ps qs 0 (max ps.length qs.length) := by rw [hr, hp, hq, hps, hqs]; rfl
 have hp8 : p = true → ps.length ≤ 8 := fun h => by rw [hps]; exact ((may_iff _).1 (by rw [← hp]; exact h)).2.2.2
 have hq8 : q = true → qs.length ≤ 8 := fun h => by rw [hqs]; exact ((may_iff _).1 (by rw [← hq]; exact h)).2.2.2
 rw [← hr]
 unfold partsPost at hP hQ
 rw [← hps, ← hp] at hP
 rw [← hqs, ← hq] at hQ
 obtain ⟨Hr, HP, HQ, Hps, Hqs, Hp, Hq, Hcmp, Hp8, Hq8, HD⟩ := hd11 hr hP hQ hps hqs hp hq hcmp hp8 hq8 hD; clear hr hP hQ hps hqs hp hq hcmp hp8 hq8 hD
 go_enter Tryz.func164, Tryz.ntmps164
 go_wp2_with fail
 refine HP.out.mono ?_
 rintro e w1 ⟨v1, rfl, hv1, hn1, hb1⟩
 have hQ1 := HQ.out w1 hb1
 obtain ⟨Hv1, Hn1, Hb1, HQ1⟩ := hd4 hv1 hn1 hb1 hQ1; clear hv1 hn1 hb1 hQ1
 go_wp2_with fail
 refine HQ1.out.mono ?_
 rintro e w2 ⟨v2, rfl, hv2, hn2, hb2⟩
 have hb := Hb1.out.trans (hb2.mono Hb1.out.size)
 obtain ⟨Hv2, Hn2, Hb2, Hb⟩ := hd4 hv2 hn2 hb2 hb; clear hv2 hn2 hb2 hb
 cases p with
 | false =>
  cases q with
  | false =>
   have h0 : r = 0 := by rw [Hcmp.out]; rfl
   have H0 := hd h0; clear h0
   go_wp2_with fail
   go_ret
   exact ⟨ret_int H0.out.symm, Hb.out⟩
  | true =>
   have h0 : r = -1 := by rw [Hcmp.out]; rfl
   have H0 := hd h0; clear h0
   go_wp2_with fail
   go_ret
   exact ⟨ret_int H0.out.symm, Hb.out⟩
 | true =>
  cases q with
  | false =>
   have h0 : r = 1 := by rw [Hcmp.out]; rfl
   have H0 := hd h0; clear h0
   go_wp2_with fail
   go_ret
   exact ⟨ret_int H0.out.symm, Hb.out⟩
  | true =>
   have h8 := Hp8.out rfl
   have h9 := Hq8.out rfl
   have o1 := ownsRow_below (Hv1.out rfl) Hb2.out
   have o2 := Hv2.out rfl
   obtain ⟨a1, cap1, rfl⟩ := own_shape o1
   obtain ⟨a2, cap2, rfl⟩ := own_shape o2
   have h0 : r = cmpFrom ps qs 0 (max ps.length qs.length) := by rw [Hcmp.out]; rfl
   obtain ⟨m, hm⟩ : ∃ m, m = ps.length := ⟨_, rfl⟩
   obtain ⟨n, hn⟩ : ∃ n, n = qs.length := ⟨_, rfl⟩
   rw [← hm] at h8 o1 h0 ⊢
   rw [← hn] at h9 o2 h0 ⊢
   obtain ⟨N, hN⟩ : ∃ N, N = max m n := ⟨_, rfl⟩
   rw [← hN] at h0
   have hN8 : N ≤ 8 := by omega
   have hNi : max (m : Int) (n : Int) = (N : Int) := by omega
   obtain ⟨H0, Ho1, Ho2, Hm, Hn⟩ := hd5 h0 o1 o2 hm hn; clear h0 o1 o2 hm hn
   clear Hv1 Hv2 Hn1 Hn2 Hcmp Hp8 Hq8 HP HQ HQ1
   go_wp2_with fail
   go_loopw [41] (fun i wr => ∃ k : Nat, k ≤ N ∧ i = .int .i64 k ∧ r = cmpFrom ps qs k (N - k) ∧ Below w2.heap.size w2 wr) (fun i _ => N - (RowKit.intOf i).toNat)
   case atStart => exact ⟨0, Nat.zero_le _, rfl, H0.out, Below.refl _ _⟩
   case round =>
    obtain ⟨k, hk, rfl, hrk, hbk⟩ := hrel
    by_cases hlt : k < N
    ·have p1 := ownsRow_below Ho1.out hbk
     have p2 := ownsRow_below Ho2.out hbk
     have em := Hm.out
     have en := Hn.out
     rw [em] at p1
     rw [en] at p2
     have hA := at_any p1 (by omega) k (by omega)
     have hB := fun (W : World) (h : Below wr.heap.size wr W) => at_any (ownsRow_below p2 h) (by omega) k (by omega)
     rw [← em] at hA
     rw [← en] at hB
     obtain ⟨x, hx⟩ : ∃ x, x = ps.getD k [] := ⟨_, rfl⟩
     obtain ⟨y, hy⟩ : ∃ x, x = qs.getD k [] := ⟨_, rfl⟩
     rw [← hx] at hA
     rw [← hy] at hB
     have hr2 : r = if pcmp x y ≠ 0 then pcmp x y else cmpFrom ps qs (k + 1) (N - (k + 1)) := by
      rw [hrk, show N - k = (N - (k + 1)) + 1 by omega, hx, hy]; rfl
     obtain ⟨c, hc⟩ : ∃ c, c = pcmp x y := ⟨_, rfl⟩
     rw [← hc] at hr2
     obtain ⟨r1, hr1⟩ : ∃ v, v = rankOf x := ⟨_, rfl⟩
     obtain ⟨m1, hm1⟩ : ∃ v, v = numOf x := ⟨_, rfl⟩
     obtain ⟨t1, ht1⟩ : ∃ v, v = (⟨(wordOf x).toArray⟩ : ByteArray) := ⟨_, rfl⟩
     obtain ⟨r2, hrr2⟩ : ∃ v, v = rankOf y := ⟨_, rfl⟩
     obtain ⟨m2, hm2⟩ : ∃ v, v = numOf y := ⟨_, rfl⟩
     obtain ⟨t2, ht2⟩ : ∃ v, v = (⟨(wordOf y).toArray⟩ : ByteArray) := ⟨_, rfl⟩
     rw [← hr1, ← hm1, ← ht1] at hA
     rw [← hrr2, ← hm2, ← ht2] at hB
     obtain ⟨c1, hc1⟩ : ∃ v, v = compareInt r1 r2 := ⟨_, rfl⟩
     obtain ⟨c2, hc2⟩ : ∃ v, v = compareInt m1 m2 := ⟨_, rfl⟩
     obtain ⟨c3, hc3⟩ : ∃ v, v = cmpW t1.data.toList t2.data.toList := ⟨_, rfl⟩
     have hC1 := fun W => compare_any r1 r2 W
     have hC2 := fun W => compare_any m1 m2 W
     have hC3 := fun W => compareW_any t1 t2 W
     rw [← hc1] at hC1
     rw [← hc2] at hC2
     rw [← hc3] at hC3
     have hF := or3_any c1 c2 c3 c (or3 c c1 c2 c3 (by rw [hc, hc1, hc2, hc3, hr1, hrr2, hm1, hm2, ht1, ht2]; rfl))
     clear hr1 hrr2 hm1 hm2 ht1 ht2 hc1 hc2 hc3 hc em en
     obtain ⟨Hp1, Hp2, HA, HB, Hx, Hy, Hrk, Hr2, HC1, HC2, HC3, HF, Hbk⟩ := hd13 p1 p2 hA hB hx hy hrk hr2 hC1 hC2 hC3 hF hbk; clear p1 p2 hA hB hx hy hrk hr2 hC1 hC2 hC3 hF hbk
     go_wp2_with fail
     refine HA.out.mono ?_
     rintro e w3 ⟨rfl, hb3⟩
     have hB3 := HB.out w3 hb3
     obtain ⟨HB3, Hb3⟩ := hd2 hB3 hb3; clear hB3 hb3
     clear HB
     go_wp2_with fail
     refine HB3.out.mono ?_
     rintro e w4 ⟨rfl, hb4⟩
     have hb5 := Hbk.out.trans ((Hb3.out.trans (hb4.mono Hb3.out.size)).mono Hbk.out.size)
     obtain ⟨Hb4, Hb5⟩ := hd2 hb4 hb5; clear hb4 hb5
     obtain ⟨A, hA⟩ : ∃ A, A = Obj.cells #[.int .i64 r1, .int .i64 m1, .string t1] 241 := ⟨_, rfl⟩
     obtain ⟨B, hB⟩ : ∃ A, A = Obj.cells #[.int .i64 r2, .int .i64 m2, .string t2] 241 := ⟨_, rfl⟩
     obtain ⟨pa, hpa⟩ : ∃ n, n = w4.heap.size := ⟨_, rfl⟩
     obtain ⟨pb, hpb⟩ : ∃ n, n = w4.heap.size + 1 := ⟨_, rfl⟩
     obtain ⟨W0, hW0⟩ : ∃ W, W = (w4.alloc A).alloc B := ⟨_, rfl⟩
     have hX : W0.heap[pa]? = some (.cells #[.int .i64 r1, .int .i64 m1, .string t1] 241 (0, 0)) := by
      rw [hW0, hpa]; exact heap_below (below_alloc1 _ _) (by rw [hA]; exact heap_alloc_new _ _)
     have hY : W0.heap[pb]? = some (.cells #[.int .i64 r2, .int .i64 m2, .string t2] 241 (0, 0)) := by
      rw [hW0, hpb, hB, show w4.heap.size + 1 = (w4.alloc A).heap.size by simp]; exact heap_alloc_new _ _
     have hbW : Below w2.heap.size w2 W0 := by
      rw [hW0]
      exact (Hb5.out.alloc Hb5.out.size _).alloc (by have := Hb5.out.size; simp; omega) _
     obtain ⟨x0, x1, x2, _, _, _⟩ := trip_cells hX
     obtain ⟨y0, y1, y2, _, _, _⟩ := trip_cells hY
     obtain ⟨HA, HB, Hpa, Hpb, HW0, HX, HY, HbW⟩ := hd8 hA hB hpa hpb hW0 hX hY hbW; clear hA hB hpa hpb hW0 hX hY hbW
     go_upto_region 13 with fail
     rw [← HA.out, ← HB.out, ← HW0.out, ← Hpb.out, ← Hpa.out]
     have hS : W0.cell? ⟨pa, 0, none⟩ = some (.int .i64 r1) ∧ W0.cell? ⟨pa, 1, none⟩ = some (.int .i64 m1) ∧ W0.cell? ⟨pa, 2, none⟩ = some (.string t1) ∧ W0.cell? ⟨pb, 0, none⟩ = some (.int .i64 r2) ∧ W0.cell? ⟨pb, 1, none⟩ = some (.int .i64 m2) ∧ W0.cell? ⟨pb, 2, none⟩ = some (.string t2) := ⟨x0, x1, x2, y0, y1, y2⟩
     have hS1 : ∀ o, (W0.drew.alloc o).cell? ⟨pa, 0, none⟩ = some (.int .i64 r1) ∧ (W0.drew.alloc o).cell? ⟨pa, 1, none⟩ = some (.int .i64 m1) ∧ (W0.drew.alloc o).cell? ⟨pa, 2, none⟩ = some (.string t1) ∧ (W0.drew.alloc o).cell? ⟨pb, 0, none⟩ = some (.int .i64 r2) ∧ (W0.drew.alloc o).cell? ⟨pb, 1, none⟩ = some (.int .i64 m2) ∧ (W0.drew.alloc o).cell? ⟨pb, 2, none⟩ = some (.string t2) := fun o =>
      ⟨cell_later (below_alloc1 W0.drew o) x0, cell_later (below_alloc1 W0.drew o) x1, cell_later (below_alloc1 W0.drew o) x2, cell_later (below_alloc1 W0.drew o) y0, cell_later (below_alloc1 W0.drew o) y1, cell_later (below_alloc1 W0.drew o) y2⟩
     have hbW2 : ∀ o, Below w2.heap.size w2 (W0.alloc o).drew := fun o => (HbW.out.alloc HbW.out.size o).drew
     obtain ⟨HS, HS1, HbW2⟩ := hd3 hS hS1 hbW2; clear hS hS1 hbW2
     clear HA HB HW0 Hpa Hpb HX HY
     go_region_held3 (fun w' => w'.cell? ⟨pa, 0, none⟩ = some (.int .i64 r1) ∧ w'.cell? ⟨pa, 1, none⟩ = some (.int .i64 m1) ∧ w'.cell? ⟨pa, 2, none⟩ = some (.string t1) ∧ w'.cell? ⟨pb, 0, none⟩ = some (.int .i64 r2) ∧ w'.cell? ⟨pb, 1, none⟩ = some (.int .i64 m2) ∧ w'.cell? ⟨pb, 2, none⟩ = some (.string t2)) (first | exact HS.out | exact HS1.out _) (first
      | (go_at_call_of 199 (Value.int .i64 r1); refine (HC1.out _).mono ?_; rintro e w5 ⟨rfl, rfl⟩)
      | (go_at_call_of 199 (Value.int .i64 m1); refine (HC2.out _).mono ?_; rintro e w5 ⟨rfl, rfl⟩)
      | (go_at_call_of 200 (Value.string t1); refine (HC3.out _).mono ?_; rintro e w5 ⟨rfl, rfl⟩)
      | (go_at_call 198; refine (HF.out W0).mono ?_; rintro e w5 ⟨rfl, rfl⟩))
     all_goals
      have hbz := HbW2.out (.cells #[.int .i64 c1, .int .i64 c2, .int .i64 c3] 3)
      generalize (W0.alloc (.cells #[.int .i64 c1, .int .i64 c2, .int .i64 c3] 3)).drew = W9 at hbz ⊢
      by_cases hc0 : c = 0
      ·have e1 : (c != 0) = false := by rw [hc0]; rfl
       have hn_ : r = cmpFrom ps qs (k + 1) (N - (k + 1)) := by rw [Hr2.out, if_neg (by rw [hc0]; simp)]
       obtain ⟨Hbz, Hc0, Hn_⟩ := hd3 hbz hc0 hn_; clear hbz hc0 hn_
       go_wp2_with fail
       go_roundw
       case rel => exact ⟨k + 1, by omega, by go_num, Hn_.out, Hbz.out⟩
       case measure => simp [RowKit.intOf]; omega
      ·have e1 : (c != 0) = true := by simpa using hc0
       have hn_ : r = c := by rw [Hr2.out, if_pos hc0]
       have hb9 := Hb.out.trans (hbz.mono Hb.out.size)
       obtain ⟨Hbz, Hc0, Hn_, Hb9⟩ := hd4 hbz hc0 hn_ hb9; clear hbz hc0 hn_ hb9
       go_wp2_with fail
       go_ret
       exact ⟨ret_int Hn_.out.symm, Hb9.out⟩
    ·obtain rfl : k = N := by omega
     have hfin : r = 0 := by rw [hrk, Nat.sub_self]; rfl
     have hb9 := Hb.out.trans (hbk.mono Hb.out.size)
     obtain ⟨Hrk, Hbk, Hfin, Hb9⟩ := hd4 hrk hbk hfin hb9; clear hrk hbk hfin hb9
     go_wp2_with fail
     go_ret
     exact ⟨ret_int Hfin.out.symm, Hb9.out⟩
end Go.Proofs.YteailgjiifdgcaaGreatDoor

/- Rows of texts: how they are read, and what stays. No condition. -/
namespace Go.Proofs.YteailgjiifdgcaaGreatDoor
open Go.RowKit Go.Lib

abbrev RTs : Rd (List ByteArray) := RSlice 1 RStr
theorem txts_open {w : World} {v : Value} {l : List ByteArray} (h : RTs w [v] l) : ∃ a cap, v = .slice a l.length cap ∧ l.length ≤ 9223372036854775807 ∧ ∀ i (hi : i < l.length), ∃ b off, a = some ⟨b, off, none⟩ ∧ w.cell? ⟨b, off + i, none⟩ = some (.string l[i]) ∧ l[i].size ≤ maxLen := by
 obtain ⟨a, cap, hv, hcap, hmax, hel⟩ := h
 simp only [List.cons.injEq, and_true] at hv
 unfold maxLen at hmax
 refine ⟨a, cap, hv, by omega, fun i hi => ?_⟩
 obtain ⟨b, off, ecs, h1, h2, h3, h4, h5⟩ := hel i l[i] (List.getElem?_eq_getElem hi)
 subst h4
 exact ⟨b, off, h1, by simpa using h3 0 _ rfl, h5⟩
theorem own_texts {w : World} {B : Nat} {v : Value} {n : Nat} {l : List ByteArray} (h : w.ownsRow B 9 1 v n (l.map Value.string)) (hs : ∀ x ∈ l, x.size ≤ maxLen) : RTs w [v] l := by
 obtain rfl : n = l.length := by have := h.1; simp at this; omega
 refine slice_of_owns (by simp) h fun i u x hu hx => ?_
 rw [List.getElem?_map, hx] at hu
 cases hu
 exact ⟨rfl, hs x (List.mem_of_getElem? hx)⟩
end Go.Proofs.YteailgjiifdgcaaGreatDoor

/- The walks of version.May, span.bound, span.ahead, span.later, span.sooner and the document's bound. Condition: the library's variables as they were laid; texts of at most a million bytes. -/
namespace Go.Proofs.YteailgjiifdgcaaGreatDoor
open Go.RowKit Go.Lib VerN

theorem calls_to {f : Nat} {args : Array Value} {w W : World} {E : Ending} (h : Below w.heap.size w W) (c : Calls Tryz.prog f args W fun e w' => e = E ∧ Below W.heap.size W w') : Calls Tryz.prog f args W fun e w' => e = E ∧ Below w.heap.size w w' :=
 c.mono fun _ _ ⟨he, hb⟩ => ⟨he, h.trans (hb.mono h.size)⟩
set_option maxRecDepth 10000 in
theorem verMay_any (s : ByteArray) (hs : s.size ≤ 1000000) {w : World} (hD : Doors w) : Calls Tryz.prog 124 #[.string s] w fun e w' => e = .returned (.bool (mayL s.data.toList)) ∧ Below w.heap.size w w' := by
 have hP := parts_any s hs hD
 unfold partsPost at hP
 obtain ⟨p, hp⟩ : ∃ p, p = mayL s.data.toList := ⟨_, rfl⟩
 rw [← hp] at hP ⊢
 obtain ⟨HP, Hp, HD⟩ := hd3 hP hp hD; clear hP hp hD
 go_enter Tryz.func124, Tryz.ntmps124
 go_wp2_with fail
 refine HP.out.mono ?_
 rintro e w1 ⟨v, rfl, _, _, hb1⟩
 have Hb1 := hd hb1; clear hb1
 go_wp2_with fail
 go_ret
 exact ⟨rfl, Hb1.out⟩
theorem bound_yes {s : ByteArray} (h : s.size = 0) : boundB s.data.toList = true := by unfold boundB; rw [(nil_size s).2 h]; rfl
theorem bound_no {s : ByteArray} (h : s.size ≠ 0) : boundB s.data.toList = mayL s.data.toList := by unfold boundB; rw [decide_eq_false (fun e => h ((nil_size s).1 e))]; rfl
set_option maxRecDepth 10000 in
theorem bound_any (s : ByteArray) (hs : s.size ≤ 1000000) {w : World} (hD : Doors w) : Calls Tryz.prog 162 #[.string s] w fun e w' => e = .returned (.bool (boundB s.data.toList)) ∧ Below w.heap.size w w' := by
 by_cases h0 : s.size = 0
 ·rw [bound_yes h0]
  have k1 : s.toList.isEmpty = true := by rw [Txt.no_dec, decide_eq_true h0]
  have HD := hd hD; clear hD
  go_enter Tryz.func162, Tryz.ntmps162
  go_wp2_with fail
  go_ret
  exact ⟨rfl, Below.refl _ _⟩
 ·have hP := verMay_any s hs hD
  rw [bound_no h0]
  have k1 : s.toList.isEmpty = false := by rw [Txt.no_dec, decide_eq_false h0]
  obtain ⟨p, hp⟩ : ∃ p, p = mayL s.data.toList := ⟨_, rfl⟩
  rw [← hp] at hP ⊢
  obtain ⟨HP, Hp, HD⟩ := hd3 hP hp hD; clear hP hp hD
  go_enter Tryz.func162, Tryz.ntmps162
  go_wp2_with fail
  refine HP.out.mono ?_
  rintro e w1 ⟨rfl, hb1⟩
  have Hb1 := hd hb1; clear hb1
  go_wp2_with fail
  go_ret
  exact ⟨rfl, Hb1.out⟩
theorem ahead_l {a b : ByteArray} (h : a.size = 0) : aheadB a.data.toList b.data.toList = false := by unfold aheadB; rw [(nil_size a).2 h]; rfl
theorem ahead_r {a b : ByteArray} (h : b.size = 0) : aheadB a.data.toList b.data.toList = false := by unfold aheadB; rw [(nil_size b).2 h]; simp
theorem ahead_c {a b : ByteArray} (h : a.size ≠ 0) (k : b.size ≠ 0) : aheadB a.data.toList b.data.toList = decide (compareL a.data.toList b.data.toList < 0) := by
 have h1 : decide (a.data.toList ≠ []) = true := decide_eq_true (fun e => h ((nil_size a).1 e))
 have h2 : decide (b.data.toList ≠ []) = true := decide_eq_true (fun e => k ((nil_size b).1 e))
 unfold aheadB
 rw [h1, h2]
 rfl
set_option maxRecDepth 10000 in
theorem ahead_any (a b : ByteArray) (ha : a.size ≤ 1000000) (hb : b.size ≤ 1000000) {w : World} (hD : Doors w) : Calls Tryz.prog 125 #[.string a, .string b] w fun e w' => e = .returned (.bool (aheadB a.data.toList b.data.toList)) ∧ Below w.heap.size w w' := by
 by_cases h0 : a.size = 0
 ·rw [ahead_l h0]
  have k1 : a.toList.isEmpty = true := by rw [Txt.no_dec, decide_eq_true h0]
  have HD := hd hD; clear hD
  go_enter Tryz.func125, Tryz.ntmps125
  go_wp2_with fail
  go_ret
  exact ⟨rfl, Below.refl _ _⟩
 ·have k1 : a.toList.isEmpty = false := by rw [Txt.no_dec, decide_eq_false h0]
  by_cases h1 : b.size = 0
  ·rw [ahead_r h1]
   have k2 : b.toList.isEmpty = true := by rw [Txt.no_dec, decide_eq_true h1]
   have HD := hd hD; clear hD
   go_enter Tryz.func125, Tryz.ntmps125
   go_wp2_with fail
   go_ret
   exact ⟨rfl, Below.refl _ _⟩
  ·have k2 : b.toList.isEmpty = false := by rw [Txt.no_dec, decide_eq_false h1]
   have hP := verCompare_any a b ha hb hD
   rw [ahead_c h0 h1]
   obtain ⟨p, hp⟩ : ∃ p, p = compareL a.data.toList b.data.toList := ⟨_, rfl⟩
   rw [← hp] at hP ⊢
   obtain ⟨HP, Hp, HD⟩ := hd3 hP hp hD; clear hP hp hD
   go_enter Tryz.func125, Tryz.ntmps125
   go_wp2_with fail
   refine HP.out.mono ?_
   rintro e w1 ⟨rfl, hb1⟩
   have Hb1 := hd hb1; clear hb1
   go_wp2_with fail
   go_ret
   exact ⟨rfl, Hb1.out⟩
def laterS (a b : ByteArray) : ByteArray := if a.size = 0 ∨ aheadB a.data.toList b.data.toList = true then b else a
def soonerS (a b : ByteArray) : ByteArray := if a.size = 0 ∨ aheadB b.data.toList a.data.toList = true then b else a
theorem laterS_data (a b : ByteArray) : (laterS a b).data.toList = laterB a.data.toList b.data.toList := by
 unfold laterS laterB
 simp only [nil_size]
 split <;> rfl
theorem soonerS_data (a b : ByteArray) : (soonerS a b).data.toList = soonerB a.data.toList b.data.toList := by
 unfold soonerS soonerB
 simp only [nil_size]
 split <;> rfl
theorem laterS_size {a b : ByteArray} {n : Nat} (ha : a.size ≤ n) (hb : b.size ≤ n) : (laterS a b).size ≤ n := by unfold laterS; split <;> assumption
theorem soonerS_size {a b : ByteArray} {n : Nat} (ha : a.size ≤ n) (hb : b.size ≤ n) : (soonerS a b).size ≤ n := by unfold soonerS; split <;> assumption
set_option maxRecDepth 10000 in
theorem later_any (a b : ByteArray) (ha : a.size ≤ 1000000) (hb : b.size ≤ 1000000) {w : World} (hD : Doors w) : Calls Tryz.prog 166 #[.string a, .string b] w fun e w' => e = .returned (.string (laterS a b)) ∧ Below w.heap.size w w' := by
 by_cases h0 : a.size = 0
 ·have hv : laterS a b = b := by unfold laterS; rw [if_pos (.inl h0)]
  rw [hv]
  have k1 : a.toList.isEmpty = true := by rw [Txt.no_dec, decide_eq_true h0]
  obtain ⟨HD, Hv⟩ := hd2 hD hv; clear hD hv
  go_enter Tryz.func166, Tryz.ntmps166
  go_wp2_with fail
  go_ret
  exact ⟨rfl, Below.refl _ _⟩
 ·have k1 : a.toList.isEmpty = false := by rw [Txt.no_dec, decide_eq_false h0]
  have hA := ahead_any a b ha hb hD
  obtain ⟨p, hp⟩ : ∃ p, p = aheadB a.data.toList b.data.toList := ⟨_, rfl⟩
  rw [← hp] at hA
  cases p with
  | true =>
   have hv : laterS a b = b := by unfold laterS; rw [if_pos (.inr hp.symm)]
   rw [hv]
   obtain ⟨HA, Hp, HD, Hv⟩ := hd4 hA hp hD hv; clear hA hp hD hv
   go_enter Tryz.func166, Tryz.ntmps166
   go_wp2_with fail
   refine HA.out.mono ?_
   rintro e w1 ⟨rfl, hb1⟩
   have Hb1 := hd hb1; clear hb1
   go_wp2_with fail
   go_ret
   exact ⟨rfl, Hb1.out⟩
  | false =>
   have hv : laterS a b = a := by unfold laterS; rw [if_neg (by rintro (h | h); exact h0 h; rw [h] at hp; cases hp)]
   rw [hv]
   obtain ⟨HA, Hp, HD, Hv⟩ := hd4 hA hp hD hv; clear hA hp hD hv
   go_enter Tryz.func166, Tryz.ntmps166
   go_wp2_with fail
   refine HA.out.mono ?_
   rintro e w1 ⟨rfl, hb1⟩
   have Hb1 := hd hb1; clear hb1
   go_wp2_with fail
   go_ret
   exact ⟨rfl, Hb1.out⟩
set_option maxRecDepth 10000 in
theorem sooner_any (a b : ByteArray) (ha : a.size ≤ 1000000) (hb : b.size ≤ 1000000) {w : World} (hD : Doors w) : Calls Tryz.prog 165 #[.string a, .string b] w fun e w' => e = .returned (.string (soonerS a b)) ∧ Below w.heap.size w w' := by
 by_cases h0 : a.size = 0
 ·have hv : soonerS a b = b := by unfold soonerS; rw [if_pos (.inl h0)]
  rw [hv]
  have k1 : a.toList.isEmpty = true := by rw [Txt.no_dec, decide_eq_true h0]
  obtain ⟨HD, Hv⟩ := hd2 hD hv; clear hD hv
  go_enter Tryz.func165, Tryz.ntmps165
  go_wp2_with fail
  go_ret
  exact ⟨rfl, Below.refl _ _⟩
 ·have k1 : a.toList.isEmpty = false := by rw [Txt.no_dec, decide_eq_false h0]
  have hA := ahead_any b a hb ha hD
  obtain ⟨p, hp⟩ : ∃ p, p = aheadB b.data.toList a.data.toList := ⟨_, rfl⟩
  rw [← hp] at hA
  cases p with
  | true =>
   have hv : soonerS a b = b := by unfold soonerS; rw [if_pos (.inr hp.symm)]
   rw [hv]
   obtain ⟨HA, Hp, HD, Hv⟩ := hd4 hA hp hD hv; clear hA hp hD hv
   go_enter Tryz.func165, Tryz.ntmps165
   go_wp2_with fail
   refine HA.out.mono ?_
   rintro e w1 ⟨rfl, hb1⟩
   have Hb1 := hd hb1; clear hb1
   go_wp2_with fail
   go_ret
   exact ⟨rfl, Hb1.out⟩
  | false =>
   have hv : soonerS a b = a := by unfold soonerS; rw [if_neg (by rintro (h | h); exact h0 h; rw [h] at hp; cases hp)]
   rw [hv]
   obtain ⟨HA, Hp, HD, Hv⟩ := hd4 hA hp hD hv; clear hA hp hD hv
   go_enter Tryz.func165, Tryz.ntmps165
   go_wp2_with fail
   refine HA.out.mono ?_
   rintro e w1 ⟨rfl, hb1⟩
   have Hb1 := hd hb1; clear hb1
   go_wp2_with fail
   go_ret
   exact ⟨rfl, Hb1.out⟩
end Go.Proofs.YteailgjiifdgcaaGreatDoor

/- The walks of span.May, Has and the document's. Condition: the library's variables as they were laid; texts of at most a million bytes. -/
namespace Go.Proofs.YteailgjiifdgcaaGreatDoor
open Go.RowKit Go.Lib VerN

theorem below_on {w W0 W : World} (h : Below w.heap.size w W0) (k : Below W0.heap.size W0 W) : Below w.heap.size w W := h.trans (k.mono h.size)
theorem spn_box (lo hi : ByteArray) (w W : World) (h : Below (w.alloc (.cells #[.string lo, .string hi] 34)).heap.size (w.alloc (.cells #[.string lo, .string hi] 34)) W) : W.cell? ⟨w.heap.size, 0, none⟩ = some (.string lo) ∧ W.cell? ⟨w.heap.size, 1, none⟩ = some (.string hi) := by
 have h1 := heap_below h (heap_alloc_new w (.cells #[.string lo, .string hi] 34))
 exact ⟨cells_at h1 0, cells_at h1 1⟩
theorem empty_bool (s : ByteArray) : s.toList.isEmpty = decide (s.data.toList = []) := by rw [Txt.no_dec]; exact decide_eq_decide.2 (nil_size s).symm
set_option maxRecDepth 10000 in
set_option maxHeartbeats 1000000 in
theorem spanMay_any (lo hi : ByteArray) (hl : lo.size ≤ 1000000) (hh : hi.size ≤ 1000000) {w : World} (hD : Doors w) : Calls Tryz.prog 104 #[.agg #[.string lo, .string hi]] w fun e w' => e = .returned (.bool (mayS (lo.data.toList, hi.data.toList))) ∧ Below w.heap.size w w' := by
 obtain ⟨W0, hW0⟩ : ∃ W0, W0 = w.alloc (.cells #[.string lo, .string hi] 34) := ⟨_, rfl⟩
 obtain ⟨nb, hnb⟩ : ∃ nb, nb = w.heap.size := ⟨_, rfl⟩
 have hw : Below w.heap.size w W0 := by rw [hW0]; exact below_alloc1 _ _
 have hbx : ∀ W, Below W0.heap.size W0 W → W.cell? ⟨nb, 0, none⟩ = some (.string lo) ∧ W.cell? ⟨nb, 1, none⟩ = some (.string hi) := by rw [hW0, hnb]; exact spn_box _ _ _
 obtain ⟨c0, c1⟩ := hbx W0 (Below.refl _ _)
 have hb0 : Below W0.heap.size W0 W0 := Below.refl _ _
 have hA := fun (W : World) (k : Below W0.heap.size W0 W) => calls_to k (bound_any lo hl (hD.below (below_on hw k)))
 have hB := fun (W : World) (k : Below W0.heap.size W0 W) => calls_to k (bound_any hi hh (hD.below (below_on hw k)))
 have hC := fun (W : World) (k : Below W0.heap.size W0 W) => calls_to k (ahead_any hi lo hh hl (hD.below (below_on hw k)))
 obtain ⟨p, hp⟩ : ∃ p, p = boundB lo.data.toList := ⟨_, rfl⟩
 obtain ⟨q, hq⟩ : ∃ p, p = boundB hi.data.toList := ⟨_, rfl⟩
 obtain ⟨r, hr⟩ : ∃ p, p = aheadB hi.data.toList lo.data.toList := ⟨_, rfl⟩
 have hm : mayS (lo.data.toList, hi.data.toList) = (p && q && !r) := by rw [hp, hq, hr]; rfl
 rw [← hp] at hA
 rw [← hq] at hB
 rw [← hr] at hC
 rw [hm]
 clear hm hp hq hr hD
 obtain ⟨HA, HB, HC, Hw, Hbx, Hb0⟩ := hd6 hA hB hC hw hbx hb0; clear hA hB hC hw hbx hb0
 go_enter Tryz.func104, Tryz.ntmps104
 go_upto_region 1 with (fail)
 rw [← hW0, ← hnb]
 clear hW0 hnb
 go_wp2_with fail
 refine (HA.out _ Hb0.out).mono ?_
 rintro e w1 ⟨rfl, hb1⟩
 obtain ⟨c0, c1⟩ := Hbx.out _ hb1
 have Hb1 := hd hb1; clear hb1
 cases p with
 | false =>
  go_wp2_with fail
  go_ret
  exact ⟨rfl, below_on Hw.out Hb1.out⟩
 | true =>
  go_wp2_with fail
  refine (HB.out _ Hb1.out).mono ?_
  rintro e w2 ⟨rfl, hb2⟩
  obtain ⟨c0, c1⟩ := Hbx.out _ hb2
  have Hb2 := hd hb2; clear hb2
  cases q with
  | false =>
   go_wp2_with fail
   go_ret
   exact ⟨rfl, below_on Hw.out Hb2.out⟩
  | true =>
   go_wp2_with fail
   refine (HC.out _ Hb2.out).mono ?_
   rintro e w3 ⟨rfl, hb3⟩
   obtain ⟨c0, c1⟩ := Hbx.out _ hb3
   have Hb3 := hd hb3; clear hb3
   go_wp2_with fail
   go_ret
   exact ⟨rfl, below_on Hw.out Hb3.out⟩
end Go.Proofs.YteailgjiifdgcaaGreatDoor

/- The walks of span.Text, Within, and the document's Text, Great. Condition: the library's variables as they were laid; texts of at most a million bytes. -/
namespace Go.Proofs.YteailgjiifdgcaaGreatDoor
open Go.RowKit Go.Lib VerN

def txR (lo hi : ByteArray) : ByteArray := if lo = hi ∧ lo.size ≠ 0 then lo else lo ++ ⟨#[58]⟩ ++ hi
def txS (lo hi : ByteArray) : ByteArray := if mayS (lo.data.toList, hi.data.toList) = true then txR lo hi else ⟨#[]⟩
theorem colon_data (h a : ByteArray) : (h ++ ⟨#[58]⟩ ++ a).data.toList = h.data.toList ++ 58 :: a.data.toList := by
 rw [Go.Joins.data_append, Go.Joins.data_append, List.append_assoc]
 rfl
theorem colon_size (h a : ByteArray) : (h ++ ⟨#[58]⟩ ++ a).size = h.size + 1 + a.size := by
 rw [← Txt.len, colon_data, List.length_append, List.length_cons, Txt.len, Txt.len]
 omega
theorem ba_eq {a b : ByteArray} : a = b ↔ a.data.toList = b.data.toList := ⟨fun h => by rw [h], Txt.ext⟩
theorem txR_data (lo hi : ByteArray) : (txR lo hi).data.toList = textR (lo.data.toList, hi.data.toList) := by
 unfold txR textR
 simp only [ba_eq, ne_eq, nil_size]
 split
 ·rfl
 ·exact colon_data _ _
theorem txS_data (lo hi : ByteArray) : (txS lo hi).data.toList = textS (lo.data.toList, hi.data.toList) := by
 unfold txS textS
 split
 ·exact txR_data _ _
 ·rfl
theorem txR_size (lo hi : ByteArray) : (txR lo hi).size ≤ lo.size + 1 + hi.size := by
 unfold txR
 split
 ·omega
 ·rw [colon_size]
  exact Nat.le_refl _
set_option maxRecDepth 10000 in
set_option maxHeartbeats 1000000 in
theorem spanText_any (lo hi : ByteArray) (hl : lo.size ≤ 1000000) (hh : hi.size ≤ 1000000) {w : World} (hD : Doors w) : Calls Tryz.prog 57 #[.agg #[.string lo, .string hi]] w fun e w' => e = .returned (.string (txS lo hi)) ∧ Below w.heap.size w w' := by
 obtain ⟨W0, hW0⟩ : ∃ W0, W0 = w.alloc (.cells #[.string lo, .string hi] 34) := ⟨_, rfl⟩
 obtain ⟨nb, hnb⟩ : ∃ nb, nb = w.heap.size := ⟨_, rfl⟩
 have hw : Below w.heap.size w W0 := by rw [hW0]; exact below_alloc1 _ _
 have hbx : ∀ W, Below W0.heap.size W0 W → W.cell? ⟨nb, 0, none⟩ = some (.string lo) ∧ W.cell? ⟨nb, 1, none⟩ = some (.string hi) := by rw [hW0, hnb]; exact spn_box _ _ _
 obtain ⟨c0, c1⟩ := hbx W0 (Below.refl _ _)
 have hb0 : Below W0.heap.size W0 W0 := Below.refl _ _
 obtain ⟨d1, k1⟩ : ∃ p, lo.toList.isEmpty = p := ⟨_, rfl⟩
 obtain ⟨d2, k2⟩ : ∃ p, (lo.toList == hi.toList) = p := ⟨_, rfl⟩
 have e0 : (lo ++ ⟨#[58]⟩).size = lo.size + 1 := by rw [← Txt.len, Go.Joins.data_append, List.length_append, Txt.len]; rfl
 have hA := fun (W : World) (k : Below W0.heap.size W0 W) => calls_to k (spanMay_any lo hi hl hh (hD.below (below_on hw k)))
 obtain ⟨p, hp⟩ : ∃ p, p = mayS (lo.data.toList, hi.data.toList) := ⟨_, rfl⟩
 have hm : txS lo hi = if p = true then (if d2 = true then (if d1 = true then lo ++ ⟨#[58]⟩ ++ hi else lo) else lo ++ ⟨#[58]⟩ ++ hi) else ⟨#[]⟩ := by
  rw [← k1, ← k2, Txt.no_dec, Txt.eq_dec]
  unfold txS txR
  rw [← hp]
  by_cases h1 : lo = hi <;> by_cases h2 : lo.size = 0 <;> simp [h1, h2]
 rw [hm]
 rw [← hp] at hA
 clear hm hp hD
 obtain ⟨HA, Hw, Hbx, Hb0⟩ := hd4 hA hw hbx hb0; clear hA hw hbx hb0
 go_enter Tryz.func57, Tryz.ntmps57
 go_upto_region 1 with (fail)
 rw [← hW0, ← hnb]
 clear hW0 hnb
 go_wp2_with fail
 refine (HA.out _ Hb0.out).mono ?_
 rintro e w1 ⟨rfl, hb1⟩
 obtain ⟨c0, c1⟩ := Hbx.out _ hb1
 have Hb1 := hd hb1; clear hb1
 cases p with
 | false =>
  go_wp2_with fail
  go_ret
  exact ⟨rfl, below_on Hw.out Hb1.out⟩
 | true =>
  cases d2 with
  | false =>
   go_wp2_with fail
   go_ret
   exact ⟨rfl, below_on Hw.out Hb1.out⟩
  | true =>
   cases d1 with
   | false =>
    go_wp2_with fail
    go_ret
    exact ⟨rfl, below_on Hw.out Hb1.out⟩
   | true =>
    go_wp2_with fail
    go_ret
    exact ⟨rfl, below_on Hw.out Hb1.out⟩
end Go.Proofs.YteailgjiifdgcaaGreatDoor

/- Plain facts on spans' texts: a text is read as it was; the program's way of reading and the document's. -/
namespace Go.Proofs.YteailgjiifdgcaaGreatDoor.VerN
open Go.Lib

theorem indexByte_none (c : UInt8) : ∀ l : List UInt8, c ∉ l → indexByte l c = -1
 | [], _ => rfl
 | x :: r, h => by
  have hx : x ≠ c := fun e => h (by simp [e])
  have hr := indexByte_none c r (fun e => h (by simp [e]))
  unfold indexByte
  simp [hx, hr]
theorem indexByte_at (c : UInt8) : ∀ a b : List UInt8, c ∉ a → indexByte (a ++ c :: b) c = a.length
 | [], _, _ => by show indexByte (c :: _) c = _; unfold indexByte; simp
 | x :: r, b, h => by
  have hx : x ≠ c := fun e => h (by simp [e])
  have hr := indexByte_at c r b (fun e => h (by simp [e]))
  show indexByte (x :: (r ++ c :: b)) c = _
  unfold indexByte
  rw [hr]
  simp [hx]
theorem cut_none {l : List UInt8} (h : (58 : UInt8) ∉ l) : cut l [58] = (l, [], false) := by
 unfold cut
 rw [index_one, indexByte_none _ _ h, if_neg (by omega)]
theorem cut_at {a b : List UInt8} (h : (58 : UInt8) ∉ a) : cut (a ++ 58 :: b) [58] = (a, b, true) := by
 unfold cut
 rw [index_one, indexByte_at _ _ _ h, if_pos (by omega)]
 simp
theorem colon_cases (l : List UInt8) : (58 : UInt8) ∉ l ∨ ∃ a b, l = a ++ 58 :: b ∧ (58 : UInt8) ∉ a := by
 by_cases h : (58 : UInt8) ∈ l
 ·exact .inr (List.eq_append_cons_of_mem h)
 ·exact .inl h
def spO (l : List UInt8) : Sp := if (cut l [58]).2.2 = true then ((cut l [58]).1, (cut l [58]).2.1) else ((cut l [58]).1, (cut l [58]).1)
def spOk (l : List UInt8) : Bool := mayS (spO l) && decide (textS (spO l) = l)
end Go.Proofs.YteailgjiifdgcaaGreatDoor.VerN

/- The walk of span.Read. Condition: the library's variables as they were laid; a text of at most a million bytes. -/
namespace Go.Proofs.YteailgjiifdgcaaGreatDoor
open Go.RowKit Go.Lib VerN

theorem bodyPost_spn2 {fn : Func} {p u : Tmp} (hres : fn.results = #[.cell p 34, .tmp u]) {R : Ending → World → Prop} {a : Act} {w : World} {g : Nat} {x y b : Value} (hp : a.tmps.getD p undef = .pointer (some ⟨g, 0, none⟩)) (hu : a.tmps.getD u undef = b)
  (hg : w.heap[g]? = some (.cells #[x, y] 34 (0, 0))) (hd : a.defers = []) (hR : R (.returned (.tuple #[.agg #[x, y], b])) w) : bodyPost Tryz.prog fn R .ret a w := by
 refine bodyPost_ret (v := .tuple #[.agg #[x, y], b]) ?_ hd hR
 rw [results_cell_tmp hres, hp, hu]
 simp only [asAddr, Sem.run_pure, Result.andThen, run_loadVar_row w g 34 34 _ _ _ hg Tryz.underlying34 rfl (by kernel_rfl)]
theorem bodyPost_spn1 {fn : Func} {p : Tmp} (hres : fn.results = #[.cell p 34]) {R : Ending → World → Prop} {a : Act} {w : World} {g : Nat} {x y : Value} (hp : a.tmps.getD p undef = .pointer (some ⟨g, 0, none⟩)) (hg : w.heap[g]? = some (.cells #[x, y] 34 (0, 0))) (hd : a.defers = []) (hR : R (.returned (.agg #[x, y])) w) : bodyPost Tryz.prog fn R .ret a w :=
 bodyPost_ret (results_cell_row hres a.tmps w g _ _ _ _ hp hg Tryz.underlying34 rfl (by kernel_rfl)) hd hR
theorem pair_cells {w : World} {g : Nat} {t : TypeId} {x y : Value} (h : w.heap[g]? = some (.cells #[x, y] t (0, 0))) : w.cell? ⟨g, 0, none⟩ = some x ∧ w.cell? ⟨g, 1, none⟩ = some y ∧ w.frozen? ⟨g, 0, none⟩ = false ∧ w.frozen? ⟨g, 1, none⟩ = false :=
 ⟨cells_at h 0, cells_at h 1, frozen_at h 0, frozen_at h 1⟩
theorem pair_set {w : World} {g : Nat} {t : TypeId} {x y : Value} (u v : Value) (h : w.heap[g]? = some (.cells #[x, y] t (0, 0))) : ((w.setCell ⟨g, 0, none⟩ u).setCell ⟨g, 1, none⟩ v).heap[g]? = some (.cells #[u, v] t (0, 0)) := by
 have k0 := heap_setCell_same _ g 0 _ _ u h
 have k1 := heap_setCell_same _ g 1 _ _ v k0
 exact k1
theorem pair_bel {B : Nat} {a w : World} {g : Nat} (u v : Value) (h : Below B a w) (hg : B ≤ g) : Below B a ((w.setCell ⟨g, 0, none⟩ u).setCell ⟨g, 1, none⟩ v) := (h.setCell (p := ⟨g, 0, none⟩) hg _).setCell (p := ⟨g, 1, none⟩) hg _
theorem ret_spn2 {a b c d : ByteArray} {p q : Bool} (h1 : a = c) (h2 : b = d) (h3 : p = q) : Ending.returned (.tuple #[.agg #[.string a, .string b], .bool p]) = .returned (.tuple #[.agg #[.string c, .string d], .bool q]) := by rw [h1, h2, h3]
def spB (s : ByteArray) : ByteArray × ByteArray := if (cut s.data.toList [58]).2.2 = true then (⟨(cut s.data.toList [58]).1.toArray⟩, ⟨(cut s.data.toList [58]).2.1.toArray⟩) else (⟨(cut s.data.toList [58]).1.toArray⟩, ⟨(cut s.data.toList [58]).1.toArray⟩)
def spV (s : ByteArray) : ByteArray × ByteArray := if spOk s.data.toList = true then spB s else (⟨#[]⟩, ⟨#[]⟩)
theorem spB_data (s : ByteArray) : ((spB s).1.data.toList, (spB s).2.data.toList) = spO s.data.toList := by
 unfold spB spO
 split <;> rfl
theorem cut_small (s : ByteArray) : (cut s.data.toList [58]).1.length ≤ s.size ∧ (cut s.data.toList [58]).2.1.length ≤ s.size := by
 rw [← Txt.len]
 rcases colon_cases s.data.toList with h | ⟨a, b, hab, h⟩
 ·rw [cut_none h]
  exact ⟨Nat.le_refl _, Nat.zero_le _⟩
 ·rw [hab, cut_at h]
  constructor <;> simp
  omega
set_option maxRecDepth 10000 in
set_option maxHeartbeats 2000000 in
theorem spanRead_any (s : ByteArray) (hs : s.size ≤ 100000) {w : World} (hD : Doors w) : Calls Tryz.prog 53 #[.string s] w fun e w' => e = .returned (.tuple #[.agg #[.string (spV s).1, .string (spV s).2], .bool (spOk s.data.toList)]) ∧ Below w.heap.size w w' := by
 obtain ⟨W0, hW0⟩ : ∃ W0, W0 = w.alloc (.cells #[.string ⟨#[]⟩, .string ⟨#[]⟩] 34) := ⟨_, rfl⟩
 obtain ⟨nb, hnb⟩ : ∃ nb, nb = w.heap.size := ⟨_, rfl⟩
 have hw : Below w.heap.size w W0 := by rw [hW0]; exact below_alloc1 _ _
 have hbx : W0.heap[nb]? = some (.cells #[.string ⟨#[]⟩, .string ⟨#[]⟩] 34 (0, 0)) := by rw [hW0, hnb]; exact heap_alloc_new _ _
 obtain ⟨lo, hlo⟩ : ∃ x : ByteArray, x = ⟨(cut s.data.toList [58]).1.toArray⟩ := ⟨_, rfl⟩
 obtain ⟨hi, hhi⟩ : ∃ x : ByteArray, x = ⟨(cut s.data.toList [58]).2.1.toArray⟩ := ⟨_, rfl⟩
 obtain ⟨two, htwo⟩ : ∃ x : Bool, x = (cut s.data.toList [58]).2.2 := ⟨_, rfl⟩
 have hB : spB s = if two = true then (lo, hi) else (lo, lo) := by unfold spB; rw [← hlo, ← hhi, ← htwo]
 have hl : lo.size ≤ 100000 := by have := (cut_small s).1; rw [hlo]; show (cut s.data.toList [58]).1.toArray.size ≤ _; simp; omega
 have hh : hi.size ≤ 100000 := by have := (cut_small s).2; rw [hhi]; show (cut s.data.toList [58]).2.1.toArray.size ≤ _; simp; omega
 obtain ⟨mx, hmx⟩ := (hD.below hw).max
 have hC := Tryz.strings_Cut s ⟨#[58]⟩ _ W0 (by omega) hmx
 clear hmx
 simp only [← hlo, ← hhi, ← htwo] at hC
 obtain ⟨HC, Hw, Hbx, HB, Hlo, Hhi, Htwo, HD⟩ := hd8 hC hw hbx hB hlo hhi htwo hD; clear hC hw hbx hB hlo hhi htwo hD
 go_enter Tryz.func53, Tryz.ntmps53
 go_upto_region 1 with (fail)
 rw [← hW0, ← hnb]
 have hle : w.heap.size ≤ nb := Nat.le_of_eq hnb.symm
 clear hW0 hnb
 have Hle := hd hle; clear hle
 go_wp2_with fail
 refine HC.out.mono ?_
 rintro e w1 ⟨rfl, n, rfl⟩
 have hb1 : Below W0.heap.size W0 (W0.drewN n) := bel_drewN (Below.refl _ _) n
 generalize W0.drewN n = W1 at hb1 ⊢
 have Hb1 := hd hb1; clear hb1
 cases two with
 | true =>
  go_upto_region 5 with (fail)
  obtain ⟨W2, hW2⟩ : ∃ W2, W2 = W1.alloc (.cells #[.string lo, .string hi] 34) := ⟨_, rfl⟩
  obtain ⟨g, hg⟩ : ∃ g, g = W1.heap.size := ⟨_, rfl⟩
  have hb2 : Below W0.heap.size W0 W2 := by rw [hW2]; exact Hb1.out.alloc Hb1.out.size _
  have hgx : W2.heap[g]? = some (.cells #[.string lo, .string hi] 34 (0, 0)) := by rw [hW2, hg]; exact heap_alloc_new _ _
  have hr2 := heap_below hb2 Hbx.out
  have hA := fun (W : World) (k : Below W2.heap.size W2 W) => calls_to k (spanMay_any lo hi (by omega) (by omega) (HD.out.below (below_on Hw.out (hb2.trans (k.mono hb2.size)))))
  have hT := fun (W : World) (k : Below W2.heap.size W2 W) => calls_to k (spanText_any lo hi (by omega) (by omega) (HD.out.below (below_on Hw.out (hb2.trans (k.mono hb2.size)))))
  obtain ⟨p, hp⟩ : ∃ x, x = mayS (lo.data.toList, hi.data.toList) := ⟨_, rfl⟩
  obtain ⟨tx, htx⟩ : ∃ x, x = txS lo hi := ⟨_, rfl⟩
  obtain ⟨d, k1⟩ : ∃ x, (tx.toList == s.toList) = x := ⟨_, rfl⟩
  have hB2 : spB s = (lo, hi) := by rw [HB.out]; rfl
  have hok : spOk s.data.toList = (p && d) := by
   unfold spOk
   rw [← spB_data, hB2, ← txS_data, ← k1, ← htx, hp, Txt.eq_dec]
   exact congrArg _ (decide_eq_decide.2 ba_eq.symm)
  have hval : spV s = if (p && d) = true then (lo, hi) else (⟨#[]⟩, ⟨#[]⟩) := by unfold spV; rw [hok, hB2]
  rw [← hp] at hA
  rw [← htx] at hT
  have hb0 : Below W2.heap.size W2 W2 := Below.refl _ _
  have hgw := fun (W : World) (k : Below W2.heap.size W2 W) => pair_cells (heap_below k hgx)
  have hrw := fun (W : World) (k : Below W2.heap.size W2 W) => pair_cells (heap_below k hr2)
  obtain ⟨c0, c1, f0, f1⟩ := hgw W2 hb0
  obtain ⟨x0, x1, y0, y1⟩ := hrw W2 hb0
  rw [← hW2, ← hg]
  clear hW2 hg hp htx hB2
  obtain ⟨Hb2, Hgx, Hr2, HA, HT, Hok, Hval, Hgw, Hrw, Hb0⟩ := hd10 hb2 hgx hr2 hA hT hok hval hgw hrw hb0; clear hb2 hgx hr2 hA hT hok hval hgw hrw hb0
  go_wp2_with fail
  refine (HA.out _ Hb0.out).mono ?_
  rintro e w2 ⟨rfl, hb3⟩
  obtain ⟨c0, c1, f0, f1⟩ := Hgw.out _ hb3
  obtain ⟨x0, x1, y0, y1⟩ := Hrw.out _ hb3
  have Hb3 := hd hb3; clear hb3
  cases p with
  | false =>
   have hr3 := heap_below Hb3.out Hr2.out
   have hb9 := Hb2.out.trans (Hb3.out.mono Hb2.out.size)
   obtain ⟨Hr3, Hb9⟩ := hd2 hr3 hb9; clear hr3 hb9
   go_wp2_with fail
   refine bodyPost_spn2 rfl rfl rfl (pair_set _ _ Hr3.out) rfl ?_
   exact ⟨ret_spn2 (by rw [Hval.out]; rfl) (by rw [Hval.out]; rfl) Hok.out.symm, pair_bel _ _ (below_on Hw.out Hb9.out) Hle.out⟩
  | true =>
   go_wp2_with fail
   refine (HT.out _ Hb3.out).mono ?_
   rintro e w3 ⟨rfl, hb4⟩
   obtain ⟨c0, c1, f0, f1⟩ := Hgw.out _ hb4
   obtain ⟨x0, x1, y0, y1⟩ := Hrw.out _ hb4
   have hr3 := heap_below hb4 Hr2.out
   have hb9 := Hb2.out.trans (hb4.mono Hb2.out.size)
   obtain ⟨Hb4, Hr3, Hb9⟩ := hd3 hb4 hr3 hb9; clear hb4 hr3 hb9
   cases d with
   | false =>
    go_wp2_with fail
    refine bodyPost_spn2 rfl rfl rfl (pair_set _ _ Hr3.out) rfl ?_
    exact ⟨ret_spn2 (by rw [Hval.out]; rfl) (by rw [Hval.out]; rfl) Hok.out.symm, pair_bel _ _ (below_on Hw.out Hb9.out) Hle.out⟩
   | true =>
    go_wp2_with fail
    refine bodyPost_spn2 rfl rfl rfl (pair_set _ _ Hr3.out) rfl ?_
    exact ⟨ret_spn2 (by rw [Hval.out]; rfl) (by rw [Hval.out]; rfl) Hok.out.symm, pair_bel _ _ (below_on Hw.out Hb9.out) Hle.out⟩
 | false =>
  go_upto_region 5 with (fail)
  obtain ⟨W2, hW2⟩ : ∃ W2, W2 = W1.alloc (.cells #[.string lo, .string lo] 34) := ⟨_, rfl⟩
  obtain ⟨g, hg⟩ : ∃ g, g = W1.heap.size := ⟨_, rfl⟩
  have hb2 : Below W0.heap.size W0 W2 := by rw [hW2]; exact Hb1.out.alloc Hb1.out.size _
  have hgx : W2.heap[g]? = some (.cells #[.string lo, .string lo] 34 (0, 0)) := by rw [hW2, hg]; exact heap_alloc_new _ _
  have hr2 := heap_below hb2 Hbx.out
  have hA := fun (W : World) (k : Below W2.heap.size W2 W) => calls_to k (spanMay_any lo lo (by omega) (by omega) (HD.out.below (below_on Hw.out (hb2.trans (k.mono hb2.size)))))
  have hT := fun (W : World) (k : Below W2.heap.size W2 W) => calls_to k (spanText_any lo lo (by omega) (by omega) (HD.out.below (below_on Hw.out (hb2.trans (k.mono hb2.size)))))
  obtain ⟨p, hp⟩ : ∃ x, x = mayS (lo.data.toList, lo.data.toList) := ⟨_, rfl⟩
  obtain ⟨tx, htx⟩ : ∃ x, x = txS lo lo := ⟨_, rfl⟩
  obtain ⟨d, k1⟩ : ∃ x, (tx.toList == s.toList) = x := ⟨_, rfl⟩
  have hB2 : spB s = (lo, lo) := by rw [HB.out]; rfl
  have hok : spOk s.data.toList = (p && d) := by
   unfold spOk
   rw [← spB_data, hB2, ← txS_data, ← k1, ← htx, hp, Txt.eq_dec]
   exact congrArg _ (decide_eq_decide.2 ba_eq.symm)
  have hval : spV s = if (p && d) = true then (lo, lo) else (⟨#[]⟩, ⟨#[]⟩) := by unfold spV; rw [hok, hB2]
  rw [← hp] at hA
  rw [← htx] at hT
  have hb0 : Below W2.heap.size W2 W2 := Below.refl _ _
  have hgw := fun (W : World) (k : Below W2.heap.size W2 W) => pair_cells (heap_below k hgx)
  have hrw := fun (W : World) (k : Below W2.heap.size W2 W) => pair_cells (heap_below k hr2)
  obtain ⟨c0, c1, f0, f1⟩ := hgw W2 hb0
  obtain ⟨x0, x1, y0, y1⟩ := hrw W2 hb0
  rw [← hW2, ← hg]
  clear hW2 hg hp htx hB2
  obtain ⟨Hb2, Hgx, Hr2, HA, HT, Hok, Hval, Hgw, Hrw, Hb0⟩ := hd10 hb2 hgx hr2 hA hT hok hval hgw hrw hb0; clear hb2 hgx hr2 hA hT hok hval hgw hrw hb0
  go_wp2_with fail
  refine (HA.out _ Hb0.out).mono ?_
  rintro e w2 ⟨rfl, hb3⟩
  obtain ⟨c0, c1, f0, f1⟩ := Hgw.out _ hb3
  obtain ⟨x0, x1, y0, y1⟩ := Hrw.out _ hb3
  have Hb3 := hd hb3; clear hb3
  cases p with
  | false =>
   have hr3 := heap_below Hb3.out Hr2.out
   have hb9 := Hb2.out.trans (Hb3.out.mono Hb2.out.size)
   obtain ⟨Hr3, Hb9⟩ := hd2 hr3 hb9; clear hr3 hb9
   go_wp2_with fail
   refine bodyPost_spn2 rfl rfl rfl (pair_set _ _ Hr3.out) rfl ?_
   exact ⟨ret_spn2 (by rw [Hval.out]; rfl) (by rw [Hval.out]; rfl) Hok.out.symm, pair_bel _ _ (below_on Hw.out Hb9.out) Hle.out⟩
  | true =>
   go_wp2_with fail
   refine (HT.out _ Hb3.out).mono ?_
   rintro e w3 ⟨rfl, hb4⟩
   obtain ⟨c0, c1, f0, f1⟩ := Hgw.out _ hb4
   obtain ⟨x0, x1, y0, y1⟩ := Hrw.out _ hb4
   have hr3 := heap_below hb4 Hr2.out
   have hb9 := Hb2.out.trans (hb4.mono Hb2.out.size)
   obtain ⟨Hb4, Hr3, Hb9⟩ := hd3 hb4 hr3 hb9; clear hb4 hr3 hb9
   cases d with
   | false =>
    go_wp2_with fail
    refine bodyPost_spn2 rfl rfl rfl (pair_set _ _ Hr3.out) rfl ?_
    exact ⟨ret_spn2 (by rw [Hval.out]; rfl) (by rw [Hval.out]; rfl) Hok.out.symm, pair_bel _ _ (below_on Hw.out Hb9.out) Hle.out⟩
   | true =>
    go_wp2_with fail
    refine bodyPost_spn2 rfl rfl rfl (pair_set _ _ Hr3.out) rfl ?_
    exact ⟨ret_spn2 (by rw [Hval.out]; rfl) (by rw [Hval.out]; rfl) Hok.out.symm, pair_bel _ _ (below_on Hw.out Hb9.out) Hle.out⟩
end Go.Proofs.YteailgjiifdgcaaGreatDoor

/- Boxes of spans; == at spans. No condition. -/
namespace Go.Proofs.YteailgjiifdgcaaGreatDoor
open Go.RowKit Go.Lib VerN

abbrev PrObj (x y : Value) : Obj := .cells #[x, y] 34 (0, 0)
theorem pbox2_0 (w : World) (x y z u : Value) : ((w.alloc (.cells #[x, y] 34)).alloc (.cells #[z, u] 34)).heap[w.heap.size]? = some (PrObj x y) := heap_below (below_alloc1 _ _) (heap_alloc_new _ _)
theorem pbox2_1 (w : World) (x y z u : Value) : ((w.alloc (.cells #[x, y] 34)).alloc (.cells #[z, u] 34)).heap[w.heap.size + 1]? = some (PrObj z u) := heap_new_at (by simp)
theorem pbox3_0 (w : World) (x y z u p q : Value) : (((w.alloc (.cells #[x, y] 34)).alloc (.cells #[z, u] 34)).alloc (.cells #[p, q] 34)).heap[w.heap.size]? = some (PrObj x y) := heap_below (below_alloc1 _ _) (pbox2_0 _ _ _ _ _)
theorem pbox3_1 (w : World) (x y z u p q : Value) : (((w.alloc (.cells #[x, y] 34)).alloc (.cells #[z, u] 34)).alloc (.cells #[p, q] 34)).heap[w.heap.size + 1]? = some (PrObj z u) := heap_below (below_alloc1 _ _) (pbox2_1 _ _ _ _ _)
theorem pbox3_2 (w : World) (x y z u p q : Value) : (((w.alloc (.cells #[x, y] 34)).alloc (.cells #[z, u] 34)).alloc (.cells #[p, q] 34)).heap[w.heap.size + 1 + 1]? = some (PrObj p q) := heap_new_at (by simp)
theorem spn_eqs (s t a b : ByteArray) (W : World) : (binOp .eql 34 (.agg #[.string s, .string t]) (.agg #[.string a, .string b])).run Tryz.prog W = .ok (.bool (decide (s = a) && decide (t = b))) W := by
 have u9 := Tryz.underlying9
 have hS : Tryz.prog.underlying 34 = some (.struct (Tryz.prog.fieldsOf 34)) := by kernel_rfl
 have hp : Tryz.prog.stoodInHeld 34 = false := by kernel_rfl
 rw [run_eql_struct, show (10000 : Nat) = 9999 + 1 from rfl, run_equalIn_agg W 9999 34 _ _ hS hp]
 simp only [Program.fieldsOf, Tryz.underlying34]
 go_simp
 have e1 := Txt.eq_dec s a
 have e2 := Txt.eq_dec t b
 by_cases h1 : s = a <;> by_cases h2 : t = b <;> simp [h1, h2] at e1 e2 ⊢ <;> simp_all
end Go.Proofs.YteailgjiifdgcaaGreatDoor

/- The walks of span.Meet, Joins, Join. Condition: the library's variables as they were laid; texts of at most a million bytes. -/
namespace Go.Proofs.YteailgjiifdgcaaGreatDoor
open Go.RowKit Go.Lib VerN

def mtV (lo hi lp hj : ByteArray) : ByteArray × ByteArray := if meetOk (lo.data.toList, hi.data.toList) (lp.data.toList, hj.data.toList) = true then (laterS lo lp, soonerS hi hj) else (⟨#[]⟩, ⟨#[]⟩)
theorem if_data (P : Prop) [Decidable P] (x y : ByteArray) : (if P then x else y).data.toList = if P then x.data.toList else y.data.toList := by split <;> rfl
def jnV (lo hi lp hj : ByteArray) : ByteArray × ByteArray := if mayS (lo.data.toList, hi.data.toList) = true ∧ mayS (lp.data.toList, hj.data.toList) = true then (if lo.size ≠ 0 ∧ lp.size ≠ 0 then soonerS lo lp else ⟨#[]⟩, if hi.size ≠ 0 ∧ hj.size ≠ 0 then laterS hi hj else ⟨#[]⟩) else (⟨#[]⟩, ⟨#[]⟩)
theorem jnV_data (lo hi lp hj : ByteArray) : ((jnV lo hi lp hj).1.data.toList, (jnV lo hi lp hj).2.data.toList) = joinS (lo.data.toList, hi.data.toList) (lp.data.toList, hj.data.toList) := by
 unfold jnV joinS
 split
 ·simp only [ne_eq, nil_size]
  exact Prod.ext (by rw [← soonerS_data]; exact if_data _ _ _) (by rw [← laterS_data]; exact if_data _ _ _)
 ·rfl
theorem ret_spn1 {a b c d : ByteArray} (h1 : a = c) (h2 : b = d) : Ending.returned (.agg #[.string a, .string b]) = .returned (.agg #[.string c, .string d]) := by rw [h1, h2]
def CutBox (w0 : World) (x y : ByteArray) (v : Value) (W : World) : Prop := ∃ g, v = .pointer (some ⟨g, 0, none⟩) ∧ W.heap[g]? = some (.cells #[.string x, .string y] 34 (0, 0)) ∧ Below w0.heap.size w0 W
set_option maxRecDepth 10000 in
set_option maxHeartbeats 4000000 in
theorem meet_any (lo hi lp hj : ByteArray) (hl : lo.size ≤ 1000000) (hh : hi.size ≤ 1000000) (hl2 : lp.size ≤ 1000000) (hh2 : hj.size ≤ 1000000) {w : World} (hD : Doors w) : Calls Tryz.prog 121 #[.agg #[.string lo, .string hi], .agg #[.string lp, .string hj]] w fun e w' => e = .returned (.tuple #[.agg #[.string (mtV lo hi lp hj).1, .string (mtV lo hi lp hj).2], .bool (meetOk (lo.data.toList, hi.data.toList) (lp.data.toList, hj.data.toList))]) ∧ Below w.heap.size w w' := by
 obtain ⟨w0, hW0⟩ : ∃ W0, W0 = ((w.alloc (.cells #[.string lo, .string hi] 34)).alloc (.cells #[.string lp, .string hj] 34)).alloc (.cells #[.string ⟨#[]⟩, .string ⟨#[]⟩] 34) := ⟨_, rfl⟩
 obtain ⟨nb, hnb⟩ : ∃ nb, nb = w.heap.size := ⟨_, rfl⟩
 have hw : Below w.heap.size w w0 := by rw [hW0]; exact ((below_alloc1 _ _).alloc (below_alloc1 _ _).size _).alloc ((below_alloc1 _ _).alloc (below_alloc1 _ _).size _).size _
 have hb0 : Below w0.heap.size w0 w0 := Below.refl _ _
 have ha : w0.heap[nb]? = some (.cells #[.string lo, .string hi] 34 (0, 0)) := by rw [hW0, hnb]; exact pbox3_0 _ _ _ _ _ _ _
 obtain ⟨a0, a1, a2, a3⟩ := pair_cells ha
 have hb : w0.heap[nb + 1]? = some (.cells #[.string lp, .string hj] 34 (0, 0)) := by rw [hW0, hnb]; exact pbox3_1 _ _ _ _ _ _ _
 obtain ⟨b0, b1, b2, b3⟩ := pair_cells hb
 have hr : w0.heap[nb + 1 + 1]? = some (.cells #[.string ⟨#[]⟩, .string ⟨#[]⟩] 34 (0, 0)) := by rw [hW0, hnb]; exact pbox3_2 _ _ _ _ _ _ _
 obtain ⟨r0, r1, r2, r3⟩ := pair_cells hr
 have hl3 := laterS_size hl hl2
 have hh3 := soonerS_size hh hh2
 obtain ⟨lt, hlt⟩ : ∃ x, x = laterS lo lp := ⟨_, rfl⟩
 obtain ⟨st, hst⟩ : ∃ x, x = soonerS hi hj := ⟨_, rfl⟩
 rw [← hlt] at hl3
 rw [← hst] at hh3
 have hA := fun (W : World) (k : Below w0.heap.size w0 W) => spanMay_any lo hi hl hh (hD.below (below_on hw k))
 have hB := fun (W : World) (k : Below w0.heap.size w0 W) => spanMay_any lp hj hl2 hh2 (hD.below (below_on hw k))
 have hO := fun (W : World) (k : Below w0.heap.size w0 W) => spanMay_any lt st hl3 hh3 (hD.below (below_on hw k))
 have hL := fun (W : World) (k : Below w0.heap.size w0 W) => later_any lo lp hl hl2 (hD.below (below_on hw k))
 have hS := fun (W : World) (k : Below w0.heap.size w0 W) => sooner_any hi hj hh hh2 (hD.below (below_on hw k))
 obtain ⟨p, hp⟩ : ∃ x, x = mayS (lo.data.toList, hi.data.toList) := ⟨_, rfl⟩
 obtain ⟨q, hq⟩ : ∃ x, x = mayS (lp.data.toList, hj.data.toList) := ⟨_, rfl⟩
 obtain ⟨s, hs⟩ : ∃ x, x = mayS (lt.data.toList, st.data.toList) := ⟨_, rfl⟩
 have hok : meetOk (lo.data.toList, hi.data.toList) (lp.data.toList, hj.data.toList) = (p && q && s) := by
  unfold meetOk meetO
  rw [hp, hq, hs, hlt, hst, laterS_data, soonerS_data]
 have hval : mtV lo hi lp hj = if (p && q && s) = true then (lt, st) else (⟨#[]⟩, ⟨#[]⟩) := by unfold mtV; rw [hok, hlt, hst]
 have hle : w.heap.size ≤ nb + 1 + 1 := by omega
 rw [← hlt] at hL
 rw [← hst] at hS
 rw [← hp] at hA
 rw [← hq] at hB
 rw [← hs] at hO
 clear hp hq hs hlt hst
 obtain ⟨HA, HB, HO, HL, HS, Hok, Hval, Hle, Hw, Hb0, HD, Ha, Hb, Hr⟩ := hd14 hA hB hO hL hS hok hval hle hw hb0 hD ha hb hr; clear hA hB hO hL hS hok hval hle hw hb0 hD ha hb hr
 go_enter Tryz.func121, Tryz.ntmps121
 go_upto_region 1 with (fail)
 rw [← hW0, ← hnb]
 clear hW0 hnb
 have hczf : ∀ w', Below w0.heap.size w0 w' → w'.cell? ⟨nb, 0, none⟩ = some (.string lo) ∧ w'.cell? ⟨nb, 1, none⟩ = some (.string hi) ∧ w'.cell? ⟨nb + 1, 0, none⟩ = some (.string lp) ∧ w'.cell? ⟨nb + 1, 1, none⟩ = some (.string hj) := fun W k => by
  have h1 := pair_cells (heap_below k Ha.out)
  have h2 := pair_cells (heap_below k Hb.out)
  exact ⟨h1.1, h1.2.1, h2.1, h2.2.1⟩
 go_cut [6] (fun x W => CutBox w0 lt st x W)
 case first =>
  have hbz := bel_drewN Hb0.out 1
  have hcz := hczf _ hbz
  have Hcz := Lib.hid hczf
  clear hczf
  go_region_held3 (fun w' => w'.cell? ⟨nb, 0, none⟩ = some (.string lo) ∧ w'.cell? ⟨nb, 1, none⟩ = some (.string hi) ∧ w'.cell? ⟨nb + 1, 0, none⟩ = some (.string lp) ∧ w'.cell? ⟨nb + 1, 1, none⟩ = some (.string hj)) (first | exact hcz | exact Hcz.out _ (hbz.alloc hbz.size _) | exact Hcz.out _ (pair_bel _ _ hbz hgez) | go_keep) (first
   | (go_at_call 166; refine (HL.out _ (by exact hbz)).mono ?_; rintro e wz ⟨rfl, hsz⟩; (try (replace hgz := heap_below hsz hgz; obtain ⟨z0, z1, z2, z3⟩ := pair_cells hgz)); replace hbz := Below.trans (by exact hbz) (hsz.mono (Below.size (by exact hbz))); replace hcz := Hcz.out _ hbz)
   | (go_at_call 166; refine (HL.out _ (by exact hbz.alloc hbz.size _)).mono ?_; rintro e wz ⟨rfl, hsz⟩; have hgz := heap_below hsz (heap_alloc_new _ _); have hgez := hbz.size; obtain ⟨z0, z1, z2, z3⟩ := pair_cells hgz; replace hbz := Below.trans (by exact hbz.alloc hbz.size _) (hsz.mono (Below.size (by exact hbz.alloc hbz.size _))); replace hcz := Hcz.out _ hbz)
   | (go_at_call 165; refine (HS.out _ (by exact hbz)).mono ?_; rintro e wz ⟨rfl, hsz⟩; (try (replace hgz := heap_below hsz hgz; obtain ⟨z0, z1, z2, z3⟩ := pair_cells hgz)); replace hbz := Below.trans (by exact hbz) (hsz.mono (Below.size (by exact hbz))); replace hcz := Hcz.out _ hbz)
   | (go_at_call 165; refine (HS.out _ (by exact hbz.alloc hbz.size _)).mono ?_; rintro e wz ⟨rfl, hsz⟩; have hgz := heap_below hsz (heap_alloc_new _ _); have hgez := hbz.size; obtain ⟨z0, z1, z2, z3⟩ := pair_cells hgz; replace hbz := Below.trans (by exact hbz.alloc hbz.size _) (hsz.mono (Below.size (by exact hbz.alloc hbz.size _))); replace hcz := Hcz.out _ hbz))
  all_goals
   go_wp2_with fail
   go_meet
   first
    | exact ⟨_, rfl, heap_alloc_new _ _, hbz.alloc hbz.size _⟩
    | exact ⟨_, rfl, pair_set _ _ hgz, pair_bel _ _ hbz hgez⟩
 case rest =>
  obtain ⟨go, rfl, ho, hb1⟩ := hcut
  have ha := heap_below hb1 Ha.out
  have hb := heap_below hb1 Hb.out
  have hr := heap_below hb1 Hr.out
  clear Ha a0 a1 a2 a3 Hb b0 b1 b2 b3 Hr r0 r1 r2 r3 hczf
  obtain ⟨a0, a1, a2, a3⟩ := pair_cells ha
  obtain ⟨b0, b1, b2, b3⟩ := pair_cells hb
  obtain ⟨r0, r1, r2, r3⟩ := pair_cells hr
  obtain ⟨o0, o1, o2, o3⟩ := pair_cells ho
  obtain ⟨Hb1, Ha, Hb, Hr, Ho⟩ := hd5 hb1 ha hb hr ho; clear hb1 ha hb hr ho
  go_wp2_with fail
  refine (HA.out _ Hb1.out).mono ?_
  rintro e w2 ⟨rfl, hs⟩
  have hb2 := Hb1.out.trans (hs.mono Hb1.out.size)
  have ha := heap_below hs Ha.out
  clear Ha a0 a1 a2 a3
  obtain ⟨a0, a1, a2, a3⟩ := pair_cells ha
  have hb := heap_below hs Hb.out
  clear Hb b0 b1 b2 b3
  obtain ⟨b0, b1, b2, b3⟩ := pair_cells hb
  have hr := heap_below hs Hr.out
  clear Hr r0 r1 r2 r3
  obtain ⟨r0, r1, r2, r3⟩ := pair_cells hr
  have ho := heap_below hs Ho.out
  clear Ho o0 o1 o2 o3
  obtain ⟨o0, o1, o2, o3⟩ := pair_cells ho
  obtain ⟨Hs, Hb2, Ha, Hb, Hr, Ho⟩ := hd6 hs hb2 ha hb hr ho; clear hs hb2 ha hb hr ho
  cases p with
  | false =>
   go_wp2_with fail
   refine bodyPost_spn2 rfl rfl rfl (pair_set _ _ Hr.out) rfl ?_
   exact ⟨ret_spn2 (by rw [Hval.out]; rfl) (by rw [Hval.out]; rfl) (by rw [Hok.out]; rfl), pair_bel _ _ (below_on Hw.out Hb2.out) Hle.out⟩
  | true =>
   go_wp2_with fail
   refine (HB.out _ Hb2.out).mono ?_
   rintro e w3 ⟨rfl, hs⟩
   have hb3 := Hb2.out.trans (hs.mono Hb2.out.size)
   have ha := heap_below hs Ha.out
   clear Ha a0 a1 a2 a3
   obtain ⟨a0, a1, a2, a3⟩ := pair_cells ha
   have hb := heap_below hs Hb.out
   clear Hb b0 b1 b2 b3
   obtain ⟨b0, b1, b2, b3⟩ := pair_cells hb
   have hr := heap_below hs Hr.out
   clear Hr r0 r1 r2 r3
   obtain ⟨r0, r1, r2, r3⟩ := pair_cells hr
   have ho := heap_below hs Ho.out
   clear Ho o0 o1 o2 o3
   obtain ⟨o0, o1, o2, o3⟩ := pair_cells ho
   obtain ⟨Hs, Hb3, Ha, Hb, Hr, Ho⟩ := hd6 hs hb3 ha hb hr ho; clear hs hb3 ha hb hr ho
   cases q with
   | false =>
    go_wp2_with fail
    refine bodyPost_spn2 rfl rfl rfl (pair_set _ _ Hr.out) rfl ?_
    exact ⟨ret_spn2 (by rw [Hval.out]; rfl) (by rw [Hval.out]; rfl) (by rw [Hok.out]; rfl), pair_bel _ _ (below_on Hw.out Hb3.out) Hle.out⟩
   | true =>
    go_wp2_with fail
    refine (HO.out _ Hb3.out).mono ?_
    rintro e w4 ⟨rfl, hs⟩
    have hb4 := Hb3.out.trans (hs.mono Hb3.out.size)
    have ha := heap_below hs Ha.out
    clear Ha a0 a1 a2 a3
    obtain ⟨a0, a1, a2, a3⟩ := pair_cells ha
    have hb := heap_below hs Hb.out
    clear Hb b0 b1 b2 b3
    obtain ⟨b0, b1, b2, b3⟩ := pair_cells hb
    have hr := heap_below hs Hr.out
    clear Hr r0 r1 r2 r3
    obtain ⟨r0, r1, r2, r3⟩ := pair_cells hr
    have ho := heap_below hs Ho.out
    clear Ho o0 o1 o2 o3
    obtain ⟨o0, o1, o2, o3⟩ := pair_cells ho
    obtain ⟨Hs, Hb4, Ha, Hb, Hr, Ho⟩ := hd6 hs hb4 ha hb hr ho; clear hs hb4 ha hb hr ho
    cases s with
    | false =>
     go_wp2_with fail
     refine bodyPost_spn2 rfl rfl rfl (pair_set _ _ Hr.out) rfl ?_
     exact ⟨ret_spn2 (by rw [Hval.out]; rfl) (by rw [Hval.out]; rfl) (by rw [Hok.out]; rfl), pair_bel _ _ (below_on Hw.out Hb4.out) Hle.out⟩
    | true =>
     go_wp2_with fail
     refine bodyPost_spn2 rfl rfl rfl (pair_set _ _ Hr.out) rfl ?_
     exact ⟨ret_spn2 (by rw [Hval.out]; rfl) (by rw [Hval.out]; rfl) (by rw [Hok.out]; rfl), pair_bel _ _ (below_on Hw.out Hb4.out) Hle.out⟩
set_option maxRecDepth 10000 in
set_option maxHeartbeats 2000000 in
theorem joins_any (lo hi lp hj : ByteArray) (hl : lo.size ≤ 1000000) (hh : hi.size ≤ 1000000) (hl2 : lp.size ≤ 1000000) (hh2 : hj.size ≤ 1000000) {w : World} (hD : Doors w) : Calls Tryz.prog 108 #[.agg #[.string lo, .string hi], .agg #[.string lp, .string hj]] w fun e w' => e = .returned (.bool (meetOk (lo.data.toList, hi.data.toList) (lp.data.toList, hj.data.toList))) ∧ Below w.heap.size w w' := by
 obtain ⟨w0, hW0⟩ : ∃ W0, W0 = (w.alloc (.cells #[.string lo, .string hi] 34)).alloc (.cells #[.string lp, .string hj] 34) := ⟨_, rfl⟩
 obtain ⟨nb, hnb⟩ : ∃ nb, nb = w.heap.size := ⟨_, rfl⟩
 have hw : Below w.heap.size w w0 := by rw [hW0]; exact (below_alloc1 _ _).alloc (below_alloc1 _ _).size _
 have hb0 : Below w0.heap.size w0 w0 := Below.refl _ _
 have ha : w0.heap[nb]? = some (.cells #[.string lo, .string hi] 34 (0, 0)) := by rw [hW0, hnb]; exact pbox2_0 _ _ _ _ _
 obtain ⟨a0, a1, a2, a3⟩ := pair_cells ha
 have hb : w0.heap[nb + 1]? = some (.cells #[.string lp, .string hj] 34 (0, 0)) := by rw [hW0, hnb]; exact pbox2_1 _ _ _ _ _
 obtain ⟨b0, b1, b2, b3⟩ := pair_cells hb
 have hA := fun (W : World) (k : Below w0.heap.size w0 W) => meet_any lo hi lp hj hl hh hl2 hh2 (hD.below (below_on hw k))
 obtain ⟨p, hp⟩ : ∃ x, x = meetOk (lo.data.toList, hi.data.toList) (lp.data.toList, hj.data.toList) := ⟨_, rfl⟩
 obtain ⟨v, hv⟩ : ∃ x, x = mtV lo hi lp hj := ⟨_, rfl⟩
 rw [← hp]
 rw [← hp, ← hv] at hA
 clear hp hv hD
 obtain ⟨HA, Hw, Hb0, Ha, Hb⟩ := hd5 hA hw hb0 ha hb; clear hA hw hb0 ha hb
 go_enter Tryz.func108, Tryz.ntmps108
 go_upto_region 1 with (fail)
 rw [← hW0, ← hnb]
 clear hW0 hnb
 go_wp2_with fail
 refine (HA.out _ Hb0.out).mono ?_
 rintro e w1 ⟨rfl, hs⟩
 have hb1 := Hb0.out.trans (hs.mono Hb0.out.size)
 have ha := heap_below hs Ha.out
 clear Ha a0 a1 a2 a3
 obtain ⟨a0, a1, a2, a3⟩ := pair_cells ha
 have hb := heap_below hs Hb.out
 clear Hb b0 b1 b2 b3
 obtain ⟨b0, b1, b2, b3⟩ := pair_cells hb
 obtain ⟨Hs, Hb1, Ha, Hb⟩ := hd4 hs hb1 ha hb; clear hs hb1 ha hb
 go_wp2_with fail
 go_ret
 exact ⟨rfl, below_on Hw.out (Hb1.out.alloc Hb1.out.size _)⟩
set_option maxRecDepth 10000 in
set_option maxHeartbeats 4000000 in
theorem join_any (lo hi lp hj : ByteArray) (hl : lo.size ≤ 1000000) (hh : hi.size ≤ 1000000) (hl2 : lp.size ≤ 1000000) (hh2 : hj.size ≤ 1000000) {w : World} (hD : Doors w) : Calls Tryz.prog 109 #[.agg #[.string lo, .string hi], .agg #[.string lp, .string hj]] w fun e w' => e = .returned (.agg #[.string (jnV lo hi lp hj).1, .string (jnV lo hi lp hj).2]) ∧ Below w.heap.size w w' := by
 obtain ⟨w0, hW0⟩ : ∃ W0, W0 = ((w.alloc (.cells #[.string lo, .string hi] 34)).alloc (.cells #[.string lp, .string hj] 34)).alloc (.cells #[.string ⟨#[]⟩, .string ⟨#[]⟩] 34) := ⟨_, rfl⟩
 obtain ⟨nb, hnb⟩ : ∃ nb, nb = w.heap.size := ⟨_, rfl⟩
 have hw : Below w.heap.size w w0 := by rw [hW0]; exact ((below_alloc1 _ _).alloc (below_alloc1 _ _).size _).alloc ((below_alloc1 _ _).alloc (below_alloc1 _ _).size _).size _
 have hb0 : Below w0.heap.size w0 w0 := Below.refl _ _
 have ha : w0.heap[nb]? = some (.cells #[.string lo, .string hi] 34 (0, 0)) := by rw [hW0, hnb]; exact pbox3_0 _ _ _ _ _ _ _
 obtain ⟨a0, a1, a2, a3⟩ := pair_cells ha
 have hb : w0.heap[nb + 1]? = some (.cells #[.string lp, .string hj] 34 (0, 0)) := by rw [hW0, hnb]; exact pbox3_1 _ _ _ _ _ _ _
 obtain ⟨b0, b1, b2, b3⟩ := pair_cells hb
 have hr : w0.heap[nb + 1 + 1]? = some (.cells #[.string ⟨#[]⟩, .string ⟨#[]⟩] 34 (0, 0)) := by rw [hW0, hnb]; exact pbox3_2 _ _ _ _ _ _ _
 obtain ⟨r0, r1, r2, r3⟩ := pair_cells hr
 have hA := fun (W : World) (k : Below w0.heap.size w0 W) => spanMay_any lo hi hl hh (hD.below (below_on hw k))
 have hB := fun (W : World) (k : Below w0.heap.size w0 W) => spanMay_any lp hj hl2 hh2 (hD.below (below_on hw k))
 have hS := fun (W : World) (k : Below w0.heap.size w0 W) => sooner_any lo lp hl hl2 (hD.below (below_on hw k))
 have hL := fun (W : World) (k : Below w0.heap.size w0 W) => later_any hi hj hh hh2 (hD.below (below_on hw k))
 obtain ⟨lt, hlt⟩ : ∃ x, x = laterS hi hj := ⟨_, rfl⟩
 obtain ⟨st, hst⟩ : ∃ x, x = soonerS lo lp := ⟨_, rfl⟩
 obtain ⟨p, hp⟩ : ∃ x, x = mayS (lo.data.toList, hi.data.toList) := ⟨_, rfl⟩
 obtain ⟨q, hq⟩ : ∃ x, x = mayS (lp.data.toList, hj.data.toList) := ⟨_, rfl⟩
 obtain ⟨d1, k1⟩ : ∃ x, lo.toList.isEmpty = x := ⟨_, rfl⟩
 obtain ⟨d2, k2⟩ : ∃ x, lp.toList.isEmpty = x := ⟨_, rfl⟩
 obtain ⟨d3, k3⟩ : ∃ x, hi.toList.isEmpty = x := ⟨_, rfl⟩
 obtain ⟨d4, k4⟩ : ∃ x, hj.toList.isEmpty = x := ⟨_, rfl⟩
 have hval : jnV lo hi lp hj = if p = true ∧ q = true then (if d1 = false ∧ d2 = false then st else ⟨#[]⟩, if d3 = false ∧ d4 = false then lt else ⟨#[]⟩) else (⟨#[]⟩, ⟨#[]⟩) := by
  unfold jnV
  rw [← hp, ← hq, ← hlt, ← hst]
  simp only [← k1, ← k2, ← k3, ← k4, Txt.no_dec, decide_eq_false_iff_not, ne_eq]
 have hle : w.heap.size ≤ nb + 1 + 1 := by omega
 rw [← hlt] at hL
 rw [← hst] at hS
 rw [← hp] at hA
 rw [← hq] at hB
 clear hp hq hlt hst hD
 obtain ⟨HA, HB, HL, HS, Hval, Hle, Hw, Hb0, Ha, Hb, Hr⟩ := hd11 hA hB hL hS hval hle hw hb0 ha hb hr; clear hA hB hL hS hval hle hw hb0 ha hb hr
 go_enter Tryz.func109, Tryz.ntmps109
 go_upto_region 1 with (fail)
 rw [← hW0, ← hnb]
 clear hW0 hnb
 go_wp2_with fail
 refine (HA.out _ Hb0.out).mono ?_
 rintro e w1 ⟨rfl, hs⟩
 have hb1 := Hb0.out.trans (hs.mono Hb0.out.size)
 have ha := heap_below hs Ha.out
 clear Ha a0 a1 a2 a3
 obtain ⟨a0, a1, a2, a3⟩ := pair_cells ha
 have hb := heap_below hs Hb.out
 clear Hb b0 b1 b2 b3
 obtain ⟨b0, b1, b2, b3⟩ := pair_cells hb
 have hr := heap_below hs Hr.out
 clear Hr r0 r1 r2 r3
 obtain ⟨r0, r1, r2, r3⟩ := pair_cells hr
 obtain ⟨Hs, Hb1, Ha, Hb, Hr⟩ := hd5 hs hb1 ha hb hr; clear hs hb1 ha hb hr
 cases p with
 | false =>
  go_wp2_with fail
  refine bodyPost_spn1 rfl rfl (pair_set _ _ Hr.out) rfl ?_
  exact ⟨ret_spn1 (by rw [Hval.out]; rfl) (by rw [Hval.out]; rfl), pair_bel _ _ (below_on Hw.out Hb1.out) Hle.out⟩
 | true =>
  go_wp2_with fail
  refine (HB.out _ Hb1.out).mono ?_
  rintro e w2 ⟨rfl, hs⟩
  have hb2 := Hb1.out.trans (hs.mono Hb1.out.size)
  have ha := heap_below hs Ha.out
  clear Ha a0 a1 a2 a3
  obtain ⟨a0, a1, a2, a3⟩ := pair_cells ha
  have hb := heap_below hs Hb.out
  clear Hb b0 b1 b2 b3
  obtain ⟨b0, b1, b2, b3⟩ := pair_cells hb
  have hr := heap_below hs Hr.out
  clear Hr r0 r1 r2 r3
  obtain ⟨r0, r1, r2, r3⟩ := pair_cells hr
  obtain ⟨Hs, Hb2, Ha, Hb, Hr⟩ := hd5 hs hb2 ha hb hr; clear hs hb2 ha hb hr
  cases q with
  | false =>
   go_wp2_with fail
   refine bodyPost_spn1 rfl rfl (pair_set _ _ Hr.out) rfl ?_
   exact ⟨ret_spn1 (by rw [Hval.out]; rfl) (by rw [Hval.out]; rfl), pair_bel _ _ (below_on Hw.out Hb2.out) Hle.out⟩
  | true =>
   go_upto_region 4 with (fail)
   obtain ⟨w3, hv⟩ : ∃ W, W = w2.alloc (.cells #[.string ⟨#[]⟩, .string ⟨#[]⟩] 34) := ⟨_, rfl⟩
   obtain ⟨go, hg⟩ : ∃ g, g = w2.heap.size := ⟨_, rfl⟩
   have hs : Below w2.heap.size w2 w3 := by rw [hv]; exact below_alloc1 _ _
   have hb3 := Hb2.out.trans (hs.mono Hb2.out.size)
   have hgeo : w0.heap.size ≤ go := by rw [hg]; exact Hb2.out.size
   have hneao : nb ≠ go := by have := (Array.getElem?_eq_some_iff.1 Ha.out).1; omega
   have hnebo : nb + 1 ≠ go := by have := (Array.getElem?_eq_some_iff.1 Hb.out).1; omega
   have hnero : nb + 1 + 1 ≠ go := by have := (Array.getElem?_eq_some_iff.1 Hr.out).1; omega
   have ha := heap_below hs Ha.out
   clear Ha a0 a1 a2 a3
   obtain ⟨a0, a1, a2, a3⟩ := pair_cells ha
   have hb := heap_below hs Hb.out
   clear Hb b0 b1 b2 b3
   obtain ⟨b0, b1, b2, b3⟩ := pair_cells hb
   have hr := heap_below hs Hr.out
   clear Hr r0 r1 r2 r3
   obtain ⟨r0, r1, r2, r3⟩ := pair_cells hr
   have ho : w3.heap[go]? = some (.cells #[.string ⟨#[]⟩, .string ⟨#[]⟩] 34 (0, 0)) := by rw [hv, hg]; exact heap_alloc_new _ _
   obtain ⟨o0, o1, o2, o3⟩ := pair_cells ho
   rw [← hv, ← hg]
   clear hv hg
   obtain ⟨Hs, Hb3, Hgeo, Ha, Hb, Hr, Ho, Hneao, Hnebo, Hnero⟩ := hd10 hs hb3 hgeo ha hb hr ho hneao hnebo hnero; clear hs hb3 hgeo ha hb hr ho hneao hnebo hnero
   cases d1 with
   | false =>
    cases d2 with
    | false =>
     go_wp2_with fail
     refine (HS.out _ Hb3.out).mono ?_
     rintro e w4 ⟨rfl, hs⟩
     have hb4 := Hb3.out.trans (hs.mono Hb3.out.size)
     have ha := heap_below hs Ha.out
     clear Ha a0 a1 a2 a3
     obtain ⟨a0, a1, a2, a3⟩ := pair_cells ha
     have hb := heap_below hs Hb.out
     clear Hb b0 b1 b2 b3
     obtain ⟨b0, b1, b2, b3⟩ := pair_cells hb
     have hr := heap_below hs Hr.out
     clear Hr r0 r1 r2 r3
     obtain ⟨r0, r1, r2, r3⟩ := pair_cells hr
     have ho := heap_below hs Ho.out
     clear Ho o0 o1 o2 o3
     obtain ⟨o0, o1, o2, o3⟩ := pair_cells ho
     obtain ⟨Hs, Hb4, Ha, Hb, Hr, Ho⟩ := hd6 hs hb4 ha hb hr ho; clear hs hb4 ha hb hr ho
     go_upto_region 6 with (fail)
     obtain ⟨w5, hv⟩ : ∃ W, W = w4.setCell ⟨go, 0, none⟩ (.string st) := ⟨_, rfl⟩
     have hb5 : Below w0.heap.size w0 w5 := by rw [hv]; exact Hb4.out.setCell (p := ⟨go, 0, none⟩) Hgeo.out _
     have ha : w5.heap[nb]? = some (.cells #[.string lo, .string hi] 34 (0, 0)) := by rw [hv, Below.heap_setCell _ _ _ _ Hneao.out]; exact Ha.out
     clear Ha a0 a1 a2 a3
     obtain ⟨a0, a1, a2, a3⟩ := pair_cells ha
     have hb : w5.heap[nb + 1]? = some (.cells #[.string lp, .string hj] 34 (0, 0)) := by rw [hv, Below.heap_setCell _ _ _ _ Hnebo.out]; exact Hb.out
     clear Hb b0 b1 b2 b3
     obtain ⟨b0, b1, b2, b3⟩ := pair_cells hb
     have hr : w5.heap[nb + 1 + 1]? = some (.cells #[.string ⟨#[]⟩, .string ⟨#[]⟩] 34 (0, 0)) := by rw [hv, Below.heap_setCell _ _ _ _ Hnero.out]; exact Hr.out
     clear Hr r0 r1 r2 r3
     obtain ⟨r0, r1, r2, r3⟩ := pair_cells hr
     have ho : w5.heap[go]? = some (.cells #[.string st, .string ⟨#[]⟩] 34 (0, 0)) := by rw [hv]; exact heap_setCell_same _ go 0 _ _ _ Ho.out
     clear Ho o0 o1 o2 o3
     obtain ⟨o0, o1, o2, o3⟩ := pair_cells ho
     rw [← hv]
     clear hv
     obtain ⟨Hb5, Ha, Hb, Hr, Ho⟩ := hd5 hb5 ha hb hr ho; clear hb5 ha hb hr ho
     cases d3 with
     | false =>
      cases d4 with
      | false =>
       go_wp2_with fail
       refine (HL.out _ Hb5.out).mono ?_
       rintro e w6 ⟨rfl, hs⟩
       have hb6 := Hb5.out.trans (hs.mono Hb5.out.size)
       have ha := heap_below hs Ha.out
       clear Ha a0 a1 a2 a3
       obtain ⟨a0, a1, a2, a3⟩ := pair_cells ha
       have hb := heap_below hs Hb.out
       clear Hb b0 b1 b2 b3
       obtain ⟨b0, b1, b2, b3⟩ := pair_cells hb
       have hr := heap_below hs Hr.out
       clear Hr r0 r1 r2 r3
       obtain ⟨r0, r1, r2, r3⟩ := pair_cells hr
       have ho := heap_below hs Ho.out
       clear Ho o0 o1 o2 o3
       obtain ⟨o0, o1, o2, o3⟩ := pair_cells ho
       obtain ⟨Hs, Hb6, Ha, Hb, Hr, Ho⟩ := hd6 hs hb6 ha hb hr ho; clear hs hb6 ha hb hr ho
       go_upto_region 8 with (fail)
       obtain ⟨w7, hv⟩ : ∃ W, W = w6.setCell ⟨go, 1, none⟩ (.string lt) := ⟨_, rfl⟩
       have hb7 : Below w0.heap.size w0 w7 := by rw [hv]; exact Hb6.out.setCell (p := ⟨go, 1, none⟩) Hgeo.out _
       have ha : w7.heap[nb]? = some (.cells #[.string lo, .string hi] 34 (0, 0)) := by rw [hv, Below.heap_setCell _ _ _ _ Hneao.out]; exact Ha.out
       clear Ha a0 a1 a2 a3
       obtain ⟨a0, a1, a2, a3⟩ := pair_cells ha
       have hb : w7.heap[nb + 1]? = some (.cells #[.string lp, .string hj] 34 (0, 0)) := by rw [hv, Below.heap_setCell _ _ _ _ Hnebo.out]; exact Hb.out
       clear Hb b0 b1 b2 b3
       obtain ⟨b0, b1, b2, b3⟩ := pair_cells hb
       have hr : w7.heap[nb + 1 + 1]? = some (.cells #[.string ⟨#[]⟩, .string ⟨#[]⟩] 34 (0, 0)) := by rw [hv, Below.heap_setCell _ _ _ _ Hnero.out]; exact Hr.out
       clear Hr r0 r1 r2 r3
       obtain ⟨r0, r1, r2, r3⟩ := pair_cells hr
       have ho : w7.heap[go]? = some (.cells #[.string st, .string lt] 34 (0, 0)) := by rw [hv]; exact heap_setCell_same _ go 1 _ _ _ Ho.out
       clear Ho o0 o1 o2 o3
       obtain ⟨o0, o1, o2, o3⟩ := pair_cells ho
       rw [← hv]
       clear hv
       obtain ⟨Hb7, Ha, Hb, Hr, Ho⟩ := hd5 hb7 ha hb hr ho; clear hb7 ha hb hr ho
       go_wp2_with fail
       refine bodyPost_spn1 rfl rfl (pair_set _ _ Hr.out) rfl ?_
       exact ⟨ret_spn1 (by rw [Hval.out]; rfl) (by rw [Hval.out]; rfl), pair_bel _ _ (below_on Hw.out Hb7.out) Hle.out⟩
      | true =>
       go_wp2_with fail
       refine bodyPost_spn1 rfl rfl (pair_set _ _ Hr.out) rfl ?_
       exact ⟨ret_spn1 (by rw [Hval.out]; rfl) (by rw [Hval.out]; rfl), pair_bel _ _ (below_on Hw.out Hb5.out) Hle.out⟩
     | true =>
      go_wp2_with fail
      refine bodyPost_spn1 rfl rfl (pair_set _ _ Hr.out) rfl ?_
      exact ⟨ret_spn1 (by rw [Hval.out]; rfl) (by rw [Hval.out]; rfl), pair_bel _ _ (below_on Hw.out Hb5.out) Hle.out⟩
    | true =>
     cases d3 with
     | false =>
      cases d4 with
      | false =>
       go_wp2_with fail
       refine (HL.out _ Hb3.out).mono ?_
       rintro e w4 ⟨rfl, hs⟩
       have hb4 := Hb3.out.trans (hs.mono Hb3.out.size)
       have ha := heap_below hs Ha.out
       clear Ha a0 a1 a2 a3
       obtain ⟨a0, a1, a2, a3⟩ := pair_cells ha
       have hb := heap_below hs Hb.out
       clear Hb b0 b1 b2 b3
       obtain ⟨b0, b1, b2, b3⟩ := pair_cells hb
       have hr := heap_below hs Hr.out
       clear Hr r0 r1 r2 r3
       obtain ⟨r0, r1, r2, r3⟩ := pair_cells hr
       have ho := heap_below hs Ho.out
       clear Ho o0 o1 o2 o3
       obtain ⟨o0, o1, o2, o3⟩ := pair_cells ho
       obtain ⟨Hs, Hb4, Ha, Hb, Hr, Ho⟩ := hd6 hs hb4 ha hb hr ho; clear hs hb4 ha hb hr ho
       go_upto_region 8 with (fail)
       obtain ⟨w5, hv⟩ : ∃ W, W = w4.setCell ⟨go, 1, none⟩ (.string lt) := ⟨_, rfl⟩
       have hb5 : Below w0.heap.size w0 w5 := by rw [hv]; exact Hb4.out.setCell (p := ⟨go, 1, none⟩) Hgeo.out _
       have ha : w5.heap[nb]? = some (.cells #[.string lo, .string hi] 34 (0, 0)) := by rw [hv, Below.heap_setCell _ _ _ _ Hneao.out]; exact Ha.out
       clear Ha a0 a1 a2 a3
       obtain ⟨a0, a1, a2, a3⟩ := pair_cells ha
       have hb : w5.heap[nb + 1]? = some (.cells #[.string lp, .string hj] 34 (0, 0)) := by rw [hv, Below.heap_setCell _ _ _ _ Hnebo.out]; exact Hb.out
       clear Hb b0 b1 b2 b3
       obtain ⟨b0, b1, b2, b3⟩ := pair_cells hb
       have hr : w5.heap[nb + 1 + 1]? = some (.cells #[.string ⟨#[]⟩, .string ⟨#[]⟩] 34 (0, 0)) := by rw [hv, Below.heap_setCell _ _ _ _ Hnero.out]; exact Hr.out
       clear Hr r0 r1 r2 r3
       obtain ⟨r0, r1, r2, r3⟩ := pair_cells hr
       have ho : w5.heap[go]? = some (.cells #[.string ⟨#[]⟩, .string lt] 34 (0, 0)) := by rw [hv]; exact heap_setCell_same _ go 1 _ _ _ Ho.out
       clear Ho o0 o1 o2 o3
       obtain ⟨o0, o1, o2, o3⟩ := pair_cells ho
       rw [← hv]
       clear hv
       obtain ⟨Hb5, Ha, Hb, Hr, Ho⟩ := hd5 hb5 ha hb hr ho; clear hb5 ha hb hr ho
       go_wp2_with fail
       refine bodyPost_spn1 rfl rfl (pair_set _ _ Hr.out) rfl ?_
       exact ⟨ret_spn1 (by rw [Hval.out]; rfl) (by rw [Hval.out]; rfl), pair_bel _ _ (below_on Hw.out Hb5.out) Hle.out⟩
      | true =>
       go_wp2_with fail
       refine bodyPost_spn1 rfl rfl (pair_set _ _ Hr.out) rfl ?_
       exact ⟨ret_spn1 (by rw [Hval.out]; rfl) (by rw [Hval.out]; rfl), pair_bel _ _ (below_on Hw.out Hb3.out) Hle.out⟩
     | true =>
      go_wp2_with fail
      refine bodyPost_spn1 rfl rfl (pair_set _ _ Hr.out) rfl ?_
      exact ⟨ret_spn1 (by rw [Hval.out]; rfl) (by rw [Hval.out]; rfl), pair_bel _ _ (below_on Hw.out Hb3.out) Hle.out⟩
   | true =>
    cases d3 with
    | false =>
     cases d4 with
     | false =>
      go_wp2_with fail
      refine (HL.out _ Hb3.out).mono ?_
      rintro e w4 ⟨rfl, hs⟩
      have hb4 := Hb3.out.trans (hs.mono Hb3.out.size)
      have ha := heap_below hs Ha.out
      clear Ha a0 a1 a2 a3
      obtain ⟨a0, a1, a2, a3⟩ := pair_cells ha
      have hb := heap_below hs Hb.out
      clear Hb b0 b1 b2 b3
      obtain ⟨b0, b1, b2, b3⟩ := pair_cells hb
      have hr := heap_below hs Hr.out
      clear Hr r0 r1 r2 r3
      obtain ⟨r0, r1, r2, r3⟩ := pair_cells hr
      have ho := heap_below hs Ho.out
      clear Ho o0 o1 o2 o3
      obtain ⟨o0, o1, o2, o3⟩ := pair_cells ho
      obtain ⟨Hs, Hb4, Ha, Hb, Hr, Ho⟩ := hd6 hs hb4 ha hb hr ho; clear hs hb4 ha hb hr ho
      go_upto_region 8 with (fail)
      obtain ⟨w5, hv⟩ : ∃ W, W = w4.setCell ⟨go, 1, none⟩ (.string lt) := ⟨_, rfl⟩
      have hb5 : Below w0.heap.size w0 w5 := by rw [hv]; exact Hb4.out.setCell (p := ⟨go, 1, none⟩) Hgeo.out _
      have ha : w5.heap[nb]? = some (.cells #[.string lo, .string hi] 34 (0, 0)) := by rw [hv, Below.heap_setCell _ _ _ _ Hneao.out]; exact Ha.out
      clear Ha a0 a1 a2 a3
      obtain ⟨a0, a1, a2, a3⟩ := pair_cells ha
      have hb : w5.heap[nb + 1]? = some (.cells #[.string lp, .string hj] 34 (0, 0)) := by rw [hv, Below.heap_setCell _ _ _ _ Hnebo.out]; exact Hb.out
      clear Hb b0 b1 b2 b3
      obtain ⟨b0, b1, b2, b3⟩ := pair_cells hb
      have hr : w5.heap[nb + 1 + 1]? = some (.cells #[.string ⟨#[]⟩, .string ⟨#[]⟩] 34 (0, 0)) := by rw [hv, Below.heap_setCell _ _ _ _ Hnero.out]; exact Hr.out
      clear Hr r0 r1 r2 r3
      obtain ⟨r0, r1, r2, r3⟩ := pair_cells hr
      have ho : w5.heap[go]? = some (.cells #[.string ⟨#[]⟩, .string lt] 34 (0, 0)) := by rw [hv]; exact heap_setCell_same _ go 1 _ _ _ Ho.out
      clear Ho o0 o1 o2 o3
      obtain ⟨o0, o1, o2, o3⟩ := pair_cells ho
      rw [← hv]
      clear hv
      obtain ⟨Hb5, Ha, Hb, Hr, Ho⟩ := hd5 hb5 ha hb hr ho; clear hb5 ha hb hr ho
      go_wp2_with fail
      refine bodyPost_spn1 rfl rfl (pair_set _ _ Hr.out) rfl ?_
      exact ⟨ret_spn1 (by rw [Hval.out]; rfl) (by rw [Hval.out]; rfl), pair_bel _ _ (below_on Hw.out Hb5.out) Hle.out⟩
     | true =>
      go_wp2_with fail
      refine bodyPost_spn1 rfl rfl (pair_set _ _ Hr.out) rfl ?_
      exact ⟨ret_spn1 (by rw [Hval.out]; rfl) (by rw [Hval.out]; rfl), pair_bel _ _ (below_on Hw.out Hb3.out) Hle.out⟩
    | true =>
     go_wp2_with fail
     refine bodyPost_spn1 rfl rfl (pair_set _ _ Hr.out) rfl ?_
     exact ⟨ret_spn1 (by rw [Hval.out]; rfl) (by rw [Hval.out]; rfl), pair_bel _ _ (below_on Hw.out Hb3.out) Hle.out⟩
end Go.Proofs.YteailgjiifdgcaaGreatDoor
