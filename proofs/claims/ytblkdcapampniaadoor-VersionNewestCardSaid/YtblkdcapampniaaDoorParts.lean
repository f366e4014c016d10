/- The walk of version.parts: a version's parts, or that it is none. Condition: the library's variables as they were laid. -/
import Derived.Test.YtblkdcapampniaaDoorVerR
import Derived.Test.YtblkdcapampniaaDoorSplit
import Derived.Test.YtblkdcapampniaaDoorResTwo
set_option linter.unusedVariables false
set_option linter.unusedSimpArgs false
namespace Go.Proofs.YtblkdcapampniaaDoor
open Go.RowKit Go.Shelf Go.Lib VerN

attribute [local go_sem] Oper.semAt_some

abbrev fSplit : Nat := 77
/-- a part's three cells -/
def partCells (l : List UInt8) : List Value := [.int .i64 (rankOf l), .int .i64 (numOf l), .string ⟨(wordOf l).toArray⟩]
def partsCells (ps : List (List UInt8)) : List Value := ps.flatMap partCells
theorem partsCells_len (ps : List (List UInt8)) : (partsCells ps).length = ps.length * 3 := by
  induction ps with
  | nil => rfl
  | cons x r ih => simp only [partsCells, List.flatMap_cons, List.length_append, List.length_cons] at ih ⊢; rw [ih]; simp [partCells]; omega
theorem partsCells_snoc (ps : List (List UInt8)) (l : List UInt8) : partsCells (ps ++ [l]) = partsCells ps ++ partCells l := by simp [partsCells]
theorem part_cells {l : List UInt8} {r m : Int} {x : ByteArray} (h : IsPart l r m x) : partCells l = [.int .i64 r, .int .i64 m, .string x] := by
  obtain ⟨rfl, rfl, h⟩ := h
  unfold partCells
  rw [← h]
set_option maxRecDepth 10000 in
theorem splitSeq_any (s : ByteArray) (c : UInt8) (w : World) : Calls Tryd.prog 60 #[.string s, .string ⟨#[c]⟩] w fun e w' =>
    e = .returned (.func (.func fSplit) #[] #[.pointer (some ⟨w.heap.size + 1, 0, none⟩), .pointer (some ⟨w.heap.size, 0, none⟩), .pointer (some ⟨w.heap.size + 1 + 1, 0, none⟩)]) ∧
    w' = ((w.alloc (.cells #[.string s] 9)).alloc (.cells #[.string ⟨#[c]⟩] 9)).alloc (.cells #[.int .i64 0] 3) := by
  go_enter Tryd.func60, Tryd.ntmps60
  go_wp2
  go_ret
  exact ⟨rfl, rfl⟩
/-- between two rounds -/
structure PI (w W : World) (pre : List ByteArray) : Prop where
  bel : Below w.heap.size w W
  r2 : W.heap[w.heap.size]? = some (.cells #[.slice none 0 0] 49 (0, 0))
  r3 : W.heap[w.heap.size + 1]? = some (.cells #[.bool false] 4 (0, 0))
  out : ∃ v, W.heap[w.heap.size + 1 + 1]? = some (.cells #[v] 49 (0, 0)) ∧ W.ownsRow (w.heap.size + 6) 53 3 v pre.length (partsCells (pre.map (·.data.toList)))
  ok : ∀ p ∈ pre, partL p.data.toList = true
  len : pre.length ≤ 8
/-- behind a round that told that it is no version -/
structure PX (w W : World) (pre : List ByteArray) : Prop where
  bel : Below w.heap.size w W
  r2 : W.heap[w.heap.size]? = some (.cells #[.slice none 0 0] 49 (0, 0))
  r3 : W.heap[w.heap.size + 1]? = some (.cells #[.bool false] 4 (0, 0))
  bad : (∃ p ∈ pre, partL p.data.toList = false) ∨ 8 < pre.length
theorem heap_kept {W W' : World} {row : Option Nat} {k : Nat} {o : Obj} {B : Nat} (hg : W.grownBy W' row) (hr : ∀ r, row = some r → B ≤ r) (hk : k < B) (h : W.heap[k]? = some o) : W'.heap[k]? = some o :=
  (hg.block k (Array.getElem?_eq_some_iff.1 h).1 (fun e => by have := hr k e.symm; omega)).trans h
theorem ownFrom_size {B : Nat} (m : Nat) : OwnFrom B (fun (_ : List ByteArray) W => m ≤ W.heap.size) := fun _ _ _ _ h hg _ => Nat.le_trans h hg.size
theorem PI.own {w : World} {B : Nat} (hB : w.heap.size + 6 ≤ B) : OwnFrom B (fun (pre : List ByteArray) W => PI w W pre) := by
  rintro pre W W' row h hg hr
  have hr' : ∀ r, row = some r → B ≤ r := fun r e => (hr r e).1
  obtain ⟨v, hv, hrow⟩ := h.out
  refine ⟨h.bel.grown hg h.bel.size (fun k e => by have := hr' k e; omega), heap_kept hg hr' (by omega) h.r2, heap_kept hg hr' (by omega) h.r3, ⟨v, heap_kept hg hr' (by omega) hv, hrow.kept hg ?_⟩, h.ok, h.len⟩
  rcases hrow.2 with ⟨rfl, _⟩ | ⟨g, cap, cur, rfl, _, hgb, _⟩
  · exact .inl rfl
  · refine .inr fun e' => ?_
    obtain ⟨_, o, ho, hc⟩ := hr g (by simpa [Value.ownBlock] using e'.symm)
    rw [hgb] at ho
    cases ho
    cases hc
theorem PX.own {w : World} {B : Nat} (hB : w.heap.size + 6 ≤ B) : OwnFrom B (fun (pre : List ByteArray) W => PX w W pre) := by
  rintro pre W W' row h hg hr
  have hr' : ∀ r, row = some r → B ≤ r := fun r e => (hr r e).1
  exact ⟨h.bel.grown hg h.bel.size (fun k e => by have := hr' k e; omega), heap_kept hg hr' (by omega) h.r2, heap_kept hg hr' (by omega) h.r3, h.bad⟩
theorem own_set {W : World} {B : Nat} {e : TypeId} {size : Nat} {v : Value} {n : Nat} {xs : List Value} (h : W.ownsRow B e size v n xs) {p : Nat} (hp : p < B) (i : Nat) (u : Value) : (W.setCell ⟨p, i, none⟩ u).ownsRow B e size v n xs := by
  refine h.kept (row := some p) ⟨rfl, rfl, rfl, by simp [World.setCell], fun k _ hk => Below.heap_setCell _ _ _ _ (fun e => hk (by rw [e]))⟩ ?_
  rcases h.2 with ⟨rfl, _⟩ | ⟨g, cap, cur, rfl, hg, _⟩
  · exact .inl rfl
  · exact .inr fun e' => by simp [Value.ownBlock] at e'; omega
theorem PI.lets (w : World) : Lets (w.heap.size + 1 + 1 + 1) (fun (pre : List ByteArray) W => PI w W pre) := by
  rintro pre W i u h
  obtain ⟨v, hv, hrow⟩ := h.out
  exact ⟨h.bel.setCell (p := ⟨w.heap.size + 1 + 1 + 1, i, none⟩) (by show w.heap.size ≤ w.heap.size + 1 + 1 + 1; omega) _, heap_other h.r2 (by omega), heap_other h.r3 (by omega), ⟨v, heap_other hv (by omega), own_set hrow (by omega) i u⟩, h.ok, h.len⟩
theorem PX.lets (w : World) : Lets (w.heap.size + 1 + 1 + 1) (fun (pre : List ByteArray) W => PX w W pre) := by
  rintro pre W i u h
  exact ⟨h.bel.setCell (p := ⟨w.heap.size + 1 + 1 + 1, i, none⟩) (by show w.heap.size ≤ w.heap.size + 1 + 1 + 1; omega) _, heap_other h.r2 (by omega), heap_other h.r3 (by omega), h.bad⟩
abbrev sb (w : World) : Nat → Prop := Three (w.heap.size + 1 + 1 + 1) (w.heap.size + 1 + 1 + 1 + 1) (w.heap.size + 1 + 1 + 1 + 1 + 1)
theorem keepsFrom_below {B : Nat} {W W' : World} (h : Below W.heap.size W W') : KeepsFrom B W W' := ⟨h.size, fun k o _ hk _ => heap_below h hk⟩
theorem PI.size {w W : World} {pre : List ByteArray} (h : PI w W pre) (hs : w.heap.size + 6 ≤ W.heap.size) : ∀ k, sb w k → k < W.heap.size := by
  rintro k (rfl | rfl | rfl) <;> omega
theorem lit3 (w : World) (x y z : Value) (t : TypeId) {n : Nat} (hn : w.heap.size = n) : ∀ j u, [x, y, z][j]? = some u → (w.alloc (.cells #[x, y, z] t)).cell? ((⟨n, 0, none⟩ : Addr).add j) = some u := by
  intro j u hu
  subst hn
  rw [Addr.add_lit, Nat.zero_add, World.cell?_alloc_new]
  simpa using hu
/-- a part that is added -/
theorem PI.add {w W W3 w1 : World} {pre : List ByteArray} {x : ByteArray} {tmp : Obj} {B : Nat} (h : PI w W pre) (hs : w.heap.size + 6 ≤ W.heap.size) (hb : Below W.heap.size W W3) {v v' : Value}
    (hv : W.heap[w.heap.size + 1 + 1]? = some (.cells #[v] 49 (0, 0))) (hrow : W.ownsRow (w.heap.size + 6) 53 3 v pre.length (partsCells (pre.map (·.data.toList))))
    (hown : w1.ownsRow (w.heap.size + 6) 53 3 v' (pre.length + 1) (partsCells (pre.map (·.data.toList)) ++ partCells x.data.toList)) (hg : (W3.alloc tmp).grownBy w1 v.ownBlock) (hx : partL x.data.toList = true) (h8 : pre.length ≠ 8) :
    KeepsFrom B W (w1.setCell ⟨w.heap.size + 1 + 1, 0, none⟩ v') ∧ KeepS (sb w) W (w1.setCell ⟨w.heap.size + 1 + 1, 0, none⟩ v') ∧ PI w (w1.setCell ⟨w.heap.size + 1 + 1, 0, none⟩ v') (pre ++ [x]) ∧ w1.heap[w.heap.size + 1 + 1]? = some (.cells #[v] 49 (0, 0)) ∧ w.heap.size + 6 ≤ (w1.setCell ⟨w.heap.size + 1 + 1, 0, none⟩ v').heap.size := by
  have hb3 : Below W.heap.size W (W3.alloc tmp) := hb.alloc hb.size _
  have hrow3 : (W3.alloc tmp).ownsRow (w.heap.size + 6) 53 3 v pre.length (partsCells (pre.map (·.data.toList))) := ownsRow_below hrow hb3
  have old : ∀ {k : Nat} {o : Obj}, k < w.heap.size + 6 → W.heap[k]? = some o → w1.heap[k]? = some o := fun {k o} hk ho =>
    (hg.block k (by have := hb3.size; have := (Array.getElem?_eq_some_iff.1 ho).1; omega) (fun e => by have := (hrow3.lt k e.symm).1; omega)).trans (heap_below hb3 ho)
  refine ⟨?_, ?_, ⟨?_, heap_other (old (by omega) h.r2) (by omega), heap_other (old (by omega) h.r3) (by omega), ⟨v', heap_setCell_same _ _ 0 _ _ _ (old (by omega) hv), ?_⟩, ?_, ?_⟩, old (by omega) hv, by have := hg.size; have := hb3.size; simp [World.setCell]; omega⟩
  · have k1 : KeepsFrom B W (W3.alloc tmp) := keepsFrom_below hb3
    have k2 : KeepsFrom B (W3.alloc tmp) w1 := ⟨hg.size, fun k o _ hk hc => (hg.block k (Array.getElem?_eq_some_iff.1 hk).1 (fun e => by
      obtain ⟨cs, hcs⟩ := own_type hrow3 k e.symm
      rw [hcs] at hk
      cases hk
      cases hc)).trans hk⟩
    exact (k1.trans k2).trans ((KeepsOthers.setCell _ _ _).from B)
  · intro k hk
    have hlt := h.size hs k hk
    have hlt6 : k < w.heap.size + 6 := by rcases hk with rfl | rfl | rfl <;> omega
    have hne : k ≠ w.heap.size + 1 + 1 := by rcases hk with h | h | h <;> omega
    rw [Below.heap_setCell _ _ _ _ hne]
    cases ho : W.heap[k]? with
    | none => exact absurd ho (by rw [Array.getElem?_eq_getElem hlt]; simp)
    | some o => exact old hlt6 ho
  · exact ((h.bel.trans (hb3.mono h.bel.size)).grown hg (by have := hb3.size; have := h.bel.size; omega) (fun k e => by have := (hrow3.lt k e).1; omega)).setCell (p := ⟨w.heap.size + 1 + 1, 0, none⟩) (by show w.heap.size ≤ w.heap.size + 1 + 1; omega) _
  · rw [List.map_append, List.map_singleton, partsCells_snoc, List.length_append]
    exact own_set hown (by omega) 0 v'
  · intro p hp
    rcases List.mem_append.1 hp with hp | hp
    · exact h.ok p hp
    · rw [List.mem_singleton] at hp; subst hp; exact hx
  · have := h.len; rw [List.length_append, List.length_singleton]; omega
/-- a round that tells that it is no version -/
theorem PI.no {w W W3 : World} {pre : List ByteArray} {x : ByteArray} {B : Nat} (h : PI w W pre) (hs : w.heap.size + 6 ≤ W.heap.size) (hb : Below W.heap.size W W3) (hx : partL x.data.toList = false ∨ pre.length = 8) :
    KeepsFrom B W ((W3.setCell ⟨w.heap.size, 0, none⟩ (.slice none 0 0)).setCell ⟨w.heap.size + 1, 0, none⟩ (.bool false)) ∧ PX w ((W3.setCell ⟨w.heap.size, 0, none⟩ (.slice none 0 0)).setCell ⟨w.heap.size + 1, 0, none⟩ (.bool false)) (pre ++ [x]) := by
  refine ⟨((keepsFrom_below hb).trans ((KeepsOthers.setCell _ _ _).from B)).trans ((KeepsOthers.setCell _ _ _).from B), ?_, ?_, ?_, ?_⟩
  · exact (((h.bel.trans (hb.mono h.bel.size)).setCell (p := ⟨w.heap.size, 0, none⟩) (Nat.le_refl _) _).setCell (p := ⟨w.heap.size + 1, 0, none⟩) (by show w.heap.size ≤ w.heap.size + 1; omega) _)
  · exact heap_other (heap_setCell_same _ _ 0 _ _ _ (heap_below hb h.r2)) (by omega)
  · exact heap_setCell_same _ _ 0 _ _ _ (heap_other (heap_below hb h.r3) (by omega))
  · rcases hx with hx | hx
    · exact .inl ⟨x, by simp, hx⟩
    · right; rw [List.length_append, List.length_singleton]; omega
theorem info_part : (Tryd.prog.info? 53).map (fun i => (i.zero, i.size, i.bytes)) = some (some (.agg #[.int .i64 0, .int .i64 0, .string ⟨#[]⟩]), 3, 32) := by kernel_rfl
/-- what version.parts answers -/
def partsPost (l : List UInt8) (w : World) (e : Ending) (w' : World) : Prop :=
  ∃ v, e = .returned (.tuple #[v, .bool (mayL l)]) ∧ (mayL l = true → w'.ownsRow w.heap.size 53 3 v (cutL 46 l).length (partsCells (cutL 46 l))) ∧ (mayL l = false → v = .slice none 0 0) ∧ Below w.heap.size w w'
theorem may_no {s : ByteArray} {pre : List ByteArray} (h : pre <+: cutS 46 s) (hb : (∃ p ∈ pre, partL p.data.toList = false) ∨ 8 < pre.length) : mayL s.data.toList = false := by
  rw [Bool.eq_false_iff]
  intro hm
  obtain ⟨_, _, h1, h2⟩ := (may_iff _).1 hm
  rcases hb with ⟨p, hp, hf⟩ | hb
  · have := h1 p.data.toList (by rw [← cutS_data]; exact List.mem_map.2 ⟨p, h.subset hp, rfl⟩)
    rw [hf] at this; cases this
  · have := h.length_le
    rw [cutS_len] at this
    omega
theorem may_yes {s : ByteArray} (h0 : s.size ≠ 0) (h40 : s.size ≤ 40) (hok : ∀ p ∈ cutS 46 s, partL p.data.toList = true) (hl : (cutS 46 s).length ≤ 8) : mayL s.data.toList = true := by
  rw [may_iff]
  refine ⟨fun e => h0 (by rw [← Txt.len, e]; rfl), by rw [Txt.len]; exact h40, fun p hp => ?_, by rw [← cutS_len]; exact hl⟩
  rw [← cutS_data] at hp
  obtain ⟨x, hx, rfl⟩ := List.mem_map.1 hp
  exact hok x hx
set_option maxRecDepth 100000 in
set_option maxHeartbeats 2000000 in
theorem parts_any (s : ByteArray) (hs : s.size ≤ 1000000) {w : World} (hD : Doors w) : Calls Tryd.prog 42 #[.string s] w (partsPost s.data.toList w) := by
  refine (callsIn_wide (n := 8)).1 ?_
  refine callsIn_of_wp_marks Tryd.func42 rfl trivial ?_ rfl
  simp only [Tryd.ntmps42, List.size_toArray, List.length_cons, List.length_nil, Nat.reduceAdd, Nat.reduceSub, Array.replicate_succ, Array.replicate_zero, List.push_toArray, List.append_toArray, List.nil_append, List.cons_append]
  by_cases h0 : s.size = 0
  · have k1 : s.toList.isEmpty = true := by rw [Txt.no_dec, decide_eq_true h0]
    have hm : mayL s.data.toList = false := by
      rw [Bool.eq_false_iff]
      intro h
      exact ((may_iff _).1 h).1 (List.length_eq_zero_iff.1 (by rw [Txt.len]; exact h0))
    have Hm := Lib.hid hm; have HD := Lib.hid hD; clear hm hD
    gi_wp2
    refine ⟨_, results_cells rfl rfl rfl (heap_below (below_alloc1 _ _) (heap_new_at rfl)) (heap_new_at (by simp)) (Tryd.isAgg49 _) (Tryd.isAgg4 _), ?_⟩
    refine ⟨_, by rw [Hm.out], fun h => (by rw [Hm.out] at h; cases h), fun _ => rfl, ((Below.refl _ w).alloc (Nat.le_refl _) _).alloc (by simp) _⟩
  · by_cases h40 : 40 < s.size
    · have k1 : s.toList.isEmpty = false := by rw [Txt.no_dec, decide_eq_false h0]
      have k2 : decide ((40 : Int) < (s.size : Int)) = true := decide_eq_true (by omega)
      have hm : mayL s.data.toList = false := by
        rw [Bool.eq_false_iff]
        intro h
        have := ((may_iff _).1 h).2.1
        rw [Txt.len] at this
        omega
      have Hm := Lib.hid hm; have HD := Lib.hid hD; clear hm hD
      gi_wp2
      refine ⟨_, results_cells rfl rfl rfl (heap_below (below_alloc1 _ _) (heap_new_at rfl)) (heap_new_at (by simp)) (Tryd.isAgg49 _) (Tryd.isAgg4 _), ?_⟩
      refine ⟨_, by rw [Hm.out], fun h => (by rw [Hm.out] at h; cases h), fun _ => rfl, ((Below.refl _ w).alloc (Nat.le_refl _) _).alloc (by simp) _⟩
    · have k1 : s.toList.isEmpty = false := by rw [Txt.no_dec, decide_eq_false h0]
      have k2 : decide ((40 : Int) < (s.size : Int)) = false := decide_eq_false (by omega)
      have hq := splitSeq_any s 46 (((w.alloc (.cells #[.slice none 0 0] 49)).alloc (.cells #[.bool false] 4)).alloc (.cells #[.slice none 0 0] 49))
      have Hq := Lib.hid hq; have HD := Lib.hid hD; clear hq hD
      gi_wp2
      refine ⟨trivial, (callsIn_wide.2 Hq.out).mono ?_⟩
      rintro e w2 ⟨rfl, rfl⟩
      gi_wp2
      have hsb : SBox (w.heap.size + 1 + 1 + 1) (w.heap.size + 1 + 1 + 1 + 1) (w.heap.size + 1 + 1 + 1 + 1 + 1) 46 s ((((((w.alloc (.cells #[.slice none 0 0] 49)).alloc (.cells #[.bool false] 4)).alloc (.cells #[.slice none 0 0] 49)).alloc (.cells #[.string s] 9)).alloc (.cells #[.string ⟨#[46]⟩] 9)).alloc (.cells #[.int .i64 0] 3)) := by
        have a1 := heap_new_at (w := (((w.alloc (.cells #[.slice none 0 0] 49)).alloc (.cells #[.bool false] 4)).alloc (.cells #[.slice none 0 0] 49))) (o := .cells #[.string s] 9) (n := w.heap.size + 1 + 1 + 1) (by simp)
        have a2 := heap_new_at (w := ((((w.alloc (.cells #[.slice none 0 0] 49)).alloc (.cells #[.bool false] 4)).alloc (.cells #[.slice none 0 0] 49)).alloc (.cells #[.string s] 9))) (o := .cells #[.string ⟨#[46]⟩] 9) (n := w.heap.size + 1 + 1 + 1 + 1) (by simp)
        have a3 := heap_new_at (w := (((((w.alloc (.cells #[.slice none 0 0] 49)).alloc (.cells #[.bool false] 4)).alloc (.cells #[.slice none 0 0] 49)).alloc (.cells #[.string s] 9)).alloc (.cells #[.string ⟨#[46]⟩] 9))) (o := .cells #[.int .i64 0] 3) (n := w.heap.size + 1 + 1 + 1 + 1 + 1) (by simp)
        exact ⟨heap_below (below_alloc1 _ _) (heap_below (below_alloc1 _ _) a1), heap_below (below_alloc1 _ _) a2, a3⟩
      obtain ⟨W0, hW0⟩ : ∃ W0, W0 = ((((((w.alloc (.cells #[.slice none 0 0] 49)).alloc (.cells #[.bool false] 4)).alloc (.cells #[.slice none 0 0] 49)).alloc (.cells #[.string s] 9)).alloc (.cells #[.string ⟨#[46]⟩] 9)).alloc (.cells #[.int .i64 0] 3)) := ⟨_, rfl⟩
      have hs0 : W0.heap.size = w.heap.size + 6 := by rw [hW0]; simp
      rw [← hW0] at hsb ⊢
      have hPI : PI w W0 [] := by
        rw [hW0]
        have k1 : ∀ {w' : World} {o : Obj} {k : Nat} {o' : Obj}, w'.heap[k]? = some o → (w'.alloc o').heap[k]? = some o := fun h => heap_below (below_alloc1 _ _) h
        refine ⟨(((((((Below.refl _ w).alloc (Nat.le_refl _) _).alloc (by simp) _).alloc (by simp; omega) _).alloc (by simp; omega) _).alloc (by simp; omega) _).alloc (by simp; omega) _), k1 (k1 (k1 (k1 (k1 (heap_new_at rfl))))), k1 (k1 (k1 (k1 (heap_new_at (by simp))))), ⟨_, k1 (k1 (k1 (heap_new_at (by simp)))), World.ownsRow_nil _ _ _ _⟩, (fun p hp => by cases hp), Nat.zero_le _⟩
      have HW0 := Lib.hid hW0; clear hW0
      refine wpIn_range_own rfl (by omega) (gf := fSplit) rfl trivial (enters_of Tryd.func77 (by kernel_rfl) rfl) (split_stops 7 (by omega) _ _ _ 46 s hs W0 (by omega) (by omega) (by omega) (by omega) (by omega) hsb)
        (fun k hk => by rcases hk with h | h | h <;> omega) (by omega) (Below.refl _ _) rfl
        (fun pre W => w.heap.size + 6 ≤ W.heap.size ∧ PI w W pre) (fun pre W => w.heap.size + 6 ≤ W.heap.size ∧ PX w W pre) (OwnFrom.and (ownFrom_size _) (PI.own (by omega))) (OwnFrom.and (ownFrom_size _) (PX.own (by omega))) (fun pre W i u h => ⟨by simp [World.setCell]; exact h.1, PI.lets w pre W i u h.2⟩) (fun pre W i u h => ⟨by simp [World.setCell]; exact h.1, PX.lets w pre W i u h.2⟩) ⟨by omega, hPI⟩
        (fun x => { tmps := #[.string s, undef, .pointer (some ⟨w.heap.size, 0, none⟩), .pointer (some ⟨w.heap.size + 1, 0, none⟩), .pointer (some ⟨w.heap.size + 1 + 1, 0, none⟩), .string x, undef, undef, .string s, .bool false, .bool false, .string s, .int .i64 (s.size : Int), .bool false, .bool false, .string s,
          .func (.func fSplit) #[] #[.pointer (some ⟨w.heap.size + 1 + 1 + 1 + 1, 0, none⟩), .pointer (some ⟨w.heap.size + 1 + 1 + 1, 0, none⟩), .pointer (some ⟨w.heap.size + 1 + 1 + 1 + 1 + 1, 0, none⟩)], .string x, undef, undef, undef, undef, undef, undef, undef, undef, undef, undef, undef, undef, undef, undef, undef, undef, undef], defers := [] }) ?assign ?body ?done ?stop
      case assign =>
        intro l x W K hK
        gi_wp2
        exact hK
      case body =>
        rintro l pre x W ⟨hsz, h⟩ hx
        obtain ⟨v, hv, hrow⟩ := h.out
        obtain ⟨a, cap, rfl⟩ := own_shape hrow
        have hR := read_any x (by omega) (HD.out.below h.bel)
        obtain ⟨b, hb⟩ : ∃ b, b = partL x.data.toList := ⟨_, rfl⟩
        obtain ⟨m, hm⟩ : ∃ m, m = pre.length := ⟨_, rfl⟩
        have c0 : W.cell? ⟨w.heap.size + 1 + 1, 0, none⟩ = some (.slice a pre.length cap) := cells_at hv 0
        unfold readPost at hR
        rw [← hb] at hR
        have Hv := Lib.hid hv; have Hrow := Lib.hid hrow; have HR := Lib.hid hR; have Hh := Lib.hid h; have Hc0 := Lib.hid c0; have Hx := Lib.hid hx; clear hv hrow hR h c0 hx
        gi_wp2
        refine ⟨trivial, (CallsIn.inRound l (callsIn_wide.2 HR.out)).mono ?_⟩
        rintro e W2 ⟨⟨r, q, y, rfl, hpt⟩, hb2⟩
        have hb3 : Below W.heap.size W (W2.alloc (.cells #[.int .i64 r, .int .i64 q, .string y] 53)) := hb2.alloc hb2.size _
        have r2 := heap_below hb3 Hh.out.r2
        have r3 := heap_below hb3 Hh.out.r3
        have d0 : (W2.alloc (.cells #[.int .i64 r, .int .i64 q, .string y] 53)).cell? ⟨w.heap.size + 1 + 1, 0, none⟩ = some (.slice a pre.length cap) := cell_later hb3 Hc0.out
        have d1 : (W2.alloc (.cells #[.int .i64 r, .int .i64 q, .string y] 53)).cell? ⟨w.heap.size, 0, none⟩ = some (.slice none 0 0) := cells_at r2 0
        have d2 : (W2.alloc (.cells #[.int .i64 r, .int .i64 q, .string y] 53)).cell? ⟨w.heap.size + 1, 0, none⟩ = some (.bool false) := cells_at r3 0
        have f1 := frozen_at r2 0
        have f2 := frozen_at r3 0
        have Hb2 := Lib.hid hb2; have Hb3 := Lib.hid hb3; have Hr2 := Lib.hid r2; have Hr3 := Lib.hid r3; have Hpt := Lib.hid hpt; have Hb := Lib.hid hb; have Hm := Lib.hid hm; clear hb2 hb3 r2 r3 hpt hb hm
        clear Hq
        cases b with
        | false =>
          have hno := Hh.out.no (B := W0.heap.size) hsz Hb3.out (.inl Hb.out.symm)
          have hs3 : w.heap.size + 6 ≤ (((W2.alloc (.cells #[.int .i64 r, .int .i64 q, .string y] 53)).setCell ⟨w.heap.size, 0, none⟩ (.slice none 0 0)).setCell ⟨w.heap.size + 1, 0, none⟩ (.bool false)).heap.size := by have := Hb3.out.size; simp [World.setCell] at this ⊢; omega
          have Hno := Lib.hid hno; clear hno
          gi_wp2
          exact ⟨Hno.out.1, hs3, Hno.out.2⟩
        | true =>
          by_cases h8 : pre.length = 8
          · have hno := Hh.out.no (B := W0.heap.size) hsz Hb3.out (x := x) (.inr h8)
            have hs3 : w.heap.size + 6 ≤ (((W2.alloc (.cells #[.int .i64 r, .int .i64 q, .string y] 53)).setCell ⟨w.heap.size, 0, none⟩ (.slice none 0 0)).setCell ⟨w.heap.size + 1, 0, none⟩ (.bool false)).heap.size := by have := Hb3.out.size; simp [World.setCell] at this ⊢; omega
            have k8 : ((pre.length : Int) == 8) = true := by rw [h8]; rfl
            have Hno := Lib.hid hno; have H8 := Lib.hid h8; clear hno h8
            gi_wp2
            exact ⟨Hno.out.1, hs3, Hno.out.2⟩
          · have k8 : ((pre.length : Int) == 8) = false := by rw [beq_eq_false_iff_ne]; omega
            have hlen := Hh.out.len
            have hrow3 := ownsRow_below Hrow.out Hb3.out
            have hpc := part_cells (Hpt.out rfl)
            obtain ⟨i0, hi, hz0, hz1, hz2⟩ := info_parts info_part
            have hadd := fun (w1 : World) (v' : Value) => Hh.out.add (B := W0.heap.size) hsz Hb3.out Hv.out Hrow.out (w1 := w1) (v' := v') (x := x) (tmp := .cells #[.int .i64 r, .int .i64 q, .string y] 53)
            rw [hpc] at hadd
            have hz9 : w.heap.size + 6 ≤ (W2.alloc (.cells #[.int .i64 r, .int .i64 q, .string y] 53)).heap.size := by have := Hb3.out.size; omega
            have g1 : pre.length + 1 ≤ maxLen := by unfold maxLen; omega
            have g2 : (pre.length + 1) * 32 ≤ 140737488355328 := by omega
            have g3 : w.heap.size + 6 ≤ ((W2.alloc (.cells #[.int .i64 r, .int .i64 q, .string y] 53)).alloc (.cells #[.int .i64 r, .int .i64 q, .string y] 53)).heap.size := by simp at hz9 ⊢; omega
            have g4 := lit3 (W2.alloc (.cells #[.int .i64 r, .int .i64 q, .string y] 53)) (.int .i64 r) (.int .i64 q) (.string y) 53 (n := W2.heap.size + 1) (by simp)
            have g5 : ∀ u ∈ [Value.int .i64 r, .int .i64 q, .string y], u.oneCell' = true := by simp [Value.oneCell']
            have Hrow3 := Lib.hid hrow3; have Hpc := Lib.hid hpc; have Hadd := Lib.hid hadd; have Hz9 := Lib.hid hz9; have H8 := Lib.hid h8; have Hlen := Lib.hid hlen; have Hg1 := Lib.hid g1; have Hg2 := Lib.hid g2; have Hg3 := Lib.hid g3; have Hg4 := Lib.hid g4; have Hg5 := Lib.hid g5; clear hrow3 hpc hadd hz9 h8 hlen g1 g2 g3 g4 g5
            gi_wp2_with (gi_at_builtin; refine wpListIn_append_own _ rfl _ _ 49 rfl (w.heap.size + 6) 53 i0 (.agg #[.int .i64 0, .int .i64 0, .string ⟨#[]⟩]) 3 32 Tryd.underlying49 hi hz0 hz1 hz2 rfl (by decide) _ _ _ rfl (Hrow3.out.alloc _) ⟨W2.heap.size + 1, 0, none⟩ 1 1 [.int .i64 r, .int .i64 q, .string y] rfl rfl Hg4.out Hg5.out Hg1.out Hg2.out Hg3.out ?_; intro v' w1 hown' hgrow _; obtain ⟨g', cap', rfl⟩ := ownsRow_succ hown'; have hfin := Hadd.out w1 _ hown' hgrow Hb.out.symm H8.out; clear hown' hgrow; refine Hid.out ?_)
            have e1 := cells_at hfin.2.2.2.1 0
            have e2 := frozen_at hfin.2.2.2.1 0
            simp only [List.getElem?_toArray, List.getElem?_cons_zero] at e1
            have Hfin := Lib.hid hfin; clear hfin
            refine Lib.hid ?_
            gi_wp2
            exact ⟨Hfin.out.1, Hfin.out.2.1, Hfin.out.2.2.2.2, Hfin.out.2.2.1⟩
      case done =>
        rintro D ys W hD rfl ⟨hsz, h⟩ hK
        obtain ⟨v, hv, hrow⟩ := h.out
        obtain ⟨a, cap, rfl⟩ := own_shape hrow
        have c0 : W.cell? ⟨w.heap.size + 1 + 1, 0, none⟩ = some (.slice a (cutS 46 s).length cap) := cells_at hv 0
        have c1 := cells_at h.r2 0
        have c2 := cells_at h.r3 0
        have f1 := frozen_at h.r2 0
        have f2 := frozen_at h.r3 0
        simp only [List.getElem?_toArray, List.getElem?_cons_zero] at c1 c2
        have hm := may_yes h0 (by omega) h.ok h.len
        have Hv := Lib.hid hv; have Hrow := Lib.hid hrow; have Hh := Lib.hid h; have Hm := Lib.hid hm; clear hv hrow h hm
        gi_wp2
        have hK2 : ((W.setCell ⟨w.heap.size, 0, none⟩ (.slice a (cutS 46 s).length cap)).setCell ⟨w.heap.size + 1, 0, none⟩ (.bool true)).heap[D]? = some (.deferred (some [])) := heap_other (heap_other hK (by omega)) (by omega)
        have x1 := heap_other (b := w.heap.size + 1) (i := 0) (u := .bool true) (heap_setCell_same W w.heap.size 0 _ _ (.slice a (cutS 46 s).length cap) Hh.out.r2) (by omega)
        have x2 := heap_setCell_same _ (w.heap.size + 1) 0 _ _ (.bool true) (heap_other (b := w.heap.size) (i := 0) (u := .slice a (cutS 46 s).length cap) Hh.out.r3 (by omega))
        have hb9 : Below w.heap.size w ((W.setCell ⟨w.heap.size, 0, none⟩ (.slice a (cutS 46 s).length cap)).setCell ⟨w.heap.size + 1, 0, none⟩ (.bool true)) := (Hh.out.bel.setCell (p := ⟨w.heap.size, 0, none⟩) (Nat.le_refl _) _).setCell (p := ⟨w.heap.size + 1, 0, none⟩) (by show w.heap.size ≤ w.heap.size + 1; omega) _
        have ho : ((W.setCell ⟨w.heap.size, 0, none⟩ (.slice a (cutS 46 s).length cap)).setCell ⟨w.heap.size + 1, 0, none⟩ (.bool true)).ownsRow (w.heap.size + 6) 53 3 (.slice a (cutS 46 s).length cap) (cutL 46 s.data.toList).length (partsCells (cutL 46 s.data.toList)) := by
          have hlen := cutS_len 46 s
          rw [← hlen, ← cutS_data]
          have := own_set (own_set Hrow.out (p := w.heap.size) (by omega) 0 (.slice a (cutS 46 s).length cap)) (p := w.heap.size + 1) (by omega) 0 (.bool true)
          exact this
        refine ⟨by simp, .inl ⟨_, _, rfl, run_takeDeferred hK2, ?_⟩⟩
        refine ⟨_, results_cells rfl rfl rfl ((World.putObj_heap_other (by omega)).trans x1) ((World.putObj_heap_other (by omega)).trans x2) (Tryd.isAgg49 _) (Tryd.isAgg4 _), ?_⟩
        refine ⟨_, by rw [Hm.out], fun _ => ownsRow_mono (ownsRow_putObj ho _ hK2 rfl) (by omega), fun h => (by rw [Hm.out] at h; cases h), hb9.trans (belowK_b (w := w) (Nat.le_refl _) _ D _ _ (by omega) hK2 rfl rfl)⟩
      case stop =>
        rintro D pre W hD hpre ⟨hsz, h⟩ hK
        have hm := may_no hpre h.bad
        have Hm := Lib.hid hm; clear hm
        gi_wp2
        refine ⟨by simp, .inl ⟨_, _, rfl, run_takeDeferred hK, ?_⟩⟩
        refine ⟨_, results_cells rfl rfl rfl ((World.putObj_heap_other (by omega)).trans h.r2) ((World.putObj_heap_other (by omega)).trans h.r3) (Tryd.isAgg49 _) (Tryd.isAgg4 _), ?_⟩
        refine ⟨_, by rw [Hm.out], fun h => (by rw [Hm.out] at h; cases h), fun _ => rfl, h.bel.trans (belowK_b (w := w) (Nat.le_refl _) _ D _ _ (by omega) hK rfl rfl)⟩
end Go.Proofs.YtblkdcapampniaaDoor
