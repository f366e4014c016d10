/- The walks of the table of atoms: New, Look, Number, At, Len, Full, Help at nil. Conditions: as each states. -/
import Derived.Test.YtoljhahmmdibfaaAtomsM
namespace Go.Proofs.Ytoljhahmmdibfaa
open Go.RowKit

/-- block p is a table: of the map bm and the row v -/
structure IsTab (w : World) (B p bm : Nat) (v : Value) (limit helps : Int) (l : List At) (full : Bool) : Prop where
  cells : w.heap[p]? = some (.cells #[.map (some bm), v, .int .i64 limit, .int .i64 helps, .bool full] 83 (0, 0))
  row : w.ownsRow B 27 4 v l.length (l.flatMap atCells)
  map : AtMap w bm l
  wf : ∀ a ∈ l, AtWf a
  len : l.length ≤ 65536
  lim : -9223372036854775808 ≤ limit ∧ limit ≤ 65536
  pB : B ≤ p
  bB : B ≤ bm
/-- the blocks of a table -/
def TabS (p bm : Nat) (v : Value) (k : Nat) : Prop := k = p ∨ k = bm ∨ v.ownBlock = some k

theorem flat_len (l : List At) : (l.flatMap atCells).length = l.length * 4 := by
  induction l with
  | nil => rfl
  | cons x l ih => simp [List.flatMap_cons, ih, atCells]; omega

theorem cell_blk {w : World} {p : Nat} {cs : Array Value} {t : TypeId} {fr : Nat × Nat} (h : w.heap[p]? = some (.cells cs t fr)) (i : Nat) : w.cell? ⟨p, i, none⟩ = cs[i]? := cell_of_row w p i cs t fr h
theorem froz_blk {w : World} {p : Nat} {cs : Array Value} {t : TypeId} (h : w.heap[p]? = some (.cells cs t (0, 0))) (i : Nat) : w.frozen? ⟨p, i, none⟩ = false := frozen_of_row w p i cs t h

theorem IsTab.below {w w' : World} {B p bm : Nat} {v : Value} {limit helps : Int} {l : List At} {full : Bool} (h : IsTab w B p bm v limit helps l full) {S : Nat → Prop} (hf : Frm S w w') (hS : ∀ k, TabS p bm v k → ¬ S k) : IsTab w' B p bm v limit helps l full where
  cells := (hf.block p (Array.getElem?_eq_some_iff.1 h.cells).1 (hS p (.inl rfl))).trans h.cells
  row := hf.owns h.row (fun k hk => hS k (.inr (.inr hk)))
  map := h.map.kept hf (hS bm (.inr (.inl rfl)))
  wf := h.wf
  len := h.len
  lim := h.lim
  pB := h.pB
  bB := h.bB

set_option maxHeartbeats 400000 in
theorem look_any {w : World} {B p bm : Nat} {v : Value} {limit helps : Int} {l : List At} {full : Bool} (h : IsTab w B p bm v limit helps l full) (k a b c : Int) (ha : AtWf (k, a, b, c)) :
    Calls Try.prog 19 #[.pointer (some ⟨p, 0, none⟩), .agg #[.int .u8 k, .int .i64 a, .int .i64 b, .int .i64 c]] w fun e w' => e = .returned (.int .i64 (findAt l (k, a, b, c))) ∧ Below w.heap.size w w' := by
  have hp := (Array.getElem?_eq_some_iff.1 h.cells).1
  have c0 := cell_blk h.cells 0
  simp only [List.getElem?_toArray, List.getElem?_cons_zero] at c0
  have hl : ∀ n, (Instr.lookup 81 (.map (some bm)) (.agg #[.int .u8 k, .int .i64 a, .int .i64 b, .int .i64 c]) false).run Try.prog ((w.alloc (.cells #[.int .u8 k, .int .i64 a, .int .i64 b, .int .i64 c] 27)).drewN n) = .ok (.int .i64 (findAt l (k, a, b, c))) ((w.alloc (.cells #[.int .u8 k, .int .i64 a, .int .i64 b, .int .i64 c] 27)).drewN n) := by
    intro n
    have hf : Frm (fun _ => False) w ((w.alloc (.cells #[.int .u8 k, .int .i64 a, .int .i64 b, .int .i64 c] 27)).drewN n) := ((Frm.refl _ w).alloc _).drewN n
    exact (h.map.kept hf (fun h => h)).look (k, a, b, c) ha
  clear h
  go_enter Try.func19, Try.ntmps19
  go_wp2_with fail
  go_quiet (fail)
  go_wp2_with fail
  go_ret
  exact ⟨rfl, bel_drewN ((Below.refl _ _).alloc (Nat.le_refl _) _) _⟩

def clampT (n : Int) : Int := min (max n 0) 65536
/-- what New gives -/
def NewPost (w : World) (n : Int) (e : Ending) (w' : World) : Prop := ∃ p bm, e = .returned (.pointer (some ⟨p, 0, none⟩)) ∧ IsTab w' w.heap.size p bm (.slice none 0 0) (clampT n) 0 [] false ∧ Below w.heap.size w w'
theorem newPost_mk (w : World) (n m : Int) (hm : m = clampT n) : NewPost w n (.returned (.pointer (some ⟨w.heap.size + 1, 0, none⟩))) ((w.alloc (.map #[] 0)).alloc (.cells #[.map (some w.heap.size), .slice none 0 0, .int .i64 m, .int .i64 0, .bool false] 83)) := by
  refine ⟨w.heap.size + 1, w.heap.size, rfl, ?_, ((Below.refl _ _).alloc (Nat.le_refl _) _).alloc (by simp) _⟩
  refine ⟨?_, World.ownsRow_nil _ _ _ _, (atMap_made w).kept (S := fun _ => False) ((Frm.refl _ _).alloc _) (fun h => h), by simp, by simp, by unfold clampT; omega, by omega, by omega⟩
  rw [hm]
  have := heap_alloc_new (w.alloc (.map #[] 0)) (.cells #[.map (some w.heap.size), .slice none 0 0, .int .i64 (clampT n), .int .i64 0, .bool false] 83)
  simpa using this
set_option maxHeartbeats 400000 in
theorem new_any (n : Int) (w : World) : Calls Try.prog 16 #[.int .i64 n] w (NewPost w n) := by
  have hmm := @run_makeMap Try.prog
  by_cases h1 : n < 0
  · go_enter Try.func16, Try.ntmps16
    go_wp2_with fail
    go_ret
    exact newPost_mk w n _ (by unfold clampT; omega)
  · by_cases h2 : n ≤ 65536
    · have h0 : 0 ≤ n := by omega
      go_enter Try.func16, Try.ntmps16
      go_wp2_with fail
      go_ret
      exact newPost_mk w n _ (by unfold clampT; omega)
    · have h0 : 65536 < n := by omega
      have h3 : 0 < n := by omega
      go_enter Try.func16, Try.ntmps16
      go_wp2_with fail
      go_ret
      exact newPost_mk w n _ (by unfold clampT; omega)

set_option maxHeartbeats 400000 in
theorem len_any {w : World} {B p bm : Nat} {v : Value} {limit helps : Int} {l : List At} {full : Bool} (h : IsTab w B p bm v limit helps l full) :
    Calls Try.prog 21 #[.pointer (some ⟨p, 0, none⟩)] w fun e w' => e = .returned (.int .i64 l.length) ∧ w = w' := by
  have c1 := cell_blk h.cells 1
  simp only [List.getElem?_toArray, List.getElem?_cons_succ, List.getElem?_cons_zero] at c1
  obtain ⟨a, cap, rfl⟩ : ∃ a cap, v = .slice a l.length cap := by
    rcases h.row.2 with ⟨h1, h2⟩ | ⟨g, cap, _, h1, _⟩
    · exact ⟨none, 0, by rw [h1, h2]⟩
    · exact ⟨_, cap, h1⟩
  clear h
  go_enter Try.func21, Try.ntmps21
  go_wp2_with fail
  go_ret
  exact ⟨rfl, rfl⟩
theorem len_nil (w : World) : Calls Try.prog 21 #[.pointer none] w fun e w' => e = .returned (.int .i64 0) ∧ w = w' := by
  go_enter Try.func21, Try.ntmps21
  go_wp2_with fail
  go_ret
  exact ⟨rfl, rfl⟩
theorem look_nil (k a b c : Int) (w : World) : Calls Try.prog 19 #[.pointer none, .agg #[.int .u8 k, .int .i64 a, .int .i64 b, .int .i64 c]] w fun e w' => e = .returned (.int .i64 0) ∧ Below w.heap.size w w' := by
  go_enter Try.func19, Try.ntmps19
  go_wp2_with fail
  go_ret
  exact ⟨rfl, (Below.refl _ _).alloc (Nat.le_refl _) _⟩
theorem number_nil (k a b c : Int) (w : World) : Calls Try.prog 18 #[.pointer none, .agg #[.int .u8 k, .int .i64 a, .int .i64 b, .int .i64 c]] w fun e w' => e = .returned (.int .i64 0) ∧ Below w.heap.size w w' := by
  go_enter Try.func18, Try.ntmps18
  go_wp2_with (go_at_call 19; refine (look_nil _ _ _ _ _).mono ?_; rintro e w' ⟨rfl, hb⟩)
  go_ret
  exact ⟨rfl, ((Below.refl _ _).alloc (Nat.le_refl _) _).trans (hb.mono (by simp))⟩
theorem help_nil (w : World) : Calls Try.prog 28 #[.pointer none] w fun e w' => e = .returned (.int .i64 0) ∧ w = w' := by
  go_enter Try.func28, Try.ntmps28
  go_wp2_with fail
  go_ret
  exact ⟨rfl, rfl⟩
theorem full_nil (w : World) : Calls Try.prog 29 #[.pointer none] w fun e w' => e = .returned (.bool true) ∧ w = w' := by
  go_enter Try.func29, Try.ntmps29
  go_wp2_with fail
  go_ret
  exact ⟨rfl, rfl⟩
theorem at_nil (n : Int) (w : World) : Calls Try.prog 20 #[.pointer none, .int .i64 n] w fun e w' => e = .returned (.tuple #[.agg #[.int .u8 0, .int .i64 0, .int .i64 0, .int .i64 0], .bool false]) ∧ Below w.heap.size w w' := by
  have hb : Below w.heap.size w (w.alloc (.cells #[.int .u8 0, .int .i64 0, .int .i64 0, .int .i64 0] 27)) := (Below.refl _ _).alloc (Nat.le_refl _) _
  by_cases h1 : n < 1
  · go_enter Try.func20, Try.ntmps20
    go_wp2_with (go_at_call 21; refine (len_nil _).mono ?_; rintro e w' ⟨rfl, rfl⟩)
    exact bodyPost_ret (v := .tuple #[.agg #[.int .u8 0, .int .i64 0, .int .i64 0, .int .i64 0], .bool false]) (by simp [results, Try.results20, go_sem]) rfl ⟨rfl, hb⟩
  · have h2 : 0 < n := by omega
    go_enter Try.func20, Try.ntmps20
    go_wp2_with (go_at_call 21; refine (len_nil _).mono ?_; rintro e w' ⟨rfl, rfl⟩)
    exact bodyPost_ret (v := .tuple #[.agg #[.int .u8 0, .int .i64 0, .int .i64 0, .int .i64 0], .bool false]) (by simp [results, Try.results20, go_sem]) rfl ⟨rfl, hb⟩

theorem IsTab.apart {w : World} {B p bm : Nat} {v : Value} {limit helps : Int} {l : List At} {full : Bool} (h : IsTab w B p bm v limit helps l full) : bm ≠ p ∧ ∀ k, v.ownBlock = some k → k ≠ p ∧ k ≠ bm := by
  obtain ⟨D, ⟨es, clock, hm, _⟩, _⟩ := h.map
  refine ⟨fun e => ?_, fun k hk => ?_⟩
  · subst e; rw [h.cells] at hm; simp at hm
  · rcases h.row.2 with ⟨h1, _⟩ | ⟨g, cap, cur, h1, _, hg, _⟩
    · rw [h1] at hk; simp [Value.ownBlock] at hk
    · rw [h1] at hk
      simp [Value.ownBlock] at hk
      subst hk
      refine ⟨fun e => ?_, fun e => ?_⟩
      · subst e; rw [h.cells] at hg; simp at hg
      · subst e; rw [hm] at hg; simp at hg
theorem IsTab.setFull {w : World} {B p bm : Nat} {v : Value} {limit helps : Int} {l : List At} {full : Bool} (h : IsTab w B p bm v limit helps l full) : IsTab (w.setCell ⟨p, 4, none⟩ (.bool true)) B p bm v limit helps l true := by
  obtain ⟨a1, a2⟩ := h.apart
  have hf : Frm (fun k => k = p) w (w.setCell ⟨p, 4, none⟩ (.bool true)) := Frm.setCell (S := fun k => k = p) (Frm.refl _ w) (p := ⟨p, 4, none⟩) (.inr rfl) _
  refine ⟨?_, hf.owns h.row (fun k hk => (a2 k hk).1), h.map.kept hf a1, h.wf, h.len, h.lim, h.pB, h.bB⟩
  rw [heap_setCell_same w p 4 _ _ (.bool true) h.cells]
  rfl
def addAt (limit : Int) (l : List At) (a : At) : List At := if findAt l a = 0 ∧ (l.length : Int) < limit then l ++ [a] else l
/-- what Number gives -/
def NumPost (w : World) (B p bm : Nat) (v : Value) (limit helps : Int) (l : List At) (full : Bool) (a : At) (e : Ending) (w' : World) : Prop :=
  e = .returned (.int .i64 (findAt (addAt limit l a) a)) ∧ ∃ v', IsTab w' B p bm v' limit helps (addAt limit l a) (full || decide (findAt (addAt limit l a) a = 0)) ∧ Frm (TabS p bm v) w w' ∧ ∀ k, v'.ownBlock = some k → v.ownBlock = some k ∨ w.heap.size ≤ k

theorem number_hit {w : World} {B p bm : Nat} {v : Value} {limit helps : Int} {l : List At} {full : Bool} (h : IsTab w B p bm v limit helps l full) (k a b c : Int) (ha : AtWf (k, a, b, c)) (hf : findAt l (k, a, b, c) ≠ 0) :
    Calls Try.prog 18 #[.pointer (some ⟨p, 0, none⟩), .agg #[.int .u8 k, .int .i64 a, .int .i64 b, .int .i64 c]] w (NumPost w B p bm v limit helps l full (k, a, b, c)) := by
  have hadd : addAt limit l (k, a, b, c) = l := by unfold addAt; rw [if_neg (fun h => hf h.1)]
  obtain ⟨n, hn⟩ : ∃ n, n = findAt l (k, a, b, c) := ⟨_, rfl⟩
  have hn0 : 0 < n := by omega
  have HN := Lib.hid hn; clear hn
  have hw1 : Frm (fun _ => False) w (w.alloc (.cells #[.int .u8 k, .int .i64 a, .int .i64 b, .int .i64 c] 27)) := (Frm.refl _ w).alloc _
  have hT1 := Lib.hid (h.below hw1 (fun _ _ h => h))
  have H := Lib.hid h; clear h hw1
  have HA := Lib.hid hadd; clear hadd
  have hlook := look_any hT1.out k a b c ha
  rw [← HN.out] at hlook
  have HL := Lib.hid hlook; clear hlook
  go_enter Try.func18, Try.ntmps18
  go_wp2_with (go_at_call 19; refine HL.out.mono ?_; rintro e w' ⟨rfl, hb⟩)
  go_ret
  have hfr : Frm (fun _ => False) w w' := ((Frm.refl _ w).alloc _).trans (Frm.of_below hb) (fun _ _ h => h)
  refine ⟨?_, v, ?_, hfr.mono (fun _ _ h => h.elim), fun _ h => .inl h⟩
  · rw [HA.out, HN.out]; rfl
  · rw [HA.out, ← HN.out]
    have : decide (n = 0) = false := by simp; omega
    rw [this, Bool.or_false]
    exact H.out.below hfr (fun _ _ h => h)

theorem slice_form {w : World} {B : Nat} {e : TypeId} {size : Nat} {v : Value} {n : Nat} {xs : List Value} (h : w.ownsRow B e size v n xs) : ∃ a cap, v = .slice a n cap := by
  rcases h.2 with ⟨h1, h2⟩ | ⟨g, cap, _, h1, _⟩
  · exact ⟨none, 0, by rw [h1, h2]⟩
  · exact ⟨_, cap, h1⟩

theorem number_full {w : World} {B p bm : Nat} {v : Value} {limit helps : Int} {l : List At} {full : Bool} (h : IsTab w B p bm v limit helps l full) (k a b c : Int) (ha : AtWf (k, a, b, c)) (hf : findAt l (k, a, b, c) = 0) (hl : limit ≤ l.length) :
    Calls Try.prog 18 #[.pointer (some ⟨p, 0, none⟩), .agg #[.int .u8 k, .int .i64 a, .int .i64 b, .int .i64 c]] w (NumPost w B p bm v limit helps l full (k, a, b, c)) := by
  have hadd : addAt limit l (k, a, b, c) = l := by unfold addAt; rw [if_neg (fun h => by omega)]
  have hw1 : Frm (fun _ => False) w (w.alloc (.cells #[.int .u8 k, .int .i64 a, .int .i64 b, .int .i64 c] 27)) := (Frm.refl _ w).alloc _
  have hT1 := Lib.hid (h.below hw1 (fun _ _ h => h))
  obtain ⟨ad, cap, hv⟩ := slice_form h.row
  subst hv
  have H := Lib.hid h; clear h hw1
  have HA := Lib.hid hadd; clear hadd
  have hlook := look_any hT1.out k a b c ha
  rw [hf] at hlook
  have HL := Lib.hid hlook; clear hlook
  have HF := Lib.hid hf; clear hf
  have hlen := H.out.len
  have hpl := (Array.getElem?_eq_some_iff.1 H.out.cells).1
  go_enter Try.func18, Try.ntmps18
  go_wp2_with (go_at_call 19; refine HL.out.mono ?_; rintro e w' ⟨rfl, hb⟩)
  have hfr : Frm (fun _ => False) w w' := ((Frm.refl _ w).alloc _).trans (Frm.of_below hb) (fun _ _ h => h)
  have HT := Lib.hid (H.out.below hfr (fun _ _ h => h))
  have c1 := cell_blk HT.out.cells 1
  have c2 := cell_blk HT.out.cells 2
  have c4 := cell_blk HT.out.cells 4
  have f4 := froz_blk HT.out.cells 4
  simp only [List.getElem?_toArray, List.getElem?_cons_succ, List.getElem?_cons_zero] at c1 c2 c4
  clear hb
  go_quiet (fail)
  go_wp2_with fail
  go_ret
  refine ⟨?_, .slice ad l.length cap, ?_, ?_, fun _ h => .inl h⟩
  · rw [HA.out, HF.out]; rfl
  · rw [HA.out, HF.out]
    have := (HT.out.below (S := fun _ => False) ((Frm.refl _ _).drewN nq) (fun _ _ h => h)).setFull
    simpa using this
  · exact (((hfr.mono (fun _ _ h => h.elim)).drewN nq).setCell (.inr (.inl rfl)) _)

theorem heap_grown {w w' : World} {row : Option Nat} {p : Nat} {o : Obj} (h : w.heap[p]? = some o) (hg : w.grownBy w' row) (hne : some p ≠ row) : w'.heap[p]? = some o :=
  (hg.block p (Array.getElem?_eq_some_iff.1 h).1 hne).trans h

/-- a table, its row moved, and its map not yet told -/
structure IsTabX (w : World) (B p bm : Nat) (v : Value) (limit helps : Int) (l : List At) (a : At) (full : Bool) : Prop where
  cells : w.heap[p]? = some (.cells #[.map (some bm), v, .int .i64 limit, .int .i64 helps, .bool full] 83 (0, 0))
  row : w.ownsRow B 27 4 v (l.length + 1) ((l ++ [a]).flatMap atCells)
  map : AtMap w bm l
  wf : ∀ a ∈ l, AtWf a
  len : l.length ≤ 65536
  lim : -9223372036854775808 ≤ limit ∧ limit ≤ 65536
  pB : B ≤ p
  bB : B ≤ bm
theorem tab_row {w w3 : World} {B p bm g cap : Nat} {v : Value} {limit helps : Int} {l : List At} {full : Bool} (h : IsTab w B p bm v limit helps l full) (a : At)
    (hown : w3.ownsRow B 27 4 (.slice (some ⟨g, 0, none⟩) (l.length + 1) cap) (l.length + 1) (l.flatMap atCells ++ (atCells a)))
    (hg : w.grownBy w3 v.ownBlock) :
    IsTabX (w3.setCell ⟨p, 1, none⟩ (.slice (some ⟨g, 0, none⟩) (l.length + 1) cap)) B p bm (.slice (some ⟨g, 0, none⟩) (l.length + 1) cap) limit helps l a full ∧
    Frm (TabS p bm v) w (w3.setCell ⟨p, 1, none⟩ (.slice (some ⟨g, 0, none⟩) (l.length + 1) cap)) := by
  obtain ⟨a1, a2⟩ := h.apart
  have f1 : Frm (TabS p bm v) w w3 := (Frm.refl _ w).grown hg (fun k hk => .inr (.inr (.inr hk)))
  have f2 : Frm (TabS p bm v) w (w3.setCell ⟨p, 1, none⟩ (.slice (some ⟨g, 0, none⟩) (l.length + 1) cap)) := Frm.setCell (S := TabS p bm v) f1 (p := ⟨p, 1, none⟩) (.inr (.inl rfl)) _
  have hc3 : w3.heap[p]? = some (.cells #[.map (some bm), v, .int .i64 limit, .int .i64 helps, .bool full] 83 (0, 0)) :=
    heap_grown h.cells hg (fun e => (a2 p e.symm).1 rfl)
  have hgp : g ≠ p := by
    intro e
    subst e
    rcases hown.2 with ⟨h1, _⟩ | ⟨g', cap', cur, h1, _, hh, _⟩
    · cases h1
    · simp at h1
      rw [← h1.1, hc3] at hh
      simp at hh
  have fp : Frm (fun k => k = p) w3 (w3.setCell ⟨p, 1, none⟩ (.slice (some ⟨g, 0, none⟩) (l.length + 1) cap)) := Frm.setCell (S := fun k => k = p) (Frm.refl _ w3) (p := ⟨p, 1, none⟩) (.inr rfl) _
  refine ⟨⟨?_, ?_, ?_, h.wf, h.len, h.lim, h.pB, h.bB⟩, f2⟩
  · rw [heap_setCell_same w3 p 1 _ _ _ hc3]; rfl
  · rw [List.flatMap_append]
    simp only [List.flatMap_cons, List.flatMap_nil, List.append_nil]
    exact fp.owns hown (fun k hk => by simp [Value.ownBlock] at hk; omega)
  · refine (h.map.kept (S := fun k => v.ownBlock = some k) ((Frm.refl _ w).grown hg (fun k hk => .inr hk)) (fun e => (a2 bm e).2 rfl)).kept fp a1
theorem tab_done {w w5 : World} {B p bm : Nat} {v : Value} {limit helps : Int} {l : List At} {a : At} {full : Bool} (h : IsTabX w B p bm v limit helps l a full) (ha : AtWf a) (hl : (l.length : Int) < limit)
    (hm : AtMap w5 bm (l ++ [a])) (hg : w.grownBy w5 (some bm)) : IsTab w5 B p bm v limit helps (l ++ [a]) full := by
  have hbp : bm ≠ p := by
    intro e
    obtain ⟨D, ⟨es, clock, hm, _⟩, _⟩ := h.map
    subst e; rw [h.cells] at hm; simp at hm
  have hbv : ∀ k, v.ownBlock = some k → k ≠ bm := by
    intro k hk e
    subst e
    obtain ⟨D, ⟨es, clock, hm, _⟩, _⟩ := h.map
    rcases h.row.2 with ⟨h1, _⟩ | ⟨g, cap, cur, h1, _, hgg, _⟩
    · rw [h1] at hk; simp [Value.ownBlock] at hk
    · rw [h1] at hk
      simp [Value.ownBlock] at hk
      subst hk
      rw [hm] at hgg; simp at hgg
  have f : Frm (fun k => k = bm) w w5 := (Frm.refl _ w).grown hg (fun k hk => .inr (by simpa using hk.symm))
  refine ⟨heap_grown h.cells hg (by simp; omega), ?_, hm, ?_, ?_, h.lim, h.pB, h.bB⟩
  · rw [List.length_append]; exact f.owns h.row (fun k hk e => hbv k hk e)
  · intro x hx
    rcases List.mem_append.1 hx with hx | hx
    · exact h.wf x hx
    · simp at hx; subst hx; exact ha
  · have := h.lim; rw [List.length_append]; simp; omega

set_option maxHeartbeats 2000000 in
theorem number_new {w : World} {B p bm : Nat} {v : Value} {limit helps : Int} {l : List At} {full : Bool} (h : IsTab w B p bm v limit helps l full) (hB : B ≤ w.heap.size) (k a b c : Int) (ha : AtWf (k, a, b, c)) (hf : findAt l (k, a, b, c) = 0) (hl : (l.length : Int) < limit) :
    Calls Try.prog 18 #[.pointer (some ⟨p, 0, none⟩), .agg #[.int .u8 k, .int .i64 a, .int .i64 b, .int .i64 c]] w (NumPost w B p bm v limit helps l full (k, a, b, c)) := by
  have hw1 : Frm (fun _ => False) w (w.alloc (.cells #[.int .u8 k, .int .i64 a, .int .i64 b, .int .i64 c] 27)) := (Frm.refl _ w).alloc _
  have hT1 := Lib.hid (h.below hw1 (fun _ _ h => h))
  obtain ⟨ad, cap, hv⟩ := slice_form h.row
  subst hv
  have hlim := h.lim
  have hlen := h.len
  have hpl := (Array.getElem?_eq_some_iff.1 h.cells).1
  have hap := h.apart
  have H := Lib.hid h; clear h hw1
  have hlook := look_any hT1.out k a b c ha
  rw [hf] at hlook
  have HL := Lib.hid hlook; clear hlook
  have HF := Lib.hid hf; clear hf
  have hnp : some p ≠ (Value.slice ad l.length cap).ownBlock := fun e => (hap.2 p e.symm).1 rfl
  go_enter Try.func18, Try.ntmps18
  go_wp2_with (go_at_call 19; refine HL.out.mono ?_; rintro e w' ⟨rfl, hb⟩)
  have hfr : Frm (fun _ => False) w w' := ((Frm.refl _ w).alloc _).trans (Frm.of_below hb) (fun _ _ h => h)
  have HT := Lib.hid (H.out.below hfr (fun _ _ h => h))
  have hbx : w'.heap[w.heap.size]? = some (.cells #[.int .u8 k, .int .i64 a, .int .i64 b, .int .i64 c] 27 (0, 0)) := by
    rw [hb.block _ (by simp)]; exact heap_alloc_new w _
  have hsz : w.heap.size ≤ w'.heap.size := hfr.size
  have c1 := cell_blk HT.out.cells 1
  have c2 := cell_blk HT.out.cells 2
  have x0 := cell_blk hbx 0
  have x1 := cell_blk hbx 1
  have x2 := cell_blk hbx 2
  have x3 := cell_blk hbx 3
  simp only [List.getElem?_toArray, List.getElem?_cons_succ, List.getElem?_cons_zero] at c1 c2 x0 x1 x2 x3
  have hrow := Lib.hid HT.out.row
  have hcells := Lib.hid HT.out.cells
  have HB := Lib.hid hb
  clear hb hbx
  go_quiet (fail)
  go_wp2_with fail
  have hrow2 := Lib.hid (show ((w'.drewN nq).drew).ownsRow B 27 4 (.slice ad l.length cap) l.length (l.flatMap atCells) from hrow.out)
  have hcells2 := Lib.hid (show ((w'.drewN nq).drew).heap[p]? = some (.cells #[.map (some bm), .slice ad l.length cap, .int .i64 limit, .int .i64 helps, .bool full] 83 (0, 0)) from hcells.out)
  have c1a : ∀ o : Obj, ((w'.drewN (nq + 1)).alloc o).cell? ⟨p, 1, none⟩ = some (.slice ad l.length cap) := fun o => (((Frm.refl _ w').drewN (nq + 1)).alloc o).keep c1
  have hB2 : B ≤ ((w'.drewN nq).drew).heap.size := by show B ≤ w'.heap.size; omega
  have HT2 := Lib.hid (HT.out.below (S := fun _ => False) (((Frm.refl _ _).drewN nq).drew) (fun _ _ h => h))
  have hadd : addAt limit l (k, a, b, c) = l ++ [(k, a, b, c)] := by unfold addAt; rw [if_pos ⟨HF.out, hl⟩]
  have hfind : findAt (l ++ [(k, a, b, c)]) (k, a, b, c) = l.length + 1 := by rw [findAt_snoc, if_pos HF.out, if_pos rfl]
  have HA := Lib.hid hadd; clear hadd
  have HD := Lib.hid hfind; clear hfind
  go_region_law (refine step_append_some elem_atoms (w := (w'.drewN nq).drew) rfl (.tmp 35) (.tmp 37) rfl B (.slice ad l.length cap) l.length (l.flatMap atCells) rfl hrow2.out 1 (by decide) #[.int .u8 k, .int .i64 a, .int .i64 b, .int .i64 c] rfl rfl (by simp [Value.oneCell']) (by omega) (by unfold maxLen; omega) hB2 ?_; intro g cap3 w3 hown3 hgrow3 hmove3; have c13 := cell_blk (heap_grown hcells2.out hgrow3 hnp) 1; have f13 := froz_blk (heap_grown hcells2.out hgrow3 hnp) 1; simp only [List.getElem?_toArray, List.getElem?_cons_succ, List.getElem?_cons_zero] at c13)
  all_goals
    have P3 := tab_row HT2.out (k, a, b, c) hown3 hgrow3
    have hX := Lib.hid P3.1
    have hY := Lib.hid P3.2
    have hbx3 : (w3.setCell ⟨p, 1, none⟩ (.slice (some ⟨g, 0, none⟩) (l.length + 1) cap3)).heap[w.heap.size]? = some (.cells #[.int .u8 k, .int .i64 a, .int .i64 b, .int .i64 c] 27 (0, 0)) := by
      have hbq : Frm (TabS p bm (.slice ad l.length cap)) w' (w3.setCell ⟨p, 1, none⟩ (.slice (some ⟨g, 0, none⟩) (l.length + 1) cap3)) := (((Frm.refl _ _).drewN nq).drew).trans P3.2 (fun _ _ h => h)
      have hlt := H.out.map.lt
      have hszs : w.heap.size < w'.heap.size := by have := HB.out.size; simp at this; omega
      rw [hbq.block w.heap.size (by omega) (by
        rintro (e | e | e)
        · omega
        · omega
        · have := (H.out.row.lt _ e).2; omega), HB.out.block _ (by simp)]
      exact heap_alloc_new w _
    clear P3 hown3 hgrow3 c13 f13 c1a c1 c2 x0 x1 x2 x3
    obtain ⟨w4, hw4⟩ : ∃ w4, w4 = w3.setCell ⟨p, 1, none⟩ (.slice (some ⟨g, 0, none⟩) (l.length + 1) cap3) := ⟨_, rfl⟩
    rw [← hw4] at hX hY hbx3 ⊢
    clear hw4
    have d0 := cell_blk hX.out.cells 0
    have d1 := cell_blk hX.out.cells 1
    have y0 := cell_blk hbx3 0
    have y1 := cell_blk hbx3 1
    have y2 := cell_blk hbx3 2
    have y3 := cell_blk hbx3 3
    simp only [List.getElem?_toArray, List.getElem?_cons_succ, List.getElem?_cons_zero] at d0 d1 y0 y1 y2 y3
    clear hbx3
    have hm4 : AtMap w4.drew bm l := hX.out.map.kept (S := fun _ => False) ((Frm.refl _ _).drew) (fun h => h)
    obtain ⟨w5, hrun, hm5, hg5⟩ := hm4.store (k, a, b, c) ha HF.out hlen
    have hX4 : IsTabX w4.drew B p bm (.slice (some ⟨g, 0, none⟩) (l.length + 1) cap3) limit helps l (k, a, b, c) full := ⟨hX.out.cells, hX.out.row, hm4, hX.out.wf, hX.out.len, hX.out.lim, hX.out.pB, hX.out.bB⟩
    have hT5 := Lib.hid (tab_done hX4 ha hl hm5 hg5)
    have hF5 : Frm (TabS p bm (.slice ad l.length cap)) w w5 := ((((hfr.drewN nq).drew).mono (fun _ _ h => h.elim)).trans hY.out (fun _ _ h => h)).trans ((Frm.refl (fun k => k = bm) w4).drew.grown hg5 (fun k hk => .inr (by simpa using hk.symm))) (fun i _ h => .inr (.inl h))
    have HF5 := Lib.hid hF5
    have e1 := cell_blk hT5.out.cells 1
    simp only [List.getElem?_toArray, List.getElem?_cons_succ, List.getElem?_cons_zero] at e1
    unfold atV at hrun
    clear hm4 hm5 hg5 hX4 hF5
    go_wp2_with fail
    have hmove := Lib.hid hmove3
    clear hmove3
    go_region
    go_wp2_with fail
    go_ret
    refine ⟨?_, .slice (some ⟨g, 0, none⟩) (l.length + 1) cap3, ?_, HF5.out, fun q hq => ?_⟩
    · rw [HA.out, HD.out]; rfl
    · rw [HA.out, HD.out]
      have hd : decide (l.length + 1 = 0) = false := by simp
      rw [hd, Bool.or_false]
      exact hT5.out
    · rcases hmove.out q hq with h | h
      · exact .inl h
      · right
        have : w'.heap.size ≤ q := h
        omega

theorem number_any {w : World} {B p bm : Nat} {v : Value} {limit helps : Int} {l : List At} {full : Bool} (h : IsTab w B p bm v limit helps l full) (hB : B ≤ w.heap.size) (k a b c : Int) (ha : AtWf (k, a, b, c)) :
    Calls Try.prog 18 #[.pointer (some ⟨p, 0, none⟩), .agg #[.int .u8 k, .int .i64 a, .int .i64 b, .int .i64 c]] w (NumPost w B p bm v limit helps l full (k, a, b, c)) := by
  by_cases hf : findAt l (k, a, b, c) = 0
  · by_cases hl : (l.length : Int) < limit
    · exact number_new h hB k a b c ha hf hl
    · exact number_full h k a b c ha hf (by omega)
  · exact number_hit h k a b c ha hf
end Go.Proofs.Ytoljhahmmdibfaa
