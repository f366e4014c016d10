/- The walks of find, of the table's At, and of AtomsRow. No condition. -/
import Derived.Test.YtoljhahmmdibfaaAtomsF
namespace Go.Proofs.Ytoljhahmmdibfaa
open Go.RowKit

theorem findAt_append (l r : List At) (a : At) : findAt (l ++ r) a = if findAt l a = 0 then (if findAt r a = 0 then 0 else l.length + findAt r a) else findAt l a := by
  induction l with
  | nil => simp [findAt]
  | cons y l ih =>
    simp only [List.cons_append, findAt, ih, List.length_cons]
    by_cases h1 : y = a
    · simp [h1]
    · by_cases h2 : findAt l a = 0
      · by_cases h3 : findAt r a = 0
        · simp [h1, h2, h3]
        · simp [h1, h2, h3]; omega
      · simp [h1, h2]
theorem findAt_hit (l : List At) (k : Nat) (a : At) (h0 : findAt (l.take k) a = 0) (hk : l[k]? = some a) : findAt l a = k + 1 := by
  have hlt := (List.getElem?_eq_some_iff.1 hk).1
  have e : l = l.take k ++ (a :: l.drop (k + 1)) := by
    have h1 := (List.getElem?_eq_some_iff.1 hk).2
    rw [← h1, ← List.drop_eq_getElem_cons hlt, List.take_append_drop]
  rw [e, findAt_append, if_pos h0]
  have : findAt (a :: l.drop (k + 1)) a = 1 := by simp [findAt]
  rw [this, if_neg (by decide), List.length_take]
  omega
theorem findAt_miss (l : List At) (k : Nat) (a x : At) (h0 : findAt (l.take k) a = 0) (hk : l[k]? = some x) (hne : x ≠ a) : findAt (l.take (k + 1)) a = 0 := by
  rw [List.take_add_one, hk]
  simp only [Option.toList_some]
  rw [findAt_snoc, if_pos h0, if_neg hne]

theorem rslice_of_owns {α : Type} {sz : Nat} {R : Rd α} {w : World} {B : Nat} {e : TypeId} {v : Value} {l : List α} (enc : α → List Value) (henc : ∀ x, (enc x).length = sz) (hR : ∀ x ∈ l, R w (enc x) x)
    (h : w.ownsRow B e sz v l.length (l.flatMap enc)) : RSlice sz R w [v] l := by
  have hget : ∀ (l : List α) i x j u, l[i]? = some x → (enc x)[j]? = some u → (l.flatMap enc)[i * sz + j]? = some u := by
    intro l
    induction l with
    | nil => intro i x j u h; simp at h
    | cons y l ih =>
      intro i x j u hi hj
      rw [List.flatMap_cons]
      cases i with
      | zero =>
        simp at hi
        subst hi
        rw [Nat.zero_mul, Nat.zero_add, List.getElem?_append_left (List.getElem?_eq_some_iff.1 hj).1]
        exact hj
      | succ i =>
        rw [List.getElem?_append_right (by rw [henc, Nat.add_mul]; omega), henc, show (i + 1) * sz + j - sz = i * sz + j by rw [Nat.add_mul]; omega]
        exact ih i x j u (by simpa using hi) hj
  rcases h.2 with ⟨rfl, h0⟩ | ⟨g, cap, cur, rfl, hg, hh, hn, hm, hs, ht⟩
  · refine ⟨none, 0, by rw [h0], by omega, Nat.zero_le _, fun i x hi => ?_⟩
    have := (List.getElem?_eq_some_iff.1 hi).1
    omega
  · refine ⟨some ⟨g, 0, none⟩, cap, rfl, hn, hm, fun i x hi => ⟨g, 0, enc x, rfl, henc x, fun j u hu => ?_, hR x (List.mem_of_getElem? hi)⟩⟩
    have := h.cells (g := g) rfl _ _ (hget l i x j u hi hu)
    rw [Addr.add_lit, ← Nat.add_assoc] at this
    exact this

set_option maxHeartbeats 1000000 in
theorem find_any (v : Value) (l : List At) (k a b c : Int) (w : World) (h : RSlice 4 RAt w [v] l) :
    Calls Try.prog 17 #[v, .agg #[.int .u8 k, .int .i64 a, .int .i64 b, .int .i64 c]] w fun e w' => e = .returned (.int .i64 (findAt l (k, a, b, c))) ∧ Below w.heap.size w w' := by
  obtain ⟨ad, cap, hv, hlc, hcm, hcell⟩ := h
  simp only [List.cons.injEq, and_true] at hv
  subst hv
  have HC := Lib.hid hcell; clear hcell
  unfold maxLen at hcm
  have hbx := heap_alloc_new w (.cells #[.int .u8 k, .int .i64 a, .int .i64 b, .int .i64 c] 27)
  have HX := Lib.hid hbx; clear hbx
  go_enter Try.func17, Try.ntmps17
  go_wp2_with fail
  go_loopw [9] (fun i wr => ∃ q : Nat, q ≤ l.length ∧ i = .int .i64 q ∧ Hid (findAt (l.take q) (k, a, b, c) = 0) ∧ Below (w.heap.size + 1) (w.alloc (.cells #[.int .u8 k, .int .i64 a, .int .i64 b, .int .i64 c] 27)) wr) (fun i _ => l.length - (intOf i).toNat)
  case atStart => exact ⟨0, Nat.zero_le _, rfl, rfl, Below.refl _ _⟩
  case round =>
    obtain ⟨q, hq, rfl, hno, hbel⟩ := hrel
    by_cases hlt : q < l.length
    · obtain ⟨bb, off, ecs, hec, hel, hce, hre⟩ := HC.out q (l[q]) (List.getElem?_eq_getElem hlt)
      obtain ⟨hre1, _⟩ := hre
      subst hec
      subst hre1
      obtain ⟨x, hx⟩ : ∃ x, x = l[q] := ⟨_, rfl⟩
      rw [← hx] at hce
      obtain ⟨k', a', b', c'⟩ := x
      have HQ := Lib.hid hx; clear hx
      have f1 : Frm (fun _ => False) w wr := ((Frm.refl _ w).alloc _).trans (Frm.of_below (by simpa using hbel)) (fun _ _ h => h)
      have z0 := f1.keep (hce 0 _ rfl)
      have z1 := f1.keep (hce 1 _ rfl)
      have z2 := f1.keep (hce 2 _ rfl)
      have z3 := f1.keep (hce 3 _ rfl)
      have hbr : wr.heap[w.heap.size]? = some (.cells #[.int .u8 k, .int .i64 a, .int .i64 b, .int .i64 c] 27 (0, 0)) := (hbel.block _ (by omega)).trans HX.out
      have y0 := cell_blk hbr 0
      have y1 := cell_blk hbr 1
      have y2 := cell_blk hbr 2
      have y3 := cell_blk hbr 3
      simp only [List.getElem?_toArray, List.getElem?_cons_succ, List.getElem?_cons_zero, Nat.add_zero] at y0 y1 y2 y3 z0 z1 z2 z3
      have hs : w.heap.size < wr.heap.size := by have := hbel.size; simp at this; omega
      clear hbr hce hel
      have hend : Below w.heap.size w (wr.alloc (.cells #[.int .u8 k', .int .i64 a', .int .i64 b', .int .i64 c'] 27)) := (((Below.refl _ _).alloc (Nat.le_refl _) _).trans (hbel.mono (by simp))).alloc (by omega) _
      have HE := Lib.hid hend; clear hend
      go_wp2_with fail
      · go_ret
        have e1 : k' = k := by assumption
        have e2 : a' = a := by assumption
        have e3 : b' = b := by assumption
        have e4 : c' = c := by assumption
        subst e1 e2 e3 e4
        refine ⟨ret_int ?_, HE.out⟩
        rw [findAt_hit l q _ hno.out (by rw [HQ.out]; exact List.getElem?_eq_getElem hlt)]
        omega
      all_goals
        have hne : ((k', a', b', c') : At) ≠ (k, a, b, c) := by
          intro e
          simp only [Prod.mk.injEq] at e
          obtain ⟨e1, e2, e3, e4⟩ := e
          first | exact (‹¬ k' = k› e1) | exact (‹¬ a' = a› e2) | exact (‹¬ b' = b› e3) | exact (‹¬ c' = c› e4)
        have hnext := Lib.hid (findAt_miss l q _ _ hno.out (by rw [List.getElem?_eq_getElem hlt, ← HQ.out]) hne)
        go_roundw
        case rel => exact ⟨q + 1, by omega, by go_num, hnext, hbel.alloc (by omega) _⟩
        case measure => simp [intOf]; omega
    · go_wp2_with fail
      go_ret
      refine ⟨ret_int ?_, (((Below.refl _ _).alloc (Nat.le_refl _) _).trans (hbel.mono (by simp)))⟩
      have := hno.out
      rw [List.take_of_length_le (by omega)] at this
      rw [this]; rfl

set_option maxHeartbeats 400000 in
theorem at_any {w : World} {B p bm : Nat} {v : Value} {limit helps : Int} {l : List At} {full : Bool} (h : IsTab w B p bm v limit helps l full) (i : Nat) (hi : i < l.length) (k a b c : Int) (hx : l[i]? = some (k, a, b, c)) :
    Calls Try.prog 20 #[.pointer (some ⟨p, 0, none⟩), .int .i64 ((i : Int) + 1)] w fun e w' => e = .returned (.tuple #[.agg #[.int .u8 k, .int .i64 a, .int .i64 b, .int .i64 c], .bool true]) ∧ Below w.heap.size w w' := by
  have hlen := h.len
  have hS := rslice_of_owns (R := RAt) atCells (fun _ => rfl) (fun x hx => ⟨rfl, h.wf x hx⟩) h.row
  obtain ⟨ad, cap, hv, hlc, hcm, hcell⟩ := hS
  simp only [List.cons.injEq, and_true] at hv
  subst hv
  obtain ⟨bb, off, ecs, hec, hel, hce, hre⟩ := hcell i _ hx
  obtain ⟨hre1, _⟩ := hre
  subst hec
  subst hre1
  have c1 := cell_blk h.cells 1
  simp only [List.getElem?_toArray, List.getElem?_cons_succ, List.getElem?_cons_zero] at c1
  have hw0 : Frm (fun _ => False) w (w.alloc (.cells #[.int .u8 0, .int .i64 0, .int .i64 0, .int .i64 0] 27)) := (Frm.refl _ w).alloc _
  have HL := Lib.hid (len_any (h.below hw0 (fun _ _ h => h)))
  have hpl := (Array.getElem?_eq_some_iff.1 h.cells).1
  have z0 := hce 0 _ rfl
  have z1 := hce 1 _ rfl
  have z2 := hce 2 _ rfl
  have z3 := hce 3 _ rfl
  have hbl := World.block_lt_of_cell? _ _ z0
  simp only [Nat.add_zero] at z0 z1 z2 z3 hbl
  clear h hx hcell hce hel hw0
  go_enter Try.func20, Try.ntmps20
  go_wp2_with (go_at_call 21; refine HL.out.mono ?_; rintro e w' ⟨rfl, rfl⟩)
  exact bodyPost_ret (v := .tuple #[.agg #[.int .u8 k, .int .i64 a, .int .i64 b, .int .i64 c], .bool true]) (by simp [results, Try.results20, go_sem]) rfl ⟨rfl, by repeat (first | exact (Below.refl _ _).alloc (Nat.le_refl _) _ | refine Below.setCell ?_ (by simp) _)⟩
end Go.Proofs.Ytoljhahmmdibfaa
