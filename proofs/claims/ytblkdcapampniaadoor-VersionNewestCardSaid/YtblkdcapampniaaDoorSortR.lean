/- The row of a sort, as long as the comparison only makes memory: the elements' cells in a block, the blocks below B as they were. No condition. -/
import Derived.Test.YtblkdcapampniaaDoorSortA
import Derived.Test.YtblkdcapampniaaDoorStbB
import Derived.Test.YtblkdcapampniaaDoorMem
import Derived.Laws.IdiomCopy
import Derived.Laws.Rows
set_option linter.unusedVariables false
set_option linter.unusedSimpArgs false
namespace Go.Proofs.YtblkdcapampniaaDoor
open Go.RowKit Go.Lib Go.Sort
namespace SortR

/-- a row of cells with vs from o on -/
theorem sets_row (g : Nat) (t : TypeId) : ∀ (vs : List Value) (o : Nat) (w : World) (cs : Array Value), w.heap[g]? = some (.cells cs t (0, 0)) →
    ∃ cs' : Array Value, (w.setCells g o vs).heap[g]? = some (.cells cs' t (0, 0)) ∧ cs'.size = cs.size ∧ ∀ p, p < cs.size → cs'[p]? = if o ≤ p ∧ p < o + vs.length then vs[p - o]? else cs[p]?
  | [], o, w, cs, h => ⟨cs, h, rfl, fun p hp => by rw [if_neg (by simp)]⟩
  | v :: vs, o, w, cs, h => by
    have h1 := heap_setCell_same w g o cs t v h
    obtain ⟨cs', h2, h3, h4⟩ := sets_row g t vs (o + 1) _ _ h1
    refine ⟨cs', h2, by rw [h3]; simp, fun p hp => ?_⟩
    rw [h4 p (by simpa using hp), List.length_cons]
    by_cases e : p = o
    · subst e
      rw [if_neg (by omega), if_pos (by omega), Nat.sub_self]
      simp [hp]
    · by_cases hin : o + 1 ≤ p ∧ p < o + 1 + vs.length
      · rw [if_pos hin, if_pos (by omega), show p - o = (p - (o + 1)) + 1 by omega, List.getElem?_cons_succ]
      · rw [if_neg hin, if_neg (by omega)]
        exact Array.getElem?_setIfInBounds_ne (fun e' => e e'.symm)
theorem sets_frm (g : Nat) {w0 : World} : ∀ (vs : List Value) (o : Nat) (w : World), Frm (fun b => b = g) w0 w → Frm (fun b => b = g) w0 (w.setCells g o vs)
  | [], _, _, h => h
  | v :: vs, o, w, h => sets_frm g vs (o + 1) _ (frm_cell h o v)
/-- how many cells a block has -/
def szOf (w : World) (b : Nat) : Nat := match w.heap[b]? with
  | some (.cells cs _ _) => cs.size
  | _ => 0
theorem szOf_is {w : World} {b : Nat} {cs : Array Value} {t : TypeId} {fr : Nat × Nat} (h : w.heap[b]? = some (.cells cs t fr)) : szOf w b = cs.size := by unfold szOf; rw [h]
variable {α : Type} [Inhabited α] {enc : α → List Value} {k : Nat} {t : TypeId} {blk off : Nat} {w0 : World}
/-- the row now; all other blocks are as they were in w0 -/
structure SRW (t : TypeId) (enc : α → List Value) (k : Nat) (w0 : World) (blk off : Nat) (d : Array α) (W : World) : Prop where
  frm : Frm (fun b => b = blk) w0 W
  row : ∃ cs : Array Value, W.heap[blk]? = some (.cells cs t (0, 0)) ∧ cs.size = szOf w0 blk ∧ ∀ i, i < d.size → ∀ c, c < k → off + (i * k + c) < szOf w0 blk ∧ cs[off + (i * k + c)]? = (enc d[i]!)[c]?
theorem SRW.below {d : Array α} {W W' : World} (h : SRW t enc k w0 blk off d W) (hb : Below W.heap.size W W') : SRW t enc k w0 blk off d W' := by
  obtain ⟨cs, h1, h2, h3⟩ := h.row
  exact ⟨h.frm.trans (Frm.of_below (S := fun b => b = blk) hb) (fun _ _ e => e), cs, heap_below hb h1, h2, h3⟩
theorem SRW.drew {d : Array α} {W : World} (h : SRW t enc k w0 blk off d W) : SRW t enc k w0 blk off d W.drew := by
  obtain ⟨cs, h1, h2, h3⟩ := h.row
  exact ⟨h.frm.drew, cs, h1, h2, h3⟩
theorem SRW.cell {d : Array α} {W : World} (h : SRW t enc k w0 blk off d W) {i : Nat} (hi : i < d.size) {c : Nat} (hc : c < k) {v : Value} (hv : (enc d[i]!)[c]? = some v) : W.cell? ⟨blk, off + (i * k + c), none⟩ = some v ∧ W.frozen? ⟨blk, off + (i * k + c), none⟩ = false := by
  obtain ⟨cs, h1, h2, h3⟩ := h.row
  exact ⟨by rw [cells_at h1, (h3 i hi c hc).2, hv], frozen_at h1 _⟩
theorem mul_apart {i j k c : Nat} (h : i ≠ j) (hc : c < k) : i * k + c < j * k ∨ j * k + k ≤ i * k + c := by
  rcases Nat.lt_or_gt_of_ne h with h | h
  · have := Nat.mul_le_mul_right k (show i + 1 ≤ j by omega)
    rw [Nat.succ_mul] at this
    exact .inl (by omega)
  · have := Nat.mul_le_mul_right k (show j + 1 ≤ i by omega)
    rw [Nat.succ_mul] at this
    exact .inr (by omega)
/-- an element is written -/
theorem SRW.put {d : Array α} {W : World} (h : SRW t enc k w0 blk off d W) (hk : ∀ x, (enc x).length = k) {i : Nat} (hi : i < d.size) (x : α) : SRW t enc k w0 blk off (d.setIfInBounds i x) (W.setCells blk (off + i * k) (enc x)) := by
  obtain ⟨cs, h1, h2, h3⟩ := h.row
  obtain ⟨cs', g1, g2, g3⟩ := sets_row blk t (enc x) (off + i * k) W cs h1
  refine ⟨sets_frm blk _ _ _ h.frm, cs', g1, by rw [g2, h2], fun j hj c hc => ?_⟩
  have hj' : j < d.size := by simpa using hj
  have h4 := h3 j hj' c hc
  refine ⟨h4.1, ?_⟩
  rw [g3 _ (by rw [h2]; exact h4.1), hk]
  by_cases e : j = i
  · subst e
    rw [if_pos (by omega), show off + (j * k + c) - (off + j * k) = c by omega]
    have : (d.setIfInBounds j x)[j]! = x := by rw [getElem!_pos _ j (by simpa using hj')]; simp
    rw [this]
  · have ha := mul_apart e hc
    rw [if_neg (by omega), h4.2]
    have : (d.setIfInBounds i x)[j]! = d[j]! := by
      rw [getElem!_pos _ j (by simpa using hj'), getElem!_pos d j hj']
      exact Array.getElem_setIfInBounds_ne hj' (fun e' => e e'.symm)
    rw [this]
theorem SRW.exch {d : Array α} {W : World} (h : SRW t enc k w0 blk off d W) (hk : ∀ x, (enc x).length = k) {i j : Nat} (hi : i < d.size) (hj : j < d.size) :
    SRW t enc k w0 blk off (swp d i j) ((W.setCells blk (off + i * k) (enc d[j]!)).setCells blk (off + j * k) (enc d[i]!)) :=
  (h.put hk hi d[j]!).put hk (by simpa using hj) d[i]!
/-- a row that a call owns, as a sort's row, and back -/
theorem srw_of_owns (hk : ∀ x, (enc x).length = k) {w : World} {base g n cap : Nat} {e : TypeId} {l : List α} (h : w.ownsRow base e k (.slice (some ⟨g, 0, none⟩) n cap) n (l.flatMap enc)) (hn : l.length = n) : SRW e enc k w g 0 l.toArray w := by
  rcases h.2 with ⟨e0, _⟩ | ⟨g', cap', cur, e0, hb, hg, hn', hm, hcs, ht⟩
  · cases e0
  · injection e0 with e1 _ e3
    injection e1 with e1
    injection e1 with e1
    subst e1; subst e3
    have hz := szOf_is hg
    refine ⟨Frm.refl _ _, cur, hg, hz.symm, fun i hi c hc => ?_⟩
    have hi' : i < l.length := by simpa using hi
    have h1 := Nat.mul_le_mul_right k (show i + 1 ≤ n by omega)
    rw [Nat.succ_mul] at h1
    have h2 := Nat.mul_le_mul_right k hn'
    refine ⟨by rw [hz, hcs]; omega, ?_⟩
    have h3 := flat_get enc k hk l i hi' c hc
    rw [← ht, List.getElem?_take, if_pos (by omega), Array.getElem?_toList] at h3
    rw [Nat.zero_add, h3]
    have : l.toArray[i]! = l[i] := by rw [getElem!_pos l.toArray i hi]; simp
    rw [this]
theorem owns_of_srw (hk : ∀ x, (enc x).length = k) (k0 : 0 < k) {w W : World} {base g n cap : Nat} {e : TypeId} {xs : List Value} {d : Array α} (h : w.ownsRow base e k (.slice (some ⟨g, 0, none⟩) n cap) n xs) (S : SRW e enc k w g 0 d W) (hs : d.size = n) :
    W.ownsRow base e k (.slice (some ⟨g, 0, none⟩) n cap) n (d.toList.flatMap enc) ∧ ∀ w0, Below base w0 w → base ≤ w.heap.size → Below base w0 W := by
  rcases h.2 with ⟨e0, _⟩ | ⟨g', cap', cur, e0, hb, hg, hn', hm, hcs, ht⟩
  · cases e0
  · injection e0 with e1 _ e3
    injection e1 with e1
    injection e1 with e1
    subst e1; subst e3
    obtain ⟨cs, h1, h2, h3⟩ := S.row
    have hz := szOf_is hg
    have hlen : ∀ l : List α, (l.flatMap enc).length = l.length * k := fun l => by
      induction l with
      | nil => simp
      | cons x l ih => rw [List.flatMap_cons, List.length_append, ih, hk, List.length_cons, Nat.succ_mul]; omega
    have hd : (d.toList.flatMap enc).length = n * k := by rw [hlen]; simp [hs]
    refine ⟨⟨hd, .inr ⟨g, cap, cs, rfl, hb, h1, hn', hm, by rw [h2, hz, hcs], ?_⟩⟩, fun w0 hB hbs => hB.trans (S.frm.below hbs (fun k e => by rw [e]; exact hb))⟩
    apply List.ext_getElem?
    intro p
    rw [List.getElem?_take]
    by_cases hp : p < n * k
    · rw [if_pos hp, Array.getElem?_toList]
      have hi : p / k < d.size := by rw [hs]; exact Nat.div_lt_of_lt_mul (by rwa [Nat.mul_comm])
      have hc : p % k < k := Nat.mod_lt _ k0
      have e5 := (h3 (p / k) hi (p % k) hc).2
      have e6 := flat_get enc k hk d.toList (p / k) (by simpa using hi) (p % k) hc
      rw [Nat.zero_add, Nat.div_add_mod'] at e5
      rw [Nat.div_add_mod'] at e6
      rw [e5, e6, getElem!_pos d _ hi, Array.getElem_toList]
    · rw [if_neg hp, List.getElem?_eq_none (by omega)]
end SortR
end Go.Proofs.YtblkdcapampniaaDoor
