/- Walks and plain facts. Texts merged: SortR, SpsG, SpsH, IdxM, IdxSpan, StbSpanK, StbSpanR, StbSpanM, StbSpanN1, StbSpanN2, StbSpanN3. Condition: none beyond what each says. -/
import Derived.Laws.IdiomCopy
import Derived.Laws.Rows
import Derived.Deep.RegionHeld3
import Derived.BigQuiet
import Derived.Shelf.Abstract
import Derived.Test.YteailgjiifdgcaaGreatDoorRows
import Derived.Shelf.SlSortCmp.QuietGrown
import Derived.Shelf.SlSortCmp.Insertion
import Derived.Deep.LoopGhost
import Derived.BigRegion
import Derived.Deep.CutRange
import Derived.Test.YteailgjiifdgcaaGreatDoorSpansSharesAll1
import Derived.Test.YteailgjiifdgcaaGreatDoorSpansSharesAll2
import Derived.Test.YteailgjiifdgcaaGreatDoorSpansSharesAll3
import Derived.Test.YteailgjiifdgcaaGreatDoorSpansSharesAll4
set_option linter.unusedVariables false
set_option linter.unusedSimpArgs false
/- The row of a sort, as long as the comparison only makes memory: the elements' cells in a block, the blocks below B as they were. No condition. -/
namespace Go.Proofs.YteailgjiifdgcaaGreatDoor
open Go.RowKit Go.Lib Go.Sort
namespace SortR

/-- a row of cells with vs from o on -/
theorem sets_row (g : Nat) (t : TypeId) : ∀ (vs : List Value) (o : Nat) (w : World) (cs : Array Value), w.heap[g]? = some (.cells cs t (0, 0)) →
    ∃ cs' : Array Value, (w.setCells g o vs).heap[g]? = some (.cells cs' t (0, 0)) ∧ cs'.size = cs.size ∧ ∀ p, p < cs.size → cs'[p]? = if o ≤ p ∧ p < o + vs.length then vs[p - o]? else cs[p]?
  | [], o, w, cs, h => ⟨cs, h, rfl, fun p hp => by rw [if_neg (by simp)]⟩
  | v :: vs, o, w, cs, h => by
    have h1 := heap_setCell_same w g o cs t v h
    obtain ⟨cs', h2, h3, h4⟩ := sets_row g t vs (o + 1) _ _ h1
    refine ⟨cs', h2, by rw [h3]; simp, fun p hp => ?_⟩
    rw [h4 p (by simpa using hp), List.length_cons]
    by_cases e : p = o
    · subst e
      rw [if_neg (by omega), if_pos (by omega), Nat.sub_self]
      simp [hp]
    · by_cases hin : o + 1 ≤ p ∧ p < o + 1 + vs.length
      · rw [if_pos hin, if_pos (by omega), show p - o = (p - (o + 1)) + 1 by omega, List.getElem?_cons_succ]
      · rw [if_neg hin, if_neg (by omega)]
        exact Array.getElem?_setIfInBounds_ne (fun e' => e e'.symm)
theorem sets_frm (g : Nat) {w0 : World} : ∀ (vs : List Value) (o : Nat) (w : World), Frm (fun b => b = g) w0 w → Frm (fun b => b = g) w0 (w.setCells g o vs)
  | [], _, _, h => h
  | v :: vs, o, w, h => sets_frm g vs (o + 1) _ (frm_cell h o v)
/-- how many cells a block has -/
def szOf (w : World) (b : Nat) : Nat := match w.heap[b]? with
  | some (.cells cs _ _) => cs.size
  | _ => 0
theorem szOf_is {w : World} {b : Nat} {cs : Array Value} {t : TypeId} {fr : Nat × Nat} (h : w.heap[b]? = some (.cells cs t fr)) : szOf w b = cs.size := by unfold szOf; rw [h]
variable {α : Type} [Inhabited α] {enc : α → List Value} {k : Nat} {t : TypeId} {blk off : Nat} {w0 : World}
/-- the row now; all other blocks are as they were in w0 -/
structure SRW (t : TypeId) (enc : α → List Value) (k : Nat) (w0 : World) (blk off : Nat) (d : Array α) (W : World) : Prop where
  frm : Frm (fun b => b = blk) w0 W
  row : ∃ cs : Array Value, W.heap[blk]? = some (.cells cs t (0, 0)) ∧ cs.size = szOf w0 blk ∧ ∀ i, i < d.size → ∀ c, c < k → off + (i * k + c) < szOf w0 blk ∧ cs[off + (i * k + c)]? = (enc d[i]!)[c]?
theorem SRW.below {d : Array α} {W W' : World} (h : SRW t enc k w0 blk off d W) (hb : Below W.heap.size W W') : SRW t enc k w0 blk off d W' := by
  obtain ⟨cs, h1, h2, h3⟩ := h.row
  exact ⟨h.frm.trans (Frm.of_below (S := fun b => b = blk) hb) (fun _ _ e => e), cs, heap_below hb h1, h2, h3⟩
theorem SRW.drew {d : Array α} {W : World} (h : SRW t enc k w0 blk off d W) : SRW t enc k w0 blk off d W.drew := by
  obtain ⟨cs, h1, h2, h3⟩ := h.row
  exact ⟨h.frm.drew, cs, h1, h2, h3⟩
theorem SRW.cell {d : Array α} {W : World} (h : SRW t enc k w0 blk off d W) {i : Nat} (hi : i < d.size) {c : Nat} (hc : c < k) {v : Value} (hv : (enc d[i]!)[c]? = some v) : W.cell? ⟨blk, off + (i * k + c), none⟩ = some v ∧ W.frozen? ⟨blk, off + (i * k + c), none⟩ = false := by
  obtain ⟨cs, h1, h2, h3⟩ := h.row
  exact ⟨by rw [cells_at h1, (h3 i hi c hc).2, hv], frozen_at h1 _⟩
theorem mul_apart {i j k c : Nat} (h : i ≠ j) (hc : c < k) : i * k + c < j * k ∨ j * k + k ≤ i * k + c := by
  rcases Nat.lt_or_gt_of_ne h with h | h
  · have := Nat.mul_le_mul_right k (show i + 1 ≤ j by omega)
    rw [Nat.succ_mul] at this
    exact .inl (by omega)
  · have := Nat.mul_le_mul_right k (show j + 1 ≤ i by omega)
    rw [Nat.succ_mul] at this
    exact .inr (by omega)
/-- an element is written -/
theorem SRW.put {d : Array α} {W : World} (h : SRW t enc k w0 blk off d W) (hk : ∀ x, (enc x).length = k) {i : Nat} (hi : i < d.size) (x : α) : SRW t enc k w0 blk off (d.setIfInBounds i x) (W.setCells blk (off + i * k) (enc x)) := by
  obtain ⟨cs, h1, h2, h3⟩ := h.row
  obtain ⟨cs', g1, g2, g3⟩ := sets_row blk t (enc x) (off + i * k) W cs h1
  refine ⟨sets_frm blk _ _ _ h.frm, cs', g1, by rw [g2, h2], fun j hj c hc => ?_⟩
  have hj' : j < d.size := by simpa using hj
  have h4 := h3 j hj' c hc
  refine ⟨h4.1, ?_⟩
  rw [g3 _ (by rw [h2]; exact h4.1), hk]
  by_cases e : j = i
  · subst e
    rw [if_pos (by omega), show off + (j * k + c) - (off + j * k) = c by omega]
    have : (d.setIfInBounds j x)[j]! = x := by rw [getElem!_pos _ j (by simpa using hj')]; simp
    rw [this]
  · have ha := mul_apart e hc
    rw [if_neg (by omega), h4.2]
    have : (d.setIfInBounds i x)[j]! = d[j]! := by
      rw [getElem!_pos _ j (by simpa using hj'), getElem!_pos d j hj']
      exact Array.getElem_setIfInBounds_ne hj' (fun e' => e e'.symm)
    rw [this]
theorem SRW.exch {d : Array α} {W : World} (h : SRW t enc k w0 blk off d W) (hk : ∀ x, (enc x).length = k) {i j : Nat} (hi : i < d.size) (hj : j < d.size) :
    SRW t enc k w0 blk off (swp d i j) ((W.setCells blk (off + i * k) (enc d[j]!)).setCells blk (off + j * k) (enc d[i]!)) :=
  (h.put hk hi d[j]!).put hk (by simpa using hj) d[i]!
/-- a row that a call owns, as a sort's row, and back -/
theorem srw_of_owns (hk : ∀ x, (enc x).length = k) {w : World} {base g n cap : Nat} {e : TypeId} {l : List α} (h : w.ownsRow base e k (.slice (some ⟨g, 0, none⟩) n cap) n (l.flatMap enc)) (hn : l.length = n) : SRW e enc k w g 0 l.toArray w := by
  rcases h.2 with ⟨e0, _⟩ | ⟨g', cap', cur, e0, hb, hg, hn', hm, hcs, ht⟩
  · cases e0
  · injection e0 with e1 _ e3
    injection e1 with e1
    injection e1 with e1
    subst e1; subst e3
    have hz := szOf_is hg
    refine ⟨Frm.refl _ _, cur, hg, hz.symm, fun i hi c hc => ?_⟩
    have hi' : i < l.length := by simpa using hi
    have h1 := Nat.mul_le_mul_right k (show i + 1 ≤ n by omega)
    rw [Nat.succ_mul] at h1
    have h2 := Nat.mul_le_mul_right k hn'
    refine ⟨by rw [hz, hcs]; omega, ?_⟩
    have h3 := flat_get enc k hk l i hi' c hc
    rw [← ht, List.getElem?_take, if_pos (by omega), Array.getElem?_toList] at h3
    rw [Nat.zero_add, h3]
    have : l.toArray[i]! = l[i] := by rw [getElem!_pos l.toArray i hi]; simp
    rw [this]
theorem owns_of_srw (hk : ∀ x, (enc x).length = k) (k0 : 0 < k) {w W : World} {base g n cap : Nat} {e : TypeId} {xs : List Value} {d : Array α} (h : w.ownsRow base e k (.slice (some ⟨g, 0, none⟩) n cap) n xs) (S : SRW e enc k w g 0 d W) (hs : d.size = n) :
    W.ownsRow base e k (.slice (some ⟨g, 0, none⟩) n cap) n (d.toList.flatMap enc) ∧ ∀ w0, Below base w0 w → base ≤ w.heap.size → Below base w0 W := by
  rcases h.2 with ⟨e0, _⟩ | ⟨g', cap', cur, e0, hb, hg, hn', hm, hcs, ht⟩
  · cases e0
  · injection e0 with e1 _ e3
    injection e1 with e1
    injection e1 with e1
    subst e1; subst e3
    obtain ⟨cs, h1, h2, h3⟩ := S.row
    have hz := szOf_is hg
    have hlen : ∀ l : List α, (l.flatMap enc).length = l.length * k := fun l => by
      induction l with
      | nil => simp
      | cons x l ih => rw [List.flatMap_cons, List.length_append, ih, hk, List.length_cons, Nat.succ_mul]; omega
    have hd : (d.toList.flatMap enc).length = n * k := by rw [hlen]; simp [hs]
    refine ⟨⟨hd, .inr ⟨g, cap, cs, rfl, hb, h1, hn', hm, by rw [h2, hz, hcs], ?_⟩⟩, fun w0 hB hbs => hB.trans (S.frm.below hbs (fun k e => by rw [e]; exact hb))⟩
    apply List.ext_getElem?
    intro p
    rw [List.getElem?_take]
    by_cases hp : p < n * k
    · rw [if_pos hp, Array.getElem?_toList]
      have hi : p / k < d.size := by rw [hs]; exact Nat.div_lt_of_lt_mul (by rwa [Nat.mul_comm])
      have hc : p % k < k := Nat.mod_lt _ k0
      have e5 := (h3 (p / k) hi (p % k) hc).2
      have e6 := flat_get enc k hk d.toList (p / k) (by simpa using hi) (p % k) hc
      rw [Nat.zero_add, Nat.div_add_mod'] at e5
      rw [Nat.div_add_mod'] at e6
      rw [e5, e6, getElem!_pos d _ hi, Array.getElem_toList]
    · rw [if_neg hp, List.getElem?_eq_none (by omega)]
end SortR
end Go.Proofs.YteailgjiifdgcaaGreatDoor

/- The walk of the merger's add, at spans. Condition: the library's variables as they were laid; few spans of bounds of at most 9000 bytes. -/
namespace Go.Proofs.YteailgjiifdgcaaGreatDoor
open Go.RowKit Go.Lib VerN

/-- the merger in block x has put together O -/
def Mrg (w0 : World) (x : Nat) (O : List BSp) (w : World) : Prop := ∃ v, w.heap[x]? = some (.cells #[v, .func (.func 108) #[] #[], .func (.func 109) #[] #[]] 170 (0, 0)) ∧ w.ownsRow w0.heap.size 34 2 v O.length (O.flatMap spCells) ∧ Below w0.heap.size w0 w ∧ w0.heap.size ≤ x
theorem own_sp {w : World} {B g n cap : Nat} {O : List BSp} (h : w.ownsRow B 34 2 (.slice (some ⟨g, 0, none⟩) n cap) n (O.flatMap spCells)) (i : Nat) (hi : i < O.length) : w.cell? ⟨g, i * 2, none⟩ = some (.string O[i].1) ∧ w.cell? ⟨g, i * 2 + 1, none⟩ = some (.string O[i].2) := by
  have h0 := h.cells (g := g) rfl (i * 2 + 0) (.string O[i].1) (by rw [sps_flat O i hi 0 (by omega)]; rfl)
  have h1 := h.cells (g := g) rfl (i * 2 + 1) (.string O[i].2) (by rw [sps_flat O i hi 1 (by omega)]; rfl)
  rw [Addr.add_lit, Nat.zero_add] at h0 h1
  exact ⟨h0, h1⟩
theorem own_froz {w : World} {B g n cap size : Nat} {e : TypeId} {xs : List Value} (h : w.ownsRow B e size (.slice (some ⟨g, 0, none⟩) n cap) n xs) (i : Nat) : w.frozen? ⟨g, i, none⟩ = false := by
  rcases h.2 with ⟨e0, _⟩ | ⟨g', cap', cur, e0, _, hg, _⟩
  · cases e0
  · injection e0 with e1 _ _
    injection e1 with e1
    injection e1 with e1
    subst e1
    exact frozen_at hg i
/-- an element is written anew -/
theorem own_sp_put {w : World} {B g n cap : Nat} {O : List BSp} (h : w.ownsRow B 34 2 (.slice (some ⟨g, 0, none⟩) n cap) n (O.flatMap spCells)) (hn : O.length = n) {i : Nat} (hi : i < n) (x : BSp) :
    ((w.setCell ⟨g, i * 2, none⟩ (.string x.1)).setCell ⟨g, i * 2 + 1, none⟩ (.string x.2)).ownsRow B 34 2 (.slice (some ⟨g, 0, none⟩) n cap) n ((O.set i x).flatMap spCells) := by
  have S := SortR.srw_of_owns spCells_len h hn
  have S2 := S.put spCells_len (i := i) (by simp; omega) x
  have h2 := SortR.owns_of_srw spCells_len (by decide) h S2 (by simp; omega)
  have e : (O.toArray.setIfInBounds i x).toList = O.set i x := by simp
  rw [e] at h2
  have h3 := h2.1
  rw [Nat.zero_add] at h3
  exact h3
theorem mrg_end {w0 w8 : World} {x g8 c8 n : Nat} {v : Value} {O' : List BSp} (hc8 : w8.heap[x]? = some (.cells #[v, .func (.func 108) #[] #[], .func (.func 109) #[] #[]] 170 (0, 0)))
    (hown8 : w8.ownsRow w0.heap.size 34 2 (.slice (some ⟨g8, 0, none⟩) n c8) n (O'.flatMap spCells)) (hn : O'.length = n) (hb : Below w0.heap.size w0 w8) (hxB : w0.heap.size ≤ x) : Mrg w0 x O' (w8.setCell ⟨x, 0, none⟩ (.slice (some ⟨g8, 0, none⟩) n c8)) := by
  subst hn
  have f8 : Frm (fun k => k = x) w8 (w8.setCell ⟨x, 0, none⟩ (.slice (some ⟨g8, 0, none⟩) O'.length c8)) := frm_cell (Frm.refl _ w8) 0 _
  refine ⟨_, heap_setCell_same _ x 0 _ _ _ hc8, f8.owns hown8 (fun k hk e => apart_block hown8 hc8 (by decide) (by rw [hk, e])), hb.trans (f8.below hb.size (fun k hk => by rw [hk]; exact hxB)), hxB⟩
set_option linter.unusedSimpArgs false in
set_option maxRecDepth 10000 in
set_option maxHeartbeats 40000000 in
theorem mergerAdd_nil {w0 w : World} {x : Nat} (h : Mrg w0 x [] w) (s : BSp) (hs : s.1.size ≤ 9000 ∧ s.2.size ≤ 9000) (hD : Doors w0) :
    Calls Tryz.prog 110 #[.pointer (some ⟨x, 0, none⟩), .agg #[.string s.1, .string s.2]] w fun e w' => e = .returned (.tuple #[]) ∧ Mrg w0 x (addB [] s) w' := by
  obtain ⟨O, hOO⟩ : ∃ O : List BSp, O = [] := ⟨_, rfl⟩
  rw [← hOO] at h
  have hO : ∀ z ∈ O, z.1.size ≤ 9000 ∧ z.2.size ≤ 9000 := by rw [hOO]; simp
  have hl : O.length ≤ 100000 := by rw [hOO]; simp
  obtain ⟨v, hx, hown, hbel, hxB⟩ := h
  obtain ⟨s1, s2⟩ := s
  have hs1 : s1.size ≤ 9000 := hs.1
  have hs2 : s2.size ≤ 9000 := hs.2
  obtain ⟨W0, hW0⟩ : ∃ W0, W0 = w.alloc (.cells #[.string s1, .string s2] 34) := ⟨_, rfl⟩
  obtain ⟨nb, hnb⟩ : ∃ nb, nb = w.heap.size := ⟨_, rfl⟩
  have hw : Below w.heap.size w W0 := by rw [hW0]; exact below_alloc1 _ _
  have hx0 := heap_below hw hx
  have hn0 : W0.heap[nb]? = some (.cells #[.string s1, .string s2] 34 (0, 0)) := by rw [hW0, hnb]; exact heap_new_at rfl
  have hown0 := ownsRow_below hown hw
  have hbel0 := hbel.trans (hw.mono hbel.size)
  obtain ⟨m, hm⟩ : ∃ m, m = O.length := ⟨_, rfl⟩
  obtain ⟨c0, c1, c2, f0, _, _⟩ := trip_cells hx0
  obtain ⟨b0, b1, _, _⟩ := pair_cells hn0
  have hne := apart_block hown0 hx0 (by decide)
  rw [← hm] at hown0 hl
  have hlow : ∀ j, v.ownBlock = some j → j < nb := fun j e => by rw [hnb]; exact (hown.lt j e).2
  clear hx hown hbel
  subst hOO
  obtain ⟨a, cap, rfl⟩ := own_shape hown0
  simp only [List.length_nil] at hm
  subst hm
  have Hw := Lib.hid hw; have Hx0 := Lib.hid hx0; have Hn0 := Lib.hid hn0; have Hown0 := Lib.hid hown0; have Hbel0 := Lib.hid hbel0; have Hne := Lib.hid hne; have HD := Lib.hid hD; have HO := Lib.hid hO; have Hlow := Lib.hid hlow; clear hw hx0 hn0 hown0 hbel0 hne hD hO hlow
  go_enter Tryz.func110, Tryz.ntmps110
  go_upto_region 1 with (fail)
  rw [← hW0, ← hnb]
  clear hW0 hnb
  go_upto_region 2 with (fail)
  go_quiet (fail)
  go_upto_region 4 with (fail)
  have hbd : Below W0.heap.size W0 (W0.drewN (nq + 1)) := bel_drewN (Below.refl _ _) (nq + 1)
  have hba : Below W0.heap.size W0 ((W0.drewN (nq + 1)).alloc (.cells #[.string s1, .string s2] 34)) := hbd.alloc hbd.size _
  have ca0 := cell_later hba c0
  have hownd := ownsRow_below Hown0.out hbd
  have hxd := heap_below hbd Hx0.out
  have hbeld := Hbel0.out.trans (hbd.mono Hbel0.out.size)
  have hBd := hbeld.size
  have bb0 := cell_later hbd b0
  have bb1 := cell_later hbd b1
  have cc0 := cell_later hbd c0
  have Hownd := Lib.hid hownd; have Hxd := Lib.hid hxd; have Hbeld := Lib.hid hbeld; have Hbd := Lib.hid hbd; have Hba := Lib.hid hba; clear hownd hxd hbeld hbd hba
  go_region_law (refine step_append_some elem_spn (w := W0.drewN (nq + 1)) rfl (.tmp 53) (.tmp 55) rfl w0.heap.size (.slice a 0 cap) 0 [] rfl Hownd.out 1 (by decide) #[.string s1, .string s2] rfl rfl (by simp [Value.oneCell']) (by omega) (by unfold maxLen; omega) hBd ?_; intro g8 c8 w8 hown8 hg8 hm8; have hc8 := heap_to Hxd.out (frm_of_grown hg8) Hne.out; have d0 := cells_at hc8 0; have e0 := frozen_at hc8 0; simp only [List.getElem?_toArray, List.getElem?_cons_zero] at d0)
  all_goals
    go_end0
    exact ⟨rfl, mrg_end (O' := addB [] (s1, s2)) hc8 hown8 rfl (bel_own Hbeld.out Hownd.out (Nat.le_refl _) hg8 hBd) hxB⟩
set_option linter.unusedSimpArgs false in
set_option maxRecDepth 10000 in
set_option maxHeartbeats 40000000 in
theorem mergerAdd_no {w0 w : World} {x : Nat} {Q : List BSp} {z1 z2 : ByteArray} (h : Mrg w0 x (Q ++ [(z1, z2)]) w) (hO : ∀ z ∈ Q ++ [(z1, z2)], z.1.size ≤ 9000 ∧ z.2.size ≤ 9000) (hl : (Q ++ [(z1, z2)]).length ≤ 100000) (s : BSp) (hs : s.1.size ≤ 9000 ∧ s.2.size ≤ 9000) (hok : meetOk (dS (z1, z2)) (dS s) = false) (hD : Doors w0) :
    Calls Tryz.prog 110 #[.pointer (some ⟨x, 0, none⟩), .agg #[.string s.1, .string s.2]] w fun e w' => e = .returned (.tuple #[]) ∧ Mrg w0 x (Q ++ [(z1, z2)] ++ [s]) w' := by
  obtain ⟨v, hx, hown, hbel, hxB⟩ := h
  obtain ⟨s1, s2⟩ := s
  have hs1 : s1.size ≤ 9000 := hs.1
  have hs2 : s2.size ≤ 9000 := hs.2
  obtain ⟨W0, hW0⟩ : ∃ W0, W0 = w.alloc (.cells #[.string s1, .string s2] 34) := ⟨_, rfl⟩
  obtain ⟨nb, hnb⟩ : ∃ nb, nb = w.heap.size := ⟨_, rfl⟩
  have hw : Below w.heap.size w W0 := by rw [hW0]; exact below_alloc1 _ _
  have hx0 := heap_below hw hx
  have hn0 : W0.heap[nb]? = some (.cells #[.string s1, .string s2] 34 (0, 0)) := by rw [hW0, hnb]; exact heap_new_at rfl
  have hown0 := ownsRow_below hown hw
  have hbel0 := hbel.trans (hw.mono hbel.size)
  obtain ⟨m, hm⟩ : ∃ m, m = (Q ++ [(z1, z2)]).length := ⟨_, rfl⟩
  obtain ⟨c0, c1, c2, f0, _, _⟩ := trip_cells hx0
  obtain ⟨b0, b1, _, _⟩ := pair_cells hn0
  have hne := apart_block hown0 hx0 (by decide)
  rw [← hm] at hown0 hl
  have hlow : ∀ j, v.ownBlock = some j → j < nb := fun j e => by rw [hnb]; exact (hown.lt j e).2
  clear hx hown hbel
  obtain ⟨k, hk⟩ : ∃ k, k = Q.length := ⟨_, rfl⟩
  have hmk : m = k + 1 := by rw [hm, hk]; simp
  obtain ⟨g, cap, rfl⟩ : ∃ g cap, v = .slice (some ⟨g, 0, none⟩) m cap := by
    rcases hown0.2 with ⟨h1, h2⟩ | ⟨g, cap, _, h1, _⟩
    · omega
    · exact ⟨_, cap, h1⟩
  have hz0 := own_sp hown0 k (by rw [hk]; simp)
  have ez : (Q ++ [(z1, z2)])[k]'(by rw [hk]; simp) = (z1, z2) := by simp [hk]
  rw [ez] at hz0
  have hzz := hO (z1, z2) (by simp)
  have hz1 : z1.size ≤ 9000 := hzz.1
  have hz2 : z2.size ≤ 9000 := hzz.2
  have hS : ∀ W, Below W0.heap.size W0 W → W.cell? ⟨x, 0, none⟩ = some (.slice (some ⟨g, 0, none⟩) m cap) ∧ W.cell? ⟨x, 1, none⟩ = some (.func (.func 108) #[] #[]) ∧ W.cell? ⟨x, 2, none⟩ = some (.func (.func 109) #[] #[]) ∧ W.cell? ⟨nb, 0, none⟩ = some (.string s1) ∧ W.cell? ⟨nb, 1, none⟩ = some (.string s2) ∧ W.cell? ⟨g, k * 2, none⟩ = some (.string z1) ∧ W.cell? ⟨g, k * 2 + 1, none⟩ = some (.string z2) := fun W hW =>
    ⟨cell_later hW c0, cell_later hW c1, cell_later hW c2, cell_later hW b0, cell_later hW b1, cell_later hW hz0.1, cell_later hW hz0.2⟩
  have hgx : x ≠ g := fun e => hne (by rw [e]; rfl)
  have hgn : nb ≠ g := fun e => by have := hlow g rfl; omega
  have hSt : ∀ W, Below W0.heap.size W0 W → ∀ p q, ((W.setCell ⟨g, k * 2, none⟩ p).setCell ⟨g, k * 2 + 1, none⟩ q).cell? ⟨x, 0, none⟩ = some (.slice (some ⟨g, 0, none⟩) m cap) ∧ ((W.setCell ⟨g, k * 2, none⟩ p).setCell ⟨g, k * 2 + 1, none⟩ q).cell? ⟨x, 2, none⟩ = some (.func (.func 109) #[] #[]) ∧ ((W.setCell ⟨g, k * 2, none⟩ p).setCell ⟨g, k * 2 + 1, none⟩ q).cell? ⟨nb, 0, none⟩ = some (.string s1) ∧ ((W.setCell ⟨g, k * 2, none⟩ p).setCell ⟨g, k * 2 + 1, none⟩ q).cell? ⟨nb, 1, none⟩ = some (.string s2) := fun W hW p q => by
    have hf := frm_cell (frm_cell (Frm.refl (fun b => b = g) W) (k * 2) p) (k * 2 + 1) q
    obtain ⟨t0, _, t2, _⟩ := trip_cells (heap_to (heap_below hW hx0) hf hgx)
    obtain ⟨u0, u1, _⟩ := pair_cells (heap_to (heap_below hW hn0) hf hgn)
    exact ⟨t0, t2, u0, u1⟩
  have hFz : ∀ W, Below W0.heap.size W0 W → W.frozen? ⟨g, k * 2, none⟩ = false ∧ W.frozen? ⟨g, k * 2 + 1, none⟩ = false := fun W hW => ⟨own_froz (ownsRow_below hown0 hW) _, own_froz (ownsRow_below hown0 hW) _⟩
  have hJ := fun (W : World) (k : Below W0.heap.size W0 W) => joins_any z1 z2 s1 s2 (by omega) (by omega) (by omega) (by omega) ((hD.from (Nat.le_refl _) hbel0).below k)
  have hK := fun (W : World) (k : Below W0.heap.size W0 W) => join_any z1 z2 s1 s2 (by omega) (by omega) (by omega) (by omega) ((hD.from (Nat.le_refl _) hbel0).below k)
  have hok2 : meetOk (z1.data.toList, z2.data.toList) (s1.data.toList, s2.data.toList) = false := hok
  rw [hok2] at hJ
  have hkl : (k : Int) < (m : Int) := by omega
  have k00 : (0 : Int) ≤ (k : Int) := by omega
  have kw : IntKind.i64.wrap ((m : Int) - 1) = (k : Int) := by rw [IntWalk.i64_in _ (by omega)]; omega
  have kp : (0 : Int) < (m : Int) := by omega
  have kn : 0 < m := by omega
  have kln : k < m := by omega
  have kt : decide ((0 : Int) < (m : Int)) = true := decide_eq_true kp
  clear hok hok2 hz0 ez
  have Hw := Lib.hid hw; have Hx0 := Lib.hid hx0; have Hn0 := Lib.hid hn0; have Hown0 := Lib.hid hown0; have Hbel0 := Lib.hid hbel0; have Hne := Lib.hid hne; have HD := Lib.hid hD; have HO := Lib.hid hO; have Hlow := Lib.hid hlow; have Hgx := Lib.hid hgx; have Hgn := Lib.hid hgn; have HS := Lib.hid hS; have HSt := Lib.hid hSt; have HFz := Lib.hid hFz; have HJ := Lib.hid hJ; have HK := Lib.hid hK; have Hm := Lib.hid hm; have Hk := Lib.hid hk; have Hzz := Lib.hid hzz; have Hmk := Lib.hid hmk; clear hw hx0 hn0 hown0 hbel0 hne hD hO hlow hgx hgn hS hSt hFz hJ hK hm hk hzz hmk
  go_enter Tryz.func110, Tryz.ntmps110
  go_upto_region 1 with (fail)
  rw [← hW0, ← hnb]
  clear hW0 hnb
  go_upto_region 2 with (fail)
  have mixed : Tryz.prog.follows .mixedOrders = true := by kernel_rfl
  have hbz := bel_drewN (Below.refl W0.heap.size W0) 1
  have hcz := HS.out _ hbz
  go_region_held3 (fun w' => w'.cell? ⟨x, 0, none⟩ = some (.slice (some ⟨g, 0, none⟩) m cap) ∧ w'.cell? ⟨x, 1, none⟩ = some (.func (.func 108) #[] #[]) ∧ w'.cell? ⟨x, 2, none⟩ = some (.func (.func 109) #[] #[]) ∧ w'.cell? ⟨nb, 0, none⟩ = some (.string s1) ∧ w'.cell? ⟨nb, 1, none⟩ = some (.string s2) ∧ w'.cell? ⟨g, k * 2, none⟩ = some (.string z1) ∧ w'.cell? ⟨g, k * 2 + 1, none⟩ = some (.string z2)) (first | exact hcz | go_keep) (first | (go_at_call 108; refine (HJ.out _ (by exact hbz)).mono ?_; rintro e wz ⟨rfl, hsz⟩; replace hbz := hbz.trans (hsz.mono hbz.size); replace hcz := HS.out _ hbz))
  go_upto_region 4 with (fail)
  have hbd : Below W0.heap.size W0 wz.drew := Below.drew hbz
  have hba : Below W0.heap.size W0 (wz.drew.alloc (.cells #[.string s1, .string s2] 34)) := hbd.alloc hbd.size _
  have hba2 : Below W0.heap.size W0 (wz.alloc (.cells #[.string s1, .string s2] 34)) := hbz.alloc hbz.size _
  have ca0 := cell_later hba2 c0
  have hownd := ownsRow_below Hown0.out hbd
  have hxd := heap_below hbd Hx0.out
  have hbeld := Hbel0.out.trans (hbd.mono Hbel0.out.size)
  have hBd := hbeld.size
  obtain ⟨q0, q1, q2, q3, q4, q5, q6⟩ := HS.out _ hbz
  have hm1 : m + 1 ≤ 100001 := by omega
  clear hcz
  have Hownd := Lib.hid hownd; have Hxd := Lib.hid hxd; have Hbeld := Lib.hid hbeld; have Hbd := Lib.hid hbd; have Hba := Lib.hid hba; have Hba2 := Lib.hid hba2; clear hownd hxd hbeld hbd hba hba2
  go_region_law (refine step_append_some elem_spn (w := wz.drew) rfl (.tmp 53) (.tmp 55) rfl w0.heap.size (.slice (some ⟨g, 0, none⟩) m cap) m ((Q ++ [(z1, z2)]).flatMap spCells) rfl Hownd.out 1 (by decide) #[.string s1, .string s2] rfl rfl (by simp [Value.oneCell']) (by omega) (by unfold maxLen; omega) hBd ?_; intro g8 c8 w8 hown8 hg8 hm8; have hc8 := heap_to Hxd.out (frm_of_grown hg8) Hne.out; have d0 := cells_at hc8 0; have e0 := frozen_at hc8 0; simp only [List.getElem?_toArray, List.getElem?_cons_zero] at d0)
  all_goals
    go_end0
    exact ⟨rfl, mrg_end (O' := Q ++ [(z1, z2)] ++ [(s1, s2)]) hc8 (by rw [List.flatMap_append]; exact hown8) (by rw [List.length_append, ← Hm.out]; rfl) (bel_own Hbeld.out Hownd.out (Nat.le_refl _) hg8 hBd) hxB⟩
end Go.Proofs.YteailgjiifdgcaaGreatDoor

/- The walk of the merger's add, at spans: two that meet; all ways. Condition: the library's variables as they were laid; few spans of bounds of at most 9000 bytes. -/
namespace Go.Proofs.YteailgjiifdgcaaGreatDoor
open Go.RowKit Go.Lib VerN

theorem mrg_put {w0 W : World} {x g m k cap : Nat} {Q : List BSp} {z j : BSp} (hp : ((W.setCell ⟨g, k * 2, none⟩ (.string j.1)).setCell ⟨g, k * 2 + 1, none⟩ (.string j.2)).ownsRow w0.heap.size 34 2 (.slice (some ⟨g, 0, none⟩) m cap) m (((Q ++ [z]).set k j).flatMap spCells))
    (hx : W.heap[x]? = some (.cells #[.slice (some ⟨g, 0, none⟩) m cap, .func (.func 108) #[] #[], .func (.func 109) #[] #[]] 170 (0, 0))) (hgx : x ≠ g) (hb : Below w0.heap.size w0 W) (hm : m = (Q ++ [z]).length) (hk : k = Q.length) (hown : W.ownsRow w0.heap.size 34 2 (.slice (some ⟨g, 0, none⟩) m cap) m ((Q ++ [z]).flatMap spCells)) (hxB : w0.heap.size ≤ x) :
    Mrg w0 x (Q ++ [j]) ((W.setCell ⟨g, k * 2, none⟩ (.string j.1)).setCell ⟨g, k * 2 + 1, none⟩ (.string j.2)) := by
  have hf := frm_cell (frm_cell (Frm.refl (fun b => b = g) W) (k * 2) (.string j.1)) (k * 2 + 1) (.string j.2)
  have e : (Q ++ [z]).set k j = Q ++ [j] := by rw [hk, List.set_append_right _ _ (Nat.le_refl _)]; simp
  rw [e] at hp
  have hl : (Q ++ [j]).length = m := by rw [hm]; simp
  have hg := (hown.lt g rfl).1
  refine ⟨_, heap_to hx hf hgx, by rw [hl]; exact hp, hb.trans (hf.below hb.size fun k hk => by rw [hk]; exact hg), hxB⟩
set_option linter.unusedSimpArgs false in
set_option maxRecDepth 10000 in
set_option maxHeartbeats 40000000 in
theorem mergerAdd_yes {w0 w : World} {x : Nat} {Q : List BSp} {z1 z2 : ByteArray} (h : Mrg w0 x (Q ++ [(z1, z2)]) w) (hO : ∀ z ∈ Q ++ [(z1, z2)], z.1.size ≤ 9000 ∧ z.2.size ≤ 9000) (hl : (Q ++ [(z1, z2)]).length ≤ 100000) (s : BSp) (hs : s.1.size ≤ 9000 ∧ s.2.size ≤ 9000) (hok : meetOk (dS (z1, z2)) (dS s) = true) (hD : Doors w0) :
    Calls Tryz.prog 110 #[.pointer (some ⟨x, 0, none⟩), .agg #[.string s.1, .string s.2]] w fun e w' => e = .returned (.tuple #[]) ∧ Mrg w0 x (Q ++ [jnV z1 z2 s.1 s.2]) w' := by
  obtain ⟨v, hx, hown, hbel, hxB⟩ := h
  obtain ⟨s1, s2⟩ := s
  have hs1 : s1.size ≤ 9000 := hs.1
  have hs2 : s2.size ≤ 9000 := hs.2
  obtain ⟨W0, hW0⟩ : ∃ W0, W0 = w.alloc (.cells #[.string s1, .string s2] 34) := ⟨_, rfl⟩
  obtain ⟨nb, hnb⟩ : ∃ nb, nb = w.heap.size := ⟨_, rfl⟩
  have hw : Below w.heap.size w W0 := by rw [hW0]; exact below_alloc1 _ _
  have hx0 := heap_below hw hx
  have hn0 : W0.heap[nb]? = some (.cells #[.string s1, .string s2] 34 (0, 0)) := by rw [hW0, hnb]; exact heap_new_at rfl
  have hown0 := ownsRow_below hown hw
  have hbel0 := hbel.trans (hw.mono hbel.size)
  obtain ⟨m, hm⟩ : ∃ m, m = (Q ++ [(z1, z2)]).length := ⟨_, rfl⟩
  obtain ⟨c0, c1, c2, f0, _, _⟩ := trip_cells hx0
  obtain ⟨b0, b1, _, _⟩ := pair_cells hn0
  have hne := apart_block hown0 hx0 (by decide)
  rw [← hm] at hown0 hl
  have hlow : ∀ j, v.ownBlock = some j → j < nb := fun j e => by rw [hnb]; exact (hown.lt j e).2
  clear hx hown hbel
  obtain ⟨k, hk⟩ : ∃ k, k = Q.length := ⟨_, rfl⟩
  have hmk : m = k + 1 := by rw [hm, hk]; simp
  obtain ⟨g, cap, rfl⟩ : ∃ g cap, v = .slice (some ⟨g, 0, none⟩) m cap := by
    rcases hown0.2 with ⟨h1, h2⟩ | ⟨g, cap, _, h1, _⟩
    · omega
    · exact ⟨_, cap, h1⟩
  have hz0 := own_sp hown0 k (by rw [hk]; simp)
  have ez : (Q ++ [(z1, z2)])[k]'(by rw [hk]; simp) = (z1, z2) := by simp [hk]
  rw [ez] at hz0
  have hzz := hO (z1, z2) (by simp)
  have hz1 : z1.size ≤ 9000 := hzz.1
  have hz2 : z2.size ≤ 9000 := hzz.2
  have hS : ∀ W, Below W0.heap.size W0 W → W.cell? ⟨x, 0, none⟩ = some (.slice (some ⟨g, 0, none⟩) m cap) ∧ W.cell? ⟨x, 1, none⟩ = some (.func (.func 108) #[] #[]) ∧ W.cell? ⟨x, 2, none⟩ = some (.func (.func 109) #[] #[]) ∧ W.cell? ⟨nb, 0, none⟩ = some (.string s1) ∧ W.cell? ⟨nb, 1, none⟩ = some (.string s2) ∧ W.cell? ⟨g, k * 2, none⟩ = some (.string z1) ∧ W.cell? ⟨g, k * 2 + 1, none⟩ = some (.string z2) := fun W hW =>
    ⟨cell_later hW c0, cell_later hW c1, cell_later hW c2, cell_later hW b0, cell_later hW b1, cell_later hW hz0.1, cell_later hW hz0.2⟩
  have hgx : x ≠ g := fun e => hne (by rw [e]; rfl)
  have hgn : nb ≠ g := fun e => by have := hlow g rfl; omega
  have hSt : ∀ W, Below W0.heap.size W0 W → ∀ p q, ((W.setCell ⟨g, k * 2, none⟩ p).setCell ⟨g, k * 2 + 1, none⟩ q).cell? ⟨x, 0, none⟩ = some (.slice (some ⟨g, 0, none⟩) m cap) ∧ ((W.setCell ⟨g, k * 2, none⟩ p).setCell ⟨g, k * 2 + 1, none⟩ q).cell? ⟨x, 2, none⟩ = some (.func (.func 109) #[] #[]) ∧ ((W.setCell ⟨g, k * 2, none⟩ p).setCell ⟨g, k * 2 + 1, none⟩ q).cell? ⟨nb, 0, none⟩ = some (.string s1) ∧ ((W.setCell ⟨g, k * 2, none⟩ p).setCell ⟨g, k * 2 + 1, none⟩ q).cell? ⟨nb, 1, none⟩ = some (.string s2) := fun W hW p q => by
    have hf := frm_cell (frm_cell (Frm.refl (fun b => b = g) W) (k * 2) p) (k * 2 + 1) q
    obtain ⟨t0, _, t2, _⟩ := trip_cells (heap_to (heap_below hW hx0) hf hgx)
    obtain ⟨u0, u1, _⟩ := pair_cells (heap_to (heap_below hW hn0) hf hgn)
    exact ⟨t0, t2, u0, u1⟩
  have hFz : ∀ W, Below W0.heap.size W0 W → W.frozen? ⟨g, k * 2, none⟩ = false ∧ W.frozen? ⟨g, k * 2 + 1, none⟩ = false := fun W hW => ⟨own_froz (ownsRow_below hown0 hW) _, own_froz (ownsRow_below hown0 hW) _⟩
  have hJ := fun (W : World) (k : Below W0.heap.size W0 W) => joins_any z1 z2 s1 s2 (by omega) (by omega) (by omega) (by omega) ((hD.from (Nat.le_refl _) hbel0).below k)
  have hK := fun (W : World) (k : Below W0.heap.size W0 W) => join_any z1 z2 s1 s2 (by omega) (by omega) (by omega) (by omega) ((hD.from (Nat.le_refl _) hbel0).below k)
  have hok2 : meetOk (z1.data.toList, z2.data.toList) (s1.data.toList, s2.data.toList) = true := hok
  rw [hok2] at hJ
  have hkl : (k : Int) < (m : Int) := by omega
  have k00 : (0 : Int) ≤ (k : Int) := by omega
  have kw : IntKind.i64.wrap ((m : Int) - 1) = (k : Int) := by rw [IntWalk.i64_in _ (by omega)]; omega
  have kp : (0 : Int) < (m : Int) := by omega
  have kn : 0 < m := by omega
  have kln : k < m := by omega
  have kt : decide ((0 : Int) < (m : Int)) = true := decide_eq_true kp
  clear hok hok2 hz0 ez
  have Hw := Lib.hid hw; have Hx0 := Lib.hid hx0; have Hn0 := Lib.hid hn0; have Hown0 := Lib.hid hown0; have Hbel0 := Lib.hid hbel0; have Hne := Lib.hid hne; have HD := Lib.hid hD; have HO := Lib.hid hO; have Hlow := Lib.hid hlow; have Hgx := Lib.hid hgx; have Hgn := Lib.hid hgn; have HS := Lib.hid hS; have HSt := Lib.hid hSt; have HFz := Lib.hid hFz; have HJ := Lib.hid hJ; have HK := Lib.hid hK; have Hm := Lib.hid hm; have Hk := Lib.hid hk; have Hzz := Lib.hid hzz; have Hmk := Lib.hid hmk; clear hw hx0 hn0 hown0 hbel0 hne hD hO hlow hgx hgn hS hSt hFz hJ hK hm hk hzz hmk
  go_enter Tryz.func110, Tryz.ntmps110
  go_upto_region 1 with (fail)
  rw [← hW0, ← hnb]
  clear hW0 hnb
  go_upto_region 2 with (fail)
  have mixed : Tryz.prog.follows .mixedOrders = true := by kernel_rfl
  have hbz := bel_drewN (Below.refl W0.heap.size W0) 1
  have hcz := HS.out _ hbz
  go_region_held3 (fun w' => w'.cell? ⟨x, 0, none⟩ = some (.slice (some ⟨g, 0, none⟩) m cap) ∧ w'.cell? ⟨x, 1, none⟩ = some (.func (.func 108) #[] #[]) ∧ w'.cell? ⟨x, 2, none⟩ = some (.func (.func 109) #[] #[]) ∧ w'.cell? ⟨nb, 0, none⟩ = some (.string s1) ∧ w'.cell? ⟨nb, 1, none⟩ = some (.string s2) ∧ w'.cell? ⟨g, k * 2, none⟩ = some (.string z1) ∧ w'.cell? ⟨g, k * 2 + 1, none⟩ = some (.string z2)) (first | exact hcz | go_keep) (first | (go_at_call 108; refine (HJ.out _ (by exact hbz)).mono ?_; rintro e wz ⟨rfl, hsz⟩; replace hbz := hbz.trans (hsz.mono hbz.size); replace hcz := HS.out _ hbz))
  go_upto_region 3 with (fail)
  have hbz0 := hbz
  replace hbz := Below.drew hbz
  obtain ⟨_, _, _, _, _, q5, q6⟩ := HS.out _ hbz0
  obtain ⟨_, _, _, _, _, q7, q8⟩ := HS.out _ hbz
  replace hcz : _ ∧ _ ∧ _ ∧ _ := ⟨(HS.out _ hbz).1, (HS.out _ hbz).2.2.1, (HS.out _ hbz).2.2.2.1, (HS.out _ hbz).2.2.2.2.1⟩
  refine wp_region_held_drew (S := fun w' => w'.cell? ⟨x, 0, none⟩ = some (.slice (some ⟨g, 0, none⟩) m cap) ∧ w'.cell? ⟨x, 2, none⟩ = some (.func (.func 109) #[] #[]) ∧ w'.cell? ⟨nb, 0, none⟩ = some (.string s1) ∧ w'.cell? ⟨nb, 1, none⟩ = some (.string s2)) (by kernel_rfl) (by exact hcz) (fun hHeld => ?_)
  refine wpAnyH_take (i := 0) (v := ?_) rfl (by kernel_rfl) (by kernel_rfl) (by kernel_rfl) (fun _ _ _ h => h) (Or.inl ⟨by kernel_rfl, ?_⟩) (by assumption) ?_
  rotate_left
  · (intro w hSw; (try dsimp only at hSw); go_simp; try with_reducible rfl)
  try simp only [Act.put, List.setIfInBounds_toArray, List.set_cons_zero, List.set_cons_succ]
  refine wpAnyH_take (i := 1) (v := ?_) rfl (by kernel_rfl) (by kernel_rfl) (by kernel_rfl) (fun _ _ _ h => h) (Or.inl ⟨by kernel_rfl, ?_⟩) (by assumption) ?_
  rotate_left
  · (intro w hSw; (try dsimp only at hSw); go_simp; try with_reducible rfl)
  try simp only [Act.put, List.setIfInBounds_toArray, List.set_cons_zero, List.set_cons_succ]
  refine wpAnyH_take (i := 2) (v := ?_) rfl (by kernel_rfl) (by kernel_rfl) (by kernel_rfl) (fun _ _ _ h => h) (Or.inl ⟨by kernel_rfl, ?_⟩) (by assumption) ?_
  rotate_left
  · (intro w hSw; (try dsimp only at hSw); go_simp; try with_reducible rfl)
  try simp only [Act.put, List.setIfInBounds_toArray, List.set_cons_zero, List.set_cons_succ]
  refine wpAnyH_take (i := 3) (v := ?_) rfl (by kernel_rfl) (by kernel_rfl) (by kernel_rfl) (fun _ _ _ h => h) (Or.inl ⟨by kernel_rfl, ?_⟩) (by assumption) ?_
  rotate_left
  · (intro w hSw; (try dsimp only at hSw); go_simp; try with_reducible rfl)
  try simp only [Act.put, List.setIfInBounds_toArray, List.set_cons_zero, List.set_cons_succ]
  refine wpAnyH_take (i := 4) (v := ?_) rfl (by kernel_rfl) (by kernel_rfl) (by kernel_rfl) (fun _ _ _ h => h) (Or.inl ⟨by kernel_rfl, ?_⟩) (by assumption) ?_
  rotate_left
  · (intro w hSw; (try dsimp only at hSw); go_simp; try with_reducible rfl)
  try simp only [Act.put, List.setIfInBounds_toArray, List.set_cons_zero, List.set_cons_succ]
  refine wpAnyH_take (i := 5) (v := ?_) rfl (by kernel_rfl) (by kernel_rfl) (by kernel_rfl) (fun _ _ _ h => h) (Or.inl ⟨by kernel_rfl, ?_⟩) (by assumption) ?_
  rotate_left
  · (intro w hSw; (try dsimp only at hSw); go_simp; try with_reducible rfl)
  try simp only [Act.put, List.setIfInBounds_toArray, List.set_cons_zero, List.set_cons_succ]
  refine wpAnyH_take (i := 6) (v := ?_) rfl (by kernel_rfl) (by kernel_rfl) (by kernel_rfl) (fun _ _ _ h => h) (Or.inl ⟨by kernel_rfl, ?_⟩) (by assumption) ?_
  rotate_left
  · (intro w hSw; (try dsimp only at hSw); go_simp; try with_reducible rfl)
  try simp only [Act.put, List.setIfInBounds_toArray, List.set_cons_zero, List.set_cons_succ]
  refine wpAnyH_take (i := 7) (v := ?_) rfl (by kernel_rfl) (by kernel_rfl) (by kernel_rfl) (fun _ _ _ h => h) (Or.inl ⟨by kernel_rfl, ?_⟩) (by assumption) ?_
  rotate_left
  · (intro w hSw; (try dsimp only at hSw); go_simp; try with_reducible rfl)
  try simp only [Act.put, List.setIfInBounds_toArray, List.set_cons_zero, List.set_cons_succ]
  refine wpAnyH_take (i := 8) (v := ?_) rfl (by kernel_rfl) (by kernel_rfl) (by kernel_rfl) (fun _ _ _ h => h) (Or.inl ⟨by kernel_rfl, ?_⟩) (by assumption) ?_
  rotate_left
  · (intro w hSw; (try dsimp only at hSw); go_simp; try with_reducible rfl)
  try simp only [Act.put, List.setIfInBounds_toArray, List.set_cons_zero, List.set_cons_succ]
  refine wpAnyH_take (i := 9) (v := ?_) rfl (by kernel_rfl) (by kernel_rfl) (by kernel_rfl) (fun _ _ _ h => h) (Or.inl ⟨by kernel_rfl, ?_⟩) (by assumption) ?_
  rotate_left
  · (intro w hSw; (try dsimp only at hSw); go_simp; try with_reducible rfl)
  try simp only [Act.put, List.setIfInBounds_toArray, List.set_cons_zero, List.set_cons_succ]
  refine wpAnyH_take (i := 10) (v := ?_) rfl (by kernel_rfl) (by kernel_rfl) (by kernel_rfl) (fun _ _ _ h => h) (Or.inl ⟨by kernel_rfl, ?_⟩) (by assumption) ?_
  rotate_left
  · (intro w hSw; (try dsimp only at hSw); go_simp; try with_reducible rfl)
  try simp only [Act.put, List.setIfInBounds_toArray, List.set_cons_zero, List.set_cons_succ]
  refine wpAnyH_take (i := 11) (v := ?_) rfl (by kernel_rfl) (by kernel_rfl) (by kernel_rfl) (fun _ _ _ h => h) (Or.inl ⟨by kernel_rfl, ?_⟩) (by assumption) ?_
  rotate_left
  · (intro w hSw; (try dsimp only at hSw); go_simp; try with_reducible rfl)
  try simp only [Act.put, List.setIfInBounds_toArray, List.set_cons_zero, List.set_cons_succ]
  refine wpAnyH_take (i := 12) (v := ?_) rfl (by kernel_rfl) (by kernel_rfl) (by kernel_rfl) (fun _ _ _ h => h) (Or.inl ⟨by kernel_rfl, ?_⟩) (by assumption) ?_
  rotate_left
  · (intro w hSw; (try dsimp only at hSw); go_simp; try with_reducible rfl)
  try simp only [Act.put, List.setIfInBounds_toArray, List.set_cons_zero, List.set_cons_succ]
  refine wpAnyH_take (i := 13) (v := ?_) rfl (by kernel_rfl) (by kernel_rfl) (by kernel_rfl) (fun _ _ _ h => h) (Or.inl ⟨by kernel_rfl, ?_⟩) (by assumption) ?_
  rotate_left
  · (intro w hSw; (try dsimp only at hSw); go_simp; try with_reducible rfl)
  try simp only [Act.put, List.setIfInBounds_toArray, List.set_cons_zero, List.set_cons_succ]
  refine wpAnyH_take (i := 14) (v := ?_) rfl (by kernel_rfl) (by kernel_rfl) (by kernel_rfl) (fun _ _ _ h => h) (Or.inl ⟨by kernel_rfl, ?_⟩) (by assumption) ?_
  rotate_left
  · (intro w hSw; (try dsimp only at hSw); go_simp; try with_reducible rfl)
  try simp only [Act.put, List.setIfInBounds_toArray, List.set_cons_zero, List.set_cons_succ]
  refine wpAnyH_take (i := 15) (v := ?_) rfl (by kernel_rfl) (by kernel_rfl) (by kernel_rfl) (fun _ _ _ h => h) (Or.inl ⟨by kernel_rfl, ?_⟩) (by assumption) ?_
  rotate_left
  · (intro w hSw; (try dsimp only at hSw); go_simp; try with_reducible rfl)
  try simp only [Act.put, List.setIfInBounds_toArray, List.set_cons_zero, List.set_cons_succ]
  refine wpAnyH_take (i := 16) (v := ?_) rfl (by kernel_rfl) (by kernel_rfl) (by kernel_rfl) (fun _ _ _ h => h) (Or.inl ⟨by kernel_rfl, ?_⟩) (by assumption) ?_
  rotate_left
  · (intro w hSw; (try dsimp only at hSw); go_simp; try with_reducible rfl)
  try simp only [Act.put, List.setIfInBounds_toArray, List.set_cons_zero, List.set_cons_succ]
  refine wpAnyH_take (i := 18) (v := ?_) rfl (by kernel_rfl) (by kernel_rfl) (by kernel_rfl) (fun _ _ _ h => h) (Or.inl ⟨by kernel_rfl, ?_⟩) (by assumption) ?_
  rotate_left
  · (intro w hSw; (try dsimp only at hSw); go_simp; try with_reducible rfl)
  try simp only [Act.put, List.setIfInBounds_toArray, List.set_cons_zero, List.set_cons_succ]
  refine wpAnyH_ready (rs := [17]) (by kernel_rfl) (by simp) ?_
  refine AllReadyH.cons rfl (fun K hK => ?_) AllReadyH.nil
  go_simp
  refine hK.out _ _ (by exact hcz) (fun hHeld => ?_)
  clear hK K
  try simp only [Act.put, List.setIfInBounds_toArray, List.set_cons_zero, List.set_cons_succ]
  refine wpAnyH_ready (rs := [19]) (by kernel_rfl) (by simp) ?_
  refine AllReadyH.cons rfl (fun K hK => ?_) AllReadyH.nil
  go_simp
  refine (HK.out _ (by exact hbz)).mono ?_
  rintro e wy ⟨rfl, hsz2⟩
  replace hbz := hbz.trans (hsz2.mono hbz.size)
  replace hcz : _ ∧ _ ∧ _ ∧ _ := ⟨(HS.out _ hbz).1, (HS.out _ hbz).2.2.1, (HS.out _ hbz).2.2.2.1, (HS.out _ hbz).2.2.2.2.1⟩
  have fz0 := (HFz.out _ hbz).1
  have fz1 := (HFz.out _ hbz).2
  have r5 := (HS.out _ hbz).2.2.2.2.2.1
  have r6 := (HS.out _ hbz).2.2.2.2.2.2
  clear hHeld
  go_wp2_with fail
  refine hK.out _ _ (by exact hcz) (fun hHeld => ?_)
  clear hK K
  try simp only [Act.put, List.setIfInBounds_toArray, List.set_cons_zero, List.set_cons_succ]
  refine wpAnyH_take (i := 20) (v := ?_) rfl (by kernel_rfl) (by kernel_rfl) (by kernel_rfl) (fun _ _ _ h => h) (Or.inl ⟨by kernel_rfl, ?_⟩) (by assumption) ?_
  rotate_left
  · (intro w hSw; (try dsimp only at hSw); go_simp; try with_reducible rfl)
  try simp only [Act.put, List.setIfInBounds_toArray, List.set_cons_zero, List.set_cons_succ]
  refine wpAnyH_ready (rs := [21]) (by kernel_rfl) (by simp) ?_
  refine AllReadyH.cons rfl (fun K hK => ?_) AllReadyH.nil
  go_simp
  refine hK.out _ _ (by exact HSt.out _ hbz _ _) (fun hHeld => ?_)
  clear hK K
  try simp only [Act.put, List.setIfInBounds_toArray, List.set_cons_zero, List.set_cons_succ]
  refine wpAnyH_done (by kernel_rfl) ?_ _
  go_simp
  go_wp2_with fail
  refine bodyPost_ret (v := .tuple #[]) (results_none rfl _ _ _) rfl ?_
  have hp := own_sp_put (ownsRow_below Hown0.out hbz) (by rw [← Hm.out]) (i := k) kln (jnV z1 z2 s1 s2)
  exact ⟨rfl, mrg_put hp (heap_below hbz Hx0.out) Hgx.out (Hbel0.out.trans (hbz.mono Hbel0.out.size)) Hm.out Hk.out (ownsRow_below Hown0.out hbz) hxB⟩
theorem mergerAdd_any {w0 w : World} {x : Nat} {O : List BSp} (h : Mrg w0 x O w) (hO : ∀ z ∈ O, z.1.size ≤ 9000 ∧ z.2.size ≤ 9000) (hl : O.length ≤ 100000) (s : BSp) (hs : s.1.size ≤ 9000 ∧ s.2.size ≤ 9000) (hD : Doors w0) :
    Calls Tryz.prog 110 #[.pointer (some ⟨x, 0, none⟩), .agg #[.string s.1, .string s.2]] w fun e w' => e = .returned (.tuple #[]) ∧ Mrg w0 x (addB O s) w' := by
  rcases List.eq_nil_or_concat O with rfl | ⟨Q, z, rfl⟩
  · exact mergerAdd_nil h s hs hD
  · rw [List.concat_eq_append] at *
    rw [addB_snoc]
    obtain ⟨z1, z2⟩ := z
    cases hok : meetOk (dS (z1, z2)) (dS s) with
    | true => rw [if_pos rfl]; exact mergerAdd_yes h hO hl s hs hok hD
    | false => rw [if_neg (by simp)]; exact mergerAdd_no h hO hl s hs hok hD
end Go.Proofs.YteailgjiifdgcaaGreatDoor

/- Plain facts: the place of the first element of which a predicate holds. No condition. -/
namespace Go.Proofs.YteailgjiifdgcaaGreatDoor

def idxOf {α : Type} (p : α → Bool) (l : List α) : Int := match l.findIdx? p with
  | some i => i
  | none => -1
/-- it holds of none of the first k -/
def NoneIn {α : Type} (p : α → Bool) (l : List α) (k : Nat) : Prop := ∀ i (h : i < l.length), i < k → p l[i] = false
theorem noneIn_zero {α : Type} (p : α → Bool) (l : List α) : NoneIn p l 0 := fun _ _ h => by omega
theorem noneIn_succ {α : Type} {p : α → Bool} {l : List α} {k : Nat} (h : k < l.length) (hn : NoneIn p l k) (hk : p l[k] = false) : NoneIn p l (k + 1) := fun i hi hik => by
  by_cases e : i = k
  · subst e; exact hk
  · exact hn i hi (by omega)
theorem idxOf_at {α : Type} {p : α → Bool} {l : List α} {k : Nat} (h : k < l.length) (hn : NoneIn p l k) (hk : p l[k] = true) : idxOf p l = k := by
  have : l.findIdx? p = some k := by
    rw [List.findIdx?_eq_some_iff_getElem]
    exact ⟨h, hk, fun j hj => by simpa using hn j (by omega) hj⟩
  unfold idxOf; rw [this]
theorem idxOf_none {α : Type} {p : α → Bool} {l : List α} {k : Nat} (h : l.length ≤ k) (hn : NoneIn p l k) : idxOf p l = -1 := by
  have : l.findIdx? p = none := by
    rw [List.findIdx?_eq_none_iff]
    intro x hx
    obtain ⟨i, hi, e⟩ := List.mem_iff_getElem.1 hx
    rw [← e]; exact hn i hi (by omega)
  unfold idxOf; rw [this]
theorem idxOf_any {α : Type} (p : α → Bool) (l : List α) : l.any p = true ↔ 0 ≤ idxOf p l := by
  unfold idxOf
  cases h : l.findIdx? p with
  | none =>
    rw [List.findIdx?_eq_none_iff] at h
    simp only [List.any_eq_true]
    constructor
    · rintro ⟨x, hx, hp⟩; rw [h x hx] at hp; cases hp
    · intro h2; omega
  | some i =>
    rw [List.findIdx?_eq_some_iff_getElem] at h
    obtain ⟨hi, hp, _⟩ := h
    simp only [List.any_eq_true]
    exact ⟨fun _ => by omega, fun _ => ⟨l[i], List.getElem_mem hi, hp⟩⟩
theorem idxOf_bd {α : Type} (p : α → Bool) (l : List α) : -1 ≤ idxOf p l ∧ idxOf p l < l.length + 1 := by
  unfold idxOf
  cases h : l.findIdx? p with
  | none => simp; omega
  | some i =>
    rw [List.findIdx?_eq_some_iff_getElem] at h
    obtain ⟨hi, _⟩ := h
    simp only; omega
end Go.Proofs.YteailgjiifdgcaaGreatDoor

/- The walks of slices.IndexFunc and slices.ContainsFunc at Span: the first element of which a predicate holds; whether it holds of one. Condition: what the predicate gives is read off its contract. -/
namespace Go.Proofs.YteailgjiifdgcaaGreatDoor
open Go.RowKit
namespace IdxSpan
theorem cells_2 {ecs : List Value} (h : ecs.length = 2) : ∃ u0 u1, ecs = [u0, u1] := by
  match ecs, h with
  | [u0, u1], _ => exact ⟨u0, u1, rfl⟩

/-- what the predicate is -/
def Pred {α : Type} (R : Rd α) (p : α → Bool) (g : Nat) (cb : Array Value) (l : List α) (w : World) : Prop :=
  ∀ W u0 u1 x, Below w.heap.size w W → x ∈ l → R W [u0, u1] x → Calls Tryz.prog g (#[.agg #[u0, u1]] ++ cb) W fun e w' => e = .returned (.bool (p x)) ∧ Below W.heap.size W w'
set_option maxRecDepth 10000 in
set_option maxHeartbeats 400000 in
theorem idx_any {α : Type} {R : Rd α} (hR : Stays R) (p : α → Bool) (g : Nat) (cb : Array Value) (eg : ∀ args w, (callFunc g args).run Tryz.prog w = .ok (.enter g args) w) {w : World} {v : Value} {l : List α} (hl : RSlice 2 R w [v] l) (hp : Pred R p g cb l w) :
    Calls Tryz.prog 123 #[v, .func (.func g) #[] cb] w fun e w' => e = .returned (.int .i64 (idxOf p l)) ∧ Below w.heap.size w w' := by
  obtain ⟨a, cap, hv, hcap, hmax, hel⟩ := hl
  simp only [List.cons.injEq, and_true] at hv
  subst hv
  unfold maxLen at hmax
  obtain ⟨n, hn⟩ : ∃ n, n = l.length := ⟨_, rfl⟩
  rw [← hn] at hcap ⊢
  have hn63 : n ≤ 9223372036854775807 := by omega
  have Hn := Lib.hid hn; have Hel := Lib.hid hel; have Hp := Lib.hid hp; clear hn hel hp
  go_enter Tryz.func123, Tryz.ntmps123
  go_wp2_with fail
  go_loopw [8] (fun i wr => ∃ k : Nat, k ≤ n ∧ i = .int .i64 k ∧ NoneIn p l k ∧ Below w.heap.size w wr) (fun i _ => n - (intOf i).toNat)
  case atStart => exact ⟨0, Nat.zero_le _, rfl, noneIn_zero p l, Below.refl _ _⟩
  case round =>
    obtain ⟨k, hk, rfl, hno, hb⟩ := hrel
    by_cases hlt : k < n
    · have hkl : k < l.length := by have := Hn.out; omega
      obtain ⟨x, hx⟩ : ∃ x, x = l[k]'hkl := ⟨_, rfl⟩
      obtain ⟨b, off, ecs, rfl, h4, h5, h6⟩ := Hel.out k x (by rw [hx]; exact List.getElem?_eq_getElem hkl)
      obtain ⟨u0, u1, rfl⟩ : ∃ u0 u1, ecs = [u0, u1] := cells_2 h4
      have hxl : x ∈ l := by rw [hx]; exact List.getElem_mem hkl
      have c0 : wr.cell? ⟨b, off + k * 2, none⟩ = some u0 := cell_later hb (by simpa using h5 0 u0 rfl)
      have c1 : wr.cell? ⟨b, off + k * 2 + 1, none⟩ = some u1 := cell_later hb (by simpa using h5 1 u1 rfl)
      have hcall := Hp.out wr u0 u1 x hb hxl (hR _ _ _ _ h6 hb)
      have q0 : (0 : Int) ≤ (k : Int) := by omega
      have q1 : (k : Int) < (n : Int) := by omega
      by_cases hpx : p x = true
      · rw [hpx] at hcall
        have hi : idxOf p l = k := idxOf_at hkl hno (by rw [← hx]; exact hpx)
        have Hx := Lib.hid hx; have Hno := Lib.hid hno; have Hcall := Lib.hid hcall; have H5 := Lib.hid h5; have H6 := Lib.hid h6; have Hpx := Lib.hid hpx; have Hi := Lib.hid hi; have Hb := Lib.hid hb; have Hxl := Lib.hid hxl; clear hx hno hcall h5 h6 hpx hi hb hxl
        clear h4
        go_wp2_with fail
        refine Hcall.out.mono ?_
        rintro e w2 ⟨rfl, hb2⟩
        have hb3 := Hb.out.trans (hb2.mono Hb.out.size)
        have Hb2 := Lib.hid hb2; have Hb3 := Lib.hid hb3; clear hb2 hb3
        go_wp2_with fail
        go_ret
        exact ⟨ret_int Hi.out.symm, Hb3.out⟩
      · have hpx' : p x = false := by simpa using hpx
        rw [hpx'] at hcall
        have hno2 := noneIn_succ hkl hno (by rw [← hx]; exact hpx')
        have Hx := Lib.hid hx; have Hno := Lib.hid hno; have Hcall := Lib.hid hcall; have H5 := Lib.hid h5; have H6 := Lib.hid h6; have Hpx := Lib.hid hpx; have Hpx' := Lib.hid hpx'; have Hno2 := Lib.hid hno2; have Hb := Lib.hid hb; have Hxl := Lib.hid hxl; clear hx hno hcall h5 h6 hpx hpx' hno2 hb hxl
        clear h4
        go_wp2_with fail
        refine Hcall.out.mono ?_
        rintro e w2 ⟨rfl, hb2⟩
        have hb3 := Hb.out.trans (hb2.mono Hb.out.size)
        have Hb2 := Lib.hid hb2; have Hb3 := Lib.hid hb3; clear hb2 hb3
        go_wp2_with fail
        go_roundw
        case rel => exact ⟨k + 1, by omega, by go_num, Hno2.out, Hb3.out⟩
        case measure => simp [intOf]; omega
    · have hi : idxOf p l = -1 := idxOf_none (by have := Hn.out; omega) hno
      have Hno := Lib.hid hno; have Hi := Lib.hid hi; have Hb := Lib.hid hb; clear hno hi hb
      go_wp2_with fail
      go_ret
      exact ⟨ret_int Hi.out.symm, Hb.out⟩
set_option maxRecDepth 10000 in
set_option maxHeartbeats 400000 in
theorem has_any {α : Type} {R : Rd α} (hR : Stays R) (p : α → Bool) (g : Nat) (cb : Array Value) (eg : ∀ args w, (callFunc g args).run Tryz.prog w = .ok (.enter g args) w) {w : World} {v : Value} {l : List α} (hl : RSlice 2 R w [v] l) (hp : Pred R p g cb l w) :
    Calls Tryz.prog 66 #[v, .func (.func g) #[] cb] w fun e w' => e = .returned (.bool (l.any p)) ∧ Below w.heap.size w w' := by
  have hI := idx_any hR p g cb eg hl hp
  have hab := idxOf_any p l
  obtain ⟨i, hi⟩ : ∃ i, i = idxOf p l := ⟨_, rfl⟩
  rw [← hi] at hI hab
  have Hl := Lib.hid hl; have Hp := Lib.hid hp; have HI := Lib.hid hI; have Hi := Lib.hid hi; have HR := Lib.hid hR; clear hl hp hI hi hR
  cases hq : l.any p with
  | true =>
    have hpos : 0 ≤ i := hab.1 hq
    have Hq := Lib.hid hq; have Hab := Lib.hid hab; clear hq hab
    go_enter Tryz.func66, Tryz.ntmps66
    go_wp2_with fail
    refine HI.out.mono ?_
    rintro e w2 ⟨rfl, hb2⟩
    have Hb2 := Lib.hid hb2; clear hb2
    go_wp2_with fail
    go_ret
    exact ⟨rfl, Hb2.out⟩
  | false =>
    have hneg : i < 0 := by
      rcases Int.lt_or_le i 0 with h | h
      · exact h
      · have := hab.2 h; rw [hq] at this; cases this
    have Hq := Lib.hid hq; have Hab := Lib.hid hab; clear hq hab
    go_enter Tryz.func66, Tryz.ntmps66
    go_wp2_with fail
    refine HI.out.mono ?_
    rintro e w2 ⟨rfl, hb2⟩
    have Hb2 := Lib.hid hb2; clear hb2
    go_wp2_with fail
    go_ret
    exact ⟨ret_bool (by simpa using hneg), Hb2.out⟩
end IdxSpan
end Go.Proofs.YteailgjiifdgcaaGreatDoor

/- The walks of slices.SortStableFunc at api.Span: the row and its elements. Printed by gen_stc.py. -/
namespace Go.Proofs.YteailgjiifdgcaaGreatDoor
open Go.Shelf Go.RowKit Go.Lib Go.Sort SortM StbA StbB
namespace StbSpan
variable {α : Type} {f0 : α → ByteArray} {f1 : α → ByteArray} {w0 : World} {blk off : Nat} {d0 : Array α}
def enc (f0 : α → ByteArray) (f1 : α → ByteArray) (x : α) : List Value := [.string (f0 x), .string (f1 x)]
theorem enc_len : ∀ x, (enc f0 f1 x).length = 2 := fun _ => rfl
/-- what is asked of the comparison -/
def CmpLays (P : Program) (g : Nat) (cb : Array Value) (f : α → List Value) (_k : Nat) (cf : α → α → Int) (blk _off _size : Nat) (w : World) : Prop :=
  ∀ W, Frm (fun b => b = blk) w W → ∀ x y : α, Calls P g (#[.agg (f x).toArray, .agg (f y).toArray] ++ cb) W fun e w' => e = .returned (.int .i64 (cf x y)) ∧ Below W.heap.size W w'
variable [Inhabited α]
abbrev SWK (f : α → List Value) (k : Nat) (w0 : World) (blk off : Nat) (d : Array α) (W : World) : Prop := SortR.SRW 34 f k w0 blk off d W
abbrev RowK (f : α → List Value) (k : Nat) (w0 : World) (blk off : Nat) (d : Array α) : Prop := SWK f k w0 blk off d w0
theorem cells {dk : Array α} {W : World} (S : SWK (enc f0 f1) 2 w0 blk off dk W) (_R : RowK (enc f0 f1) 2 w0 blk off d0) (_hs : dk.size = d0.size) (i : Nat) (hi : i < dk.size) :
    W.cell? ⟨blk, off + i * 2, none⟩ = some (.string (f0 dk[i]!)) ∧ W.frozen? ⟨blk, off + i * 2, none⟩ = false ∧ W.cell? ⟨blk, off + i * 2 + 1, none⟩ = some (.string (f1 dk[i]!)) ∧ W.frozen? ⟨blk, off + i * 2 + 1, none⟩ = false := by
  have h0 := S.cell hi (show 0 < 2 by decide) rfl
  rw [Nat.add_zero] at h0
  have h1 := S.cell hi (show 1 < 2 by decide) rfl
  rw [← Nat.add_assoc] at h1
  exact ⟨h0.1, h0.2, h1.1, h1.2⟩
theorem exch {dk : Array α} {W : World} (S : SWK (enc f0 f1) 2 w0 blk off dk W) (_R : RowK (enc f0 f1) 2 w0 blk off d0) (i j : Nat) (hi : i < dk.size) (hj : j < dk.size) :
    SWK (enc f0 f1) 2 w0 blk off (swp dk i j) (((((W).setCell ⟨blk, off + i * 2, none⟩ (.string (f0 dk[j]!))).setCell ⟨blk, off + i * 2 + 1, none⟩ (.string (f1 dk[j]!))).setCell ⟨blk, off + j * 2, none⟩ (.string (f0 dk[i]!))).setCell ⟨blk, off + j * 2 + 1, none⟩ (.string (f1 dk[i]!))).drew := by
  have h := (SortR.SRW.exch S enc_len hi hj).drew
  exact h
end StbSpan
end Go.Proofs.YteailgjiifdgcaaGreatDoor

/- The walks of slices.SortStableFunc at api.Span: swapRangeCmpFunc: two runs are exchanged. Printed by gen_stc.py. -/
namespace Go.Proofs.YteailgjiifdgcaaGreatDoor
open Go.Shelf Go.RowKit Go.Lib Go.Sort SortM StbA StbB
namespace StbSpan
variable {α : Type} [Inhabited α] {f0 : α → ByteArray} {f1 : α → ByteArray} {w0 : World} {blk off : Nat} {d0 : Array α}
set_option maxRecDepth 10000 in
set_option maxHeartbeats 4000000 in
theorem swapRange_any {d : Array α} {w : World} (R : RowK (enc f0 f1) 2 w0 blk off d0) (hs : d.size = d0.size) (S : SWK (enc f0 f1) 2 w0 blk off d w) (a b m cap : Nat) (hab : a + m ≤ b) (hb : b + m ≤ d0.size) (hn : d0.size ≤ 1000000) (cv : Value) :
    Calls Tryz.prog 222 #[.slice (some ⟨blk, off, none⟩) d0.size cap, .int .i64 a, .int .i64 b, .int .i64 m, cv] w fun e w' => e = .returned (.tuple #[]) ∧ SWK (enc f0 f1) 2 w0 blk off (swr d a b m) w' := by
  have hlen := size_swr d a b
  obtain ⟨N, hN⟩ : ∃ N, N = d0.size := ⟨_, rfl⟩
  rw [← hN] at hb hn hs ⊢
  have HS := Lib.hid S; have Hlen := Lib.hid hlen; clear S hlen
  go_enter Tryz.func222, Tryz.ntmps222
  go_wp2_with fail
  go_loopw [10] (fun i wr => ∃ k : Nat, k ≤ m ∧ i = .int .i64 k ∧ SWK (enc f0 f1) 2 w0 blk off (swr d a b k) wr) (fun i _ => m - (intOf i).toNat)
  case atStart => exact ⟨0, Nat.zero_le _, rfl, HS.out⟩
  case round =>
    obtain ⟨k, hk, rfl, S⟩ := hrel
    by_cases hlt : k < m
    · have hl := Hlen.out k
      obtain ⟨dk, hdk⟩ : ∃ dk, dk = swr d a b k := ⟨_, rfl⟩
      rw [← hdk] at S hl
      have hnx : swr d a b (k + 1) = swp dk (a + k) (b + k) := by rw [swr, ← hdk]
      have hEX := exch S R (a + k) (b + k) (by omega) (by omega)
      obtain ⟨p0, pf0, p1, pf1⟩ := cells S R (by omega) (a + k) (by omega)
      obtain ⟨q0, qf0, q1, qf1⟩ := cells S R (by omega) (b + k) (by omega)
      obtain ⟨x, hx⟩ : ∃ x, x = dk[a + k]! := ⟨_, rfl⟩
      obtain ⟨y, hy⟩ : ∃ y, y = dk[b + k]! := ⟨_, rfl⟩
      rw [← hx] at p0 p1 hEX
      rw [← hy] at q0 q1 hEX
      obtain ⟨x0, hx0⟩ : ∃ v, v = f0 x := ⟨_, rfl⟩
      obtain ⟨y0, hy0⟩ : ∃ v, v = f0 y := ⟨_, rfl⟩
      rw [← hx0] at p0 hEX
      rw [← hy0] at q0 hEX
      obtain ⟨x1, hx1⟩ : ∃ v, v = f1 x := ⟨_, rfl⟩
      obtain ⟨y1, hy1⟩ : ∃ v, v = f1 y := ⟨_, rfl⟩
      rw [← hx1] at p1 hEX
      rw [← hy1] at q1 hEX
      have na00 : ¬ off + (a + k) * 2 = off + (b + k) * 2 := by omega
      have nb00 : ¬ off + (b + k) * 2 = off + (a + k) * 2 := by omega
      have na01 : ¬ off + (a + k) * 2 = off + (b + k) * 2 + 1 := by omega
      have nb01 : ¬ off + (b + k) * 2 = off + (a + k) * 2 + 1 := by omega
      have na10 : ¬ off + (a + k) * 2 + 1 = off + (b + k) * 2 := by omega
      have nb10 : ¬ off + (b + k) * 2 + 1 = off + (a + k) * 2 := by omega
      have na11 : ¬ off + (a + k) * 2 + 1 = off + (b + k) * 2 + 1 := by omega
      have nb11 : ¬ off + (b + k) * 2 + 1 = off + (a + k) * 2 + 1 := by omega
      have w1 : IntKind.i64.wrap ((a : Int) + (k : Int)) = (a : Int) + (k : Int) := IntWalk.i64_in _ (by omega)
      have w2 : IntKind.i64.wrap ((b : Int) + (k : Int)) = (b : Int) + (k : Int) := IntWalk.i64_in _ (by omega)
      have n1 : ((a : Int) + (k : Int)).toNat = a + k := by omega
      have n2 : ((b : Int) + (k : Int)).toNat = b + k := by omega
      have u1 : (0 : Int) ≤ (a : Int) + (k : Int) := by omega
      have u2 : (0 : Int) ≤ (b : Int) + (k : Int) := by omega
      have v1 : (a : Int) + (k : Int) < (N : Int) := by omega
      have v2 : (b : Int) + (k : Int) < (N : Int) := by omega
      rw [← hnx] at hEX
      clear S
      have Hdk := Lib.hid hdk; have Hnx := Lib.hid hnx; have Hl := Lib.hid hl; have Hx := Lib.hid hx; have Hy := Lib.hid hy; have Hx0 := Lib.hid hx0; have Hy0 := Lib.hid hy0; have Hx1 := Lib.hid hx1; have Hy1 := Lib.hid hy1; have HEX := Lib.hid hEX; clear hdk hnx hl hx hy hx0 hy0 hx1 hy1 hEX
      go_wp2_with fail
      go_region
      all_goals
        go_wp2_with fail
        go_roundw
        case rel => exact ⟨k + 1, by omega, by go_num, HEX.out⟩
        case measure => simp [intOf]; omega
    · obtain rfl : k = m := by omega
      have HS := Lib.hid S; clear S
      go_wp2_with fail
      go_end0
      exact ⟨rfl, HS.out⟩
end StbSpan
end Go.Proofs.YteailgjiifdgcaaGreatDoor

/- The walks of slices.SortStableFunc at api.Span: rotateCmpFunc: two runs are turned about. Printed by gen_stc.py. -/
namespace Go.Proofs.YteailgjiifdgcaaGreatDoor
open Go.Shelf Go.RowKit Go.Lib Go.Sort SortM StbA StbB
namespace StbSpan
variable {α : Type} [Inhabited α] {f0 : α → ByteArray} {f1 : α → ByteArray} {w0 : World} {blk off : Nat} {d0 : Array α}
/-- the row has become that list -/
def Now (f : α → List Value) (k : Nat) (w0 : World) (blk off : Nat) (l : List α) (e : Ending) (w' : World) : Prop := e = .returned (.tuple #[]) ∧ ∃ d : Array α, SWK f k w0 blk off d w' ∧ d.toList = l
set_option maxRecDepth 10000 in
set_option maxHeartbeats 4000000 in
theorem rotate_any {d : Array α} {w : World} (R : RowK (enc f0 f1) 2 w0 blk off d0) (S : SWK (enc f0 f1) 2 w0 blk off d w) {p u v q : List α} (hd : d.toList = p ++ u ++ v ++ q) (hs : d.size = d0.size) {a m b : Nat} (ha : a = p.length) (hm : m = a + u.length) (hb : b = m + v.length) (hu : 0 < u.length) (hv : 0 < v.length) (cap : Nat) (hn : d0.size ≤ 1000000) (cv : Value) :
    Calls Tryz.prog 212 #[.slice (some ⟨blk, off, none⟩) d0.size cap, .int .i64 a, .int .i64 m, .int .i64 b, cv] w (Now (enc f0 f1) 2 w0 blk off (p ++ v ++ u ++ q)) := by
  have hst := RInv.start hd (m := m) (i := u.length) (j := v.length) rfl rfl (by omega)
  have htl : (p ++ v ++ u ++ q).length = d0.size := by rw [← hs, ← hst.size]
  have hle := hst.le
  obtain ⟨iu, hiu⟩ : ∃ n, n = u.length := ⟨_, rfl⟩
  obtain ⟨jv, hjv⟩ : ∃ n, n = v.length := ⟨_, rfl⟩
  obtain ⟨tgt, htg⟩ : ∃ l, l = p ++ v ++ u ++ q := ⟨_, rfl⟩
  rw [← htg] at hst htl ⊢
  rw [← hiu] at hst hm hu hle
  rw [← hjv] at hst hb hv hle
  have hC := fun (dk : Array α) (wr : World) (hs : dk.size = d0.size) (S : SWK (enc f0 f1) 2 w0 blk off dk wr) (a b m : Nat) (h1 : a + m ≤ b) (h2 : b + m ≤ d0.size) => swapRange_any R hs S a b m cap h1 h2 hn cv
  obtain ⟨N, hN⟩ : ∃ N, N = d0.size := ⟨_, rfl⟩
  rw [← hN] at hn htl hs hC ⊢
  have i1 : IntKind.i64.wrap ((m : Int) - (a : Int)) = (iu : Int) := by rw [IntWalk.i64_in _ (by omega)]; omega
  have i2 : IntKind.i64.wrap ((b : Int) - (m : Int)) = (jv : Int) := by rw [IntWalk.i64_in _ (by omega)]; omega
  clear hd ha hm hb hle
  have Hst := Lib.hid hst; have HS := Lib.hid S; have HC := Lib.hid hC; have Htl := Lib.hid htl; have Htg := Lib.hid htg; have Hiu := Lib.hid hiu; have Hjv := Lib.hid hjv; have HN := Lib.hid hN; clear hst S hC htl htg hiu hjv hN
  go_enter Tryz.func212, Tryz.ntmps212
  go_wp2_with fail
  go_loopw [10, 11] (fun x y wr => ∃ (i j : Nat) (dk : Array α), x = .int .i64 i ∧ y = .int .i64 j ∧ 0 < i ∧ 0 < j ∧ RInv tgt m i j dk ∧ SWK (enc f0 f1) 2 w0 blk off dk wr) (fun x y _ => (intOf x).toNat + (intOf y).toNat)
  case atStart => exact ⟨iu, jv, d, rfl, rfl, hu, hv, Hst.out, HS.out⟩
  case round =>
    clear i1 i2
    obtain ⟨i, j, dk, rfl, rfl, hi, hj, hI, S⟩ := hrel
    have hsz := hI.size
    rw [Htl.out] at hsz
    have hl := hI.le
    rw [hsz] at hl
    have w1 : IntKind.i64.wrap ((m : Int) - (i : Int)) = ((m - i : Nat) : Int) := by rw [IntWalk.i64_in _ (by omega)]; omega
    rcases Nat.lt_trichotomy i j with hij | hij | hij
    · have hne : ((i : Int) == (j : Int)) = false := by rw [beq_eq_false_iff_ne]; omega
      have hgt : decide ((j : Int) < (i : Int)) = false := decide_eq_false (by omega)
      have w2 : IntKind.i64.wrap ((m : Int) + (j : Int)) = (m : Int) + (j : Int) := IntWalk.i64_in _ (by omega)
      have w3 : IntKind.i64.wrap ((m : Int) + (j : Int) - (i : Int)) = ((m + j - i : Nat) : Int) := by rw [IntWalk.i64_in _ (by omega)]; omega
      have w4 : IntKind.i64.wrap ((j : Int) - (i : Int)) = ((j - i : Nat) : Int) := by rw [IntWalk.i64_in _ (by omega)]; omega
      have hc := HC.out dk wr hsz S (m - i) (m + j - i) i (by omega) (by omega)
      have hnI := hI.lt hij
      clear S hI
      have Hc := Lib.hid hc; have HnI := Lib.hid hnI; have Hsz := Lib.hid hsz; clear hc hnI hsz
      go_wp2_with fail
      refine Hc.out.mono ?_
      rintro e w2 ⟨rfl, S⟩
      have HS := Lib.hid S; clear S
      go_wp2_with fail
      go_roundw
      case rel => exact ⟨i, j - i, _, rfl, rfl, hi, by omega, HnI.out, HS.out⟩
      case measure => simp [intOf]; omega
    · subst hij
      have hne : ((i : Int) == (i : Int)) = true := by simp
      have hc := HC.out dk wr hsz S (m - i) m i (by omega) (by omega)
      have hnI := hI.eq
      clear S hI
      have Hc := Lib.hid hc; have HnI := Lib.hid hnI; have Hsz := Lib.hid hsz; clear hc hnI hsz
      go_wp2_with fail
      refine Hc.out.mono ?_
      rintro e w2 ⟨rfl, S⟩
      have HS := Lib.hid S; clear S
      go_wp2_with fail
      go_end0
      exact ⟨rfl, _, HS.out, HnI.out⟩
    · have hne : ((i : Int) == (j : Int)) = false := by rw [beq_eq_false_iff_ne]; omega
      have hgt : decide ((j : Int) < (i : Int)) = true := decide_eq_true (by omega)
      have w4 : IntKind.i64.wrap ((i : Int) - (j : Int)) = ((i - j : Nat) : Int) := by rw [IntWalk.i64_in _ (by omega)]; omega
      have hc := HC.out dk wr hsz S (m - i) m j (by omega) (by omega)
      have hnI := hI.gt hij
      clear S hI
      have Hc := Lib.hid hc; have HnI := Lib.hid hnI; have Hsz := Lib.hid hsz; clear hc hnI hsz
      go_wp2_with fail
      refine Hc.out.mono ?_
      rintro e w2 ⟨rfl, S⟩
      have HS := Lib.hid S; clear S
      go_wp2_with fail
      go_roundw
      case rel => exact ⟨i - j, j, _, rfl, rfl, by omega, hj, HnI.out, HS.out⟩
      case measure => simp [intOf]; omega
end StbSpan
end Go.Proofs.YteailgjiifdgcaaGreatDoor

/- The walks of slices.SortStableFunc at api.Span: symMergeCmpFunc where the first run has one element. Printed by gen_stc.py. -/
namespace Go.Proofs.YteailgjiifdgcaaGreatDoor
open Go.Shelf Go.RowKit Go.Lib Go.Sort SortM StbA StbB
namespace StbSpan
variable {α : Type} [Inhabited α] {f0 : α → ByteArray} {f1 : α → ByteArray} {w0 : World} {blk off : Nat} {d0 : Array α}
variable {cf : α → α → Int} {g : Nat} {cb : Array Value}
set_option maxRecDepth 10000 in
set_option maxHeartbeats 4000000 in
theorem merge_left {dk : Array α} {w : World} (R : RowK (enc f0 f1) 2 w0 blk off d0) (S : SWK (enc f0 f1) 2 w0 blk off dk w) (C : CmpLays Tryz.prog g cb (enc f0 f1) 2 cf blk off d0.size w0) (eg : ∀ args w, (callFunc g args).run Tryz.prog w = .ok (.enter g args) w) (hO : Swo (ltOf cf))
    {p v q : List α} {x : α} (hd : dk.toList = p ++ x :: (v ++ q)) (hs : dk.size = d0.size) (hv : Sorted (ltOf cf) v) {a m b : Nat} (ha : a = p.length) (hm : m = a + 1) (hb : b = m + v.length) (cap : Nat) (hn : d0.size ≤ 1000000) :
    Calls Tryz.prog 196 #[.slice (some ⟨blk, off, none⟩) d0.size cap, .int .i64 a, .int .i64 m, .int .i64 b, .func (.func g) #[] cb] w (Now (enc f0 f1) 2 w0 blk off (p ++ ssort (ltOf cf) (x :: v) ++ q)) := by
  have hbn : b ≤ d0.size := by rw [← hs, ← Array.length_toList, hd]; simp; omega
  have hix : SortedIx (ltOf cf) m b dk := sortedIx_of hO (p := p ++ [x]) (u := v) (q := q) (by rw [hd]; simp) hv (by simp; omega) (by simp; omega)
  have hM := mono_left hO (a := a) hix
  have hend := fun i (hB : BS (fun c => ltOf cf dk[c]! dk[a]!) m b i i) => one_left hO hd hv ha hm hb hB
  have hmb : m ≤ b := by omega
  have hB0 := BS.start (fun c => ltOf cf dk[c]! dk[a]!) hmb
  have hk1 : IntKind.i64.wrap ((m : Int) - (a : Int)) = 1 := by rw [IntWalk.i64_in _ (by omega)]; omega
  have hk2 : ((1 : Int) == 1) = true := by simp
  obtain ⟨tgt, htg⟩ : ∃ l, l = p ++ ssort (ltOf cf) (x :: v) ++ q := ⟨_, rfl⟩
  rw [← htg] at hend ⊢
  obtain ⟨N, hN⟩ : ∃ N, N = d0.size := ⟨_, rfl⟩
  rw [← hN] at hn hs hbn ⊢
  have ham : a < m := by omega
  clear hix hd hv ha hm hb
  have HS := Lib.hid S; have HM := Lib.hid hM; have HB0 := Lib.hid hB0; have Hend := Lib.hid hend; have Htg := Lib.hid htg; have Hs := Lib.hid hs; have HN := Lib.hid hN; have Hmb := Lib.hid hmb; have HC := Lib.hid C; have HR := Lib.hid R; have HO := Lib.hid hO; clear S hM hB0 hend htg hs hN hmb C R hO
  go_enter Tryz.func196, Tryz.ntmps196
  go_wp2_with fail
  clear hk1
  go_loopw [10, 11] (fun x y wr => ∃ (i j : Nat), x = .int .i64 i ∧ y = .int .i64 j ∧ BS (fun c => ltOf cf dk[c]! dk[a]!) m b i j ∧ SWK (enc f0 f1) 2 w0 blk off dk wr) (fun x y _ => (intOf y).toNat - (intOf x).toNat)
  case atStart => exact ⟨m, b, rfl, rfl, HB0.out, HS.out⟩
  case round =>
    obtain ⟨i, j, rfl, rfl, hB, S⟩ := hrel
    have l1 := hB.l1
    have l2 := hB.l2
    have l3 := hB.l3
    by_cases hlt : i < j
    · have R := HR.out
      have C := HC.out
      have hs := Hs.out
      rw [HN.out] at hs
      have hN' := HN.out
      obtain ⟨h, hh⟩ : ∃ h, h = (i + j) / 2 := ⟨_, rfl⟩
      have w1 : IntKind.i64.wrap ((i : Int) + (j : Int)) = (i : Int) + (j : Int) := IntWalk.i64_in _ (by omega)
      have w2 : ((i : Int) + (j : Int)) / 2 = (h : Int) := by omega
      obtain ⟨p0, _, p1, _⟩ := cells S R hs (h) (by omega)
      obtain ⟨x, hx⟩ : ∃ v, v = dk[h]! := ⟨_, rfl⟩
      rw [← hx] at p0 p1
      obtain ⟨x0, hx0⟩ : ∃ v, v = f0 x := ⟨_, rfl⟩
      rw [← hx0] at p0
      obtain ⟨x1, hx1⟩ : ∃ v, v = f1 x := ⟨_, rfl⟩
      rw [← hx1] at p1
      obtain ⟨q0, _, q1, _⟩ := cells S R hs (a) (by omega)
      obtain ⟨y, hy⟩ : ∃ v, v = dk[a]! := ⟨_, rfl⟩
      rw [← hy] at q0 q1
      obtain ⟨y0, hy0⟩ : ∃ v, v = f0 y := ⟨_, rfl⟩
      rw [← hy0] at q0
      obtain ⟨y1, hy1⟩ : ∃ v, v = f1 y := ⟨_, rfl⟩
      rw [← hy1] at q1
      have hcg : ∀ V, Below wr.heap.size wr V → Calls Tryz.prog g (#[.agg #[.string (x0), .string (x1)], .agg #[.string (y0), .string (y1)]] ++ cb) V fun e w' => e = .returned (.int .i64 (cf x y)) ∧ Below V.heap.size V w' := fun V hV => by rw [hx0, hy0, hx1, hy1]; exact C V (SortR.SRW.below S hV).frm x y
      have hczf : ∀ V, Below wr.heap.size wr V → V.cell? ⟨blk, off + (h) * 2, none⟩ = some (.string (x0)) ∧ V.cell? ⟨blk, off + (h) * 2 + 1, none⟩ = some (.string (x1)) ∧ V.cell? ⟨blk, off + (a) * 2, none⟩ = some (.string (y0)) ∧ V.cell? ⟨blk, off + (a) * 2 + 1, none⟩ = some (.string (y1)) := fun V hV => ⟨cell_later hV p0, cell_later hV p1, cell_later hV q0, cell_later hV q1⟩
      obtain ⟨cv, hcv⟩ : ∃ v, v = cf x y := ⟨_, rfl⟩
      rw [← hcv] at hcg
      have hGR := S
      have hl : (h : Int) < (N : Int) := by omega
      have al : (a : Int) < (N : Int) := by omega
      have hij1 : i ≤ h := by omega
      have hij2 : h < j := by omega
      clear S hs R C hN'
      cases hdec : decide (cv < 0) with
      | true =>
        have hB2 := hB.left HM.out hij1 hij2 (by rw [← hx, ← hy]; unfold ltOf; rw [← hcv]; exact hdec)
        have hlv : cv < 0 := of_decide_eq_true hdec
        have HB := Lib.hid hB; have HB2 := Lib.hid hB2; have Hx := Lib.hid hx; have Hy := Lib.hid hy; have Hx0 := Lib.hid hx0; have Hy0 := Lib.hid hy0; have Hx1 := Lib.hid hx1; have Hy1 := Lib.hid hy1; have HGR := Lib.hid hGR; have Hcg := Lib.hid hcg; have Hczf := Lib.hid hczf; have Hcv := Lib.hid hcv; have Hh := Lib.hid hh; have Hdec := Lib.hid hdec; clear hB hB2 hx hy hx0 hy0 hx1 hy1 hGR hcg hczf hcv hh hdec
        go_wp2_with fail
        have hbz := bel_drewN (Below.refl wr.heap.size wr) 1
        have hcz := Hczf.out _ hbz
        go_region_held3 (fun w' => w'.cell? ⟨blk, off + (h) * 2, none⟩ = some (.string (x0)) ∧ w'.cell? ⟨blk, off + (h) * 2 + 1, none⟩ = some (.string (x1)) ∧ w'.cell? ⟨blk, off + (a) * 2, none⟩ = some (.string (y0)) ∧ w'.cell? ⟨blk, off + (a) * 2 + 1, none⟩ = some (.string (y1))) (first | exact hcz | go_keep) (first | (go_at_fn g; refine (Hcg.out _ (by exact hbz)).mono ?_; rintro e wz ⟨rfl, hsz⟩; replace hbz := hbz.trans (hsz.mono hbz.size); replace hcz := Hczf.out _ hbz))
        all_goals
          go_wp2_with fail
          go_roundw
          case rel => exact ⟨h + 1, j, by go_num, rfl, HB2.out, HGR.out.below hbz⟩
          case measure => simp [intOf]; omega
      | false =>
        have hB2 := hB.right HM.out hij1 hij2 (by rw [← hx, ← hy]; unfold ltOf; rw [← hcv]; exact hdec)
        have hlv : ¬ cv < 0 := of_decide_eq_false hdec
        have HB := Lib.hid hB; have HB2 := Lib.hid hB2; have Hx := Lib.hid hx; have Hy := Lib.hid hy; have Hx0 := Lib.hid hx0; have Hy0 := Lib.hid hy0; have Hx1 := Lib.hid hx1; have Hy1 := Lib.hid hy1; have HGR := Lib.hid hGR; have Hcg := Lib.hid hcg; have Hczf := Lib.hid hczf; have Hcv := Lib.hid hcv; have Hh := Lib.hid hh; have Hdec := Lib.hid hdec; clear hB hB2 hx hy hx0 hy0 hx1 hy1 hGR hcg hczf hcv hh hdec
        go_wp2_with fail
        have hbz := bel_drewN (Below.refl wr.heap.size wr) 1
        have hcz := Hczf.out _ hbz
        go_region_held3 (fun w' => w'.cell? ⟨blk, off + (h) * 2, none⟩ = some (.string (x0)) ∧ w'.cell? ⟨blk, off + (h) * 2 + 1, none⟩ = some (.string (x1)) ∧ w'.cell? ⟨blk, off + (a) * 2, none⟩ = some (.string (y0)) ∧ w'.cell? ⟨blk, off + (a) * 2 + 1, none⟩ = some (.string (y1))) (first | exact hcz | go_keep) (first | (go_at_fn g; refine (Hcg.out _ (by exact hbz)).mono ?_; rintro e wz ⟨rfl, hsz⟩; replace hbz := hbz.trans (hsz.mono hbz.size); replace hcz := Hczf.out _ hbz))
        all_goals
          go_wp2_with fail
          go_roundw
          case rel => exact ⟨i, h, rfl, rfl, HB2.out, HGR.out.below hbz⟩
          case measure => simp [intOf]; omega
    · obtain rfl : i = j := by omega
      have hE := Hend.out i hB
      have him : m ≤ i := l1
      have hib : i ≤ b := l3
      clear l1 l2 l3
      have HB := Lib.hid hB; have HS := Lib.hid S; have HE := Lib.hid hE; clear hB S hE
      have w1 : IntKind.i64.wrap ((i : Int) - 1) = (i : Int) - 1 := IntWalk.i64_in _ (by omega)
      go_wp2_with fail
      clear w1
      go_loopw [13] (fun x wr => ∃ kk : Nat, x = .int .i64 kk ∧ a ≤ kk ∧ kk ≤ i - 1 ∧ SWK (enc f0 f1) 2 w0 blk off (upN dk a (kk - a)) wr) (fun x _ => i - (intOf x).toNat)
      case atStart => exact ⟨a, rfl, Nat.le_refl _, by omega, by rw [Nat.sub_self]; exact HS.out⟩
      case round =>
        obtain ⟨kk, rfl, k1, k2, S⟩ := hrel
        by_cases hlt : kk < i - 1
        · obtain ⟨ek, hek⟩ : ∃ e, e = upN dk a (kk - a) := ⟨_, rfl⟩
          rw [← hek] at S
          have hnx : upN dk a (kk + 1 - a) = swp ek kk (kk + 1) := by
            rw [show kk + 1 - a = (kk - a) + 1 by omega, upN, ← hek, show a + (kk - a) = kk by omega]
          have R := HR.out
          have hl : ek.size = d0.size := by rw [hek, size_upN, Hs.out, HN.out]
          have hN' := HN.out
          have hEX := exch S R (kk) (kk + 1) (by omega) (by omega)
          obtain ⟨p0, pf0, p1, pf1⟩ := cells S R hl (kk) (by omega)
          obtain ⟨q0, qf0, q1, qf1⟩ := cells S R hl (kk + 1) (by omega)
          obtain ⟨x, hx⟩ : ∃ x, x = ek[kk]! := ⟨_, rfl⟩
          obtain ⟨y, hy⟩ : ∃ y, y = ek[kk + 1]! := ⟨_, rfl⟩
          rw [← hx] at p0 p1 hEX
          rw [← hy] at q0 q1 hEX
          obtain ⟨x0, hx0⟩ : ∃ v, v = f0 x := ⟨_, rfl⟩
          obtain ⟨y0, hy0⟩ : ∃ v, v = f0 y := ⟨_, rfl⟩
          rw [← hx0] at p0 hEX
          rw [← hy0] at q0 hEX
          obtain ⟨x1, hx1⟩ : ∃ v, v = f1 x := ⟨_, rfl⟩
          obtain ⟨y1, hy1⟩ : ∃ v, v = f1 y := ⟨_, rfl⟩
          rw [← hx1] at p1 hEX
          rw [← hy1] at q1 hEX
          have na00 : ¬ off + (kk) * 2 = off + (kk + 1) * 2 := by omega
          have nb00 : ¬ off + (kk + 1) * 2 = off + (kk) * 2 := by omega
          have na01 : ¬ off + (kk) * 2 = off + (kk + 1) * 2 + 1 := by omega
          have nb01 : ¬ off + (kk + 1) * 2 = off + (kk) * 2 + 1 := by omega
          have na10 : ¬ off + (kk) * 2 + 1 = off + (kk + 1) * 2 := by omega
          have nb10 : ¬ off + (kk + 1) * 2 + 1 = off + (kk) * 2 := by omega
          have na11 : ¬ off + (kk) * 2 + 1 = off + (kk + 1) * 2 + 1 := by omega
          have nb11 : ¬ off + (kk + 1) * 2 + 1 = off + (kk) * 2 + 1 := by omega
          have w1 : IntKind.i64.wrap ((kk : Int) + 1) = (kk : Int) + 1 := IntWalk.i64_in _ (by omega)
          have w2 : IntKind.i64.wrap ((i : Int) - 1) = (i : Int) - 1 := IntWalk.i64_in _ (by omega)
          have n2 : ((kk : Int) + 1).toNat = kk + 1 := by omega
          have u2 : (0 : Int) ≤ (kk : Int) + 1 := by omega
          have v1 : (kk : Int) < (N : Int) := by omega
          have v2 : (kk : Int) + 1 < (N : Int) := by omega
          have v3 : (kk : Int) < (i : Int) - 1 := by omega
          rw [← hnx] at hEX
          clear S R hN'
          have Hek := Lib.hid hek; have Hnx := Lib.hid hnx; have Hl := Lib.hid hl; have Hx := Lib.hid hx; have Hy := Lib.hid hy; have Hx0 := Lib.hid hx0; have Hy0 := Lib.hid hy0; have Hx1 := Lib.hid hx1; have Hy1 := Lib.hid hy1; have HEX := Lib.hid hEX; clear hek hnx hl hx hy hx0 hy0 hx1 hy1 hEX
          go_wp2_with fail
          go_region
          all_goals
            go_wp2_with fail
            go_roundw
            case rel => exact ⟨kk + 1, by go_num, by omega, by omega, HEX.out⟩
            case measure => simp [intOf]; omega
        · obtain rfl : kk = i - 1 := by omega
          have v3 : ¬ ((i - 1 : Nat) : Int) < (i : Int) - 1 := by omega
          have w2 : IntKind.i64.wrap ((i : Int) - 1) = (i : Int) - 1 := IntWalk.i64_in _ (by omega)
          have HS := Lib.hid S; clear S
          go_wp2_with fail
          go_end0
          exact ⟨rfl, _, HS.out, HE.out⟩
end StbSpan
end Go.Proofs.YteailgjiifdgcaaGreatDoor

/- The walks of slices.SortStableFunc at api.Span: symMergeCmpFunc where the second run has one element. Printed by gen_stc.py. -/
namespace Go.Proofs.YteailgjiifdgcaaGreatDoor
open Go.Shelf Go.RowKit Go.Lib Go.Sort SortM StbA StbB
namespace StbSpan
variable {α : Type} [Inhabited α] {f0 : α → ByteArray} {f1 : α → ByteArray} {w0 : World} {blk off : Nat} {d0 : Array α}
variable {cf : α → α → Int} {g : Nat} {cb : Array Value}
set_option maxRecDepth 10000 in
set_option maxHeartbeats 4000000 in
theorem merge_right {dk : Array α} {w : World} (R : RowK (enc f0 f1) 2 w0 blk off d0) (S : SWK (enc f0 f1) 2 w0 blk off dk w) (C : CmpLays Tryz.prog g cb (enc f0 f1) 2 cf blk off d0.size w0) (eg : ∀ args w, (callFunc g args).run Tryz.prog w = .ok (.enter g args) w) (hO : Swo (ltOf cf))
    {p u q : List α} {x : α} (hd : dk.toList = p ++ u ++ x :: q) (hs : dk.size = d0.size) (hu : Sorted (ltOf cf) u) {a m b : Nat} (ha : a = p.length) (hm : m = a + u.length) (hb : b = m + 1) (h2 : 2 ≤ u.length) (cap : Nat) (hn : d0.size ≤ 1000000) :
    Calls Tryz.prog 196 #[.slice (some ⟨blk, off, none⟩) d0.size cap, .int .i64 a, .int .i64 m, .int .i64 b, .func (.func g) #[] cb] w (Now (enc f0 f1) 2 w0 blk off (p ++ ssort (ltOf cf) (u ++ [x]) ++ q)) := by
  have hbn : b ≤ d0.size := by rw [← hs, ← Array.length_toList, hd]; simp; omega
  have hix : SortedIx (ltOf cf) a m dk := sortedIx_of hO (p := p) (u := u) (q := x :: q) hd hu ha (by omega)
  have hM := mono_right hO hix
  have hend := fun i (hB : BS (fun c => !ltOf cf dk[m]! dk[c]!) a m i i) => one_right hO hd hu ha hm hB
  have hmb : a ≤ m := by omega
  have hB0 := BS.start (fun c => !ltOf cf dk[m]! dk[c]!) hmb
  have hk1 : IntKind.i64.wrap ((m : Int) - (a : Int)) = (m : Int) - (a : Int) := IntWalk.i64_in _ (by omega)
  have hk2 : ((m : Int) - (a : Int) == 1) = false := by rw [beq_eq_false_iff_ne]; omega
  have hk3 : IntKind.i64.wrap ((b : Int) - (m : Int)) = 1 := by rw [IntWalk.i64_in _ (by omega)]; omega
  have hk4 : ((1 : Int) == 1) = true := by simp
  obtain ⟨tgt, htg⟩ : ∃ l, l = p ++ ssort (ltOf cf) (u ++ [x]) ++ q := ⟨_, rfl⟩
  rw [← htg] at hend ⊢
  obtain ⟨N, hN⟩ : ∃ N, N = d0.size := ⟨_, rfl⟩
  rw [← hN] at hn hs hbn ⊢
  have hmn : m < N := by omega
  clear hix hd hu ha hm hb h2
  have HS := Lib.hid S; have HM := Lib.hid hM; have HB0 := Lib.hid hB0; have Hend := Lib.hid hend; have Htg := Lib.hid htg; have Hs := Lib.hid hs; have HN := Lib.hid hN; have Hmb := Lib.hid hmb; have HC := Lib.hid C; have HR := Lib.hid R; have HO := Lib.hid hO; clear S hM hB0 hend htg hs hN hmb C R hO
  go_enter Tryz.func196, Tryz.ntmps196
  go_wp2_with fail
  clear hk1 hk2 hk3
  go_loopw [14, 15] (fun x y wr => ∃ (i j : Nat), x = .int .i64 i ∧ y = .int .i64 j ∧ BS (fun c => !ltOf cf dk[m]! dk[c]!) a m i j ∧ SWK (enc f0 f1) 2 w0 blk off dk wr) (fun x y _ => (intOf y).toNat - (intOf x).toNat)
  case atStart => exact ⟨a, m, rfl, rfl, HB0.out, HS.out⟩
  case round =>
    obtain ⟨i, j, rfl, rfl, hB, S⟩ := hrel
    have l1 := hB.l1
    have l2 := hB.l2
    have l3 := hB.l3
    by_cases hlt : i < j
    · have R := HR.out
      have C := HC.out
      have hs := Hs.out
      rw [HN.out] at hs
      have hN' := HN.out
      obtain ⟨h, hh⟩ : ∃ h, h = (i + j) / 2 := ⟨_, rfl⟩
      have w1 : IntKind.i64.wrap ((i : Int) + (j : Int)) = (i : Int) + (j : Int) := IntWalk.i64_in _ (by omega)
      have w2 : ((i : Int) + (j : Int)) / 2 = (h : Int) := by omega
      obtain ⟨p0, _, p1, _⟩ := cells S R hs (m) (by omega)
      obtain ⟨x, hx⟩ : ∃ v, v = dk[m]! := ⟨_, rfl⟩
      rw [← hx] at p0 p1
      obtain ⟨x0, hx0⟩ : ∃ v, v = f0 x := ⟨_, rfl⟩
      rw [← hx0] at p0
      obtain ⟨x1, hx1⟩ : ∃ v, v = f1 x := ⟨_, rfl⟩
      rw [← hx1] at p1
      obtain ⟨q0, _, q1, _⟩ := cells S R hs (h) (by omega)
      obtain ⟨y, hy⟩ : ∃ v, v = dk[h]! := ⟨_, rfl⟩
      rw [← hy] at q0 q1
      obtain ⟨y0, hy0⟩ : ∃ v, v = f0 y := ⟨_, rfl⟩
      rw [← hy0] at q0
      obtain ⟨y1, hy1⟩ : ∃ v, v = f1 y := ⟨_, rfl⟩
      rw [← hy1] at q1
      have hcg : ∀ V, Below wr.heap.size wr V → Calls Tryz.prog g (#[.agg #[.string (x0), .string (x1)], .agg #[.string (y0), .string (y1)]] ++ cb) V fun e w' => e = .returned (.int .i64 (cf x y)) ∧ Below V.heap.size V w' := fun V hV => by rw [hx0, hy0, hx1, hy1]; exact C V (SortR.SRW.below S hV).frm x y
      have hczf : ∀ V, Below wr.heap.size wr V → V.cell? ⟨blk, off + (m) * 2, none⟩ = some (.string (x0)) ∧ V.cell? ⟨blk, off + (m) * 2 + 1, none⟩ = some (.string (x1)) ∧ V.cell? ⟨blk, off + (h) * 2, none⟩ = some (.string (y0)) ∧ V.cell? ⟨blk, off + (h) * 2 + 1, none⟩ = some (.string (y1)) := fun V hV => ⟨cell_later hV p0, cell_later hV p1, cell_later hV q0, cell_later hV q1⟩
      obtain ⟨cv, hcv⟩ : ∃ v, v = cf x y := ⟨_, rfl⟩
      rw [← hcv] at hcg
      have hGR := S
      have hl : (h : Int) < (N : Int) := by omega
      have al : (m : Int) < (N : Int) := by omega
      have hij1 : i ≤ h := by omega
      have hij2 : h < j := by omega
      clear S hs R C hN'
      cases hdec : decide (cv < 0) with
      | true =>
        have hB2 := hB.right HM.out hij1 hij2 (by show (!ltOf cf dk[m]! dk[h]!) = false; rw [← hx, ← hy]; unfold ltOf; rw [← hcv, hdec]; rfl)
        have hlv : cv < 0 := of_decide_eq_true hdec
        have hlv2 : ¬ 0 ≤ cv := by omega
        have HB := Lib.hid hB; have HB2 := Lib.hid hB2; have Hx := Lib.hid hx; have Hy := Lib.hid hy; have Hx0 := Lib.hid hx0; have Hy0 := Lib.hid hy0; have Hx1 := Lib.hid hx1; have Hy1 := Lib.hid hy1; have HGR := Lib.hid hGR; have Hcg := Lib.hid hcg; have Hczf := Lib.hid hczf; have Hcv := Lib.hid hcv; have Hh := Lib.hid hh; have Hdec := Lib.hid hdec; clear hB hB2 hx hy hx0 hy0 hx1 hy1 hGR hcg hczf hcv hh hdec
        go_wp2_with fail
        have hbz := bel_drewN (Below.refl wr.heap.size wr) 1
        have hcz := Hczf.out _ hbz
        go_region_held3 (fun w' => w'.cell? ⟨blk, off + (m) * 2, none⟩ = some (.string (x0)) ∧ w'.cell? ⟨blk, off + (m) * 2 + 1, none⟩ = some (.string (x1)) ∧ w'.cell? ⟨blk, off + (h) * 2, none⟩ = some (.string (y0)) ∧ w'.cell? ⟨blk, off + (h) * 2 + 1, none⟩ = some (.string (y1))) (first | exact hcz | go_keep) (first | (go_at_fn g; refine (Hcg.out _ (by exact hbz)).mono ?_; rintro e wz ⟨rfl, hsz⟩; replace hbz := hbz.trans (hsz.mono hbz.size); replace hcz := Hczf.out _ hbz))
        all_goals
          go_wp2_with fail
          go_roundw
          case rel => exact ⟨i, h, rfl, rfl, HB2.out, HGR.out.below hbz⟩
          case measure => simp [intOf]; omega
      | false =>
        have hB2 := hB.left HM.out hij1 hij2 (by show (!ltOf cf dk[m]! dk[h]!) = true; rw [← hx, ← hy]; unfold ltOf; rw [← hcv, hdec]; rfl)
        have hlv : ¬ cv < 0 := of_decide_eq_false hdec
        have hlv2 : 0 ≤ cv := by omega
        have hdn : (!decide (cv < 0)) = true := by rw [hdec]; rfl
        have HB := Lib.hid hB; have HB2 := Lib.hid hB2; have Hx := Lib.hid hx; have Hy := Lib.hid hy; have Hx0 := Lib.hid hx0; have Hy0 := Lib.hid hy0; have Hx1 := Lib.hid hx1; have Hy1 := Lib.hid hy1; have HGR := Lib.hid hGR; have Hcg := Lib.hid hcg; have Hczf := Lib.hid hczf; have Hcv := Lib.hid hcv; have Hh := Lib.hid hh; have Hdec := Lib.hid hdec; clear hB hB2 hx hy hx0 hy0 hx1 hy1 hGR hcg hczf hcv hh hdec
        go_wp2_with fail
        have hbz := bel_drewN (Below.refl wr.heap.size wr) 1
        have hcz := Hczf.out _ hbz
        go_region_held3 (fun w' => w'.cell? ⟨blk, off + (m) * 2, none⟩ = some (.string (x0)) ∧ w'.cell? ⟨blk, off + (m) * 2 + 1, none⟩ = some (.string (x1)) ∧ w'.cell? ⟨blk, off + (h) * 2, none⟩ = some (.string (y0)) ∧ w'.cell? ⟨blk, off + (h) * 2 + 1, none⟩ = some (.string (y1))) (first | exact hcz | go_keep) (first | (go_at_fn g; refine (Hcg.out _ (by exact hbz)).mono ?_; rintro e wz ⟨rfl, hsz⟩; replace hbz := hbz.trans (hsz.mono hbz.size); replace hcz := Hczf.out _ hbz))
        all_goals
          go_wp2_with fail
          go_roundw
          case rel => exact ⟨h + 1, j, by go_num, rfl, HB2.out, HGR.out.below hbz⟩
          case measure => simp [intOf]; omega
    · obtain rfl : i = j := by omega
      have hE := Hend.out i hB
      have him : a ≤ i := l1
      have hib : i ≤ m := l3
      clear l1 l2 l3
      have HB := Lib.hid hB; have HS := Lib.hid S; have HE := Lib.hid hE; clear hB S hE
      go_wp2_with fail
      go_loopw [17] (fun x wr => ∃ kk : Nat, x = .int .i64 kk ∧ i ≤ kk ∧ kk ≤ m ∧ SWK (enc f0 f1) 2 w0 blk off (dnN dk m (m - kk)) wr) (fun x _ => (intOf x).toNat)
      case atStart => exact ⟨m, rfl, hib, Nat.le_refl _, by rw [Nat.sub_self]; exact HS.out⟩
      case round =>
        obtain ⟨kk, rfl, k1, k2, S⟩ := hrel
        by_cases hlt : i < kk
        · obtain ⟨jp, rfl⟩ : ∃ jp, kk = jp + 1 := ⟨kk - 1, by omega⟩
          obtain ⟨ek, hek⟩ : ∃ e, e = dnN dk m (m - (jp + 1)) := ⟨_, rfl⟩
          rw [← hek] at S
          have hnx : dnN dk m (m - jp) = swp ek (jp + 1) jp := by
            rw [show m - jp = (m - (jp + 1)) + 1 by omega, dnN, ← hek, show m - (m - (jp + 1)) = jp + 1 by omega, Nat.add_sub_cancel]
          have R := HR.out
          have hl : ek.size = d0.size := by rw [hek, size_dnN, Hs.out, HN.out]
          have hN' := HN.out
          have hEX := exch S R (jp + 1) (jp) (by omega) (by omega)
          obtain ⟨p0, pf0, p1, pf1⟩ := cells S R hl (jp + 1) (by omega)
          obtain ⟨q0, qf0, q1, qf1⟩ := cells S R hl (jp) (by omega)
          obtain ⟨x, hx⟩ : ∃ x, x = ek[jp + 1]! := ⟨_, rfl⟩
          obtain ⟨y, hy⟩ : ∃ y, y = ek[jp]! := ⟨_, rfl⟩
          rw [← hx] at p0 p1 hEX
          rw [← hy] at q0 q1 hEX
          obtain ⟨x0, hx0⟩ : ∃ v, v = f0 x := ⟨_, rfl⟩
          obtain ⟨y0, hy0⟩ : ∃ v, v = f0 y := ⟨_, rfl⟩
          rw [← hx0] at p0 hEX
          rw [← hy0] at q0 hEX
          obtain ⟨x1, hx1⟩ : ∃ v, v = f1 x := ⟨_, rfl⟩
          obtain ⟨y1, hy1⟩ : ∃ v, v = f1 y := ⟨_, rfl⟩
          rw [← hx1] at p1 hEX
          rw [← hy1] at q1 hEX
          have na00 : ¬ off + (jp + 1) * 2 = off + (jp) * 2 := by omega
          have nb00 : ¬ off + (jp) * 2 = off + (jp + 1) * 2 := by omega
          have na01 : ¬ off + (jp + 1) * 2 = off + (jp) * 2 + 1 := by omega
          have nb01 : ¬ off + (jp) * 2 = off + (jp + 1) * 2 + 1 := by omega
          have na10 : ¬ off + (jp + 1) * 2 + 1 = off + (jp) * 2 := by omega
          have nb10 : ¬ off + (jp) * 2 + 1 = off + (jp + 1) * 2 := by omega
          have na11 : ¬ off + (jp + 1) * 2 + 1 = off + (jp) * 2 + 1 := by omega
          have nb11 : ¬ off + (jp) * 2 + 1 = off + (jp + 1) * 2 + 1 := by omega
          have w1 : IntKind.i64.wrap (jp : Int) = (jp : Int) := IntWalk.i64_in _ (by omega)
          have n2 : ((jp : Int) + 1).toNat = jp + 1 := by omega
          have u2 : (0 : Int) ≤ (jp : Int) + 1 := by omega
          have v1 : (jp : Int) < (N : Int) := by omega
          have v2 : (jp : Int) + 1 < (N : Int) := by omega
          have v3 : (i : Int) < (jp : Int) + 1 := by omega
          rw [← hnx] at hEX
          clear S R hN'
          have Hek := Lib.hid hek; have Hnx := Lib.hid hnx; have Hl := Lib.hid hl; have Hx := Lib.hid hx; have Hy := Lib.hid hy; have Hx0 := Lib.hid hx0; have Hy0 := Lib.hid hy0; have Hx1 := Lib.hid hx1; have Hy1 := Lib.hid hy1; have HEX := Lib.hid hEX; clear hek hnx hl hx hy hx0 hy0 hx1 hy1 hEX
          go_wp2_with fail
          go_region
          all_goals
            go_wp2_with fail
            go_roundw
            case rel => exact ⟨jp, rfl, by omega, by omega, HEX.out⟩
            case measure => simp [intOf] <;> omega
        · obtain rfl : i = kk := by omega
          have v3 : ¬ (i : Int) < (i : Int) := by omega
          have HS := Lib.hid S; clear S
          go_wp2_with fail
          go_end0
          exact ⟨rfl, _, HS.out, HE.out⟩
end StbSpan
end Go.Proofs.YteailgjiifdgcaaGreatDoor

/- The walks of slices.SortStableFunc at api.Span: symMergeCmpFunc in general. Printed by gen_stc.py. -/
namespace Go.Proofs.YteailgjiifdgcaaGreatDoor
open Go.Shelf Go.RowKit Go.Lib Go.Sort SortM StbA StbB
namespace StbSpan
variable {α : Type} [Inhabited α] {f0 : α → ByteArray} {f1 : α → ByteArray} {w0 : World} {blk off : Nat} {d0 : Array α}
variable {cf : α → α → Int} {g : Nat} {cb : Array Value}
theorem and_no {P Q : Prop} [Decidable P] [Decidable Q] {x y : Bool} (hx : x = decide P) (hy : y = decide Q) (h : (x && y) = false) : ¬ P ∨ ¬ Q := by
  subst hx hy
  by_cases hP : P
  · by_cases hQ : Q
    · simp [hP, hQ] at h
    · exact .inr hQ
  · exact .inl hP
theorem and_yes {P Q : Prop} [Decidable P] [Decidable Q] {x y : Bool} (hx : x = decide P) (hy : y = decide Q) (h : (x && y) = true) : P ∧ Q := by
  subst hx hy
  simp only [Bool.and_eq_true, decide_eq_true_eq] at h
  exact h
/-- what a merge does -/
def MergeOf (cf : α → α → Int) (f : α → List Value) (g : Nat) (cb : Array Value) (w0 : World) (blk off cap : Nat) (d0 : Array α) (n : Nat) : Prop :=
  ∀ (dk : Array α) (w : World) (p u v q : List α) (a m b : Nat), SWK f 2 w0 blk off dk w → dk.toList = p ++ u ++ v ++ q → dk.size = d0.size → Sorted (ltOf cf) u → Sorted (ltOf cf) v → a = p.length → m = a + u.length → b = m + v.length → 0 < u.length → 0 < v.length → b - a ≤ n →
    Calls Tryz.prog 196 #[.slice (some ⟨blk, off, none⟩) d0.size cap, .int .i64 a, .int .i64 m, .int .i64 b, .func (.func g) #[] cb] w (Now f 2 w0 blk off (p ++ ssort (ltOf cf) (u ++ v) ++ q))
/-- the row is that list -/
def At (f : α → List Value) (w0 : World) (blk off : Nat) (l : List α) (w : World) : Prop := ∃ d : Array α, SWK f 2 w0 blk off d w ∧ d.toList = l
set_option linter.unusedSimpArgs false in
set_option maxRecDepth 10000 in
set_option maxHeartbeats 8000000 in
theorem merge_gen {nn : Nat} {dk : Array α} {w : World} (R : RowK (enc f0 f1) 2 w0 blk off d0) (S : SWK (enc f0 f1) 2 w0 blk off dk w) (C : CmpLays Tryz.prog g cb (enc f0 f1) 2 cf blk off d0.size w0) (eg : ∀ args w, (callFunc g args).run Tryz.prog w = .ok (.enter g args) w) (hO : Swo (ltOf cf))
    {p u v q : List α} (hd : dk.toList = p ++ u ++ v ++ q) (hs : dk.size = d0.size) (hu : Sorted (ltOf cf) u) (hv : Sorted (ltOf cf) v) {a m b : Nat} (ha : a = p.length) (hm : m = a + u.length) (hb : b = m + v.length) (h2 : 2 ≤ u.length) (h3 : 2 ≤ v.length) (hn1 : b - a ≤ nn + 1) (cap : Nat) (hn : d0.size ≤ 1000000)
    (IH : MergeOf cf (enc f0 f1) g cb w0 blk off cap d0 nn) :
    Calls Tryz.prog 196 #[.slice (some ⟨blk, off, none⟩) d0.size cap, .int .i64 a, .int .i64 m, .int .i64 b, .func (.func g) #[] cb] w (Now (enc f0 f1) 2 w0 blk off (p ++ ssort (ltOf cf) (u ++ v) ++ q)) := by
  have hbn : b ≤ d0.size := by rw [← hs, ← Array.length_toList, hd]; simp; omega
  obtain ⟨mid, hmid⟩ : ∃ x, x = (a + b) / 2 := ⟨_, rfl⟩
  obtain ⟨n, hnn⟩ : ∃ x, x = mid + m := ⟨_, rfl⟩
  obtain ⟨pn, hpn⟩ : ∃ x, x = n - 1 := ⟨_, rfl⟩
  obtain ⟨lo, hi, hlo⟩ : ∃ lo hi, (mid < m → lo = n - b ∧ hi = mid) ∧ (¬ mid < m → lo = a ∧ hi = m) := by
    by_cases h : mid < m
    · exact ⟨n - b, mid, fun _ => ⟨rfl, rfl⟩, fun h' => absurd h h'⟩
    · exact ⟨a, m, fun h' => absurd h' h, fun _ => ⟨rfl, rfl⟩⟩
  have hb1 : a ≤ lo ∧ lo ≤ hi ∧ hi ≤ m ∧ hi ≤ n ∧ m ≤ n - hi ∧ n - 1 - lo < b ∧ 0 < lo + m := by
    by_cases h : mid < m
    · have := hlo.1 h; omega
    · have := hlo.2 h; omega
  have hM := mono_sym hO (d := dk) (a := a) (m := m) (b := b) (n := n) (lo := lo) (hi := hi) (sortedIx_of hO (p := p) (u := u) (q := v ++ q) (by rw [hd]; simp) hu ha (by omega)) (sortedIx_of hO (p := p ++ u) (u := v) (q := q) hd hv (by simp; omega) (by simp; omega)) hb1.1 hb1.2.2.1 hb1.2.2.2.2.1 hb1.2.2.2.2.2.1 hb1.2.2.2.1
  have hend := fun s (hB : BS (fun c => !ltOf cf dk[n - 1 - c]! dk[c]!) lo hi s s) => sym_cut hO hd hu hv ha hm hb hmid hnn (by omega) hlo hB
  rw [← hpn] at hM hend
  have hB0 := BS.start (fun c => !ltOf cf dk[pn - c]! dk[c]!) hb1.2.1
  obtain ⟨tgt, htg⟩ : ∃ l, l = p ++ ssort (ltOf cf) (u ++ v) ++ q := ⟨_, rfl⟩
  have k1 : IntKind.i64.wrap ((m : Int) - (a : Int)) = (m : Int) - (a : Int) := IntWalk.i64_in _ (by omega)
  have k2 : ((m : Int) - (a : Int) == 1) = false := by rw [beq_eq_false_iff_ne]; omega
  have k3 : IntKind.i64.wrap ((b : Int) - (m : Int)) = (b : Int) - (m : Int) := IntWalk.i64_in _ (by omega)
  have k4 : ((b : Int) - (m : Int) == 1) = false := by rw [beq_eq_false_iff_ne]; omega
  have k5 : IntKind.i64.wrap ((a : Int) + (b : Int)) = (a : Int) + (b : Int) := IntWalk.i64_in _ (by omega)
  have k6 : ((a : Int) + (b : Int)) / 2 = (mid : Int) := by omega
  have k7 : IntKind.i64.wrap ((mid : Int) + (m : Int)) = (n : Int) := by rw [IntWalk.i64_in _ (by omega)]; omega
  have k8 : IntKind.i64.wrap ((n : Int) - 1) = (pn : Int) := by rw [IntWalk.i64_in _ (by omega)]; omega
  have ham : a < m := by omega
  have hmb : m < b := by omega
  have amid : a < mid := by omega
  have midb : mid < b := by omega
  rw [← htg]
  obtain ⟨N, hN⟩ : ∃ N, N = d0.size := ⟨_, rfl⟩
  rw [← hN] at hn hs hbn ⊢
  have IH' : MergeOf cf (enc f0 f1) g cb w0 blk off cap d0 nn := IH
  clear IH
  have hpp : p.length = a := ha.symm
  have HS := Lib.hid S; have HM := Lib.hid hM; have HB0 := Lib.hid hB0; have Hend := Lib.hid hend; have Htg := Lib.hid htg; have Hs := Lib.hid hs; have HN := Lib.hid hN; have HC := Lib.hid C; have HR := Lib.hid R; have HO := Lib.hid hO; have HIH' := Lib.hid IH'; have Hd := Lib.hid hd; have Hu := Lib.hid hu; have Hv := Lib.hid hv; have Ha := Lib.hid ha; have Hm := Lib.hid hm; have Hb := Lib.hid hb; have Hpp := Lib.hid hpp; have Hmid := Lib.hid hmid; have Hnn := Lib.hid hnn; have Hpn := Lib.hid hpn; have Hlo := Lib.hid hlo; have Hb1 := Lib.hid hb1; have Hn1 := Lib.hid hn1; clear S hM hB0 hend htg hs hN C R hO IH' hd hu hv ha hm hb hpp hmid hnn hpn hlo hb1 hn1
  go_enter Tryz.func196, Tryz.ntmps196
  go_upto_if 140 with fail
  clear k1 k2 k3 k4 k5 k6
  go_cut [20, 21] from 141 to 146 (fun x y wx => x = .int .i64 lo ∧ y = .int .i64 hi ∧ wx = w)
  case first =>
    by_cases hc : mid < m
    · obtain ⟨e1, e2⟩ := Hlo.out.1 hc
      have k9 : IntKind.i64.wrap ((n : Int) - (b : Int)) = (lo : Int) := by rw [IntWalk.i64_in _ (by have := Hmid.out; have := Hnn.out; omega)]; have := Hmid.out; have := Hnn.out; omega
      have k10 : decide ((mid : Int) < (m : Int)) = true := decide_eq_true (by omega)
      have He1 := Lib.hid e1; have He2 := Lib.hid e2; clear e1 e2
      go_wp2_with fail
      go_meet
      exact ⟨by rw [He1.out], by rw [He2.out], rfl⟩
    · obtain ⟨e1, e2⟩ := Hlo.out.2 hc
      have k10 : decide ((mid : Int) < (m : Int)) = false := decide_eq_false (by omega)
      have He1 := Lib.hid e1; have He2 := Lib.hid e2; clear e1 e2
      go_wp2_with fail
      go_meet
      exact ⟨by rw [He1.out], by rw [He2.out], rfl⟩
  case rest =>
    obtain ⟨rfl, rfl, rfl⟩ := hcut
    go_wp2_with fail
    clear k8
    go_loopw [20, 21] (fun x y wr => ∃ (i j : Nat), x = .int .i64 i ∧ y = .int .i64 j ∧ BS (fun c => !ltOf cf dk[pn - c]! dk[c]!) lo hi i j ∧ SWK (enc f0 f1) 2 w0 blk off dk wr) (fun x y _ => (intOf y).toNat - (intOf x).toNat)
    case atStart => exact ⟨lo, hi, rfl, rfl, HB0.out, HS.out⟩
    case round =>
      obtain ⟨i, j, rfl, rfl, hB, S⟩ := hrel
      have l1 := hB.l1
      have l2 := hB.l2
      have l3 := hB.l3
      by_cases hlt : i < j
      · have R := HR.out
        have C := HC.out
        have hs := Hs.out
        rw [HN.out] at hs
        have hN' := HN.out
        have hbb := Hb1.out
        have hpn := Hpn.out
        have hdks : dk.size = N := Hs.out
        obtain ⟨h, hh⟩ : ∃ h, h = (i + j) / 2 := ⟨_, rfl⟩
        have w1 : IntKind.i64.wrap ((i : Int) + (j : Int)) = (i : Int) + (j : Int) := IntWalk.i64_in _ (by omega)
        have w2 : ((i : Int) + (j : Int)) / 2 = (h : Int) := by omega
        have hpc : pn - h < N := by omega
        have hhc : h < N := by omega
        obtain ⟨p0, _, p1, _⟩ := cells S R hs (pn - h) (by omega)
        obtain ⟨x, hx⟩ : ∃ v, v = dk[pn - h]! := ⟨_, rfl⟩
        rw [← hx] at p0 p1
        obtain ⟨x0, hx0⟩ : ∃ v, v = f0 x := ⟨_, rfl⟩
        rw [← hx0] at p0
        obtain ⟨x1, hx1⟩ : ∃ v, v = f1 x := ⟨_, rfl⟩
        rw [← hx1] at p1
        obtain ⟨q0, _, q1, _⟩ := cells S R hs (h) (by omega)
        obtain ⟨y, hy⟩ : ∃ v, v = dk[h]! := ⟨_, rfl⟩
        rw [← hy] at q0 q1
        obtain ⟨y0, hy0⟩ : ∃ v, v = f0 y := ⟨_, rfl⟩
        rw [← hy0] at q0
        obtain ⟨y1, hy1⟩ : ∃ v, v = f1 y := ⟨_, rfl⟩
        rw [← hy1] at q1
        have hcg : ∀ V, Below wr.heap.size wr V → Calls Tryz.prog g (#[.agg #[.string (x0), .string (x1)], .agg #[.string (y0), .string (y1)]] ++ cb) V fun e w' => e = .returned (.int .i64 (cf x y)) ∧ Below V.heap.size V w' := fun V hV => by rw [hx0, hy0, hx1, hy1]; exact C V (SortR.SRW.below S hV).frm x y
        have hczf : ∀ V, Below wr.heap.size wr V → V.cell? ⟨blk, off + (pn - h) * 2, none⟩ = some (.string (x0)) ∧ V.cell? ⟨blk, off + (pn - h) * 2 + 1, none⟩ = some (.string (x1)) ∧ V.cell? ⟨blk, off + (h) * 2, none⟩ = some (.string (y0)) ∧ V.cell? ⟨blk, off + (h) * 2 + 1, none⟩ = some (.string (y1)) := fun V hV => ⟨cell_later hV p0, cell_later hV p1, cell_later hV q0, cell_later hV q1⟩
        obtain ⟨cv, hcv⟩ : ∃ v, v = cf x y := ⟨_, rfl⟩
        rw [← hcv] at hcg
        have hGR := S
        have hl : (h : Int) < (N : Int) := by omega
        have w3 : IntKind.i64.wrap ((pn : Int) - (h : Int)) = ((pn - h : Nat) : Int) := by rw [IntWalk.i64_in _ (by omega)]; omega
        obtain ⟨ph, hph⟩ : ∃ x, x = pn - h := ⟨_, rfl⟩
        have al : (ph : Int) < (N : Int) := by omega
        rw [← hph] at w3
        rw [← hph] at p0 p1 hczf
        have hij1 : i ≤ h := by omega
        have hij2 : h < j := by omega
        clear S hs R C hN' hbb hpn hdks hpc hhc
        cases hdec : decide (cv < 0) with
        | true =>
          have hB2 := hB.right HM.out hij1 hij2 (by show (!ltOf cf dk[pn - h]! dk[h]!) = false; rw [← hx, ← hy]; unfold ltOf; rw [← hcv, hdec]; rfl)
          have hlv : cv < 0 := of_decide_eq_true hdec
          have hdn : (!decide (cv < 0)) = false := by rw [hdec]; rfl
          have HB := Lib.hid hB; have HB2 := Lib.hid hB2; have Hx := Lib.hid hx; have Hy := Lib.hid hy; have Hx0 := Lib.hid hx0; have Hy0 := Lib.hid hy0; have Hx1 := Lib.hid hx1; have Hy1 := Lib.hid hy1; have HGR := Lib.hid hGR; have Hcg := Lib.hid hcg; have Hczf := Lib.hid hczf; have Hcv := Lib.hid hcv; have Hh := Lib.hid hh; have Hdec := Lib.hid hdec; have Hph := Lib.hid hph; clear hB hB2 hx hy hx0 hy0 hx1 hy1 hGR hcg hczf hcv hh hdec hph
          go_wp2_with fail
          have mixed : Tryz.prog.follows .mixedOrders = true := by kernel_rfl
          have hbz := bel_drewN (Below.refl wr.heap.size wr) 1
          have hcz := Hczf.out _ hbz
          go_region_held3 (fun w' => w'.cell? ⟨blk, off + (ph) * 2, none⟩ = some (.string (x0)) ∧ w'.cell? ⟨blk, off + (ph) * 2 + 1, none⟩ = some (.string (x1)) ∧ w'.cell? ⟨blk, off + (h) * 2, none⟩ = some (.string (y0)) ∧ w'.cell? ⟨blk, off + (h) * 2 + 1, none⟩ = some (.string (y1))) (first | exact hcz | go_keep) (first | (go_at_fn g; refine (Hcg.out _ (by exact hbz)).mono ?_; rintro e wz ⟨rfl, hsz⟩; replace hbz := hbz.trans (hsz.mono hbz.size); replace hcz := Hczf.out _ hbz))
          all_goals
            go_wp2_with fail
            go_roundw
            case rel => exact ⟨i, h, rfl, rfl, HB2.out, HGR.out.below hbz⟩
            case measure => simp [intOf]; omega
        | false =>
          have hB2 := hB.left HM.out hij1 hij2 (by show (!ltOf cf dk[pn - h]! dk[h]!) = true; rw [← hx, ← hy]; unfold ltOf; rw [← hcv, hdec]; rfl)
          have hlv : ¬ cv < 0 := of_decide_eq_false hdec
          have hdn : (!decide (cv < 0)) = true := by rw [hdec]; rfl
          have HB := Lib.hid hB; have HB2 := Lib.hid hB2; have Hx := Lib.hid hx; have Hy := Lib.hid hy; have Hx0 := Lib.hid hx0; have Hy0 := Lib.hid hy0; have Hx1 := Lib.hid hx1; have Hy1 := Lib.hid hy1; have HGR := Lib.hid hGR; have Hcg := Lib.hid hcg; have Hczf := Lib.hid hczf; have Hcv := Lib.hid hcv; have Hh := Lib.hid hh; have Hdec := Lib.hid hdec; have Hph := Lib.hid hph; clear hB hB2 hx hy hx0 hy0 hx1 hy1 hGR hcg hczf hcv hh hdec hph
          go_wp2_with fail
          have mixed : Tryz.prog.follows .mixedOrders = true := by kernel_rfl
          have hbz := bel_drewN (Below.refl wr.heap.size wr) 1
          have hcz := Hczf.out _ hbz
          go_region_held3 (fun w' => w'.cell? ⟨blk, off + (ph) * 2, none⟩ = some (.string (x0)) ∧ w'.cell? ⟨blk, off + (ph) * 2 + 1, none⟩ = some (.string (x1)) ∧ w'.cell? ⟨blk, off + (h) * 2, none⟩ = some (.string (y0)) ∧ w'.cell? ⟨blk, off + (h) * 2 + 1, none⟩ = some (.string (y1))) (first | exact hcz | go_keep) (first | (go_at_fn g; refine (Hcg.out _ (by exact hbz)).mono ?_; rintro e wz ⟨rfl, hsz⟩; replace hbz := hbz.trans (hsz.mono hbz.size); replace hcz := Hczf.out _ hbz))
          all_goals
            go_wp2_with fail
            go_roundw
            case rel => exact ⟨h + 1, j, by go_num, rfl, HB2.out, HGR.out.below hbz⟩
            case measure => simp [intOf]; omega
      · obtain rfl : i = j := by omega
        have hE := Hend.out i hB
        have HB := Lib.hid hB; have HS := Lib.hid S; have HE := Lib.hid hE; clear hB S hE
        obtain ⟨x1, x2, y1, y2, e1, e2, e3, e4, e5⟩ := HE.out
        have hwn : IntKind.i64.wrap ((n : Int) - (i : Int)) = ((n - i : Nat) : Int) := by
          have := Hb1.out; have := Hnn.out; have := Hmid.out
          rw [IntWalk.i64_in _ (by omega)]; omega
        have c1 : i < m ↔ 0 < x2.length := by
          have := Hm.out; rw [e1, List.length_append] at this; omega
        have c2 : m < n - i ↔ 0 < y1.length := by omega
        have hln : x1.length + y1.length = mid - a := by have := Hnn.out; omega
        have c3 : a < i ↔ 0 < x1.length := by omega
        have c4 : i < mid ↔ 0 < y1.length := by omega
        have hlv : m + (y1.length + y2.length) = b := by have := Hb.out; rw [e2, List.length_append] at this; omega
        have hlu : a + (x1.length + x2.length) = m := by have := Hm.out; rw [e1, List.length_append] at this; omega
        have c5 : mid < n - i ↔ 0 < x2.length := by have := Hnn.out; omega
        have c6 : n - i < b ↔ 0 < y2.length := by omega
        obtain ⟨en, hen⟩ : ∃ x, x = n - i := ⟨_, rfl⟩
        rw [← hen] at hwn c2 c5 c6 e4
        -- the rotation
        have A0 : ∀ wr, SWK (enc f0 f1) 2 w0 blk off dk wr → 0 < x2.length → 0 < y1.length → Calls Tryz.prog 212 #[.slice (some ⟨blk, off, none⟩) N cap, .int .i64 i, .int .i64 m, .int .i64 en, .func (.func g) #[] cb] wr (Now (enc f0 f1) 2 w0 blk off (p ++ x1 ++ y1 ++ x2 ++ (y2 ++ q))) := fun wr S h1 h2 => by
          have := rotate_any (p := p ++ x1) (u := x2) (v := y1) (q := y2 ++ q) (a := i) (m := m) (b := en) HR.out S (by rw [Hd.out, e1, e2]; simp) (by rw [Hs.out, HN.out]) (by rw [List.length_append, Hpp.out]; omega) (by omega) (by omega) h1 h2 cap (by rw [← HN.out]; exact hn) (.func (.func g) #[] cb)
          rw [← HN.out] at this
          exact this
        have A1 : (¬ 0 < x2.length ∨ ¬ 0 < y1.length) → At (enc f0 f1) w0 blk off (p ++ x1 ++ y1 ++ x2 ++ (y2 ++ q)) wr := fun h => by
          refine ⟨dk, HS.out, ?_⟩
          rw [Hd.out, e1, e2]
          rcases h with h | h
          · have : x2 = [] := List.eq_nil_of_length_eq_zero (by omega)
            subst this; simp
          · have : y1 = [] := List.eq_nil_of_length_eq_zero (by omega)
            subst this; simp
        have hsz : ∀ d : Array α, d.toList = p ++ x1 ++ y1 ++ x2 ++ (y2 ++ q) → d.size = d0.size := fun d h => by
          rw [← HN.out, ← Hs.out, ← Array.length_toList, ← Array.length_toList, h, Hd.out, e1, e2]
          simp only [List.length_append]; omega
        have hsz2 : ∀ d : Array α, d.toList = p ++ ssort (ltOf cf) (x1 ++ y1) ++ x2 ++ (y2 ++ q) → d.size = d0.size := fun d h => by
          rw [← HN.out, ← Hs.out, ← Array.length_toList, ← Array.length_toList, h, Hd.out, e1, e2]
          simp only [List.length_append, ssort_len HO.out]; omega
        have su : Sorted (ltOf cf) x1 ∧ Sorted (ltOf cf) x2 := by have := Hu.out; rw [e1] at this; exact ⟨(List.pairwise_append.1 this).1, (List.pairwise_append.1 this).2.1⟩
        have sv : Sorted (ltOf cf) y1 ∧ Sorted (ltOf cf) y2 := by have := Hv.out; rw [e2] at this; exact ⟨(List.pairwise_append.1 this).1, (List.pairwise_append.1 this).2.1⟩
        have B0 : ∀ wr, At (enc f0 f1) w0 blk off (p ++ x1 ++ y1 ++ x2 ++ (y2 ++ q)) wr → 0 < x1.length → 0 < y1.length → Calls Tryz.prog 196 #[.slice (some ⟨blk, off, none⟩) N cap, .int .i64 a, .int .i64 i, .int .i64 mid, .func (.func g) #[] cb] wr (Now (enc f0 f1) 2 w0 blk off (p ++ ssort (ltOf cf) (x1 ++ y1) ++ (x2 ++ (y2 ++ q)))) := fun wr ⟨d, S, h⟩ h1 h2 => by
          have := HIH'.out d wr p x1 y1 (x2 ++ (y2 ++ q)) a i mid S (by rw [h]; simp) (hsz d h) su.1 sv.1 Hpp.out.symm (by omega) (by omega) h1 h2 (by have := Hn1.out; omega)
          rw [← HN.out] at this
          exact this
        have B1 : ∀ wr, At (enc f0 f1) w0 blk off (p ++ x1 ++ y1 ++ x2 ++ (y2 ++ q)) wr → (¬ 0 < x1.length ∨ ¬ 0 < y1.length) → At (enc f0 f1) w0 blk off (p ++ ssort (ltOf cf) (x1 ++ y1) ++ (x2 ++ (y2 ++ q))) wr := fun wr ⟨d, S, h⟩ h1 => by
          refine ⟨d, S, ?_⟩
          rw [h]
          rcases h1 with h1 | h1
          · have : x1 = [] := List.eq_nil_of_length_eq_zero (by omega)
            subst this; simp only [List.append_nil, List.nil_append, ssort_id HO.out sv.1, List.append_assoc]
          · have : y1 = [] := List.eq_nil_of_length_eq_zero (by omega)
            subst this; simp only [List.append_nil, List.nil_append, ssort_id HO.out su.1, List.append_assoc]
        have D0 : ∀ wr, At (enc f0 f1) w0 blk off (p ++ ssort (ltOf cf) (x1 ++ y1) ++ (x2 ++ (y2 ++ q))) wr → 0 < x2.length → 0 < y2.length → Calls Tryz.prog 196 #[.slice (some ⟨blk, off, none⟩) N cap, .int .i64 mid, .int .i64 en, .int .i64 b, .func (.func g) #[] cb] wr (Now (enc f0 f1) 2 w0 blk off tgt) := fun wr ⟨d, S, h⟩ h1 h2 => by
          have := HIH'.out d wr (p ++ ssort (ltOf cf) (x1 ++ y1)) x2 y2 q mid en b S (by rw [h]; simp) (hsz2 d (by rw [h]; simp)) su.2 sv.2 (by rw [List.length_append, ssort_len HO.out, List.length_append, Hpp.out]; omega) (by omega) (by omega) h1 h2 (by have := Hn1.out; omega)
          rw [← HN.out] at this
          rw [Htg.out, e5]
          simpa using this
        have D1 : ∀ wr, At (enc f0 f1) w0 blk off (p ++ ssort (ltOf cf) (x1 ++ y1) ++ (x2 ++ (y2 ++ q))) wr → (¬ 0 < x2.length ∨ ¬ 0 < y2.length) → At (enc f0 f1) w0 blk off tgt wr := fun wr ⟨d, S, h⟩ h1 => by
          refine ⟨d, S, ?_⟩
          rw [h, Htg.out, e5]
          rcases h1 with h1 | h1
          · have : x2 = [] := List.eq_nil_of_length_eq_zero (by omega)
            subst this; simp only [List.append_nil, List.nil_append, ssort_id HO.out sv.2, List.append_assoc]
          · have : y2 = [] := List.eq_nil_of_length_eq_zero (by omega)
            subst this; simp only [List.append_nil, List.nil_append, ssort_id HO.out su.2, List.append_assoc]
        -- which of the parts hold elements
        obtain ⟨X1, hX1⟩ : ∃ c, c = decide (0 < x1.length) := ⟨_, rfl⟩
        obtain ⟨X2, hX2⟩ : ∃ c, c = decide (0 < x2.length) := ⟨_, rfl⟩
        obtain ⟨Y1, hY1⟩ : ∃ c, c = decide (0 < y1.length) := ⟨_, rfl⟩
        obtain ⟨Y2, hY2⟩ : ∃ c, c = decide (0 < y2.length) := ⟨_, rfl⟩
        have g1 : decide ((i : Int) < (m : Int)) = X2 := by rw [hX2]; exact decide_eq_decide.2 (by omega)
        have g2 : decide ((m : Int) < (en : Int)) = Y1 := by rw [hY1]; exact decide_eq_decide.2 (by omega)
        have g3 : decide ((a : Int) < (i : Int)) = X1 := by rw [hX1]; exact decide_eq_decide.2 (by omega)
        have g4 : decide ((i : Int) < (mid : Int)) = Y1 := by rw [hY1]; exact decide_eq_decide.2 (by omega)
        have g5 : decide ((mid : Int) < (en : Int)) = X2 := by rw [hX2]; exact decide_eq_decide.2 (by omega)
        have g6 : decide ((en : Int) < (b : Int)) = Y2 := by rw [hY2]; exact decide_eq_decide.2 (by omega)
        have r1 : decide (i < m) = X2 := by rw [hX2]; exact decide_eq_decide.2 (by omega)
        have r2 : decide (m < en) = Y1 := by rw [hY1]; exact decide_eq_decide.2 (by omega)
        have r3 : decide (a < i) = X1 := by rw [hX1]; exact decide_eq_decide.2 (by omega)
        have r4 : decide (i < mid) = Y1 := by rw [hY1]; exact decide_eq_decide.2 (by omega)
        have r5 : decide (mid < en) = X2 := by rw [hX2]; exact decide_eq_decide.2 (by omega)
        have r6 : decide (en < b) = Y2 := by rw [hY2]; exact decide_eq_decide.2 (by omega)
        clear c1 c2 c3 c4 c5 c6 e1 e2 e3 e4 e5 hln hlv hlu l1 l2 l3 hlt
        have HA0 := Lib.hid A0; have HA1 := Lib.hid A1; have HB0 := Lib.hid B0; have HB1 := Lib.hid B1; have HD0 := Lib.hid D0; have HD1 := Lib.hid D1; have HX1 := Lib.hid hX1; have HX2 := Lib.hid hX2; have HY1 := Lib.hid hY1; have HY2 := Lib.hid hY2; have Hsz := Lib.hid hsz; have Hsz2 := Lib.hid hsz2; have Hsu := Lib.hid su; have Hsv := Lib.hid sv; have Hen := Lib.hid hen; clear A0 A1 B0 B1 D0 D1 hX1 hX2 hY1 hY2 hsz hsz2 su sv hen
        go_upto_region 39 with fail
        go_cut [185] from 178 to 185 (fun x wx => x = .bool (X2 && Y1) ∧ wx = wr)
        case first => cases X2 <;> cases Y1 <;> (go_wp2_with fail; go_meet; exact ⟨rfl, rfl⟩)
        case rest =>
        obtain ⟨rfl, rfl⟩ := hcut
        go_upto_if 185 with fail
        go_cut [] from 178 to 191 (fun wx => At (enc f0 f1) w0 blk off (p ++ x1 ++ y1 ++ x2 ++ (y2 ++ q)) wx)
        case first =>
          cases hc : (X2 && Y1) with
          | true =>
            have hc2 := HA0.out _ HS.out (and_yes HX2.out HY1.out hc).1 (and_yes HX2.out HY1.out hc).2
            have Hc := Lib.hid hc; have Hc2 := Lib.hid hc2; clear hc hc2
            go_wp2_with fail
            refine Hc2.out.mono ?_
            rintro e w2 ⟨rfl, hw2⟩
            have Hw2 := Lib.hid hw2; clear hw2
            go_wp2_with fail
            go_meet
            exact Hw2.out
          | false =>
            have hc2 := HA1.out (and_no HX2.out HY1.out hc)
            have Hc := Lib.hid hc; have Hc2 := Lib.hid hc2; clear hc hc2
            go_wp2_with fail
            go_meet
            exact Hc2.out
        case rest =>
        have hA := hcut
        clear hcut
        have HA := Lib.hid hA; clear hA
        go_upto_region 41 with fail
        go_cut [199] from 192 to 199 (fun x wx => x = .bool (X1 && Y1) ∧ wx = wc)
        case first => cases X1 <;> cases Y1 <;> (go_wp2_with fail; go_meet; exact ⟨rfl, rfl⟩)
        case rest =>
        obtain ⟨rfl, rfl⟩ := hcut
        go_upto_if 199 with fail
        go_cut [] from 192 to 205 (fun wx => At (enc f0 f1) w0 blk off (p ++ ssort (ltOf cf) (x1 ++ y1) ++ (x2 ++ (y2 ++ q))) wx)
        case first =>
          cases hc : (X1 && Y1) with
          | true =>
            have hc2 := HB0.out _ HA.out (and_yes HX1.out HY1.out hc).1 (and_yes HX1.out HY1.out hc).2
            have Hc := Lib.hid hc; have Hc2 := Lib.hid hc2; clear hc hc2
            go_wp2_with fail
            refine Hc2.out.mono ?_
            rintro e w2 ⟨rfl, hw2⟩
            have Hw2 := Lib.hid hw2; clear hw2
            go_wp2_with fail
            go_meet
            exact Hw2.out
          | false =>
            have hc2 := HB1.out _ HA.out (and_no HX1.out HY1.out hc)
            have Hc := Lib.hid hc; have Hc2 := Lib.hid hc2; clear hc hc2
            go_wp2_with fail
            go_meet
            exact Hc2.out
        case rest =>
        have hB := hcut
        clear hcut
        have HB := Lib.hid hB; clear hB
        go_upto_region 43 with fail
        go_cut [213] from 206 to 213 (fun x wx => x = .bool (X2 && Y2) ∧ wx = wc)
        case first => cases X2 <;> cases Y2 <;> (go_wp2_with fail; go_meet; exact ⟨rfl, rfl⟩)
        case rest =>
        obtain ⟨rfl, rfl⟩ := hcut
        go_upto_if 213 with fail
        cases hc : (X2 && Y2) with
        | true =>
          have hc2 := HD0.out _ HB.out (and_yes HX2.out HY2.out hc).1 (and_yes HX2.out HY2.out hc).2
          have Hc := Lib.hid hc; have Hc2 := Lib.hid hc2; clear hc hc2
          go_wp2_with fail
          refine Hc2.out.mono ?_
          rintro e w2 ⟨rfl, hw2⟩
          have Hw2 := Lib.hid hw2; clear hw2
          go_wp2_with fail
          go_end0
          exact ⟨rfl, Hw2.out⟩
        | false =>
          have hc2 := HD1.out _ HB.out (and_no HX2.out HY2.out hc)
          have Hc := Lib.hid hc; have Hc2 := Lib.hid hc2; clear hc hc2
          go_wp2_with fail
          go_end0
          exact ⟨rfl, Hc2.out⟩
end StbSpan
end Go.Proofs.YteailgjiifdgcaaGreatDoor
