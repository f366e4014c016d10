/- Walks and plain facts. Texts merged: Conc, OwnK, VarE, VarF, IdxSet, VarV, VarT, Rec, ChkF, BothA, Comp, CnfM, CnfW, IdxInt. Condition: none beyond what each says. -/
import Derived.Lib.AppendZerosOnto
import Derived.Laws.Append
import Derived.Shelf.SlSortCmp.KitK
import Derived.Laws.StructEq
import Derived.Test.YtnelgellbabkoaaRows
import Derived.Lib.SlicesCompact
import Derived.Sort.LotA
import Derived.Lib.Small
import Derived.RowKit
import Derived.Sort.Grow
import Derived.Test.YtnelgellbabkoaaVariantBothAll1
import Derived.Test.YtnelgellbabkoaaVariantBothAll2
import Derived.Test.YtnelgellbabkoaaVariantBothAll3
/- The walks of slices.Grow (of nothing) and slices.Concat (of two) at settings. Condition: at most a million. -/
namespace Go.Proofs.Ytnelgellbabkoaa
open Go.RowKit

def GrowPost (w : World) (e : Ending) (w' : World) : Prop := ∃ o, e = .returned o ∧ w'.ownsRow w.heap.size 38 2 o 0 [] ∧ Below w.heap.size w w'
set_option maxRecDepth 10000 in
set_option maxHeartbeats 2000000 in
theorem growSet_any (n : Nat) (hn : n ≤ 1000000) (w : World) : Calls Try.prog 121 #[.slice none 0 0, .int .i64 n] w (GrowPost w) := by
  obtain ⟨i0, hi, hz, hsz, hby⟩ := info_parts elem_set.info
  by_cases h0 : n = 0
  · subst h0
    clear hi hz hsz hby
    go_enter Try.func121, Try.ntmps121
    go_wp2_with fail
    go_ret
    exact ⟨_, rfl, World.ownsRow_nil _ _ _ _, Below.refl _ _⟩
  · have hrz : ∀ ty, (Builtin.append_ #[36, 3] ty #[.slice none 0 0, .int .i64 (n : Int)]).run Try.prog w =
      .ok (.slice (some ⟨w.heap.size, 0, none⟩) n (grownCap w n 0 38)) (w.drew.alloc (.cells (#[] ++ Builtin.zeroCells (Value.agg #[.string ⟨#[]⟩, .string ⟨#[]⟩]).cells n ++ Builtin.zeroCells (Value.agg #[.string ⟨#[]⟩, .string ⟨#[]⟩]).cells (grownCap w n 0 38 - n)) 38)) := fun ty => by
      have h := Lib.run_append_grow_zeros w 36 3 ty 38 i0 _ .i64 .i64 Try.underlying36 Try.underlying3 hi hz none 0 0 [] (run_firstCells_none w.drew i0.size 0 0 0) n (by omega) (by rw [hsz]; decide) (by omega) (by omega) (by rw [hby]; omega) (by rw [Nat.zero_add]; exact growslice_fits (by omega) (by rw [hby]; omega))
      rw [Nat.zero_add] at h
      exact h
    have hG1 : n ≤ grownCap w n 0 38 := grownCap_ge w _ _ _
    have hG2 : grownCap w n 0 38 ≤ maxLen := grownCap_le_maxLen w n 0 _ (by unfold maxLen; omega)
    obtain ⟨G, hG⟩ : ∃ G, G = grownCap w n 0 38 := ⟨_, rfl⟩
    rw [← hG] at hrz hG1 hG2
    obtain ⟨Z, hZ⟩ : ∃ Z, Z = (#[] ++ Builtin.zeroCells (Value.agg #[.string ⟨#[]⟩, .string ⟨#[]⟩]).cells n ++ Builtin.zeroCells (Value.agg #[.string ⟨#[]⟩, .string ⟨#[]⟩]).cells (G - n)) := ⟨_, rfl⟩
    have hZs : Z.size = G * 2 := by
      rw [hZ]
      simp only [Array.size_append, size_zeroCells, Value.cells, List.size_toArray, Array.size_empty]
      show 0 + n * 2 + (G - n) * 2 = G * 2
      omega
    rw [← hZ] at hrz
    have hG63 : G ≤ 9223372036854775807 := by unfold maxLen at hG2; exact hG2
    have hpos : (0 : Int) < (n : Int) := by omega
    clear hi hz hsz hby
    have HG := Lib.hid hG; have HZ := Lib.hid hZ; have HZs := Lib.hid hZs; have HG2 := Lib.hid hG2; have H0 := Lib.hid h0; clear hG hZ hZs hG2 h0
    go_enter Try.func121, Try.ntmps121
    go_wp2_with (at_builtin; refine Lib.wpList_append_run _ rfl _ _ _ _ rfl _ _ rfl rfl _ _ (hrz _) ?_)
    all_goals
      go_ret
      refine ⟨_, rfl, ⟨by simp, .inr ⟨_, G, Z, rfl, Nat.le_refl _, ?_, by omega, HG2.out, HZs.out, by simp⟩⟩, ?_⟩
      · exact heap_alloc_new _ _
      · exact bel_drewN (below_alloc1 w _) 1
def ConcPost (w : World) (l : List Setg) (e : Ending) (w' : World) : Prop := ∃ o, e = .returned o ∧ w'.ownsRow w.heap.size 38 2 o l.length (l.flatMap setCells) ∧ Below w.heap.size w w'
set_option maxRecDepth 10000 in
set_option maxHeartbeats 4000000 in
theorem concSet_any {w : World} {g : Nat} {u v : Value} {a b : List Setg} (hg : w.heap[g]? = some (.cells #[u, v] 36 (0, 0))) (ha : RSets w [u] a) (hb : RSets w [v] b) (hla : a.length ≤ 400000) (hlb : b.length ≤ 400000) :
    Calls Try.prog 94 #[.slice (some ⟨g, 0, none⟩) 2 2] w (ConcPost w (a ++ b)) := by
  obtain ⟨Aa, Ca, rfl⟩ := sets_shape ha
  obtain ⟨Ab, Cb, rfl⟩ := sets_shape hb
  have hNwa := sets_news ha
  have hNwb := sets_news hb
  have c0 := cells_at hg 0
  have c1 := cells_at hg 1
  simp only [List.getElem?_toArray, List.getElem?_cons_succ, List.getElem?_cons_zero] at c0 c1
  have hG := growSet_any (a.length + b.length) (by omega) w
  obtain ⟨na, hna⟩ : ∃ n, n = a.length := ⟨_, rfl⟩
  obtain ⟨nb, hnb⟩ : ∃ n, n = b.length := ⟨_, rfl⟩
  rw [← hna] at c0 hG
  rw [← hnb] at c1 hG
  rw [show ((na + nb : Nat) : Int) = (na : Int) + (nb : Int) by omega] at hG
  have hc0 := c0
  have hc1 := c1
  have w1 : IntKind.i64.wrap ((na : Int) + (nb : Int)) = (na : Int) + (nb : Int) := IntWalk.i64_in _ (by omega)
  have w0 : IntKind.i64.wrap (na : Int) = (na : Int) := IntWalk.i64_in _ (by omega)
  have p0 : ¬ (na : Int) < 0 := by omega
  have p1 : ¬ (na : Int) + (nb : Int) < 0 := by omega
  clear hg
  have Ha := Lib.hid ha; have Hb := Lib.hid hb; have HNwa := Lib.hid hNwa; have HNwb := Lib.hid hNwb; have HG := Lib.hid hG; have Hna := Lib.hid hna; have Hnb := Lib.hid hnb; have Hc0 := Lib.hid hc0; have Hc1 := Lib.hid hc1; have Hla := Lib.hid hla; have Hlb := Lib.hid hlb; clear ha hb hNwa hNwb hG hna hnb hc0 hc1 hla hlb
  go_enter Try.func94, Try.ntmps94
  go_wp2_with fail
  refine wp_loop_rounds 3 ?_
  rw [rounds_succ]
  go_wp2_with fail
  rw [rounds_succ]
  go_wp2_with fail
  rw [rounds_succ]
  go_wp2_with fail
  refine HG.out.mono ?_
  rintro e W ⟨o, rfl, hown, hbw⟩
  clear c0 c1 w0 w1 p0 p1
  have Hown := Lib.hid hown; have Hbw := Lib.hid hbw; clear hown hbw
  go_wp2_with fail
  go_loopw [6, 27] (fun x y wr => ∃ (k : Nat) (o : Value) (l : List Setg), x = o ∧ y = .int .i64 k ∧ ((k = 0 ∧ l = []) ∨ (k = 1 ∧ l = a) ∨ (k = 2 ∧ l = a ++ b)) ∧ wr.ownsRow w.heap.size 38 2 o l.length (l.flatMap setCells) ∧ Below w.heap.size w wr) (fun _ y _ => 3 - (intOf y).toNat)
  case atStart => exact ⟨0, _, [], rfl, rfl, .inl ⟨rfl, rfl⟩, Hown.out, Hbw.out⟩
  case round =>
    obtain ⟨k, o, l, rfl, rfl, hc, hown, hbw⟩ := hrel
    rcases hc with ⟨rfl, rfl⟩ | ⟨rfl, rfl⟩ | ⟨rfl, rfl⟩
    ·
      obtain ⟨m0, hm0⟩ : ∃ m, m = ([] : List Setg).length := ⟨_, rfl⟩
      obtain ⟨N0, hN0⟩ : ∃ m, m = ([] : List Setg).flatMap setCells := ⟨_, rfl⟩
      have hres := hown
      rw [← hm0, ← hN0] at hown
      obtain ⟨oa, oc, rfl⟩ := own_shape hown
      have hNa : ∀ j u, (a.flatMap setCells)[j]? = some u → ∃ b off, Aa = some ⟨b, off, none⟩ ∧ wr.cell? ⟨b, off + j, none⟩ = some u := fun j u hu => by
        obtain ⟨b, off, h1, h2⟩ := HNwa.out j u hu
        exact ⟨b, off, h1, cell_later hbw h2⟩
      have g0 := cell_later hbw Hc0.out
      have hbs : w.heap.size ≤ wr.heap.size := hbw.size
      have hm0b : m0 ≤ 1000000 := by rw [hm0]; have := Hla.out; have := Hlb.out; simp; try omega
      have hsb : na ≤ 1000000 := by have := Hla.out; have := Hlb.out; have := Hna.out; have := Hnb.out; omega
      obtain ⟨NS, hNS⟩ : ∃ NS, NS = a.flatMap setCells := ⟨_, rfl⟩
      have hl1 : NS.length = na * 2 := by rw [hNS, setsFlat_len, ← Hna.out]
      have hone : ∀ u ∈ NS, u.oneCell' = true := by rw [hNS]; exact sets_one a
      rw [← hNS] at hNa
      have Hm0 := Lib.hid hm0; have HN0 := Lib.hid hN0; have Hres := Lib.hid hres; have Hown := Lib.hid hown; have HNa := Lib.hid hNa; have Hbw := Lib.hid hbw; have Hbs := Lib.hid hbs; have HNS := Lib.hid hNS; have Hl1 := Lib.hid hl1; have Hone := Lib.hid hone; clear hm0 hN0 hres hown hNa hbw hbs hNS hl1 hone
      go_wp2_with (at_builtin; (refine wpList_append_from elem_set rfl (.tmp 31) (.tmp 32) rfl w.heap.size (.slice oa m0 oc) m0 N0 rfl Hown.out Aa na Ca NS rfl Hl1.out HNa.out Hone.out (by omega) (by unfold maxLen; omega) Hbs.out ?_; intro v1 w1 hown1 hg1 hm1; have Hown1 := Lib.hid hown1; have Hg1 := Lib.hid hg1; clear hown1 hg1 hm1))
      have hb1 : Below w.heap.size w w1 := bel_own Hbw.out Hown.out (Nat.le_refl _) Hg1.out Hbs.out
      have hown2 : w1.ownsRow w.heap.size 38 2 v1 (a : List Setg).length ((a : List Setg).flatMap setCells) := by
        have h9 := Hown1.out
        rw [HN0.out, HNS.out, Hm0.out, Hna.out] at h9
        simpa using h9
      go_roundw
      case rel => exact ⟨1, v1, a, rfl, rfl, .inr (.inl ⟨rfl, rfl⟩), hown2, hb1⟩
      case measure => simp [intOf]
    ·
      obtain ⟨m0, hm0⟩ : ∃ m, m = (l : List Setg).length := ⟨_, rfl⟩
      obtain ⟨N0, hN0⟩ : ∃ m, m = (l : List Setg).flatMap setCells := ⟨_, rfl⟩
      have hres := hown
      rw [← hm0, ← hN0] at hown
      obtain ⟨oa, oc, rfl⟩ := own_shape hown
      have hNb : ∀ j u, (b.flatMap setCells)[j]? = some u → ∃ b off, Ab = some ⟨b, off, none⟩ ∧ wr.cell? ⟨b, off + j, none⟩ = some u := fun j u hu => by
        obtain ⟨b, off, h1, h2⟩ := HNwb.out j u hu
        exact ⟨b, off, h1, cell_later hbw h2⟩
      have g0 := cell_later hbw Hc1.out
      have hbs : w.heap.size ≤ wr.heap.size := hbw.size
      have hm0b : m0 ≤ 1000000 := by rw [hm0]; have := Hla.out; have := Hlb.out; simp; try omega
      have hsb : nb ≤ 1000000 := by have := Hla.out; have := Hlb.out; have := Hna.out; have := Hnb.out; omega
      obtain ⟨NS, hNS⟩ : ∃ NS, NS = b.flatMap setCells := ⟨_, rfl⟩
      have hl1 : NS.length = nb * 2 := by rw [hNS, setsFlat_len, ← Hnb.out]
      have hone : ∀ u ∈ NS, u.oneCell' = true := by rw [hNS]; exact sets_one b
      rw [← hNS] at hNb
      have Hm0 := Lib.hid hm0; have HN0 := Lib.hid hN0; have Hres := Lib.hid hres; have Hown := Lib.hid hown; have HNb := Lib.hid hNb; have Hbw := Lib.hid hbw; have Hbs := Lib.hid hbs; have HNS := Lib.hid hNS; have Hl1 := Lib.hid hl1; have Hone := Lib.hid hone; clear hm0 hN0 hres hown hNb hbw hbs hNS hl1 hone
      go_wp2_with (at_builtin; (refine wpList_append_from elem_set rfl (.tmp 31) (.tmp 32) rfl w.heap.size (.slice oa m0 oc) m0 N0 rfl Hown.out Ab nb Cb NS rfl Hl1.out HNb.out Hone.out (by omega) (by unfold maxLen; omega) Hbs.out ?_; intro v1 w1 hown1 hg1 hm1; have Hown1 := Lib.hid hown1; have Hg1 := Lib.hid hg1; clear hown1 hg1 hm1))
      have hb1 : Below w.heap.size w w1 := bel_own Hbw.out Hown.out (Nat.le_refl _) Hg1.out Hbs.out
      have hown2 : w1.ownsRow w.heap.size 38 2 v1 (l ++ b : List Setg).length ((l ++ b : List Setg).flatMap setCells) := by
        have h9 := Hown1.out
        rw [HN0.out, HNS.out, Hm0.out, Hnb.out] at h9
        simpa using h9
      go_roundw
      case rel => exact ⟨2, v1, l ++ b, rfl, rfl, .inr (.inr ⟨rfl, rfl⟩), hown2, hb1⟩
      case measure => simp [intOf]
    · obtain ⟨oa, oc, rfl⟩ := own_shape hown
      have Hown := Lib.hid hown; have Hbw := Lib.hid hbw; clear hown hbw
      go_wp2_with fail
      go_ret
      exact ⟨_, rfl, Hown.out, Hbw.out⟩
end Go.Proofs.Ytnelgellbabkoaa

/- A bridge between a row that a call owns and the sort's words on rows, at elements of k cells. -/
namespace Go.Proofs.Ytnelgellbabkoaa
open Go.Shelf Go.RowKit Go.Lib Go.Sort
variable {α : Type} [Inhabited α]

omit [Inhabited α] in
theorem flatMap_len {enc : α → List Value} {k : Nat} (hk : ∀ x, (enc x).length = k) : ∀ l : List α, (l.flatMap enc).length = l.length * k
  | [] => by simp
  | x :: l => by rw [List.flatMap_cons, List.length_append, flatMap_len hk l, hk, List.length_cons, Nat.succ_mul]; omega
theorem flatK_is {enc : α → List Value} {k : Nat} (hk : ∀ x, (enc x).length = k) (k0 : 0 < k) (d : Array α) : (flatK enc k d).toList = d.toList.flatMap enc := by
  apply List.ext_getElem?
  intro t
  by_cases ht : t < d.size * k
  · have hd : t / k < d.size := Nat.div_lt_of_lt_mul (by rwa [Nat.mul_comm])
    have hm : t % k < k := Nat.mod_lt _ k0
    have e := flat_get enc k hk d.toList (t / k) (by simpa using hd) (t % k) hm
    rw [Nat.div_add_mod'] at e
    rw [e, Array.getElem?_toList, getElem?_pos _ t (by simpa using ht)]
    have g := get_flatK enc k d t ht
    rw [getElem!_pos _ t (by simpa using ht)] at g
    rw [g, getElem!_pos d _ hd, Array.getElem_toList, getElem!_pos (enc d[t / k]) _ (by rw [hk]; exact hm), List.getElem?_eq_getElem (by rw [hk]; exact hm)]
  · rw [List.getElem?_eq_none (by simpa using Nat.le_of_not_lt ht), List.getElem?_eq_none (by rw [flatMap_len hk]; simpa using Nat.le_of_not_lt ht)]
theorem rowK_of_owns {enc : α → List Value} {k : Nat} (hk : ∀ x, (enc x).length = k) (h1 : ∀ x, ∀ v ∈ enc x, v.oneCell' = true) (k0 : 0 < k) {w : World} {base g n cap : Nat} {e : TypeId} {l : List α} (h : w.ownsRow base e k (.slice (some ⟨g, 0, none⟩) n cap) n (l.flatMap enc)) (hn : l.length = n) : RowK enc k w g 0 l.toArray := by
  refine ⟨hk, h1, fun j hj => ?_, (h.lt g rfl).2⟩
  have hj' : j < n * k := by rw [← hn]; simpa using hj
  refine ⟨?_, by rw [Nat.zero_add]; exact h.frozenAt j⟩
  rw [Nat.zero_add, h.cellAt j hj']
  have := flatK_is hk k0 l.toArray
  rw [← this, Array.getElem?_toList, getElem?_pos _ j hj, getElem!_pos _ j hj]
  rfl
theorem owns_of_swk {enc : α → List Value} {k : Nat} (hk : ∀ x, (enc x).length = k) (k0 : 0 < k) {w w' : World} {base g n cap : Nat} {e : TypeId} {l : List α} {d : Array α} (h : w.ownsRow base e k (.slice (some ⟨g, 0, none⟩) n cap) n (l.flatMap enc)) (S : SWK enc k w g 0 d w') (hs : d.size = n) :
    w'.ownsRow base e k (.slice (some ⟨g, 0, none⟩) n cap) n (d.toList.flatMap enc) ∧ ∀ w0, Below base w0 w → base ≤ w.heap.size → Below base w0 w' := by
  obtain ⟨m, os, rfl⟩ := S
  rcases h.2 with ⟨e0, _⟩ | ⟨g', cap', cur, e0, hb, hg, hn, hm, hcs, ht⟩
  · cases e0
  · injection e0 with e1 _ e3
    injection e1 with e1
    injection e1 with e1
    subst e1; subst e3
    have hlt : g < w.heap.size := (Array.getElem?_eq_some_iff.1 hg).1
    unfold sortWorldK putRowK
    refine ⟨⟨by rw [flatMap_len hk]; simp [hs], .inr ⟨g, cap, putCells id 0 (flatK enc k d) cur, rfl, hb, ?_, hn, hm, by simpa [putCells] using hcs, ?_⟩⟩, fun w0 hB hbs => ?_⟩
    · rw [heap_grow_old _ _ (by simp [putRow, mapBlock, Sort.ahead]; exact hlt)]
      simp [putRow, mapBlock, Sort.ahead, Array.getElem?_modify, hg, onCells]
    · rw [← flatK_is hk k0]
      have hle : n * k ≤ cap * k := Nat.mul_le_mul_right _ hn
      apply List.ext_getElem?
      intro j
      rw [List.getElem?_take, Array.getElem?_toList, Array.getElem?_toList]
      by_cases hj : j < n * k
      · have hjc : j < cur.size := by omega
        have hjf : j < (flatK enc k d).size := by rw [size_flatK, hs]; exact hj
        simp only [if_pos hj, putCells, Array.getElem?_mapIdx, Array.getElem?_eq_getElem hjc, Option.map_some]
        rw [if_pos ⟨Nat.zero_le _, by omega⟩, Nat.sub_zero, getElem!_pos _ j hjf, getElem?_pos _ j hjf]
        rfl
      · rw [if_neg hj, getElem?_neg _ j (by rw [size_flatK, hs]; exact hj)]
    · refine ⟨hB.os, hB.tape, hB.output, ?_, fun b hb' => ?_⟩
      · have := hB.size
        simp [putRow, mapBlock, Sort.ahead]; omega
      · rw [heap_grow_old _ _ (by simp [putRow, mapBlock, Sort.ahead]; omega), ← hB.block b hb']
        simp [putRow, mapBlock, Sort.ahead, Array.getElem?_modify, show g ≠ b by omega]
/-- the first elements of a row that a call owns -/
theorem owns_take {enc : α → List Value} {k : Nat} (hk : ∀ x, (enc x).length = k) {w : World} {base g n cap : Nat} {e : TypeId} {l : List α} (h : w.ownsRow base e k (.slice (some ⟨g, 0, none⟩) n cap) n (l.flatMap enc)) (hl : l.length = n) (m : Nat) (hm : m ≤ n) : w.ownsRow base e k (.slice (some ⟨g, 0, none⟩) m cap) m ((l.take m).flatMap enc) := by
  rcases h.2 with ⟨e0, _⟩ | ⟨g', cap', cur, e0, hb, hg, hn, hmx, hcs, ht⟩
  · cases e0
  · injection e0 with e1 _ e3
    injection e1 with e1
    injection e1 with e1
    subst e1; subst e3
    have hmk : m * k ≤ n * k := Nat.mul_le_mul_right _ hm
    refine ⟨by rw [flatMap_len hk, List.length_take, Nat.min_eq_left (by omega)], .inr ⟨g, cap, cur, rfl, hb, hg, by omega, hmx, hcs, ?_⟩⟩
    have e5 : (l.take m).flatMap enc = (l.flatMap enc).take (m * k) := by
      have e6 : l.flatMap enc = (l.take m).flatMap enc ++ (l.drop m).flatMap enc := by rw [← List.flatMap_append, List.take_append_drop]
      have e7 : ((l.take m).flatMap enc).length = m * k := by rw [flatMap_len hk, List.length_take, Nat.min_eq_left (by omega)]
      rw [e6, ← e7]
      exact List.take_left.symm
    rw [e5, ← ht, List.take_take, Nat.min_eq_left hmk]
/-- cells behind the row's own are written -/
theorem owns_setCells {k : Nat} {base g n cap : Nat} {e : TypeId} {xs : List Value} : ∀ (vs : List Value) (o : Nat) (w : World), w.ownsRow base e k (.slice (some ⟨g, 0, none⟩) n cap) n xs → xs.length ≤ o → base ≤ w.heap.size →
    (w.setCells g o vs).ownsRow base e k (.slice (some ⟨g, 0, none⟩) n cap) n xs ∧ ∀ w0, Below base w0 w → Below base w0 (w.setCells g o vs)
  | [], _, w, h, _, _ => ⟨h, fun _ hb => hb⟩
  | v :: vs, o, w, h, ho, hbs => by
    have h1 := h.stored o v
    rw [List.set_eq_of_length_le ho] at h1
    have h2 := owns_setCells vs (o + 1) _ h1.1 (by omega) (Nat.le_trans hbs h1.2.size)
    refine ⟨h2.1, fun w0 hb => h2.2 w0 ?_⟩
    exact hb.grown h1.2 hbs fun k hk => by cases hk; exact (h.lt g rfl).1
end Go.Proofs.Ytnelgellbabkoaa

/- The walk of cooperref04.Legal at settings that are of the variants. Condition: they are. -/
namespace Go.Proofs.Ytnelgellbabkoaa
open Go.RowKit Go.Shelf
attribute [local go_sem ↓] Go.wp_at_zero Go.wp_at_succ

theorem sets_open {w : World} {v : Value} {l : List Setg} (h : RSets w [v] l) : ∃ a cap, v = .slice a l.length cap ∧ l.length ≤ 9223372036854775807 ∧ ∀ i x, l[i]? = some x → ∃ b off, a = some ⟨b, off, none⟩ ∧ w.cell? ⟨b, off + i * 2, none⟩ = some (.string x.1) ∧ w.cell? ⟨b, off + i * 2 + 1, none⟩ = some (.string x.2) ∧ x.1.size ≤ 9223372036854775807 ∧ x.2.size ≤ 9223372036854775807 := by
  obtain ⟨a, cap, hv, hcap, hmax, hel⟩ := h
  simp only [List.cons.injEq, and_true] at hv
  unfold maxLen at hmax
  refine ⟨a, cap, hv, by omega, fun i x hi => ?_⟩
  obtain ⟨b, off, ecs, h1, h2, h3, h4, h5, h6⟩ := hel i x hi
  subst h4
  unfold maxLen at h5 h6
  exact ⟨b, off, h1, by simpa using h3 0 _ rfl, by simpa using h3 1 _ rfl, by omega, by omega⟩
theorem any_take_succ {ys : List ByteArray} {y : ByteArray} {k : Nat} (h : k < ys.length) : ((ys.take (k + 1)).any fun z => decide (z = y)) = (((ys.take k).any fun z => decide (z = y)) || decide (ys[k] = y)) := by
  rw [List.take_succ_eq_append_getElem h, List.any_append]; simp
set_option maxRecDepth 10000 in
set_option maxHeartbeats 2000000 in
theorem legal_yes {w : World} {v u : Value} {l : List Var} {s : List Setg} (h : RVars w [v] l) (hs : RSets w [u] s) (hL : LegalIs l s) : Calls Try.prog 24 #[v, u] w fun e w' => e = .returned (.bool true) ∧ ∃ q, w' = w.drewN q := by
  obtain ⟨a, cap, rfl, hz, g⟩ := vars_open h
  obtain ⟨sa, sc, rfl, hsz, g2⟩ := sets_open hs
  have hlen := hL.len
  obtain ⟨n, hn⟩ : ∃ n, n = l.length := ⟨_, rfl⟩
  rw [← hn] at hz h hlen ⊢
  rw [hlen] at hs ⊢
  have e1 : ((n : Int) == (n : Int)) = true := by simp
  have e2 : ((n : Int) != (n : Int)) = false := by simp
  clear hsz hlen
  have Hh := Lib.hid h; have Hs := Lib.hid hs; have Hg := Lib.hid g; have Hg2 := Lib.hid g2; have Hn := Lib.hid hn; have HL := Lib.hid hL; clear h hs g g2 hn hL
  go_enter Try.func24, Try.ntmps24
  go_wp2_with fail
  go_loopw [15] (fun i wr => ∃ k : Nat, k ≤ n ∧ i = .int .i64 k ∧ ∃ q, wr = w.drewN q) (fun i _ => n - (intOf i).toNat)
  case atStart => exact ⟨0, Nat.zero_le _, rfl, 0, rfl⟩
  case round =>
    obtain ⟨k, hk, rfl, q1, rfl⟩ := hrel
    by_cases hlt : k < n
    · have hkl : k < l.length := by have := Hn.out; omega
      obtain ⟨b, off, u, rfl, d0, d1, hsx, hu⟩ := Hg.out k hkl
      obtain ⟨y, hy, hmem⟩ := HL.out.at' k hkl
      obtain ⟨b2, off2, rfl, c0, c1, hs1, hs2⟩ := Hg2.out k _ hy
      obtain ⟨x, hx⟩ : ∃ x, x = l[k] := ⟨_, rfl⟩
      rw [← hx] at d0 hu hsx hmem c0 hs1
      obtain ⟨ua, uc, rfl, hz2, g3⟩ := strs_open hu
      obtain ⟨m, hm⟩ : ∃ m, m = x.2.length := ⟨_, rfl⟩
      rw [← hm] at d1 hu hz2
      dsimp only at c0 c1 hs1 hs2
      obtain ⟨s, hs⟩ : ∃ s, s = x.1 := ⟨_, rfl⟩
      rw [← hs] at d0 hsx c0 hs1
      have hfin : (x.2.any fun z => decide (z = y)) = true := by rw [List.any_eq_true]; exact ⟨y, hmem, by simp⟩
      have k5 : (0 : Int) ≤ (k : Int) := by omega
      have k6 : (k : Int) < (n : Int) := by omega
      clear hx hkl hy hmem
      have Hu := Lib.hid hu; have Hg3 := Lib.hid g3; have Hm := Lib.hid hm; have Hs := Lib.hid hs; have Hfin := Lib.hid hfin; clear hu g3 hm hs hfin
      go_wp2_with fail
      go_loopw [6, 24] (fun o j wr => ∃ i : Nat, i ≤ m ∧ j = .int .i64 i ∧ o = .bool ((x.2.take i).any fun z => decide (z = y)) ∧ ∃ q, wr = w.drewN q) (fun _ j _ => m - (intOf j).toNat)
      case atStart => exact ⟨0, Nat.zero_le _, rfl, rfl, q1, rfl⟩
      case round =>
        obtain ⟨i, hi, rfl, rfl, q2, rfl⟩ := hrel
        by_cases hlt2 : i < m
        · have hil : i < x.2.length := by have := Hm.out; omega
          obtain ⟨b3, off3, rfl, d2, hys⟩ := Hg3.out i hil
          have hnext := any_take_succ (y := y) hil
          obtain ⟨z, hz3⟩ : ∃ z, z = x.2[i] := ⟨_, rfl⟩
          rw [← hz3] at d2 hys hnext
          obtain ⟨q, hq⟩ : ∃ q, q = ((x.2.take i).any fun z => decide (z = y)) := ⟨_, rfl⟩
          rw [← hq] at hnext ⊢
          obtain ⟨p, hp⟩ : ∃ p, p = decide (z = y) := ⟨_, rfl⟩
          have hpe : (z.toList == y.toList) = p := by rw [hp, ← beq_toListBytes]; exact beq_dec z y
          rw [← hp] at hnext
          have k7 : (0 : Int) ≤ (i : Int) := by omega
          have k8 : (i : Int) < (m : Int) := by omega
          clear hz3 hil
          have Hnext := Lib.hid hnext; have Hq := Lib.hid hq; have Hp := Lib.hid hp; clear hnext hq hp
          cases q with
          | true =>
            go_wp2_with fail
            go_region
            go_wp2_with fail
            go_roundw
            case rel => exact ⟨i + 1, by omega, by go_num, by rw [Hnext.out]; rfl, _, rfl⟩
            case measure => simp [intOf]; omega
          | false =>
            go_wp2_with fail
            go_region
            go_wp2_with fail
            go_roundw
            case rel => exact ⟨i + 1, by omega, by go_num, by rw [Hnext.out]; simp, _, rfl⟩
            case measure => simp [intOf]; omega
        · obtain rfl : m = i := by omega
          have e : x.2.take m = x.2 := List.take_of_length_le (by have := Hm.out; omega)
          rw [e, Hfin.out]
          clear e
          go_wp2_with fail
          go_region
          go_wp2_with fail
          go_roundw
          case rel => exact ⟨k + 1, by omega, by go_num, _, rfl⟩
          case measure => simp [intOf]; omega
    · obtain rfl : n = k := by omega
      go_wp2_with fail
      go_ret
      exact ⟨rfl, _, rfl⟩
end Go.Proofs.Ytnelgellbabkoaa

/- The walk of cooperlaw04.fixed: two variants, their settings. No condition. -/
namespace Go.Proofs.Ytnelgellbabkoaa
open Go.RowKit Go.Shelf
attribute [local go_sem ↓] Go.wp_at_zero Go.wp_at_succ

def ex04 : List Var := [(⟨#[120]⟩, [⟨#[111, 110]⟩, ⟨#[111, 102, 102]⟩]), (⟨#[121]⟩, [⟨#[49]⟩, ⟨#[50]⟩])]
theorem texts_two {W : World} {b : Nat} {s t : ByteArray} {ty : TypeId} {fr : Nat × Nat} (h : W.heap[b]? = some (.cells #[.string s, .string t] ty fr)) (hs : s.size ≤ maxLen) (ht : t.size ≤ maxLen) : RSs W [.slice (some ⟨b, 0, none⟩) 2 2] [s, t] := by
  refine ⟨_, _, rfl, Nat.le_refl _, (by decide : 2 ≤ maxLen), fun i a hi => ?_⟩
  match i, hi with
  | 0, hi => simp at hi; subst hi; exact ⟨b, 0, [.string s], rfl, rfl, fun j u hj => by match j, hj with | 0, hj => simp at hj; subst hj; simpa using cells_at h 0, rfl, hs⟩
  | 1, hi => simp at hi; subst hi; exact ⟨b, 0, [.string t], rfl, rfl, fun j u hj => by match j, hj with | 0, hj => simp at hj; subst hj; simpa using cells_at h 1, rfl, ht⟩
theorem vars_two {W : World} {b : Nat} {s t : ByteArray} {u v : Value} {l m : List ByteArray} {ty : TypeId} {fr : Nat × Nat} (h : W.heap[b]? = some (.cells #[.string s, u, .string t, v] ty fr)) (hs : s.size ≤ maxLen) (ht : t.size ≤ maxLen) (hu : RSs W [u] l) (hv : RSs W [v] m) : RVars W [.slice (some ⟨b, 0, none⟩) 2 2] [(s, l), (t, m)] := by
  refine ⟨_, _, rfl, Nat.le_refl _, (by decide : 2 ≤ maxLen), fun i a hi => ?_⟩
  match i, hi with
  | 0, hi =>
    simp at hi; subst hi
    exact ⟨b, 0, [.string s, u], rfl, rfl, fun j x hj => by
      match j, hj with
      | 0, hj => simp at hj; subst hj; simpa using cells_at h 0
      | 1, hj => simp at hj; subst hj; simpa using cells_at h 1, _, rfl, hs, hu⟩
  | 1, hi =>
    simp at hi; subst hi
    exact ⟨b, 0, [.string t, v], rfl, rfl, fun j x hj => by
      match j, hj with
      | 0, hj => simp at hj; subst hj; simpa using cells_at h 2
      | 1, hj => simp at hj; subst hj; simpa using cells_at h 3, _, rfl, ht, hv⟩
theorem set_eqs (s t a b : ByteArray) (W : World) : (binOp .eql 38 (.agg #[.string s, .string t]) (.agg #[.string a, .string b])).run Try.prog W = .ok (.bool (decide (s = a) && decide (t = b))) W := by
  have u9 := Try.underlying9
  have hS : Try.prog.underlying 38 = some (.struct (Try.prog.fieldsOf 38)) := by kernel_rfl
  have hp : Try.prog.stoodInHeld 38 = false := by kernel_rfl
  rw [run_eql_struct, show (10000 : Nat) = 9999 + 1 from rfl, run_equalIn_agg W 9999 38 _ _ hS hp]
  simp only [Program.fieldsOf, Try.underlying38]
  go_simp
  have e : ∀ x y : ByteArray, (x.toList == y.toList) = decide (x = y) := fun x y => by
    rw [ByteArray.toList_eq, ByteArray.toList_eq]
    by_cases h : x = y
    · subst h; simp
    · have : x.data.toList ≠ y.data.toList := fun e => h (ByteArray.ext (Array.ext' e))
      simpa [h] using fun e => this (congrArg Array.toList e)
  have e1 := e s a
  have e2 := e t b
  by_cases h1 : s = a <;> by_cases h2 : t = b <;> simp [h1, h2] at e1 e2 ⊢ <;> simp_all
set_option maxRecDepth 10000 in
set_option maxHeartbeats 1000000 in
theorem fixed04 (w : World) : Calls Try.prog 16 #[] w fun e w' => e = .returned (.bool true) ∧ Below w.heap.size w w' := by
  obtain ⟨W3, hW3⟩ : ∃ W3, W3 = ((w.alloc (.cells #[.string ⟨#[111, 110]⟩, .string ⟨#[111, 102, 102]⟩] 9)).alloc (.cells #[.string ⟨#[49]⟩, .string ⟨#[50]⟩] 9)).alloc (.cells #[.string ⟨#[120]⟩, .slice (some ⟨w.heap.size, 0, none⟩) 2 2, .string ⟨#[121]⟩, .slice (some ⟨w.heap.size + 1, 0, none⟩) 2 2] 35) := ⟨_, rfl⟩
  have hb1 := below_alloc1 w (.cells #[.string ⟨#[111, 110]⟩, .string ⟨#[111, 102, 102]⟩] 9)
  have hb2 := hb1.alloc hb1.size (.cells #[.string ⟨#[49]⟩, .string ⟨#[50]⟩] 9)
  have hb3 : Below w.heap.size w W3 := by rw [hW3]; exact hb2.alloc hb2.size _
  have hr : RVars W3 [.slice (some ⟨w.heap.size + 1 + 1, 0, none⟩) 2 2] ex04 := by
    rw [hW3]
    refine vars_two (heap_new_at (by simp)) (by decide) (by decide) ?_ ?_
    · exact stays_slice stays_str _ _ _ _ (stays_slice stays_str _ _ _ _ (texts_two (heap_alloc_new _ _) (by decide) (by decide)) (below_alloc1 _ _)) (below_alloc1 _ _)
    · exact stays_slice stays_str _ _ _ _ (texts_two (heap_new_at (by simp)) (by decide) (by decide)) (below_alloc1 _ _)
  have hU := usual_any hr (by decide)
  have eU : usualOf ex04 = [(⟨#[120]⟩, ⟨#[111, 110]⟩), (⟨#[121]⟩, ⟨#[49]⟩)] := by kernel_rfl
  have hA := fun (W : World) (hW : Below W3.heap.size W3 W) => all_any (stays_slice stays_var _ _ _ _ hr hW) (by decide +kernel : mayOf ex04 = true)
  have eA : (allOf ex04).length = 4 := by kernel_rfl
  rw [eU] at hU
  have q1 := set_eqs ⟨#[120]⟩ ⟨#[111, 110]⟩ ⟨#[120]⟩ ⟨#[111, 110]⟩
  have q2 := set_eqs ⟨#[121]⟩ ⟨#[49]⟩ ⟨#[121]⟩ ⟨#[49]⟩
  simp only [decide_true, Bool.and_true] at q1 q2
  have Hb1 := Lib.hid hb1; have Hb2 := Lib.hid hb2; have Hb3 := Lib.hid hb3; have Hr := Lib.hid hr; have HU := Lib.hid hU; have HA := Lib.hid hA; have HeA := Lib.hid eA; have HeU := Lib.hid eU; clear hb1 hb2 hb3 hr hU hA eA eU
  go_enter Try.func16, Try.ntmps16
  go_wp2_with fail
  rw [← hW3]
  have HW3 := Lib.hid hW3; clear hW3
  refine HU.out.mono ?_
  rintro e W4 ⟨o, rfl, h1, hb4⟩
  obtain ⟨g, cap, rfl, _, _, _, _, hc⟩ := ownsRow_some h1 (by simp)
  have d0 := hc 0 _ rfl
  have d1 := hc 1 _ rfl
  have d2 := hc 2 _ rfl
  have d3 := hc 3 _ rfl
  have hA4 := HA.out W4 hb4
  have hl : ([(⟨#[120]⟩, ⟨#[111, 110]⟩), (⟨#[121]⟩, ⟨#[49]⟩)] : List Setg).length = 2 := rfl
  rw [hl]
  have hb5 := Hb3.out.trans (hb4.mono Hb3.out.size)
  clear hl hc
  have H1 := Lib.hid h1; have Hb4 := Lib.hid hb4; have HA4 := Lib.hid hA4; have Hb5 := Lib.hid hb5; clear h1 hb4 hA4 hb5
  go_wp2_with fail
  refine HA4.out.mono ?_
  rintro e W5 ⟨o5, vs5, rfl, hs5, hb6⟩
  have hrow := hs5.row
  obtain ⟨a5, c5, rfl⟩ := own_shape hrow
  rw [HeA.out]
  have e0 := cell_later hb6 d0
  have e1 := cell_later hb6 d1
  have e2 := cell_later hb6 d2
  have e3 := cell_later hb6 d3
  have hb7 := Hb5.out.trans (hb6.mono Hb5.out.size)
  have Hs5 := Lib.hid hs5; have Hb6 := Lib.hid hb6; have Hrow := Lib.hid hrow; have Hd0 := Lib.hid d0; have Hd1 := Lib.hid d1; have Hd2 := Lib.hid d2; have Hd3 := Lib.hid d3; have Hb7 := Lib.hid hb7; clear hs5 hb6 hrow d0 d1 d2 d3 hb7
  go_wp2_with fail
  go_ret
  exact ⟨rfl, Hb7.out⟩
end Go.Proofs.Ytnelgellbabkoaa

/- The walks of slices.IndexFunc and slices.ContainsFunc at Set: the first element of which a predicate holds; whether it holds of one. Condition: what the predicate gives is read off its contract. -/
namespace Go.Proofs.Ytnelgellbabkoaa
open Go.RowKit
namespace IdxSet
theorem cells_2 {ecs : List Value} (h : ecs.length = 2) : ∃ u0 u1, ecs = [u0, u1] := by
  match ecs, h with
  | [u0, u1], _ => exact ⟨u0, u1, rfl⟩

/-- what the predicate is -/
def Pred {α : Type} (R : Rd α) (p : α → Bool) (g : Nat) (cb : Array Value) (l : List α) (w : World) : Prop :=
  ∀ W u0 u1 x, Below w.heap.size w W → x ∈ l → R W [u0, u1] x → Calls Try.prog g (#[.agg #[u0, u1]] ++ cb) W fun e w' => e = .returned (.bool (p x)) ∧ Below W.heap.size W w'
set_option maxRecDepth 10000 in
set_option maxHeartbeats 400000 in
theorem idx_any {α : Type} {R : Rd α} (hR : Stays R) (p : α → Bool) (g : Nat) (cb : Array Value) (eg : ∀ args w, (callFunc g args).run Try.prog w = .ok (.enter g args) w) {w : World} {v : Value} {l : List α} (hl : RSlice 2 R w [v] l) (hp : Pred R p g cb l w) :
    Calls Try.prog 107 #[v, .func (.func g) #[] cb] w fun e w' => e = .returned (.int .i64 (idxOf p l)) ∧ Below w.heap.size w w' := by
  obtain ⟨a, cap, hv, hcap, hmax, hel⟩ := hl
  simp only [List.cons.injEq, and_true] at hv
  subst hv
  unfold maxLen at hmax
  obtain ⟨n, hn⟩ : ∃ n, n = l.length := ⟨_, rfl⟩
  rw [← hn] at hcap ⊢
  have hn63 : n ≤ 9223372036854775807 := by omega
  have Hn := Lib.hid hn; have Hel := Lib.hid hel; have Hp := Lib.hid hp; clear hn hel hp
  go_enter Try.func107, Try.ntmps107
  go_wp2_with fail
  go_loopw [8] (fun i wr => ∃ k : Nat, k ≤ n ∧ i = .int .i64 k ∧ NoneIn p l k ∧ Below w.heap.size w wr) (fun i _ => n - (intOf i).toNat)
  case atStart => exact ⟨0, Nat.zero_le _, rfl, noneIn_zero p l, Below.refl _ _⟩
  case round =>
    obtain ⟨k, hk, rfl, hno, hb⟩ := hrel
    by_cases hlt : k < n
    · have hkl : k < l.length := by have := Hn.out; omega
      obtain ⟨x, hx⟩ : ∃ x, x = l[k]'hkl := ⟨_, rfl⟩
      obtain ⟨b, off, ecs, rfl, h4, h5, h6⟩ := Hel.out k x (by rw [hx]; exact List.getElem?_eq_getElem hkl)
      obtain ⟨u0, u1, rfl⟩ : ∃ u0 u1, ecs = [u0, u1] := cells_2 h4
      have hxl : x ∈ l := by rw [hx]; exact List.getElem_mem hkl
      have c0 : wr.cell? ⟨b, off + k * 2, none⟩ = some u0 := cell_later hb (by simpa using h5 0 u0 rfl)
      have c1 : wr.cell? ⟨b, off + k * 2 + 1, none⟩ = some u1 := cell_later hb (by simpa using h5 1 u1 rfl)
      have hcall := Hp.out wr u0 u1 x hb hxl (hR _ _ _ _ h6 hb)
      have q0 : (0 : Int) ≤ (k : Int) := by omega
      have q1 : (k : Int) < (n : Int) := by omega
      by_cases hpx : p x = true
      · rw [hpx] at hcall
        have hi : idxOf p l = k := idxOf_at hkl hno (by rw [← hx]; exact hpx)
        have Hx := Lib.hid hx; have Hno := Lib.hid hno; have Hcall := Lib.hid hcall; have H5 := Lib.hid h5; have H6 := Lib.hid h6; have Hpx := Lib.hid hpx; have Hi := Lib.hid hi; have Hb := Lib.hid hb; have Hxl := Lib.hid hxl; clear hx hno hcall h5 h6 hpx hi hb hxl
        clear h4
        go_wp2_with fail
        refine Hcall.out.mono ?_
        rintro e w2 ⟨rfl, hb2⟩
        have hb3 := Hb.out.trans (hb2.mono Hb.out.size)
        have Hb2 := Lib.hid hb2; have Hb3 := Lib.hid hb3; clear hb2 hb3
        go_wp2_with fail
        go_ret
        exact ⟨ret_int Hi.out.symm, Hb3.out⟩
      · have hpx' : p x = false := by simpa using hpx
        rw [hpx'] at hcall
        have hno2 := noneIn_succ hkl hno (by rw [← hx]; exact hpx')
        have Hx := Lib.hid hx; have Hno := Lib.hid hno; have Hcall := Lib.hid hcall; have H5 := Lib.hid h5; have H6 := Lib.hid h6; have Hpx := Lib.hid hpx; have Hpx' := Lib.hid hpx'; have Hno2 := Lib.hid hno2; have Hb := Lib.hid hb; have Hxl := Lib.hid hxl; clear hx hno hcall h5 h6 hpx hpx' hno2 hb hxl
        clear h4
        go_wp2_with fail
        refine Hcall.out.mono ?_
        rintro e w2 ⟨rfl, hb2⟩
        have hb3 := Hb.out.trans (hb2.mono Hb.out.size)
        have Hb2 := Lib.hid hb2; have Hb3 := Lib.hid hb3; clear hb2 hb3
        go_wp2_with fail
        go_roundw
        case rel => exact ⟨k + 1, by omega, by go_num, Hno2.out, Hb3.out⟩
        case measure => simp [intOf]; omega
    · have hi : idxOf p l = -1 := idxOf_none (by have := Hn.out; omega) hno
      have Hno := Lib.hid hno; have Hi := Lib.hid hi; have Hb := Lib.hid hb; clear hno hi hb
      go_wp2_with fail
      go_ret
      exact ⟨ret_int Hi.out.symm, Hb.out⟩
set_option maxRecDepth 10000 in
set_option maxHeartbeats 400000 in
theorem has_any {α : Type} {R : Rd α} (hR : Stays R) (p : α → Bool) (g : Nat) (cb : Array Value) (eg : ∀ args w, (callFunc g args).run Try.prog w = .ok (.enter g args) w) {w : World} {v : Value} {l : List α} (hl : RSlice 2 R w [v] l) (hp : Pred R p g cb l w) :
    Calls Try.prog 76 #[v, .func (.func g) #[] cb] w fun e w' => e = .returned (.bool (l.any p)) ∧ Below w.heap.size w w' := by
  have hI := idx_any hR p g cb eg hl hp
  have hab := idxOf_any p l
  obtain ⟨i, hi⟩ : ∃ i, i = idxOf p l := ⟨_, rfl⟩
  rw [← hi] at hI hab
  have Hl := Lib.hid hl; have Hp := Lib.hid hp; have HI := Lib.hid hI; have Hi := Lib.hid hi; have HR := Lib.hid hR; clear hl hp hI hi hR
  cases hq : l.any p with
  | true =>
    have hpos : 0 ≤ i := hab.1 hq
    have Hq := Lib.hid hq; have Hab := Lib.hid hab; clear hq hab
    go_enter Try.func76, Try.ntmps76
    go_wp2_with fail
    refine HI.out.mono ?_
    rintro e w2 ⟨rfl, hb2⟩
    have Hb2 := Lib.hid hb2; clear hb2
    go_wp2_with fail
    go_ret
    exact ⟨rfl, Hb2.out⟩
  | false =>
    have hneg : i < 0 := by
      rcases Int.lt_or_le i 0 with h | h
      · exact h
      · have := hab.2 h; rw [hq] at this; cases this
    have Hq := Lib.hid hq; have Hab := Lib.hid hab; clear hq hab
    go_enter Try.func76, Try.ntmps76
    go_wp2_with fail
    refine HI.out.mono ?_
    rintro e w2 ⟨rfl, hb2⟩
    have Hb2 := Lib.hid hb2; clear hb2
    go_wp2_with fail
    go_ret
    exact ⟨ret_bool (by simpa using hneg), Hb2.out⟩
end IdxSet
end Go.Proofs.Ytnelgellbabkoaa

/- The walks of slices.Index and Contains at settings, and of variant.Meets. No condition. -/
namespace Go.Proofs.Ytnelgellbabkoaa
open Go.RowKit Go.Shelf
attribute [local go_sem ↓] Go.wp_at_zero Go.wp_at_succ

def isSet (x : Setg) (z : Setg) : Bool := decide (x.1 = z.1) && decide (x.2 = z.2)
set_option maxRecDepth 10000 in
set_option maxHeartbeats 1000000 in
theorem indexSet_any {w : World} {v : Value} {l : List Setg} (h : RSets w [v] l) (s t : ByteArray) : Calls Try.prog 108 #[v, .agg #[.string s, .string t]] w fun e w' => e = .returned (.int .i64 (idxOf (isSet (s, t)) l)) ∧ Below w.heap.size w w' := by
  obtain ⟨a, cap, rfl, hz, g⟩ := sets_open h
  obtain ⟨n, hn⟩ : ∃ n, n = l.length := ⟨_, rfl⟩
  rw [← hn] at hz h ⊢
  have q1 := fun a b => set_eqs s t a b
  obtain ⟨W0, hW0⟩ : ∃ W0, W0 = w.alloc (.cells #[.string s, .string t] 38) := ⟨_, rfl⟩
  have hb0 : Below w.heap.size w W0 := by rw [hW0]; exact below_alloc1 _ _
  have hcW : W0.heap[w.heap.size]? = some (.cells #[.string s, .string t] 38 (0, 0)) := by rw [hW0]; exact heap_alloc_new _ _
  have c0 := cells_at hcW 0
  have c1 := cells_at hcW 1
  simp only [List.getElem?_toArray, List.getElem?_cons_succ, List.getElem?_cons_zero] at c0 c1
  clear hcW
  have Hh := Lib.hid h; have Hg := Lib.hid g; have Hn := Lib.hid hn; have Hb0 := Lib.hid hb0; have Hq1 := Lib.hid q1; clear h g hn hb0 q1
  go_enter Try.func108, Try.ntmps108
  go_upto_region 2 with (fail)
  rw [← hW0]
  obtain ⟨nb, hnb⟩ : ∃ nb, nb = w.heap.size := ⟨_, rfl⟩
  rw [← hnb] at c0 c1 ⊢
  have HW0 := Lib.hid hW0; have Hnb := Lib.hid hnb; clear hW0 hnb
  go_loopw [8] (fun i wr => ∃ k : Nat, k ≤ n ∧ i = .int .i64 k ∧ NoneIn (isSet (s, t)) l k ∧ ∃ q, wr = W0.drewN q) (fun i _ => n - (intOf i).toNat)
  case atStart => exact ⟨0, Nat.zero_le _, rfl, noneIn_zero _ _, 0, rfl⟩
  case round =>
    obtain ⟨k, hk, rfl, hno, q, rfl⟩ := hrel
    by_cases hlt : k < n
    · have hkl : k < l.length := by have := Hn.out; omega
      obtain ⟨b, off, rfl, d0, d1, hs1, hs2⟩ := Hg.out k _ (List.getElem?_eq_getElem hkl)
      have hyes := fun h => idxOf_at hkl hno h
      have hnn := fun h => noneIn_succ hkl hno h
      obtain ⟨x, hx⟩ : ∃ x, x = l[k] := ⟨_, rfl⟩
      rw [← hx] at d0 d1 hyes hnn hs1 hs2
      have e0 := cell_later Hb0.out d0
      have e1 := cell_later Hb0.out d1
      obtain ⟨y, hy⟩ : ∃ y, y = x.1 := ⟨_, rfl⟩
      obtain ⟨z, hz3⟩ : ∃ z, z = x.2 := ⟨_, rfl⟩
      have hp : isSet (s, t) x = (decide (s = y) && decide (t = z)) := by rw [hy, hz3]; rfl
      rw [← hy] at e0 hs1
      rw [← hz3] at e1 hs2
      have q2 := Hq1.out y z
      rw [← hp] at q2
      have k5 : (0 : Int) ≤ (k : Int) := by omega
      have k6 : (k : Int) < (n : Int) := by omega
      clear hx hkl d0 d1
      cases hb : isSet (s, t) x with
      | true =>
        have hr := hyes hb
        rw [hb] at q2
        have Hno := Lib.hid hno; have Hyes := Lib.hid hyes; have Hnn := Lib.hid hnn; have Hp := Lib.hid hp; have Hb := Lib.hid hb; have Hr := Lib.hid hr; have Hy := Lib.hid hy; have Hz3 := Lib.hid hz3; clear hno hyes hnn hp hb hr hy hz3
        go_wp2_with fail
        go_region
        go_wp2_with fail
        go_ret
        exact ⟨by rw [Hr.out]; rfl, bel_drewN Hb0.out _⟩
      | false =>
        have hr := hnn hb
        rw [hb] at q2
        have Hno := Lib.hid hno; have Hyes := Lib.hid hyes; have Hnn := Lib.hid hnn; have Hp := Lib.hid hp; have Hb := Lib.hid hb; have Hr := Lib.hid hr; have Hy := Lib.hid hy; have Hz3 := Lib.hid hz3; clear hno hyes hnn hp hb hr hy hz3
        go_wp2_with fail
        go_region
        go_wp2_with fail
        go_roundw
        case rel => exact ⟨k + 1, by omega, by go_num, Hr.out, _, rfl⟩
        case measure => simp [intOf]; omega
    · obtain rfl : n = k := by omega
      have hr : idxOf (isSet (s, t)) l = -1 := idxOf_none (by have := Hn.out; omega) hno
      have Hno := Lib.hid hno; have Hr := Lib.hid hr; clear hno hr
      go_wp2_with fail
      go_ret
      exact ⟨by rw [Hr.out]; rfl, bel_drewN Hb0.out _⟩
set_option maxRecDepth 10000 in
set_option maxHeartbeats 1000000 in
theorem containsSet_any {w : World} {v : Value} {l : List Setg} (h : RSets w [v] l) (s t : ByteArray) : Calls Try.prog 78 #[v, .agg #[.string s, .string t]] w fun e w' => e = .returned (.bool (l.any (isSet (s, t)))) ∧ Below w.heap.size w w' := by
  have hb0 : Below w.heap.size w (w.alloc (.cells #[.string s, .string t] 38)) := below_alloc1 _ _
  have hI := indexSet_any (stays_slice stays_set _ _ _ _ h hb0) s t
  have hab := idxOf_any (isSet (s, t)) l
  obtain ⟨a, cap, rfl, hz, _⟩ := sets_open h
  obtain ⟨n, hn⟩ : ∃ n, n = l.length := ⟨_, rfl⟩
  rw [← hn] at hz h hI ⊢
  obtain ⟨i, hi⟩ : ∃ i, i = idxOf (isSet (s, t)) l := ⟨_, rfl⟩
  rw [← hi] at hI hab
  obtain ⟨r, hr⟩ : ∃ r, r = l.any (isSet (s, t)) := ⟨_, rfl⟩
  rw [← hr] at hab ⊢
  have k1 : decide ((0 : Int) ≤ i) = r := by
    by_cases h0 : 0 ≤ i
    · rw [decide_eq_true h0, hab.2 h0]
    · rw [decide_eq_false h0]
      cases r with
      | true => exact absurd (hab.1 rfl) h0
      | false => rfl
  have Hh := Lib.hid h; have Hn := Lib.hid hn; have Hb0 := Lib.hid hb0; have HI := Lib.hid hI; have Hi := Lib.hid hi; have Hr := Lib.hid hr; have Hab := Lib.hid hab; clear h hn hb0 hI hi hr hab
  go_enter Try.func78, Try.ntmps78
  go_wp2_with fail
  refine HI.out.mono ?_
  rintro e w1 ⟨rfl, hb1⟩
  have hb2 := Hb0.out.trans (hb1.mono Hb0.out.size)
  have Hb1 := Lib.hid hb1; have Hb2 := Lib.hid hb2; clear hb1 hb2
  go_wp2_with fail
  go_ret
  exact ⟨by first | rfl | (rw [k1]), Hb2.out⟩
/-- do settings meet a wish? -/
def meetsOf (s wish : List Setg) : Bool := wish.all fun x => s.any (isSet x)
def SBox (B : Nat) (v : Value) (w : World) : Prop := w.heap[B]? = some (.cells #[v] 36 (0, 0))
theorem SBox.below {B : Nat} {v : Value} {w w' : World} (h : SBox B v w) (hb : Below w.heap.size w w') : SBox B v w' := heap_below hb h
set_option maxRecDepth 10000 in
set_option maxHeartbeats 1000000 in
theorem meetsIn_any {w : World} {B : Nat} {v : Value} {l : List Setg} (h : RSets w [v] l) (hB : SBox B v w) (s t : ByteArray) : Calls Try.prog 77 #[.agg #[.string s, .string t], .pointer (some ⟨B, 0, none⟩)] w fun e w' => e = .returned (.bool (!(l.any (isSet (s, t))))) ∧ Below w.heap.size w w' := by
  have hb0 : Below w.heap.size w (w.alloc (.cells #[.string s, .string t] 38)) := below_alloc1 _ _
  have hC := containsSet_any (stays_slice stays_set _ _ _ _ h hb0) s t
  have c0 := cells_at (hB.below hb0) 0
  have c9 := cells_at hB 0
  simp only [List.getElem?_toArray, List.getElem?_cons_zero] at c0 c9
  obtain ⟨r, hr⟩ : ∃ r, r = l.any (isSet (s, t)) := ⟨_, rfl⟩
  rw [← hr] at hC ⊢
  obtain ⟨a, cap, rfl, hz, _⟩ := sets_open h
  obtain ⟨n, hn⟩ : ∃ n, n = l.length := ⟨_, rfl⟩
  rw [← hn] at hz h hC c0 c9 hB
  have Hh := Lib.hid h; have HB := Lib.hid hB; have HC := Lib.hid hC; have Hb0 := Lib.hid hb0; have Hr := Lib.hid hr; have Hn := Lib.hid hn; clear h hB hC hb0 hr hn
  go_enter Try.func77, Try.ntmps77
  go_wp2_with fail
  refine HC.out.mono ?_
  rintro e w1 ⟨rfl, hb1⟩
  have hb2 := Hb0.out.trans (hb1.mono Hb0.out.size)
  have Hb1 := Lib.hid hb1; have Hb2 := Lib.hid hb2; clear hb1 hb2
  go_wp2_with fail
  go_ret
  exact ⟨rfl, Hb2.out⟩
theorem enters_meets : ∀ args w, (callFunc 77 args).run Try.prog w = .ok (.enter 77 args) w := enters_of Try.func77 (by kernel_rfl) rfl
theorem meets_pred {w : World} {B : Nat} {v : Value} {l : List Setg} (h : RSets w [v] l) (hB : SBox B v w) (wish : List Setg) : IdxSet.Pred RSet (fun x => !(l.any (isSet x))) 77 #[.pointer (some ⟨B, 0, none⟩)] wish w := by
  intro W u0 u1 x hb _ hx
  obtain ⟨h1, _, _⟩ := hx
  simp only [List.cons.injEq, and_true] at h1
  obtain ⟨rfl, rfl⟩ := h1
  exact meetsIn_any (stays_slice stays_set _ _ _ _ h hb) (hB.below hb) x.1 x.2
theorem meetsOf_any (s wish : List Setg) : (!(wish.any fun x => !(s.any (isSet x)))) = meetsOf s wish := by
  unfold meetsOf
  rw [List.not_any_eq_all_not]
  simp
set_option maxRecDepth 10000 in
theorem meets_any {w : World} {u v : Value} {s wish : List Setg} (hs : RSets w [u] s) (hw : RSets w [v] wish) : Calls Try.prog 32 #[u, v] w fun e w' => e = .returned (.bool (meetsOf s wish)) ∧ Below w.heap.size w w' := by
  have hbx : Below w.heap.size w (w.alloc (.cells #[u] 36)) := below_alloc1 _ _
  have hC := IdxSet.has_any stays_set (fun x => !(s.any (isSet x))) 77 #[.pointer (some ⟨w.heap.size, 0, none⟩)] enters_meets (stays_slice stays_set _ _ _ _ hw hbx) (meets_pred (stays_slice stays_set _ _ _ _ hs hbx) (heap_alloc_new _ _) wish)
  have hh := meetsOf_any s wish
  obtain ⟨r, hr⟩ : ∃ r, r = wish.any fun x => !(s.any (isSet x)) := ⟨_, rfl⟩
  rw [← hr] at hC hh
  obtain ⟨a, cap, rfl, _, _⟩ := sets_open hs
  obtain ⟨n, hn⟩ : ∃ n, n = s.length := ⟨_, rfl⟩
  obtain ⟨a2, cap2, rfl, _, _⟩ := sets_open hw
  obtain ⟨n2, hn2⟩ : ∃ n, n = wish.length := ⟨_, rfl⟩
  rw [← hn, ← hn2] at hC
  rw [← hn] at hbx
  rw [← hn, ← hn2, ← hh]
  have Hs := Lib.hid hs; have Hw := Lib.hid hw; have HC := Lib.hid hC; have Hbx := Lib.hid hbx; have Hr := Lib.hid hr; have Hh := Lib.hid hh; have Hn := Lib.hid hn; have Hn2 := Lib.hid hn2; clear hs hw hC hbx hr hh hn hn2
  go_enter Try.func32, Try.ntmps32
  go_wp2_with fail
  refine HC.out.mono ?_
  rintro e w1 ⟨rfl, hb1⟩
  have hb2 := Hbx.out.trans (hb1.mono Hbx.out.size)
  have Hb1 := Lib.hid hb1; have Hb2 := Lib.hid hb2; clear hb1 hb2
  go_wp2_with fail
  go_ret
  exact ⟨rfl, Hb2.out⟩
end Go.Proofs.Ytnelgellbabkoaa

/- Every slice of variants, and of settings, opens as its list. No condition. -/
namespace Go.Proofs.Ytnelgellbabkoaa
open Go.RowKit Go.Shelf

theorem opens_strs04 : Opens Try.prog 33 RSs := opens_slice Try.underlying33 (by kernel_rfl) (by decide) (opens_str Try.underlying9)
theorem opens_var : Opens Try.prog 35 RVar := by
  refine opens_map (R := RCons 1 RStr (RCons 1 RSs RNil)) (opens_struct Try.underlying35 ?_) ?_
  · have h1 : Try.prog.cellsOf 9 = 1 := by kernel_rfl
    have h2 : Try.prog.cellsOf 33 = 1 := by kernel_rfl
    have hN : Try.prog.cellsOf 35 = 0 + 1 + 1 := by kernel_rfl
    rw [hN]
    exact fields_cons rfl h1 (opens_str Try.underlying9) (fields_cons rfl h2 opens_strs04 fields_nil)
  · rintro w cs ⟨s, l, ⟨⟩⟩ ⟨c1, c2, rfl, h1, ⟨h2, h3⟩, c3, c4, rfl, h4, h5, h6⟩
    dsimp only at h2 h3 h5 h6
    subst h2
    have h7 : c4 = [] := h6
    subst h7
    match c3, h4 with
    | [u], _ => exact ⟨(s, l), u, rfl, h3, h5⟩
theorem opens_vars : Opens Try.prog 29 RVars := opens_slice Try.underlying29 (by kernel_rfl) (by decide) opens_var
theorem opens_set : Opens Try.prog 38 RSet := by
  refine opens_map (R := RCons 1 RStr (RCons 1 RStr RNil)) (opens_struct Try.underlying38 ?_) ?_
  · have h1 : Try.prog.cellsOf 9 = 1 := by kernel_rfl
    have hN : Try.prog.cellsOf 38 = 0 + 1 + 1 := by kernel_rfl
    rw [hN]
    exact fields_cons rfl h1 (opens_str Try.underlying9) (fields_cons rfl h1 (opens_str Try.underlying9) fields_nil)
  · rintro w cs ⟨s, y, ⟨⟩⟩ ⟨c1, c2, rfl, h1, ⟨h2, h3⟩, c3, c4, rfl, h4, ⟨h5, h6⟩, h7⟩
    dsimp only at h2 h3 h5 h6
    subst h2 h5
    have h8 : c4 = [] := h7
    subst h8
    exact ⟨(s, y), rfl, h3, h6⟩
theorem opens_sets : Opens Try.prog 36 RSets := opens_slice Try.underlying36 (by kernel_rfl) (by decide) opens_set
end Go.Proofs.Ytnelgellbabkoaa

/- Every recipe opens as its value: specs, releases, depends, conflicts, packages, prefers. No condition. -/
namespace Go.Proofs.Ytnelgellbabkoaa
open Go.RowKit Go.Shelf

abbrev Spn := ByteArray × ByteArray × Unit
abbrev Spc := ByteArray × List Spn × List Setg × Unit
abbrev Rls := ByteArray × Bool × Unit
abbrev Dpd := Spc × Spc × Int × Unit
abbrev Prf := ByteArray × List ByteArray × Int × Unit
abbrev Pkg := ByteArray × Int × List Rls × List Var × List ByteArray × List Dpd × List Dpd × List ByteArray × Unit
abbrev Rcp := List Pkg × List Prf × Unit
abbrev RSpn : Rd Spn := RCons 1 RStr (RCons 1 RStr RNil)
abbrev RSpc : Rd Spc := RCons 1 RStr (RCons 1 (RSlice 2 RSpn) (RCons 1 RSets RNil))
abbrev RRls : Rd Rls := RCons 1 RStr (RCons 1 RBool RNil)
abbrev RDpd : Rd Dpd := RCons 3 RSpc (RCons 3 RSpc (RCons 1 (RInt .i64) RNil))
abbrev RPrf : Rd Prf := RCons 1 RStr (RCons 1 RSs (RCons 1 (RInt .i64) RNil))
abbrev RPkg : Rd Pkg := RCons 1 RStr (RCons 1 (RInt .i64) (RCons 1 (RSlice 2 RRls) (RCons 1 RVars (RCons 1 RSs (RCons 1 (RSlice 7 RDpd) (RCons 1 (RSlice 7 RDpd) (RCons 1 RSs RNil)))))))
abbrev RRcp : Rd Rcp := RCons 1 (RSlice 8 RPkg) (RCons 1 (RSlice 3 RPrf) RNil)
theorem stays_spn : Stays RSpn := stays_cons stays_str (stays_cons stays_str stays_nil)
theorem stays_spc : Stays RSpc := stays_cons stays_str (stays_cons (stays_slice stays_spn) (stays_cons (stays_slice stays_set) stays_nil))
theorem stays_rls : Stays RRls := stays_cons stays_str (stays_cons stays_bool stays_nil)
theorem stays_dpd : Stays RDpd := stays_cons stays_spc (stays_cons stays_spc (stays_cons (stays_int .i64) stays_nil))
theorem stays_prf : Stays RPrf := stays_cons stays_str (stays_cons (stays_slice stays_str) (stays_cons (stays_int .i64) stays_nil))
theorem stays_pkg : Stays RPkg := stays_cons stays_str (stays_cons (stays_int .i64) (stays_cons (stays_slice stays_rls) (stays_cons (stays_slice stays_var) (stays_cons (stays_slice stays_str) (stays_cons (stays_slice stays_dpd) (stays_cons (stays_slice stays_dpd) (stays_cons (stays_slice stays_str) stays_nil)))))))
theorem stays_rcp : Stays RRcp := stays_cons (stays_slice stays_pkg) (stays_cons (stays_slice stays_prf) stays_nil)

theorem cs_str : Try.prog.cellsOf 9 = 1 := by kernel_rfl
theorem cs_int : Try.prog.cellsOf 3 = 1 := by kernel_rfl
theorem cs_bool : Try.prog.cellsOf 4 = 1 := by kernel_rfl
theorem cs_strs : Try.prog.cellsOf 33 = 1 := by kernel_rfl
theorem cs_spc : Try.prog.cellsOf 107 = 3 := by kernel_rfl
theorem opens_spn : Opens Try.prog 137 RSpn := by
  refine opens_struct Try.underlying137 ?_
  have hN : Try.prog.cellsOf 137 = 0 + 1 + 1 := by kernel_rfl
  rw [hN]
  exact fields_cons rfl cs_str (opens_str Try.underlying9) (fields_cons rfl cs_str (opens_str Try.underlying9) fields_nil)
theorem opens_spns : Opens Try.prog 105 (RSlice 2 RSpn) := opens_slice Try.underlying105 (by kernel_rfl) (by decide) opens_spn
theorem opens_spc : Opens Try.prog 107 RSpc := by
  refine opens_struct Try.underlying107 ?_
  have hN : Try.prog.cellsOf 107 = 0 + 1 + 1 + 1 := by kernel_rfl
  rw [hN]
  exact fields_cons rfl cs_str (opens_str Try.underlying9) (fields_cons rfl (by kernel_rfl) opens_spns (fields_cons rfl (by kernel_rfl) opens_sets fields_nil))
theorem opens_rls : Opens Try.prog 125 RRls := by
  refine opens_struct Try.underlying125 ?_
  have hN : Try.prog.cellsOf 125 = 0 + 1 + 1 := by kernel_rfl
  rw [hN]
  exact fields_cons rfl cs_str (opens_str Try.underlying9) (fields_cons rfl cs_bool (opens_bool Try.underlying4) fields_nil)
theorem opens_rlss : Opens Try.prog 64 (RSlice 2 RRls) := opens_slice Try.underlying64 (by kernel_rfl) (by decide) opens_rls
theorem opens_dpd : Opens Try.prog 127 RDpd := by
  refine opens_struct Try.underlying127 ?_
  have hN : Try.prog.cellsOf 127 = 0 + 3 + 3 + 1 := by kernel_rfl
  rw [hN]
  exact fields_cons rfl cs_spc opens_spc (fields_cons rfl cs_spc opens_spc (fields_cons rfl cs_int (opens_int Try.underlying3) fields_nil))
theorem opens_dpds : Opens Try.prog 65 (RSlice 7 RDpd) := opens_slice Try.underlying65 (by kernel_rfl) (by decide) opens_dpd
theorem opens_cft : Opens Try.prog 129 RDpd := by
  refine opens_struct Try.underlying129 ?_
  have hN : Try.prog.cellsOf 129 = 0 + 3 + 3 + 1 := by kernel_rfl
  rw [hN]
  exact fields_cons rfl cs_spc opens_spc (fields_cons rfl cs_spc opens_spc (fields_cons rfl cs_int (opens_int Try.underlying3) fields_nil))
theorem opens_cfts : Opens Try.prog 66 (RSlice 7 RDpd) := opens_slice Try.underlying66 (by kernel_rfl) (by decide) opens_cft
theorem opens_prf : Opens Try.prog 98 RPrf := by
  refine opens_struct Try.underlying98 ?_
  have hN : Try.prog.cellsOf 98 = 0 + 1 + 1 + 1 := by kernel_rfl
  rw [hN]
  exact fields_cons rfl cs_str (opens_str Try.underlying9) (fields_cons rfl cs_strs opens_strs04 (fields_cons rfl cs_int (opens_int Try.underlying3) fields_nil))
theorem opens_prfs : Opens Try.prog 50 (RSlice 3 RPrf) := opens_slice Try.underlying50 (by kernel_rfl) (by decide) opens_prf
theorem opens_pkg : Opens Try.prog 68 RPkg := by
  refine opens_struct Try.underlying68 ?_
  have hN : Try.prog.cellsOf 68 = 0 + 1 + 1 + 1 + 1 + 1 + 1 + 1 + 1 := by kernel_rfl
  rw [hN]
  exact fields_cons rfl cs_str (opens_str Try.underlying9) (fields_cons rfl cs_int (opens_int Try.underlying3) (fields_cons rfl (by kernel_rfl) opens_rlss (fields_cons rfl (by kernel_rfl) opens_vars (fields_cons rfl cs_strs opens_strs04
    (fields_cons rfl (by kernel_rfl) opens_dpds (fields_cons rfl (by kernel_rfl) opens_cfts (fields_cons rfl cs_strs opens_strs04 fields_nil)))))))
theorem opens_pkgs : Opens Try.prog 49 (RSlice 8 RPkg) := opens_slice Try.underlying49 (by kernel_rfl) (by decide) opens_pkg
theorem opens_rcp : Opens Try.prog 52 RRcp := by
  refine opens_struct Try.underlying52 ?_
  have hN : Try.prog.cellsOf 52 = 0 + 1 + 1 := by kernel_rfl
  rw [hN]
  exact fields_cons rfl (by kernel_rfl) opens_pkgs (fields_cons rfl (by kernel_rfl) opens_prfs fields_nil)
/-- what a package's eight cells are -/
structure PkgAt (w : World) (b off : Nat) (x : Pkg) (u2 u3 u4 u5 u6 u7 : Value) : Prop where
  c0 : w.cell? ⟨b, off, none⟩ = some (.string x.1)
  c1 : w.cell? ⟨b, off + 1, none⟩ = some (.int .i64 x.2.1)
  c2 : w.cell? ⟨b, off + 2, none⟩ = some u2
  c3 : w.cell? ⟨b, off + 3, none⟩ = some u3
  c4 : w.cell? ⟨b, off + 4, none⟩ = some u4
  c5 : w.cell? ⟨b, off + 5, none⟩ = some u5
  c6 : w.cell? ⟨b, off + 6, none⟩ = some u6
  c7 : w.cell? ⟨b, off + 7, none⟩ = some u7
  s0 : x.1.size ≤ maxLen
  r2 : RSlice 2 RRls w [u2] x.2.2.1
  r3 : RVars w [u3] x.2.2.2.1
  r4 : RSs w [u4] x.2.2.2.2.1
  r5 : RSlice 7 RDpd w [u5] x.2.2.2.2.2.1
  r6 : RSlice 7 RDpd w [u6] x.2.2.2.2.2.2.1
  r7 : RSs w [u7] x.2.2.2.2.2.2.2.1
  rp : RPkg w [.string x.1, .int .i64 x.2.1, u2, u3, u4, u5, u6, u7] x
theorem pkg_cells {w : World} {cs : List Value} {x : Pkg} (h : RPkg w cs x) : ∃ u2 u3 u4 u5 u6 u7, cs = [.string x.1, .int .i64 x.2.1, u2, u3, u4, u5, u6, u7] ∧ x.1.size ≤ maxLen ∧ RSlice 2 RRls w [u2] x.2.2.1 ∧ RVars w [u3] x.2.2.2.1 ∧ RSs w [u4] x.2.2.2.2.1 ∧ RSlice 7 RDpd w [u5] x.2.2.2.2.2.1 ∧ RSlice 7 RDpd w [u6] x.2.2.2.2.2.2.1 ∧ RSs w [u7] x.2.2.2.2.2.2.2.1 := by
  obtain ⟨a0, t0, rfl, _, ⟨rfl, h0⟩, a1, t1, rfl, _, ⟨rfl, _⟩, a2, t2, rfl, l2, h2, a3, t3, rfl, l3, h3, a4, t4, rfl, l4, h4, a5, t5, rfl, l5, h5, a6, t6, rfl, l6, h6, a7, t7, rfl, l7, h7, h8⟩ := h
  obtain rfl : t7 = [] := h8
  match a2, l2, a3, l3, a4, l4, a5, l5, a6, l6, a7, l7 with
  | [u2], _, [u3], _, [u4], _, [u5], _, [u6], _, [u7], _ => exact ⟨u2, u3, u4, u5, u6, u7, rfl, h0, h2, h3, h4, h5, h6, h7⟩
theorem pkgs_open {w : World} {v : Value} {l : List Pkg} (h : RSlice 8 RPkg w [v] l) : ∃ a cap, v = .slice a l.length cap ∧ l.length ≤ 9223372036854775807 ∧ ∀ i x, l[i]? = some x → ∃ b off u2 u3 u4 u5 u6 u7, a = some ⟨b, off, none⟩ ∧ PkgAt w b (off + i * 8) x u2 u3 u4 u5 u6 u7 := by
  obtain ⟨a, cap, hv, hcap, hmax, hel⟩ := h
  simp only [List.cons.injEq, and_true] at hv
  unfold maxLen at hmax
  refine ⟨a, cap, hv, by omega, fun i x hi => ?_⟩
  obtain ⟨b, off, ecs, h1, h2, h3, h4⟩ := hel i x hi
  obtain ⟨u2, u3, u4, u5, u6, u7, rfl, k0, k2, k3, k4, k5, k6, k7⟩ := pkg_cells h4
  exact ⟨b, off, u2, u3, u4, u5, u6, u7, h1, ⟨by simpa using h3 0 _ rfl, by simpa using h3 1 _ rfl, h3 2 _ rfl, h3 3 _ rfl, h3 4 _ rfl, h3 5 _ rfl, h3 6 _ rfl, h3 7 _ rfl, k0, k2, k3, k4, k5, k6, k7, h4⟩⟩
end Go.Proofs.Ytnelgellbabkoaa

/- The walks of cooperref09.Has and Find. No condition. -/
namespace Go.Proofs.Ytnelgellbabkoaa
open Go.RowKit Go.Shelf
attribute [local go_sem ↓] Go.wp_at_zero Go.wp_at_succ

def hasT (l : List ByteArray) (s : ByteArray) : Bool := l.any fun z => decide (z = s)
def named (s : ByteArray) (x : Pkg) : Bool := decide (x.1 = s)
theorem any_no {α : Type} {p : α → Bool} {l : List α} (h : NoneIn p l l.length) : l.any p = false := by
  rw [List.any_eq_false]
  intro x hx
  obtain ⟨i, hi, rfl⟩ := List.mem_iff_getElem.1 hx
  rw [h i hi hi]; simp
theorem any_yes {α : Type} {p : α → Bool} {l : List α} {k : Nat} (h : k < l.length) (hk : p l[k] = true) : l.any p = true := List.any_eq_true.2 ⟨_, List.getElem_mem h, hk⟩
set_option maxRecDepth 10000 in
set_option maxHeartbeats 1000000 in
theorem hasRef_any {w : World} {v : Value} {l : List ByteArray} (h : RSs w [v] l) (s : ByteArray) : Calls Try.prog 88 #[v, .string s] w fun e w' => e = .returned (.bool (hasT l s)) ∧ ∃ q, w' = w.drewN q := by
  obtain ⟨a, cap, rfl, hz, g⟩ := strs_open h
  obtain ⟨n, hn⟩ : ∃ n, n = l.length := ⟨_, rfl⟩
  obtain ⟨r, hr⟩ : ∃ r, r = hasT l s := ⟨_, rfl⟩
  rw [← hr]
  rw [← hn] at hz h ⊢
  have Hh := Lib.hid h; have Hg := Lib.hid g; have Hn := Lib.hid hn; have Hr := Lib.hid hr; clear h g hn hr
  go_enter Try.func88, Try.ntmps88
  go_wp2_with fail
  go_loopw [8] (fun i wr => ∃ k : Nat, k ≤ n ∧ i = .int .i64 k ∧ NoneIn (fun z => decide (z = s)) l k ∧ ∃ q, wr = w.drewN q) (fun i _ => n - (intOf i).toNat)
  case atStart => exact ⟨0, Nat.zero_le _, rfl, noneIn_zero _ _, 0, rfl⟩
  case round =>
    obtain ⟨k, hk, rfl, hno, q, rfl⟩ := hrel
    by_cases hlt : k < n
    · have hkl : k < l.length := by have := Hn.out; omega
      obtain ⟨b, off, rfl, d0, hs1⟩ := Hg.out k hkl
      have hyes := fun h => any_yes (p := fun z => decide (z = s)) hkl h
      have hnn := fun h => noneIn_succ hkl hno h
      obtain ⟨x, hx⟩ : ∃ x, x = l[k] := ⟨_, rfl⟩
      rw [← hx] at d0 hyes hnn hs1
      have q1 := bytes_dec x s
      have k5 : (0 : Int) ≤ (k : Int) := by omega
      have k6 : (k : Int) < (n : Int) := by omega
      clear hx hkl
      by_cases e : x = s
      · have hf : r = true := by rw [Hr.out]; exact hyes (decide_eq_true e)
        rw [decide_eq_true e] at q1
        clear e
        have Hno := Lib.hid hno; have Hyes := Lib.hid hyes; have Hnn := Lib.hid hnn; have Hf := Lib.hid hf; clear hno hyes hnn hf
        go_wp2_with fail
        go_ret
        exact ⟨ret_bool Hf.out.symm, _, rfl⟩
      · have hf := hnn (decide_eq_false e)
        rw [decide_eq_false e] at q1
        clear e
        have Hno := Lib.hid hno; have Hyes := Lib.hid hyes; have Hnn := Lib.hid hnn; have Hf := Lib.hid hf; clear hno hyes hnn hf
        go_wp2_with fail
        go_roundw
        case rel => exact ⟨k + 1, by omega, by go_num, Hf.out, _, rfl⟩
        case measure => simp [intOf]; omega
    · obtain rfl : n = k := by omega
      have hf : r = false := by rw [Hr.out]; exact any_no (by rw [← Hn.out]; exact hno)
      have Hno := Lib.hid hno; have Hf := Lib.hid hf; clear hno hf
      go_wp2_with fail
      go_ret
      exact ⟨ret_bool Hf.out.symm, _, rfl⟩
end Go.Proofs.Ytnelgellbabkoaa

/- The walks of cooperref04.Has, Meets and Same. No condition. -/
namespace Go.Proofs.Ytnelgellbabkoaa
open Go.RowKit Go.Shelf
attribute [local go_sem ↓] Go.wp_at_zero Go.wp_at_succ

set_option maxRecDepth 10000 in
set_option maxHeartbeats 1000000 in
theorem hasRef04_any {w : World} {v : Value} {l : List Setg} (h : RSets w [v] l) (s t : ByteArray) : Calls Try.prog 93 #[v, .agg #[.string s, .string t]] w fun e w' => e = .returned (.bool (l.any (isSet (s, t)))) ∧ Below w.heap.size w w' := by
  obtain ⟨a, cap, rfl, hz, g⟩ := sets_open h
  obtain ⟨n, hn⟩ : ∃ n, n = l.length := ⟨_, rfl⟩
  obtain ⟨r, hr⟩ : ∃ r, r = l.any (isSet (s, t)) := ⟨_, rfl⟩
  rw [← hr]
  rw [← hn] at hz h ⊢
  have q1 := fun a b => set_eqs a b s t
  obtain ⟨nb, hnb⟩ : ∃ nb, nb = w.heap.size := ⟨_, rfl⟩
  obtain ⟨W0, hW0⟩ : ∃ W0, W0 = w.alloc (.cells #[.string s, .string t] 38) := ⟨_, rfl⟩
  have hb0 : Below w.heap.size w W0 := by rw [hW0]; exact below_alloc1 _ _
  have hcW : W0.heap[nb]? = some (.cells #[.string s, .string t] 38 (0, 0)) := by rw [hW0, hnb]; exact heap_alloc_new _ _
  have c0 := cells_at hcW 0
  have c1 := cells_at hcW 1
  simp only [List.getElem?_toArray, List.getElem?_cons_succ, List.getElem?_cons_zero] at c0 c1
  clear hcW
  have Hh := Lib.hid h; have Hg := Lib.hid g; have Hn := Lib.hid hn; have Hb0 := Lib.hid hb0; have Hq1 := Lib.hid q1; have Hr := Lib.hid hr; clear h g hn hb0 q1 hr
  go_enter Try.func93, Try.ntmps93
  go_upto_region 1 with (fail)
  rw [← hW0, ← hnb]
  have HW0 := Lib.hid hW0; have Hnb := Lib.hid hnb; clear hW0 hnb
  go_wp2_with fail
  go_loopw [8] (fun i wr => ∃ k : Nat, k ≤ n ∧ i = .int .i64 k ∧ NoneIn (isSet (s, t)) l k ∧ ∃ q, wr = W0.drewN q) (fun i _ => n - (intOf i).toNat)
  case atStart => exact ⟨0, Nat.zero_le _, rfl, noneIn_zero _ _, 0, rfl⟩
  case round =>
    obtain ⟨k, hk, rfl, hno, q, rfl⟩ := hrel
    by_cases hlt : k < n
    · have hkl : k < l.length := by have := Hn.out; omega
      obtain ⟨b, off, rfl, d0, d1, hs1, hs2⟩ := Hg.out k _ (List.getElem?_eq_getElem hkl)
      have hyes := fun h => any_yes (p := isSet (s, t)) hkl h
      have hnn := fun h => noneIn_succ hkl hno h
      obtain ⟨x, hx⟩ : ∃ x, x = l[k] := ⟨_, rfl⟩
      rw [← hx] at d0 d1 hyes hnn hs1 hs2
      have e0 := cell_later Hb0.out d0
      have e1 := cell_later Hb0.out d1
      obtain ⟨y, hy⟩ : ∃ y, y = x.1 := ⟨_, rfl⟩
      obtain ⟨z, hz3⟩ : ∃ z, z = x.2 := ⟨_, rfl⟩
      have hp : isSet (s, t) x = (decide (y = s) && decide (z = t)) := by
        rw [hy, hz3]
        unfold isSet
        rw [show decide (s = x.1) = decide (x.1 = s) from decide_eq_decide.2 eq_comm, show decide (t = x.2) = decide (x.2 = t) from decide_eq_decide.2 eq_comm]
      rw [← hy] at e0 hs1
      rw [← hz3] at e1 hs2
      have q2 := Hq1.out y z
      rw [← hp] at q2
      have k5 : (0 : Int) ≤ (k : Int) := by omega
      have k6 : (k : Int) < (n : Int) := by omega
      clear hx d0 d1 hs1 hs2
      cases hb : isSet (s, t) x with
      | true =>
        have hf : r = true := by rw [Hr.out]; exact hyes hb
        rw [hb] at q2
        have Hno := Lib.hid hno; have Hyes := Lib.hid hyes; have Hnn := Lib.hid hnn; have Hp := Lib.hid hp; have Hb := Lib.hid hb; have Hf := Lib.hid hf; have Hy := Lib.hid hy; have Hz3 := Lib.hid hz3; clear hno hyes hnn hp hb hf hy hz3
        go_wp2_with fail
        go_region
        go_wp2_with fail
        go_ret
        exact ⟨ret_bool Hf.out.symm, bel_drewN Hb0.out _⟩
      | false =>
        have hq := hnn hb
        rw [hb] at q2
        have Hno := Lib.hid hno; have Hyes := Lib.hid hyes; have Hnn := Lib.hid hnn; have Hp := Lib.hid hp; have Hb := Lib.hid hb; have Hq := Lib.hid hq; have Hy := Lib.hid hy; have Hz3 := Lib.hid hz3; clear hno hyes hnn hp hb hq hy hz3
        go_wp2_with fail
        go_region
        go_wp2_with fail
        go_roundw
        case rel => exact ⟨k + 1, by omega, by go_num, Hq.out, _, rfl⟩
        case measure => simp [intOf]; omega
    · obtain rfl : n = k := by omega
      have hf : r = false := by rw [Hr.out]; exact any_no (by rw [← Hn.out]; exact hno)
      have Hno := Lib.hid hno; have Hf := Lib.hid hf; clear hno hf
      go_wp2_with fail
      go_ret
      exact ⟨ret_bool Hf.out.symm, bel_drewN Hb0.out _⟩
theorem meets_yes {s wish : List Setg} (h : ∀ j (hj : j < wish.length), s.any (isSet wish[j]) = true) : meetsOf s wish = true := by
  unfold meetsOf
  rw [List.all_eq_true]
  intro x hx
  obtain ⟨j, hj, rfl⟩ := List.mem_iff_getElem.1 hx
  exact h j hj
theorem meets_no {s wish : List Setg} {j : Nat} (hj : j < wish.length) (h : s.any (isSet wish[j]) = false) : meetsOf s wish = false := by
  unfold meetsOf
  rw [List.all_eq_false]
  exact ⟨_, List.getElem_mem hj, by rw [h]; simp⟩
set_option maxRecDepth 10000 in
set_option maxHeartbeats 1000000 in
theorem meetsRef_any {w : World} {v u : Value} {l wish : List Setg} (h : RSets w [v] l) (hw : RSets w [u] wish) : Calls Try.prog 46 #[v, u] w fun e w' => e = .returned (.bool (meetsOf l wish)) ∧ Below w.heap.size w w' := by
  have hH := fun (W : World) (hb : Below w.heap.size w W) (s t : ByteArray) => hasRef04_any (stays_slice stays_set _ _ _ _ h hb) s t
  obtain ⟨a1, n1, c1, rfl⟩ : ∃ a n c, v = .slice a n c := by
    obtain ⟨a, c, e⟩ := sets_shape h
    exact ⟨_, _, _, e⟩
  obtain ⟨a, cap, rfl, hz, g⟩ := sets_open hw
  obtain ⟨n, hn⟩ : ∃ n, n = wish.length := ⟨_, rfl⟩
  obtain ⟨r, hr⟩ : ∃ r, r = meetsOf l wish := ⟨_, rfl⟩
  rw [← hr]
  rw [← hn] at hz hw ⊢
  have Hh := Lib.hid h; have Hw := Lib.hid hw; have Hg := Lib.hid g; have Hn := Lib.hid hn; have Hr := Lib.hid hr; have HH := Lib.hid hH; clear h hw g hn hr hH
  go_enter Try.func46, Try.ntmps46
  go_wp2_with fail
  go_loopw [8] (fun i wr => ∃ k : Nat, k ≤ n ∧ i = .int .i64 k ∧ (∀ j (hj : j < wish.length), j < k → l.any (isSet wish[j]) = true) ∧ Below w.heap.size w wr) (fun i _ => n - (intOf i).toNat)
  case atStart => exact ⟨0, Nat.zero_le _, rfl, fun _ _ h => by omega, Below.refl _ _⟩
  case round =>
    obtain ⟨k, hk, rfl, hno, hb⟩ := hrel
    by_cases hlt : k < n
    · have hkl : k < wish.length := by have := Hn.out; omega
      obtain ⟨b, off, rfl, d0, d1, hs1, hs2⟩ := Hg.out k _ (List.getElem?_eq_getElem hkl)
      have hbad := fun h => meets_no (s := l) hkl h
      have hnx : l.any (isSet wish[k]) = true → ∀ j (hj : j < wish.length), j < k + 1 → l.any (isSet wish[j]) = true := fun h j hj hjk => by
        by_cases e : j = k
        · subst e; exact h
        · exact hno j hj (by omega)
      obtain ⟨x, hx⟩ : ∃ x, x = wish[k] := ⟨_, rfl⟩
      rw [← hx] at d0 d1 hbad hnx
      have e0 := cell_later hb d0
      have e1 := cell_later hb d1
      have hC := HH.out wr hb x.1 x.2
      obtain ⟨s, hs⟩ : ∃ s, s = x.1 := ⟨_, rfl⟩
      obtain ⟨t, ht⟩ : ∃ s, s = x.2 := ⟨_, rfl⟩
      obtain ⟨c, hc⟩ : ∃ c, c = l.any (isSet x) := ⟨_, rfl⟩
      have hc2 : l.any (isSet (x.1, x.2)) = c := hc.symm
      rw [hc2, ← hs, ← ht] at hC
      rw [← hs] at e0
      rw [← ht] at e1
      rw [← hc] at hbad hnx
      have k5 : (0 : Int) ≤ (k : Int) := by omega
      have k6 : (k : Int) < (n : Int) := by omega
      clear d0 d1 hs1 hs2 hc2
      have Hno := Lib.hid hno; have Hb := Lib.hid hb; have Hbad := Lib.hid hbad; have Hnx := Lib.hid hnx; have Hx := Lib.hid hx; have Hs := Lib.hid hs; have Ht := Lib.hid ht; have Hc := Lib.hid hc; have HC := Lib.hid hC; clear hno hb hbad hnx hx hs ht hc hC
      go_wp2_with fail
      refine HC.out.mono ?_
      rintro e w1 ⟨rfl, hb1⟩
      have hb2 := Hb.out.trans (hb1.mono Hb.out.size)
      have Hb1 := Lib.hid hb1; have Hb2 := Lib.hid hb2; clear hb1 hb2
      cases c with
      | true =>
        have hq := Hnx.out rfl
        have Hq := Lib.hid hq; clear hq
        go_wp2_with fail
        go_roundw
        case rel => exact ⟨k + 1, by omega, by go_num, Hq.out, Hb2.out⟩
        case measure => simp [intOf]; omega
      | false =>
        have hf : r = false := by rw [Hr.out]; exact Hbad.out rfl
        have Hf := Lib.hid hf; clear hf
        go_wp2_with fail
        go_ret
        exact ⟨ret_bool Hf.out.symm, Hb2.out⟩
    · obtain rfl : n = k := by omega
      have hf : r = true := by rw [Hr.out]; exact meets_yes (fun j hj => hno j hj (by have := Hn.out; omega))
      have Hno := Lib.hid hno; have Hf := Lib.hid hf; have Hb := Lib.hid hb; clear hno hf hb
      go_wp2_with fail
      go_ret
      exact ⟨ret_bool Hf.out.symm, Hb.out⟩
theorem set_neqs (s t a b : ByteArray) (W : World) : (binOp .neq 38 (.agg #[.string s, .string t]) (.agg #[.string a, .string b])).run Try.prog W = .ok (.bool (!(decide (s = a) && decide (t = b)))) W := by
  have u9 := Try.underlying9
  have hS : Try.prog.underlying 38 = some (.struct (Try.prog.fieldsOf 38)) := by kernel_rfl
  have hp : Try.prog.stoodInHeld 38 = false := by kernel_rfl
  rw [run_neq_struct, show (10000 : Nat) = 9999 + 1 from rfl, run_equalIn_agg W 9999 38 _ _ hS hp]
  simp only [Program.fieldsOf, Try.underlying38]
  go_simp
  have e1 := bytes_dec s a
  have e2 := bytes_dec t b
  by_cases h1 : s = a <;> by_cases h2 : t = b <;> simp [h1, h2] at e1 e2 ⊢ <;> simp_all
set_option maxRecDepth 10000 in
set_option maxHeartbeats 1000000 in
theorem sameRef_any {w : World} {v u : Value} {l m : List Setg} (h : RSets w [v] l) (hm : RSets w [u] m) : Calls Try.prog 48 #[v, u] w fun e w' => e = .returned (.bool (decide (l = m))) ∧ ∃ q, w' = w.drewN q := by
  obtain ⟨a, cap, rfl, hz, g⟩ := sets_open h
  obtain ⟨a2, cap2, rfl, hz2, g2⟩ := sets_open hm
  obtain ⟨n, hn⟩ : ∃ n, n = l.length := ⟨_, rfl⟩
  obtain ⟨n2, hn2⟩ : ∃ n, n = m.length := ⟨_, rfl⟩
  obtain ⟨r, hr⟩ : ∃ r, r = decide (l = m) := ⟨_, rfl⟩
  have q1 := fun s t a b => set_neqs s t a b
  rw [← hr]
  rw [← hn] at hz h ⊢
  rw [← hn2] at hz2 hm ⊢
  have Hh := Lib.hid h; have Hm := Lib.hid hm; have Hg := Lib.hid g; have Hg2 := Lib.hid g2; have Hn := Lib.hid hn; have Hn2 := Lib.hid hn2; have Hr := Lib.hid hr; have Hq1 := Lib.hid q1; clear h hm g g2 hn hn2 hr q1
  go_enter Try.func48, Try.ntmps48
  by_cases hne : n = n2
  case neg =>
    have k1 : ((n : Int) != (n2 : Int)) = true := by simp; omega
    have hf : r = false := by rw [Hr.out, decide_eq_false_iff_not]; intro e; exact hne (by rw [Hn.out, Hn2.out, e])
    have Hf := Lib.hid hf; have Hne := Lib.hid hne; clear hf hne
    go_wp2_with fail
    go_ret
    exact ⟨ret_bool Hf.out.symm, 0, rfl⟩
  have k1 : ((n : Int) != (n2 : Int)) = false := by simp; omega
  have Hne := Lib.hid hne; clear hne
  go_wp2_with fail
  clear k1
  go_loopw [13] (fun i wr => ∃ k : Nat, k ≤ n ∧ i = .int .i64 k ∧ (∀ j (h1 : j < l.length) (h2 : j < m.length), j < k → l[j] = m[j]) ∧ ∃ q, wr = w.drewN q) (fun i _ => n - (intOf i).toNat)
  case atStart => exact ⟨0, Nat.zero_le _, rfl, fun _ _ _ h => by omega, 0, rfl⟩
  case round =>
    obtain ⟨k, hk, rfl, hno, q, rfl⟩ := hrel
    by_cases hlt : k < n
    · have hkl : k < l.length := by have := Hn.out; omega
      have hkm : k < m.length := by have := Hn2.out; have := Hne.out; omega
      obtain ⟨b, off, rfl, d0, d1, _, _⟩ := Hg.out k _ (List.getElem?_eq_getElem hkl)
      obtain ⟨b2, off2, rfl, f0, f1, _, _⟩ := Hg2.out k _ (List.getElem?_eq_getElem hkm)
      have hnx : l[k] = m[k] → ∀ j (h1 : j < l.length) (h2 : j < m.length), j < k + 1 → l[j] = m[j] := fun h j h1 h2 hjk => by
        by_cases e : j = k
        · subst e; exact h
        · exact hno j h1 h2 (by omega)
      have hbd : l[k] ≠ m[k] → l ≠ m := fun h e => h (by subst e; rfl)
      obtain ⟨x, hx⟩ : ∃ x, x = l[k] := ⟨_, rfl⟩
      obtain ⟨y, hy⟩ : ∃ x, x = m[k] := ⟨_, rfl⟩
      rw [← hx] at d0 d1 hnx hbd
      rw [← hy] at f0 f1 hnx hbd
      have q2 := Hq1.out x.1 x.2 y.1 y.2
      have hxy : (decide (x.1 = y.1) && decide (x.2 = y.2)) = decide (x = y) := by
        rw [Bool.eq_iff_iff]
        simp [Prod.ext_iff]
      rw [hxy] at q2
      obtain ⟨s, hs⟩ : ∃ s, s = x.1 := ⟨_, rfl⟩
      obtain ⟨t, ht⟩ : ∃ s, s = x.2 := ⟨_, rfl⟩
      obtain ⟨s', hs'⟩ : ∃ s, s = y.1 := ⟨_, rfl⟩
      obtain ⟨t', ht'⟩ : ∃ s, s = y.2 := ⟨_, rfl⟩
      rw [← hs, ← ht, ← hs', ← ht'] at q2
      rw [← hs] at d0
      rw [← ht] at d1
      rw [← hs'] at f0
      rw [← ht'] at f1
      have k5 : (0 : Int) ≤ (k : Int) := by omega
      have k6 : (k : Int) < (n : Int) := by omega
      have k7 : (k : Int) < (n2 : Int) := by have := Hne.out; omega
      clear hxy
      by_cases e : x = y
      · have hq := hnx e
        rw [decide_eq_true e] at q2
        simp only [Bool.not_true] at q2
        clear e
        have Hno := Lib.hid hno; have Hnx := Lib.hid hnx; have Hbd := Lib.hid hbd; have Hx := Lib.hid hx; have Hy := Lib.hid hy; have Hs := Lib.hid hs; have Ht := Lib.hid ht; have Hs' := Lib.hid hs'; have Ht' := Lib.hid ht'; have Hq := Lib.hid hq; clear hno hnx hbd hx hy hs ht hs' ht' hq
        go_wp2_with fail
        go_region
        go_wp2_with fail
        go_roundw
        case rel => exact ⟨k + 1, by omega, by go_num, Hq.out, _, rfl⟩
        case measure => simp [intOf]; omega
      · have hf : r = false := by rw [Hr.out, decide_eq_false_iff_not]; exact hbd e
        rw [decide_eq_false e] at q2
        simp only [Bool.not_false] at q2
        clear e
        have Hno := Lib.hid hno; have Hnx := Lib.hid hnx; have Hbd := Lib.hid hbd; have Hx := Lib.hid hx; have Hy := Lib.hid hy; have Hs := Lib.hid hs; have Ht := Lib.hid ht; have Hs' := Lib.hid hs'; have Ht' := Lib.hid ht'; have Hf := Lib.hid hf; clear hno hnx hbd hx hy hs ht hs' ht' hf
        go_wp2_with fail
        go_region
        go_wp2_with fail
        go_ret
        exact ⟨ret_bool Hf.out.symm, _, rfl⟩
    · obtain rfl : n = k := by omega
      have hf : r = true := by
        rw [Hr.out, decide_eq_true_eq]
        exact List.ext_getElem (by rw [← Hn.out, ← Hn2.out, Hne.out]) (fun j h1 h2 => hno j h1 h2 (by have := Hn.out; omega))
      have Hno := Lib.hid hno; have Hf := Lib.hid hf; clear hno hf
      go_wp2_with fail
      go_ret
      exact ⟨ret_bool Hf.out.symm, _, rfl⟩
end Go.Proofs.Ytnelgellbabkoaa

/- The walk of slices.Compact at settings, of a row that a call owns. Condition: at most a million. -/
namespace Go.Proofs.Ytnelgellbabkoaa
open Go.Shelf Go.RowKit Go.Lib Go.Sort
attribute [local go_sem ↓] Go.wp_at_zero Go.wp_at_succ

theorem setCells_two : ∀ x : Setg, (setCells x).length = 2 := fun _ => rfl
/-- the cells of an element of a row of settings -/
theorem set_at {w : World} {B g n cap : Nat} {l : List Setg} (h : w.ownsRow B 38 2 (.slice (some ⟨g, 0, none⟩) n cap) n (l.flatMap setCells)) (hn : l.length = n) (i : Nat) (hi : i < n) :
    w.cell? ⟨g, i * 2, none⟩ = some (.string l.toArray[i]!.1) ∧ w.frozen? ⟨g, i * 2, none⟩ = false ∧ w.cell? ⟨g, i * 2 + 1, none⟩ = some (.string l.toArray[i]!.2) ∧ w.frozen? ⟨g, i * 2 + 1, none⟩ = false := by
  have hil : i < l.length := by omega
  have h0 := h.cellAt (i * 2 + 0) (by omega)
  have h1 := h.cellAt (i * 2 + 1) (by omega)
  rw [flat_get setCells 2 setCells_two l i hil 0 (by decide)] at h0
  rw [flat_get setCells 2 setCells_two l i hil 1 (by decide)] at h1
  have e : l.toArray[i]! = l[i] := by rw [getElem!_pos _ i (by simpa using hil)]; rfl
  rw [e]
  exact ⟨h0, h.frozenAt (i * 2 + 0), h1, h.frozenAt (i * 2 + 1)⟩
/-- an element is put -/
theorem set_put {w : World} {B g n cap : Nat} {d : Array Setg} (h : w.ownsRow B 38 2 (.slice (some ⟨g, 0, none⟩) n cap) n (d.toList.flatMap setCells)) (hn : d.size = n) (i : Nat) (hi : i < n) (x : Setg) :
    ((w.setCell ⟨g, i * 2, none⟩ (.string x.1)).setCell ⟨g, i * 2 + 1, none⟩ (.string x.2)).ownsRow B 38 2 (.slice (some ⟨g, 0, none⟩) n cap) n ((d.setIfInBounds i x).toList.flatMap setCells) ∧
    ∀ w0, Below B w0 w → B ≤ w.heap.size → Below B w0 ((w.setCell ⟨g, i * 2, none⟩ (.string x.1)).setCell ⟨g, i * 2 + 1, none⟩ (.string x.2)) ∧ B ≤ ((w.setCell ⟨g, i * 2, none⟩ (.string x.1)).setCell ⟨g, i * 2 + 1, none⟩ (.string x.2)).heap.size := by
  have h1 := h.stored (i * 2) (.string x.1)
  have h2 := h1.1.stored (i * 2 + 1) (.string x.2)
  refine ⟨?_, fun w0 hb hB => ?_⟩
  · rw [Array.toList_setIfInBounds, ← flat_set setCells 2 setCells_two d.toList i (by simpa using (by omega : i < d.size)) x]
    exact h2.1
  · have hg : ∀ k, some g = some k → B ≤ k := fun k hk => by cases hk; exact (h.lt g rfl).1
    exact ⟨(hb.grown h1.2 hB hg).grown h2.2 (Nat.le_trans hB h1.2.size) hg, Nat.le_trans hB (Nat.le_trans h1.2.size h2.2.size)⟩
theorem zero_set : ∀ w, (zeroValue 38).run Try.prog w = .ok (.agg #[.string ⟨#[]⟩, .string ⟨#[]⟩]) w := fun w => by
  obtain ⟨i, hi, hz, _, _⟩ := info_parts elem_set.info
  simp [zeroValue, typeInfo, hi, hz]
theorem clear_sets {W : World} {g o m c : Nat} (ty : TypeId) (hm : 0 < m) (hc : ∀ j, j < m * 2 → (W.cell? ⟨g, o + j, none⟩).isSome = true) (hf : ∀ j, j < m * 2 → W.frozen? ⟨g, o + j, none⟩ = false) :
    (Builtin.clear_ #[36] ty #[.slice (some ⟨g, o, none⟩) m c]).run Try.prog W = .ok (.tuple #[]) (W.setCells g o (Builtin.zeroCells #[.string ⟨#[]⟩, .string ⟨#[]⟩] m).toList) := by
  have hl : (Builtin.zeroCells #[.string ⟨#[]⟩, .string ⟨#[]⟩] m).toList.length = m * 2 := by rw [Array.length_toList, size_zeroCells]; rfl
  have hst := run_storeCells_cells (P := Try.prog) g o (Builtin.zeroCells #[.string ⟨#[]⟩, .string ⟨#[]⟩] m).toList 0 W (by rw [hl]; simpa using hc) (by rw [hl]; simpa using hf) (by
    intro v hv
    simp only [Builtin.zeroCells, Array.toList_map, List.mem_map] at hv
    obtain ⟨t, _, rfl⟩ := hv
    have : t % 2 = 0 ∨ t % 2 = 1 := by omega
    rcases this with h | h <;> simp [h, Value.oneCell'])
  simp only [Nat.add_zero] at hst
  obtain ⟨m', rfl⟩ : ∃ m', m = m' + 1 := ⟨m - 1, by omega⟩
  simp [Builtin.clear_, run_underlying Try.underlying36, zero_set, Value.cells, hst]
def CompPost (B g cap : Nat) (w : World) (c : List Setg) (e : Ending) (w' : World) : Prop := e = .returned (.slice (some ⟨g, 0, none⟩) c.length cap) ∧ w'.ownsRow B 38 2 (.slice (some ⟨g, 0, none⟩) c.length cap) c.length (c.flatMap setCells) ∧ ∀ w0, Below B w0 w → B ≤ w.heap.size → Below B w0 w'
set_option maxRecDepth 10000 in
set_option maxHeartbeats 4000000 in
theorem compactSet_any {w : World} {B g n cap : Nat} {l : List Setg} (h : w.ownsRow B 38 2 (.slice (some ⟨g, 0, none⟩) n cap) n (l.flatMap setCells)) (hn : l.length = n) (hb : n ≤ 1000000) :
    Calls Try.prog 97 #[.slice (some ⟨g, 0, none⟩) n cap] w (CompPost B g cap w (compactUpTo l.toArray n)) := by
  have hcap : n ≤ cap ∧ cap ≤ 9223372036854775807 := by
    rcases h.2 with ⟨e0, _⟩ | ⟨g', cap', cur, e0, _, _, h1, h2, _⟩
    · cases e0
    · injection e0 with e1 _ e3
      subst e3
      exact ⟨h1, by unfold maxLen at h2; exact h2⟩
  have same : ∀ q, (∀ j, j < n → keeps l.toArray j = true) → ∀ e, e = Ending.returned (.slice (some ⟨g, 0, none⟩) n cap) → CompPost B g cap w (compactUpTo l.toArray n) e (w.drewN q) := by
    intro q hall e he
    have e2 : compactUpTo l.toArray n = l := by
      rw [compactUpTo_all l.toArray n hall, ← hn]
      have := range_map_get l.toArray
      simpa using this
    rw [e2]
    refine ⟨by rw [he, hn], by rw [hn]; exact h, fun w0 hb _ => bel_drewN hb q⟩
  obtain ⟨d, hd⟩ : ∃ d, d = l.toArray := ⟨_, rfl⟩
  have hrow : w.ownsRow B 38 2 (.slice (some ⟨g, 0, none⟩) n cap) n (d.toList.flatMap setCells) := by rw [hd]; exact h
  have hds : d.size = n := by rw [hd]; simpa using hn
  rw [← hd] at same ⊢
  have hat := fun i hi => set_at h hn i hi
  rw [← hd] at hat
  clear h
  obtain ⟨hcap1, hcap2⟩ := hcap
  by_cases h2 : n < 2
  · have hs := same 0 (fun j hj => keeps_lt_one d j (by omega)) _ rfl
    have hz : (n : Int) < 2 := by omega
    have Hs := Lib.hid hs; have Hrow := Lib.hid hrow; have Hat := Lib.hid hat; have Hd := Lib.hid hd; have Hsame := Lib.hid same; clear hs hrow hat hd same
    go_enter Try.func97, Try.ntmps97
    go_wp2_with fail
    go_ret
    exact Hs.out
  · have hz : ¬ (n : Int) < 2 := by omega
    have Hrow := Lib.hid hrow; have Hat := Lib.hid hat; have Hd := Lib.hid hd; have Hsame := Lib.hid same; have Hds := Lib.hid hds; have Hn := Lib.hid hn; clear hrow hat hd same hds hn
    go_enter Try.func97, Try.ntmps97
    go_wp2_with fail
    clear hz
    go_loopw [3] (fun x wr => ∃ k q : Nat, x = .int .i64 k ∧ 1 ≤ k ∧ k ≤ n ∧ wr = w.drewN q ∧ ∀ j, j < k → keeps d j = true) (fun x _ => n - (intOf x).toNat)
    case atStart => exact ⟨1, 0, rfl, Nat.le_refl _, by omega, rfl, keeps_lt_one d⟩
    case round =>
      obtain ⟨k, q, rfl, hk1, hk, rfl, hall⟩ := hrel
      by_cases hlt : k < n
      · obtain ⟨kq, hkq⟩ : ∃ kq, kq = k - 1 := ⟨_, rfl⟩
        obtain ⟨c0, _, c1, _⟩ := Hat.out k hlt
        obtain ⟨p0, _, p1, _⟩ := Hat.out kq (by omega)
        obtain ⟨x, hx⟩ : ∃ x, x = d[k]! := ⟨_, rfl⟩
        obtain ⟨y, hy⟩ : ∃ x, x = d[kq]! := ⟨_, rfl⟩
        rw [← hx] at c0 c1
        rw [← hy] at p0 p1
        obtain ⟨x0, hx0⟩ : ∃ v, v = x.1 := ⟨_, rfl⟩
        obtain ⟨x1, hx1⟩ : ∃ v, v = x.2 := ⟨_, rfl⟩
        obtain ⟨y0, hy0⟩ : ∃ v, v = y.1 := ⟨_, rfl⟩
        obtain ⟨y1, hy1⟩ : ∃ v, v = y.2 := ⟨_, rfl⟩
        have hxy : (x = y) ↔ (x0 = y0 ∧ x1 = y1) := by rw [hx0, hx1, hy0, hy1]; exact Prod.ext_iff
        rw [← hx0] at c0
        rw [← hx1] at c1
        rw [← hy0] at p0
        rw [← hy1] at p1
        have hE := set_eqs x0 x1 y0 y1
        have w1 : IntKind.i64.wrap ((k : Int) - 1) = (kq : Int) := by rw [IntWalk.i64_in _ (by omega)]; omega
        have w2 : IntKind.i64.wrap ((k : Int) + 1) = (k : Int) + 1 := IntWalk.i64_in _ (by omega)
        have u1 : (k : Int) < (n : Int) := by omega
        have u2 : (kq : Int) < (n : Int) := by omega
        obtain ⟨c, hc⟩ : ∃ c, c = (decide (x0 = y0) && decide (x1 = y1)) := ⟨_, rfl⟩
        rw [← hc] at hE
        cases c with
        | false =>
          have hne : ¬ x = y := fun e => by
            obtain ⟨e1, e2⟩ := hxy.1 e
            simp [e1, e2] at hc
          have hkeep : ∀ j, j < k + 1 → keeps d j = true := fun j hj => by
            by_cases e : j = k
            · subst e
              exact keeps_pos (by rw [← hkq, ← hx, ← hy]; exact hne)
            · exact hall j (by omega)
          have Hc := Lib.hid hc; have Hx := Lib.hid hx; have Hy := Lib.hid hy; have Hx0 := Lib.hid hx0; have Hx1 := Lib.hid hx1; have Hy0 := Lib.hid hy0; have Hy1 := Lib.hid hy1; have Hxy := Lib.hid hxy; have Hkeep := Lib.hid hkeep; have Hall := Lib.hid hall; have Hkq := Lib.hid hkq; clear hc hx hy hx0 hx1 hy0 hy1 hxy hkeep hall hkq
          go_wp2_with fail
          go_quiet (fail)
          go_wp2_with fail
          go_roundw
          case rel => exact ⟨k + 1, _, by go_num, by omega, by omega, rfl, Hkeep.out⟩
          case measure => simp [intOf]; omega
        | true =>
          have he : x = y := hxy.2 (by simpa using hc.symm)
          have hdup : keeps d k = false := keeps_neg (by omega) (by rw [← hkq, ← hx, ← hy]; exact he)
          have hst := CompInv.start hall hdup
          have u3 : (k : Int) ≤ (n : Int) := by omega
          have u4 : k ≤ n := by omega
          have Hc := Lib.hid hc; have Hx := Lib.hid hx; have Hy := Lib.hid hy; have Hx0 := Lib.hid hx0; have Hx1 := Lib.hid hx1; have Hy0 := Lib.hid hy0; have Hy1 := Lib.hid hy1; have Hxy := Lib.hid hxy; have Hall := Lib.hid hall; have Hkq := Lib.hid hkq; have He := Lib.hid he; have Hdup := Lib.hid hdup; have Hst := Lib.hid hst; clear hc hx hy hx0 hx1 hy0 hy1 hxy hall hkq he hdup hst
          go_wp2_with fail
          go_quiet (fail)
          go_wp2_with fail
          obtain ⟨m, hm⟩ : ∃ m, m = n - k := ⟨_, rfl⟩
          rw [← hm]
          have hkm : k + m = n := by omega
          clear c0 c1 p0 p1 hE w1 w2 u1 u2 u3 u4
          have Hm := Lib.hid hm; clear hm
          go_loopw [3, 5] (fun x y wr => ∃ (kk k2 : Nat) (dk : Array Setg), x = .int .i64 kk ∧ y = .int .i64 k2 ∧ 1 ≤ k2 ∧ k2 ≤ m ∧ CompInv d (k + k2) kk dk ∧ wr.ownsRow B 38 2 (.slice (some ⟨g, 0, none⟩) n cap) n (dk.toList.flatMap setCells) ∧ ∀ w0, Below B w0 w → B ≤ w.heap.size → Below B w0 wr ∧ B ≤ wr.heap.size) (fun _ y _ => m - (intOf y).toNat)
          case atStart => exact ⟨k, 1, d, rfl, rfl, Nat.le_refl _, by omega, Hst.out, Hrow.out, fun w0 hb hB => ⟨bel_drewN hb _, hB⟩⟩
          case round =>
            obtain ⟨kk, k2, dk, rfl, rfl, h1, hle, hI, hR, hB⟩ := hrel
            have hkk := hI.lt
            have hdks : dk.size = n := by rw [hI.size, Hds.out]
            have hds := Hds.out
            have hatk := fun i hi => set_at hR (by simpa using hdks) i hi
            simp only [Array.toArray_toList] at hatk
            by_cases hlt2 : k2 < m
            · obtain ⟨kp, hkp⟩ : ∃ kp, kp = k2 - 1 := ⟨_, rfl⟩
              obtain ⟨c0, _, c1, _⟩ := hatk (k + k2) (by omega)
              obtain ⟨p0, _, p1, _⟩ := hatk (k + kp) (by omega)
              obtain ⟨s0, sf0, s1, sf1⟩ := hatk kk (by omega)
              rw [hI.high (k + k2) (by omega), show (k + k2) * 2 = k * 2 + k2 * 2 from Nat.add_mul _ _ _] at c0 c1
              rw [hI.high (k + kp) (by omega), show (k + kp) * 2 = k * 2 + kp * 2 from Nat.add_mul _ _ _] at p0 p1
              obtain ⟨x, hx⟩ : ∃ x, x = d[k + k2]! := ⟨_, rfl⟩
              obtain ⟨y, hy⟩ : ∃ x, x = d[k + kp]! := ⟨_, rfl⟩
              rw [← hx] at c0 c1
              rw [← hy] at p0 p1
              have hput := fun q => set_put (w := wr.drewN q) (B := B) (g := g) (n := n) (cap := cap) (d := dk) hR hdks kk (by omega) x
              obtain ⟨x0, hx0⟩ : ∃ v, v = x.1 := ⟨_, rfl⟩
              obtain ⟨x1, hx1⟩ : ∃ v, v = x.2 := ⟨_, rfl⟩
              obtain ⟨y0, hy0⟩ : ∃ v, v = y.1 := ⟨_, rfl⟩
              obtain ⟨y1, hy1⟩ : ∃ v, v = y.2 := ⟨_, rfl⟩
              have hxy : (x = y) ↔ (x0 = y0 ∧ x1 = y1) := by rw [hx0, hx1, hy0, hy1]; exact Prod.ext_iff
              rw [← hx0] at c0
              rw [← hx1] at c1
              rw [← hx0, ← hx1] at hput
              rw [← hy0] at p0
              rw [← hy1] at p1
              obtain ⟨o0, ho0⟩ : ∃ v, v = dk[kk]!.1 := ⟨_, rfl⟩
              obtain ⟨o1, ho1⟩ : ∃ v, v = dk[kk]!.2 := ⟨_, rfl⟩
              rw [← ho0] at s0
              rw [← ho1] at s1
              have hE := set_neqs x0 x1 y0 y1
              have w1 : IntKind.i64.wrap ((k2 : Int) - 1) = (kp : Int) := by rw [IntWalk.i64_in _ (by omega)]; omega
              have w2 : IntKind.i64.wrap ((k2 : Int) + 1) = (k2 : Int) + 1 := IntWalk.i64_in _ (by omega)
              have w3 : IntKind.i64.wrap ((kk : Int) + 1) = (kk : Int) + 1 := IntWalk.i64_in _ (by omega)
              have u1 : (k2 : Int) < (m : Int) := by omega
              have u2 : (kp : Int) < (m : Int) := by omega
              have u3 : (kk : Int) < (n : Int) := by omega
              have hms : k + k2 < d.size := by omega
              obtain ⟨c, hc⟩ : ∃ c, c = (decide (x0 = y0) && decide (x1 = y1)) := ⟨_, rfl⟩
              rw [← hc] at hE
              cases c with
              | true =>
                have he : x = y := hxy.2 (by simpa using hc.symm)
                have hsk := hI.skip (keeps_neg (by omega) (by rw [show k + k2 - 1 = k + kp by omega, ← hx, ← hy]; exact he))
                rw [Bool.not_true] at hE
                have Hc := Lib.hid hc; have Hx := Lib.hid hx; have Hy := Lib.hid hy; have Hx0 := Lib.hid hx0; have Hx1 := Lib.hid hx1; have Hy0 := Lib.hid hy0; have Hy1 := Lib.hid hy1; have Hxy := Lib.hid hxy; have Ho0 := Lib.hid ho0; have Ho1 := Lib.hid ho1; have Hput := Lib.hid hput; have HI := Lib.hid hI; have HR := Lib.hid hR; have HB := Lib.hid hB; have Hatk := Lib.hid hatk; have Hdks := Lib.hid hdks; have Hds := Lib.hid hds; have Hkp := Lib.hid hkp; have He := Lib.hid he; have Hsk := Lib.hid hsk; clear hc hx hy hx0 hx1 hy0 hy1 hxy ho0 ho1 hput hI hR hB hatk hdks hds hkp he hsk
                go_wp2_with fail
                go_quiet (fail)
                go_wp2_with fail
                go_roundw
                case rel => exact ⟨kk, k2 + 1, dk, rfl, by go_num, by omega, by omega, Hsk.out, HR.out, fun w0 hb hB => ⟨bel_drewN (HB.out w0 hb hB).1 _, (HB.out w0 hb hB).2⟩⟩
                case measure => simp [intOf]; omega
              | false =>
                have hne : ¬ x = y := fun e => by
                  obtain ⟨e1, e2⟩ := hxy.1 e
                  simp [e1, e2] at hc
                have hsk := hI.keep hms (keeps_pos (by rw [show k + k2 - 1 = k + kp by omega, ← hx, ← hy]; exact hne))
                rw [← hx] at hsk
                rw [Bool.not_false] at hE
                have Hc := Lib.hid hc; have Hx := Lib.hid hx; have Hy := Lib.hid hy; have Hx0 := Lib.hid hx0; have Hx1 := Lib.hid hx1; have Hy0 := Lib.hid hy0; have Hy1 := Lib.hid hy1; have Hxy := Lib.hid hxy; have Ho0 := Lib.hid ho0; have Ho1 := Lib.hid ho1; have Hput := Lib.hid hput; have HI := Lib.hid hI; have HR := Lib.hid hR; have HB := Lib.hid hB; have Hatk := Lib.hid hatk; have Hdks := Lib.hid hdks; have Hds := Lib.hid hds; have Hkp := Lib.hid hkp; have Hne := Lib.hid hne; have Hsk := Lib.hid hsk; clear hc hx hy hx0 hx1 hy0 hy1 hxy ho0 ho1 hput hI hR hB hatk hdks hds hkp hne hsk
                go_wp2_with fail
                go_quiet (fail)
                go_wp2_with fail
                refine ⟨⟨kk + 1, k2 + 1, dk.setIfInBounds kk x, by go_num, by go_num, by omega, by omega, Hsk.out, (Hput.out nq).1, fun w0 hb hBs => (Hput.out nq).2 w0 (bel_drewN (HB.out w0 hb hBs).1 _) (HB.out w0 hb hBs).2⟩, ?_⟩
                simp [intOf]
                omega
            · obtain rfl : k2 = m := by omega
              have hlen := hI.len
              have hI2 := hI
              rw [hkm] at hI2
              have hcl := fun ty => clear_sets (W := wr) (g := g) (o := kk * 2) (m := n - kk) (c := cap - kk) ty (by omega) (fun j hj => by
                obtain ⟨a0, _, a1, _⟩ := hatk (kk + j / 2) (by omega)
                have : j % 2 = 0 ∨ j % 2 = 1 := by omega
                rcases this with e | e
                · rw [show kk * 2 + j = (kk + j / 2) * 2 by omega, a0]; rfl
                · rw [show kk * 2 + j = (kk + j / 2) * 2 + 1 by omega, a1]; rfl) (fun j hj => hR.frozenAt _)
              obtain ⟨Z, hZ⟩ : ∃ Z, Z = (Builtin.zeroCells #[.string ⟨#[]⟩, .string ⟨#[]⟩] (n - kk)).toList := ⟨_, rfl⟩
              rw [← hZ] at hcl
              have hfin : CompPost B g cap w (compactUpTo d n) (.returned (.slice (some ⟨g, 0, none⟩) kk cap)) (wr.setCells g (kk * 2) Z) := by
                have hl : (compactUpTo d n).length = kk := by rw [← hkm]; exact hlen
                have htk : compactUpTo d n = dk.toList.take kk := by
                  apply List.ext_getElem?
                  intro j
                  by_cases hj : j < kk
                  · have hlow := hI.low j hj
                    rw [hkm] at hlow
                    rw [hlow, List.getElem?_take, if_pos hj, Array.getElem?_toList, getElem!_pos dk j (by omega), Array.getElem?_eq_getElem]
                  · rw [List.getElem?_eq_none (by omega), List.getElem?_eq_none (by simp; omega)]
                have ht := owns_take setCells_two hR (by simpa using hdks) kk (by omega)
                have hs : ∀ w0, Below B w0 w → B ≤ w.heap.size → Below B w0 (wr.setCells g (kk * 2) Z) := fun w0 hb hBs =>
                  (owns_setCells Z (kk * 2) wr ht (by rw [ht.1]; exact Nat.le_refl _) (hB w0 hb hBs).2).2 w0 (hB w0 hb hBs).1
                refine ⟨by rw [hl], ?_, hs⟩
                rw [hl, htk]
                have hbs : B ≤ wr.heap.size := by have := (hR.lt g rfl); omega
                exact (owns_setCells Z (kk * 2) wr ht (by rw [ht.1]; exact Nat.le_refl _) hbs).1
              have u3 : (kk : Int) ≤ (n : Int) := by omega
              have u4 : kk ≤ n := by omega
              have u5 : (kk : Int) ≤ (cap : Int) := by omega
              have Hfin := Lib.hid hfin; have HZ := Lib.hid hZ; have HI := Lib.hid hI; have HI2 := Lib.hid hI2; have HR := Lib.hid hR; have HB := Lib.hid hB; have Hatk := Lib.hid hatk; have Hdks := Lib.hid hdks; have Hds := Lib.hid hds; have Hlen := Lib.hid hlen; clear hfin hZ hI hI2 hR hB hatk hdks hds hlen
              go_wp2_with fail
              go_ret
              exact Hfin.out
      · obtain rfl : k = n := by omega
        have hs := Hsame.out q hall _ rfl
        have Hall := Lib.hid hall; have Hs := Lib.hid hs; clear hall hs
        go_wp2_with fail
        go_ret
        exact Hs.out
end Go.Proofs.Ytnelgellbabkoaa

/- Plain facts of clauses' forms: what sorting, and leaving out what stands twice, gives. No condition. -/
namespace Go.Proofs.Ytnelgellbabkoaa.CnfM
open Go.Lib Go.Sort Go.RowKit

/-- the least number -/
def low : Int := -9223372036854775808
def neg (x : Int) : Int := wrap64 (-x)
def ab (x : Int) : Int := max x (neg x)
def wrong (n : Int) : Bool := n == 0 || n == low
/-- how two literals stand to each other -/
def cf (a b : Int) : Int := if compareInt (ab a) (ab b) ≠ 0 then compareInt (ab a) (ab b) else compareInt a b
def lt (a b : Int) : Bool := decide (cf a b < 0)
theorem lt_iff (a b : Int) : lt a b = true ↔ ab a < ab b ∨ (ab a = ab b ∧ a < b) := by
  unfold lt cf compareInt
  rw [decide_eq_true_iff]
  repeat' split
  all_goals omega
theorem swo : SWO lt where
  irrefl x := by
    rw [Bool.eq_false_iff]; intro h; rw [lt_iff] at h; omega
  trans x y z h1 h2 := by rw [lt_iff] at *; omega
  ntrans x y z h1 h2 := by
    rw [Bool.eq_false_iff] at *
    simp only [ne_eq, lt_iff] at *
    omega
theorem total (x y : Int) (h1 : lt x y = false) (h2 : lt y x = false) : x = y := by
  rw [Bool.eq_false_iff] at *
  simp only [ne_eq, lt_iff] at *
  omega

/-- strictly rising -/
abbrev Up (l : List Int) : Prop := l.Pairwise fun a b => lt a b = true
theorem up_unique : ∀ (a b : List Int), Up a → Up b → (∀ x, x ∈ a ↔ x ∈ b) → a = b
  | [], [], _, _, _ => rfl
  | [], y :: b, _, _, h => by have := (h y).2 (by simp); simp at this
  | x :: a, [], _, _, h => by have := (h x).1 (by simp); simp at this
  | x :: a, y :: b, ha, hb, h => by
    have h1 := List.pairwise_cons.1 ha
    have h2 := List.pairwise_cons.1 hb
    have e : x = y := by
      have hx := (h x).1 (by simp)
      have hy := (h y).2 (by simp)
      rcases List.mem_cons.1 hx with e | hx
      · exact e
      · rcases List.mem_cons.1 hy with e | hy
        · exact e.symm
        · have q1 := h1.1 y hy
          have q2 := h2.1 x hx
          rw [lt_iff] at q1 q2
          omega
    subst e
    congr 1
    refine up_unique a b h1.2 h2.2 fun z => ⟨fun hz => ?_, fun hz => ?_⟩
    · rcases List.mem_cons.1 ((h z).1 (by simp [hz])) with e | q
      · subst e
        have := h1.1 z hz
        rw [lt_iff] at this; omega
      · exact q
    · rcases List.mem_cons.1 ((h z).2 (by simp [hz])) with e | q
      · subst e
        have := h2.1 z hz
        rw [lt_iff] at this; omega
      · exact q

def srt (l : List Int) : List Int := l.mergeSort fun x y => !lt y x
theorem srt_perm (l : List Int) : (srt l).Perm l := List.mergeSort_perm _ _
theorem srt_sorted (l : List Int) : (srt l).Pairwise fun x y => lt y x = false := by
  have := List.pairwise_mergeSort (le := fun x y => !lt y x) (fun a b c h1 h2 => by
    simp only [Bool.not_eq_true', Bool.eq_false_iff, ne_eq, lt_iff] at *; omega) (fun a b => by
    simp only [Bool.or_eq_true, Bool.not_eq_true', Bool.eq_false_iff, ne_eq, lt_iff]; omega) l
  exact this.imp fun h => by simpa using h
/-- without what stands twice -/
def cpt (l : List Int) : List Int := compactUpTo l.toArray l.length

theorem cpt_mem_upto (d : Array Int) : ∀ m, (∀ i, i < m → d[i]! ∈ compactUpTo d m) ∧ (∀ x ∈ compactUpTo d m, ∃ j, j < m ∧ x = d[j]!)
  | 0 => ⟨fun i h => by omega, fun x h => by simp [compactUpTo] at h⟩
  | m + 1 => by
    obtain ⟨h1, h2⟩ := cpt_mem_upto d m
    rw [compactUpTo_succ]
    refine ⟨fun i hi => ?_, fun x hx => ?_⟩
    · by_cases e : i = m
      · subst e
        by_cases hk : keeps d i = true
        · simp [hk]
        · have hi0 : i ≠ 0 := by
            intro h0; subst h0; simp [keeps] at hk
          have hd : d[i]! = d[i - 1]! := by
            simp [keeps, hi0] at hk
            exact hk
          rw [hd]
          exact List.mem_append_left _ (h1 (i - 1) (by omega))
      · exact List.mem_append_left _ (h1 i (by omega))
    · rcases List.mem_append.1 hx with hx | hx
      · obtain ⟨j, hj, e⟩ := h2 x hx
        exact ⟨j, by omega, e⟩
      · split at hx
        · simp at hx
          exact ⟨m, by omega, hx⟩
        · simp at hx
theorem cpt_mem (l : List Int) (x : Int) : x ∈ cpt l ↔ x ∈ l := by
  obtain ⟨h1, h2⟩ := cpt_mem_upto l.toArray l.length
  unfold cpt
  constructor
  · intro h
    obtain ⟨j, hj, e⟩ := h2 x h
    rw [e, getElem!_pos _ _ (by simpa using hj)]
    simp
  · intro h
    obtain ⟨j, hj, e⟩ := List.mem_iff_getElem.1 h
    have := h1 j hj
    rw [getElem!_pos _ _ (by simpa using hj)] at this
    simp only [List.getElem_toArray] at this
    rw [← e]; exact this
theorem cpt_up_upto (d : Array Int) (hs : ∀ i j, i < j → j < d.size → lt d[j]! d[i]! = false) : ∀ m, m ≤ d.size → Up (compactUpTo d m)
  | 0, _ => by simp [compactUpTo]
  | m + 1, hm => by
    have ih := cpt_up_upto d hs m (by omega)
    rw [compactUpTo_succ]
    split
    · rename_i hk
      refine List.pairwise_append.2 ⟨ih, by simp, fun a ha b hb => ?_⟩
      simp at hb
      subst hb
      obtain ⟨j, hj, e⟩ := (cpt_mem_upto d m).2 a ha
      subst e
      by_cases h0 : m = 0
      · omega
      · have hne : d[m]! ≠ d[m - 1]! := by
          unfold keeps at hk
          simp [h0] at hk
          exact hk
        have q1 := hs (m - 1) m (by omega) (by omega)
        have q3 : lt d[m - 1]! d[m]! = true := by
          cases hq : lt d[m - 1]! d[m]! with
          | true => rfl
          | false => exact absurd (total _ _ q1 hq) hne
        by_cases e : j = m - 1
        · rw [e]; exact q3
        · have q2 := hs j (m - 1) (by omega) (by omega)
          rw [Bool.eq_false_iff, ne_eq, lt_iff] at q2
          rw [lt_iff] at q3 ⊢
          omega
    · simpa using ih
theorem cpt_up (l : List Int) (hs : l.Pairwise fun x y => lt y x = false) : Up (cpt l) := by
  refine cpt_up_upto l.toArray (fun i j hij hj => ?_) _ (by simp)
  have hj' : j < l.length := by simpa using hj
  have e1 : l.toArray[j]! = l[j] := by rw [getElem!_pos l.toArray j hj]; simp
  have e2 : l.toArray[i]! = l[i] := by rw [getElem!_pos l.toArray i (by simp; omega)]; simp
  rw [e1, e2]
  exact List.pairwise_iff_getElem.1 hs i j (by omega) hj' hij

/-- two neighbours are opposite -/
def bad : List Int → Bool
  | a :: b :: l => b == neg a || bad (b :: l)
  | _ => false
/-- a clause's form -/
def form (l : List Int) : List Int × Bool := if l.any wrong then ([], false) else if bad (cpt (srt l)) then ([], false) else (cpt (srt l), true)
theorem row_up (l : List Int) : Up (cpt (srt l)) := cpt_up _ (srt_sorted l)
theorem row_mem (l : List Int) (x : Int) : x ∈ cpt (srt l) ↔ x ∈ l := by rw [cpt_mem]; exact (srt_perm l).mem_iff
theorem row_is (l r : List Int) (h1 : Up r) (h2 : ∀ x, x ∈ r ↔ x ∈ l) : cpt (srt l) = r := up_unique _ _ (row_up l) h1 fun x => (row_mem l x).trans (h2 x).symm
theorem form_same (l r : List Int) (h : ∀ x, x ∈ r ↔ x ∈ l) : form r = form l := by
  have e : cpt (srt r) = cpt (srt l) := up_unique _ _ (row_up r) (row_up l) fun x => (row_mem r x).trans ((h x).trans (row_mem l x).symm)
  have e2 : r.any wrong = l.any wrong := by
    rw [Bool.eq_iff_iff, List.any_eq_true, List.any_eq_true]
    exact ⟨fun ⟨x, h1, h2⟩ => ⟨x, (h x).1 h1, h2⟩, fun ⟨x, h1, h2⟩ => ⟨x, (h x).2 h1, h2⟩⟩
  unfold form
  rw [e, e2]
theorem srt_len (l : List Int) : (srt l).length = l.length := (srt_perm l).length_eq
theorem cptUpTo_len (d : Array Int) (m : Nat) : (compactUpTo d m).length ≤ m := by
  unfold compactUpTo
  rw [List.length_map]
  exact Nat.le_trans (List.length_filter_le _ _) (by simp)
theorem row_len (l : List Int) : (cpt (srt l)).length ≤ l.length := by rw [← srt_len l]; exact cptUpTo_len _ _
theorem form_len (l : List Int) : (form l).1.length ≤ l.length := by
  unfold form
  split
  · simp
  · split
    · simp
    · exact row_len l
theorem form_mem (l : List Int) (x : Int) (h : x ∈ (form l).1) : x ∈ l := by
  unfold form at h
  split at h
  · simp at h
  · split at h
    · simp at h
    · exact (row_mem l x).1 h
theorem form_ok (l : List Int) (h : (form l).2 = true) : (form l).1 = cpt (srt l) ∧ l.any wrong = false ∧ bad (cpt (srt l)) = false := by
  unfold form at h ⊢
  split at h
  · simp at h
  · rename_i hw
    split at h
    · simp at h
    · rename_i hb
      rw [if_neg hw, if_neg hb]
      exact ⟨rfl, by simpa using hw, by simpa using hb⟩
theorem form_no (l : List Int) (h : (form l).2 = false) : (form l).1 = [] := by
  unfold form at h ⊢
  split
  · rfl
  · rename_i hw
    split
    · rfl
    · rename_i hb
      rw [if_neg hw, if_neg hb] at h
      simp at h
theorem form_of_up (l r : List Int) (h1 : Up r) (h2 : ∀ x, x ∈ r ↔ x ∈ l) (hw : l.any wrong = false) (hb : bad r = false) : form l = (r, true) := by
  unfold form
  rw [row_is l r h1 h2, hw, hb]
  rfl
end Go.Proofs.Ytnelgellbabkoaa.CnfM

/- The walks of cnf: abs, wrong, the comparison of two literals. No condition. -/
namespace Go.Proofs.Ytnelgellbabkoaa
open Go.RowKit Go.Lib Go.Sort

theorem max_is (x y : Int) : (if x < y then y else x) = max x y := by omega
set_option maxRecDepth 10000 in
theorem abs_any (x : Int) (w : World) : Calls Try.prog 60 #[.int .i64 x] w fun e w' => e = .returned (.int .i64 (CnfM.ab x)) ∧ w = w' := by
  by_cases h : x < wrap64 (-x)
  · have e : CnfM.ab x = wrap64 (-x) := by unfold CnfM.ab CnfM.neg; omega
    have He := Lib.hid e; clear e
    go_enter Try.func60, Try.ntmps60
    go_wp2_with fail
    go_ret
    exact ⟨ret_int (by rw [He.out]), rfl⟩
  · have e : CnfM.ab x = x := by unfold CnfM.ab CnfM.neg; omega
    have h : wrap64 (-x) ≤ x := by omega
    have He := Lib.hid e; clear e
    go_enter Try.func60, Try.ntmps60
    go_wp2_with fail
    go_ret
    exact ⟨ret_int (by rw [He.out]), rfl⟩
set_option maxRecDepth 10000 in
theorem wrong_any (x : Int) (w : World) : Calls Try.prog 54 #[.int .i64 x] w fun e w' => e = .returned (.bool (CnfM.wrong x)) ∧ w = w' := by
  by_cases h0 : x = 0
  · have e1 : (x == 0) = true := by rw [h0]; rfl
    have e2 : CnfM.wrong x = true := by unfold CnfM.wrong; rw [e1]; rfl
    have He2 := Lib.hid e2; clear e2
    clear h0
    go_enter Try.func54, Try.ntmps54
    go_wp2_with fail
    go_ret
    exact ⟨ret_bool (by rw [He2.out]), rfl⟩
  · have e1 : (x == 0) = false := by simpa using h0
    have e2 : CnfM.wrong x = (x == -9223372036854775808) := by unfold CnfM.wrong; rw [e1]; rfl
    have He2 := Lib.hid e2; clear e2
    clear h0
    go_enter Try.func54, Try.ntmps54
    go_wp2_with fail
    go_ret
    exact ⟨ret_bool (by rw [He2.out]), rfl⟩
set_option maxRecDepth 10000 in
theorem compare_any (x y : Int) (w : World) : Calls Try.prog 59 #[.int .i64 x, .int .i64 y] w fun e w' => e = .returned (.int .i64 (compareInt x y)) ∧ w = w' := by
  by_cases h1 : x < y
  · have e : compareInt x y = -1 := by unfold compareInt; rw [if_pos h1]
    rw [e]
    clear e
    go_enter Try.func59, Try.ntmps59
    go_wp2
    go_ret
    exact ⟨rfl, rfl⟩
  · have h1' : y ≤ x := by omega
    by_cases h2 : y < x
    · have e : compareInt x y = 1 := by unfold compareInt; rw [if_neg h1, if_pos h2]
      rw [e]
      clear e h1
      go_enter Try.func59, Try.ntmps59
      go_wp2
      go_ret
      exact ⟨rfl, rfl⟩
    · have e : compareInt x y = 0 := by unfold compareInt; rw [if_neg h1, if_neg h2]
      obtain rfl : x = y := by omega
      rw [e]
      clear e h1 h2 h1'
      go_enter Try.func59, Try.ntmps59
      go_wp2
      go_ret
      exact ⟨rfl, rfl⟩
/-- the first of two that is not 0 -/
def orOf (l : List Int) : Int := match l with
  | [] => 0
  | x :: r => if x ≠ 0 then x else orOf r
theorem orOf_snoc (l : List Int) (k : Nat) (h : k < l.length) (h0 : orOf (l.take k) = 0) : orOf (l.take (k + 1)) = l[k] := by
  induction l generalizing k with
  | nil => simp at h
  | cons x r ih =>
    match k with
    | 0 => simp [orOf]; intro h; simp [h]
    | k + 1 =>
      have h1 : x = 0 := by
        rw [List.take_succ_cons, orOf] at h0
        split at h0
        · rename_i hx; exact absurd h0 hx
        · rename_i hx; simpa using hx
      subst h1
      have := ih k (by simpa using h) (by simpa [orOf] using h0)
      simpa [orOf] using this
theorem orOf_all (l : List Int) (k : Nat) (h : orOf (l.take k) ≠ 0) : orOf l = orOf (l.take k) := by
  induction l generalizing k with
  | nil => simp
  | cons x r ih =>
    match k with
    | 0 => simp [orOf] at h
    | k + 1 =>
      rw [List.take_succ_cons, orOf] at h ⊢
      rw [orOf]
      split
      · rfl
      · rename_i hx
        rw [if_neg hx] at h
        exact ih k h
set_option maxRecDepth 10000 in
set_option maxHeartbeats 400000 in
theorem or_any (b off cap : Nat) (l : List Int) (w : World) (hl : l.length ≤ 1000) (hc : ∀ i x, l[i]? = some x → w.cell? ⟨b, off + i, none⟩ = some (.int .i64 x)) :
    Calls Try.prog 58 #[.slice (some ⟨b, off, none⟩) l.length cap] w fun e w' => e = .returned (.int .i64 (orOf l)) ∧ w = w' := by
  obtain ⟨n, hn⟩ : ∃ n, n = l.length := ⟨_, rfl⟩
  rw [← hn] at hl ⊢
  have Hn := Lib.hid hn; have Hc := Lib.hid hc; clear hn hc
  go_enter Try.func58, Try.ntmps58
  go_wp2_with fail
  go_loop [8] (fun i => ∃ k : Nat, k ≤ n ∧ i = .int .i64 k ∧ orOf (l.take k) = 0) (fun i => n - (intOf i).toNat)
  case atStart => exact ⟨0, Nat.zero_le _, rfl, by simp [orOf]⟩
  case round =>
    obtain ⟨k, hk, rfl, h0⟩ := hrel
    by_cases hlt : k < n
    · have hkl : k < l.length := by have := Hn.out; omega
      obtain ⟨x, hx⟩ : ∃ x, x = l[k]'hkl := ⟨_, rfl⟩
      have c := Hc.out k x (by rw [hx]; exact List.getElem?_eq_getElem hkl)
      have hs := orOf_snoc l k hkl h0
      rw [← hx] at hs
      by_cases hz : x = 0
      · have e1 : (x != 0) = false := by rw [hz]; rfl
        have h1 : orOf (l.take (k + 1)) = 0 := by rw [hs, hz]
        have Hx := Lib.hid hx; have Hs := Lib.hid hs; have H0 := Lib.hid h0; have Hz := Lib.hid hz; have H1 := Lib.hid h1; clear hx hs h0 hz h1
        go_wp2_with fail
        go_round
        case rel => exact ⟨k + 1, by omega, by go_num, H1.out⟩
        case measure => simp [intOf]; omega
      · have e1 : (x != 0) = true := by simpa using hz
        have h1 : orOf l = x := by rw [orOf_all l (k + 1) (by rw [hs]; exact hz), hs]
        have Hx := Lib.hid hx; have Hs := Lib.hid hs; have H0 := Lib.hid h0; have Hz := Lib.hid hz; have H1 := Lib.hid h1; clear hx hs h0 hz h1
        go_wp2_with fail
        go_ret
        exact ⟨ret_int (by rw [H1.out]), rfl⟩
    · have h1 : orOf l = 0 := by
        rw [← h0, List.take_of_length_le (by have := Hn.out; omega)]
      have H0 := Lib.hid h0; have H1 := Lib.hid h1; clear h0 h1
      go_wp2_with fail
      go_ret
      exact ⟨ret_int (by rw [H1.out]), rfl⟩
set_option maxRecDepth 10000 in
set_option maxHeartbeats 400000 in
theorem closure_any (x y : Int) (W : World) : Calls Try.prog 57 #[.int .i64 x, .int .i64 y] W fun e w' => e = .returned (.int .i64 (CnfM.cf x y)) ∧ ∃ q os, w' = grow (W.drewN q) os := by
  obtain ⟨r, hr⟩ : ∃ r, r = CnfM.cf x y := ⟨_, rfl⟩
  obtain ⟨a, ha⟩ : ∃ a, a = CnfM.ab x := ⟨_, rfl⟩
  obtain ⟨b, hb⟩ : ∃ b, b = CnfM.ab y := ⟨_, rfl⟩
  obtain ⟨c, hcc⟩ : ∃ c, c = compareInt a b := ⟨_, rfl⟩
  obtain ⟨d, hdd⟩ : ∃ d, d = compareInt x y := ⟨_, rfl⟩
  have hA := fun W => abs_any x W
  have hB := fun W => abs_any y W
  have hC := fun W => compare_any a b W
  have hD := fun W => compare_any x y W
  have hO : orOf [c, d] = r := by
    rw [hr, hcc, hdd, ha, hb]
    unfold CnfM.cf orOf orOf orOf
    split <;> simp_all
  have hE := fun (W : World) h => or_any W.heap.size 0 2 [c, d] (W.alloc (.cells #[.int .i64 c, .int .i64 d] 3)) (by simp) h
  rw [hO] at hE
  rw [← hr]
  rw [← ha] at hA
  rw [← hb] at hB
  rw [← hcc] at hC
  rw [← hdd] at hD
  have hF := fun W : World => hE W (by
    intro i x hx
    rw [Nat.zero_add, World.cell?_alloc_new]
    match i, hx with
    | 0, hx => simpa using hx
    | 1, hx => simpa using hx)
  simp only [List.length_cons, List.length_nil, Nat.zero_add] at hF
  clear hE
  have HA := Lib.hid hA; have HB := Lib.hid hB; have HC := Lib.hid hC; have HD := Lib.hid hD; have HF := Lib.hid hF; have Hr := Lib.hid hr; have Ha := Lib.hid ha; have Hb := Lib.hid hb; have Hcc := Lib.hid hcc; have Hdd := Lib.hid hdd; have HO := Lib.hid hO; clear hA hB hC hD hF hr ha hb hcc hdd hO
  go_enter Try.func57, Try.ntmps57
  go_wp2_with fail
  refine (HA.out _).mono ?_
  rintro e w1 ⟨rfl, rfl⟩
  go_wp2_with fail
  refine (HB.out _).mono ?_
  rintro e w1 ⟨rfl, rfl⟩
  go_wp2_with fail
  refine (HC.out _).mono ?_
  rintro e w1 ⟨rfl, rfl⟩
  go_wp2_with fail
  refine (HD.out _).mono ?_
  rintro e w1 ⟨rfl, rfl⟩
  go_wp2_with fail
  refine (HF.out _).mono ?_
  rintro e w1 ⟨rfl, rfl⟩
  go_wp2_with fail
  go_ret
  exact ⟨rfl, 0, _, alloc_eq_grow _ _⟩
end Go.Proofs.Ytnelgellbabkoaa

/- The walks of slices.IndexFunc and slices.ContainsFunc at Int: the first element of which a predicate holds; whether it holds of one. Condition: what the predicate gives is read off its contract. -/
namespace Go.Proofs.Ytnelgellbabkoaa
open Go.RowKit
namespace IdxInt
theorem cells_1 {ecs : List Value} (h : ecs.length = 1) : ∃ u0, ecs = [u0] := by
  match ecs, h with
  | [u0], _ => exact ⟨u0, rfl⟩

/-- what the predicate is -/
def Pred {α : Type} (R : Rd α) (p : α → Bool) (g : Nat) (cb : Array Value) (l : List α) (w : World) : Prop :=
  ∀ W u0 x, Below w.heap.size w W → x ∈ l → R W [u0] x → Calls Try.prog g (#[u0] ++ cb) W fun e w' => e = .returned (.bool (p x)) ∧ Below W.heap.size W w'
set_option maxRecDepth 10000 in
set_option maxHeartbeats 400000 in
theorem idx_any {α : Type} {R : Rd α} (hR : Stays R) (p : α → Bool) (g : Nat) (cb : Array Value) (eg : ∀ args w, (callFunc g args).run Try.prog w = .ok (.enter g args) w) {w : World} {v : Value} {l : List α} (hl : RSlice 1 R w [v] l) (hp : Pred R p g cb l w) :
    Calls Try.prog 100 #[v, .func (.func g) #[] cb] w fun e w' => e = .returned (.int .i64 (idxOf p l)) ∧ Below w.heap.size w w' := by
  obtain ⟨a, cap, hv, hcap, hmax, hel⟩ := hl
  simp only [List.cons.injEq, and_true] at hv
  subst hv
  unfold maxLen at hmax
  obtain ⟨n, hn⟩ : ∃ n, n = l.length := ⟨_, rfl⟩
  rw [← hn] at hcap ⊢
  have hn63 : n ≤ 9223372036854775807 := by omega
  have Hn := Lib.hid hn; have Hel := Lib.hid hel; have Hp := Lib.hid hp; clear hn hel hp
  go_enter Try.func100, Try.ntmps100
  go_wp2_with fail
  go_loopw [8] (fun i wr => ∃ k : Nat, k ≤ n ∧ i = .int .i64 k ∧ NoneIn p l k ∧ Below w.heap.size w wr) (fun i _ => n - (intOf i).toNat)
  case atStart => exact ⟨0, Nat.zero_le _, rfl, noneIn_zero p l, Below.refl _ _⟩
  case round =>
    obtain ⟨k, hk, rfl, hno, hb⟩ := hrel
    by_cases hlt : k < n
    · have hkl : k < l.length := by have := Hn.out; omega
      obtain ⟨x, hx⟩ : ∃ x, x = l[k]'hkl := ⟨_, rfl⟩
      obtain ⟨b, off, ecs, rfl, h4, h5, h6⟩ := Hel.out k x (by rw [hx]; exact List.getElem?_eq_getElem hkl)
      obtain ⟨u0, rfl⟩ : ∃ u0, ecs = [u0] := cells_1 h4
      have hxl : x ∈ l := by rw [hx]; exact List.getElem_mem hkl
      have c0 : wr.cell? ⟨b, off + k, none⟩ = some u0 := cell_later hb (by simpa using h5 0 u0 rfl)
      have hcall := Hp.out wr u0 x hb hxl (hR _ _ _ _ h6 hb)
      have q0 : (0 : Int) ≤ (k : Int) := by omega
      have q1 : (k : Int) < (n : Int) := by omega
      by_cases hpx : p x = true
      · rw [hpx] at hcall
        have hi : idxOf p l = k := idxOf_at hkl hno (by rw [← hx]; exact hpx)
        have Hx := Lib.hid hx; have Hno := Lib.hid hno; have Hcall := Lib.hid hcall; have H5 := Lib.hid h5; have H6 := Lib.hid h6; have Hpx := Lib.hid hpx; have Hi := Lib.hid hi; have Hb := Lib.hid hb; have Hxl := Lib.hid hxl; clear hx hno hcall h5 h6 hpx hi hb hxl
        clear h4
        go_wp2_with fail
        refine Hcall.out.mono ?_
        rintro e w2 ⟨rfl, hb2⟩
        have hb3 := Hb.out.trans (hb2.mono Hb.out.size)
        have Hb2 := Lib.hid hb2; have Hb3 := Lib.hid hb3; clear hb2 hb3
        go_wp2_with fail
        go_ret
        exact ⟨ret_int Hi.out.symm, Hb3.out⟩
      · have hpx' : p x = false := by simpa using hpx
        rw [hpx'] at hcall
        have hno2 := noneIn_succ hkl hno (by rw [← hx]; exact hpx')
        have Hx := Lib.hid hx; have Hno := Lib.hid hno; have Hcall := Lib.hid hcall; have H5 := Lib.hid h5; have H6 := Lib.hid h6; have Hpx := Lib.hid hpx; have Hpx' := Lib.hid hpx'; have Hno2 := Lib.hid hno2; have Hb := Lib.hid hb; have Hxl := Lib.hid hxl; clear hx hno hcall h5 h6 hpx hpx' hno2 hb hxl
        clear h4
        go_wp2_with fail
        refine Hcall.out.mono ?_
        rintro e w2 ⟨rfl, hb2⟩
        have hb3 := Hb.out.trans (hb2.mono Hb.out.size)
        have Hb2 := Lib.hid hb2; have Hb3 := Lib.hid hb3; clear hb2 hb3
        go_wp2_with fail
        go_roundw
        case rel => exact ⟨k + 1, by omega, by go_num, Hno2.out, Hb3.out⟩
        case measure => simp [intOf]; omega
    · have hi : idxOf p l = -1 := idxOf_none (by have := Hn.out; omega) hno
      have Hno := Lib.hid hno; have Hi := Lib.hid hi; have Hb := Lib.hid hb; clear hno hi hb
      go_wp2_with fail
      go_ret
      exact ⟨ret_int Hi.out.symm, Hb.out⟩
set_option maxRecDepth 10000 in
set_option maxHeartbeats 400000 in
theorem has_any {α : Type} {R : Rd α} (hR : Stays R) (p : α → Bool) (g : Nat) (cb : Array Value) (eg : ∀ args w, (callFunc g args).run Try.prog w = .ok (.enter g args) w) {w : World} {v : Value} {l : List α} (hl : RSlice 1 R w [v] l) (hp : Pred R p g cb l w) :
    Calls Try.prog 53 #[v, .func (.func g) #[] cb] w fun e w' => e = .returned (.bool (l.any p)) ∧ Below w.heap.size w w' := by
  have hI := idx_any hR p g cb eg hl hp
  have hab := idxOf_any p l
  obtain ⟨i, hi⟩ : ∃ i, i = idxOf p l := ⟨_, rfl⟩
  rw [← hi] at hI hab
  have Hl := Lib.hid hl; have Hp := Lib.hid hp; have HI := Lib.hid hI; have Hi := Lib.hid hi; have HR := Lib.hid hR; clear hl hp hI hi hR
  cases hq : l.any p with
  | true =>
    have hpos : 0 ≤ i := hab.1 hq
    have Hq := Lib.hid hq; have Hab := Lib.hid hab; clear hq hab
    go_enter Try.func53, Try.ntmps53
    go_wp2_with fail
    refine HI.out.mono ?_
    rintro e w2 ⟨rfl, hb2⟩
    have Hb2 := Lib.hid hb2; clear hb2
    go_wp2_with fail
    go_ret
    exact ⟨rfl, Hb2.out⟩
  | false =>
    have hneg : i < 0 := by
      rcases Int.lt_or_le i 0 with h | h
      · exact h
      · have := hab.2 h; rw [hq] at this; cases this
    have Hq := Lib.hid hq; have Hab := Lib.hid hab; clear hq hab
    go_enter Try.func53, Try.ntmps53
    go_wp2_with fail
    refine HI.out.mono ?_
    rintro e w2 ⟨rfl, hb2⟩
    have Hb2 := Lib.hid hb2; clear hb2
    go_wp2_with fail
    go_ret
    exact ⟨ret_bool (by simpa using hneg), Hb2.out⟩
end IdxInt
end Go.Proofs.Ytnelgellbabkoaa
