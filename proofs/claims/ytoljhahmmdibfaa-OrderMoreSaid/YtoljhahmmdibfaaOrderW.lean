/- The walks of the finder's from and of Circle: what is told is a way round, and there is one just if there is. Condition: at most 1000 places. -/
import Derived.Test.YtoljhahmmdibfaaOrderM
import Derived.Test.YtoljhahmmdibfaaOpen
import Derived.Test.YtoljhahmmdibfaaShelf
import Derived.Test.YtoljhahmmdibfaaRows
set_option linter.unusedVariables false
set_option linter.unusedSimpArgs false
namespace Go.Proofs.Ytoljhahmmdibfaa
open Go.RowKit OrderM

abbrev REd : Rd G := RSlice 1 (RSlice 1 (RInt .i64))
theorem opens_ints' : Opens Try.prog 35 (RSlice 1 (RInt .i64)) := opens_ints_of Try.underlying35 Try.underlying3 (by kernel_rfl)
theorem opens_edges : Opens Try.prog 34 REd := opens_slice Try.underlying34 (by kernel_rfl) (by decide) opens_ints'
theorem stays_ints : Stays (RSlice 1 (RInt .i64)) := stays_slice (stays_int _)
theorem stays_edges : Stays REd := stays_slice stays_ints
theorem elem_int : Elem Try.prog 35 3 (.int .i64 0) 1 8 := ⟨Try.underlying35, by kernel_rfl, rfl, by decide⟩

/-- one row of edges -/
theorem edge_cell {w : World} {ev : Value} {E : G} (h : REd w [ev] E) : ∃ a cap, ev = .slice a E.length cap ∧ E.length ≤ cap ∧ cap ≤ maxLen ∧
    ∀ (i : Nat) (hi : i < E.length), ∃ b off, a = some ⟨b, off, none⟩ ∧ ∃ rv, w.cell? ⟨b, off + i, none⟩ = some rv ∧ RSlice 1 (RInt .i64) w [rv] E[i] := by
  obtain ⟨a, cap, hv, h1, h2, h3⟩ := h
  simp only [List.cons.injEq, and_true] at hv
  refine ⟨a, cap, hv, h1, h2, fun i hi => ?_⟩
  obtain ⟨b, off, ecs, ha, hl, hc, hr⟩ := h3 i E[i] (List.getElem?_eq_getElem hi)
  match ecs, hl with
  | [rv], _ => exact ⟨b, off, ha, rv, by simpa using hc 0 rv rfl, hr⟩
theorem ints_form {w : World} {rv : Value} {l : List Int} (h : RSlice 1 (RInt .i64) w [rv] l) : ∃ a cap, rv = .slice a l.length cap ∧ l.length ≤ cap ∧ cap ≤ maxLen ∧
    ∀ (i : Nat) (hi : i < l.length), ∃ b off, a = some ⟨b, off, none⟩ ∧ w.cell? ⟨b, off + i, none⟩ = some (.int .i64 l[i]) ∧ -9223372036854775808 ≤ l[i] ∧ l[i] ≤ 9223372036854775807 := by
  obtain ⟨a, cap, hv, h1, h2, h3⟩ := h
  simp only [List.cons.injEq, and_true] at hv
  exact ⟨a, cap, hv, h1, h2, fun i hi => ints_cell h3 i hi⟩

def doneVals (E : G) (D : List Int) : List Value := (List.range E.length).map fun i : Nat => .int .i64 (if (i : Int) ∈ D then 1 else 0)
theorem doneVals_get (E : G) (D : List Int) (p : Nat) (h : p < E.length) : (doneVals E D)[p]? = some (.int .i64 (if (p : Int) ∈ D then 1 else 0)) := by simp [doneVals, h]
theorem doneVals_set (E : G) (D : List Int) (p : Nat) (h : p < E.length) : (doneVals E D).set p (.int .i64 1) = doneVals E ((p : Int) :: D) := by
  apply List.ext_getElem?
  intro i
  rw [List.getElem?_set]
  have hl : (doneVals E D).length = E.length := by simp [doneVals]
  by_cases hi : p = i
  · subst hi
    rw [if_pos rfl, if_pos (by omega), doneVals_get E _ p h]
    simp
  · rw [if_neg hi]
    by_cases h2 : i < E.length
    · rw [doneVals_get E _ i h2, doneVals_get E _ i h2]
      have : ((i : Int) ∈ (p : Int) :: D) = ((i : Int) ∈ D) := by simp; intro e; omega
      simp only [this]
    · rw [List.getElem?_eq_none (by omega), List.getElem?_eq_none (by simp [doneVals]; omega)]

/-- the finder's state -/
structure Fin (w0 : World) (E : G) (ev : Value) (f db : Nat) (W : List Int) (wv : Value) (D : List Int) (w : World) : Prop where
  cells : w.heap[f]? = some (.cells #[ev, wv, .slice (some ⟨db, 0, none⟩) E.length E.length] 86 (0, 0))
  way : w.ownsRow w0.heap.size 3 1 wv W.length (W.map (Value.int .i64))
  dn : w.ownsRow w0.heap.size 3 1 (.slice (some ⟨db, 0, none⟩) E.length E.length) E.length (doneVals E D)
  sep : wv.ownBlock ≠ some db
  bel : Below w0.heap.size w0 w
  fB : w0.heap.size ≤ f
  topo : Topo E D
  nodup : W.Nodup
  inr : ∀ x ∈ W, InR E x
  fresh : ∀ x ∈ W, x ∉ D
  chain : ∀ i (h : i + 1 < W.length), W[i + 1] ∈ out E W[i]

theorem Fin.fw {w0 w : World} {E : G} {ev : Value} {f db : Nat} {W : List Int} {wv : Value} {D : List Int} (h : Fin w0 E ev f db W wv D w) : (∀ k, wv.ownBlock = some k → k ≠ f) ∧ db ≠ f := by
  refine ⟨fun k hk e => ?_, fun e => ?_⟩
  · subst e
    rcases h.way.2 with ⟨h1, _⟩ | ⟨g, cap, cur, h1, _, hg, _⟩
    · rw [h1] at hk; simp [Value.ownBlock] at hk
    · rw [h1] at hk
      simp [Value.ownBlock] at hk
      subst hk
      rw [h.cells] at hg; simp at hg
  · rcases h.dn.2 with ⟨h1, _⟩ | ⟨g, cap, cur, h1, _, hg, _⟩
    · cases h1
    · simp at h1
      rw [← h1.1, e, h.cells] at hg; simp at hg

/-- the state where only other blocks have turned -/
theorem Fin.kept {w0 w w' : World} {E : G} {ev : Value} {f db : Nat} {W : List Int} {wv : Value} {D : List Int} (h : Fin w0 E ev f db W wv D w) (hf : Frm (fun _ => False) w w') : Fin w0 E ev f db W wv D w' :=
  { h with
    cells := (hf.block f (Array.getElem?_eq_some_iff.1 h.cells).1 (fun h => h)).trans h.cells
    way := hf.owns h.way (fun _ _ h => h)
    dn := hf.owns h.dn (fun _ _ h => h)
    bel := h.bel.trans (hf.below h.bel.size (fun _ h => h.elim)) }

/-- the way round stands at the end of a way that goes on from W by p -/
def OnWay (E : G) (W : List Int) (p : Int) (L : List Int) : Prop := ∃ V, L <:+ V ∧ V.Nodup ∧ (∀ x ∈ V, InR E x) ∧ W <+: V ∧ (p ∉ W → (W ++ [p]) <+: V)
def FromPost (w0 : World) (E : G) (ev : Value) (f db : Nat) (W : List Int) (D : List Int) (p : Int) (e : Ending) (w' : World) : Prop :=
  (∃ g n c L, e = .returned (.slice (some ⟨g, 0, none⟩) n c) ∧ (IsCyc E L ∧ OnWay E W p L) ∧ RSlice 1 (RInt .i64) w' [.slice (some ⟨g, 0, none⟩) n c] L ∧ Below w0.heap.size w0 w') ∨
  (e = .returned (.slice none 0 0) ∧ ∃ wv' D', Fin w0 E ev f db W wv' D' w' ∧ (∀ x ∈ D, x ∈ D') ∧ (InR E p → p ∈ D'))

theorem rints_of_owns {w : World} {B : Nat} {e : TypeId} {v : Value} {l : List Int} (hl : ∀ x ∈ l, (Lit.int .i64 x).wf = true) (h : w.ownsRow B e 1 v l.length (l.map (Value.int .i64))) : RSlice 1 (RInt .i64) w [v] l := by
  rcases h.2 with ⟨rfl, h0⟩ | ⟨g, cap, cur, rfl, hg, hh, hn, hm, hs, ht⟩
  · exact ⟨none, 0, by rw [h0], by omega, Nat.zero_le _, fun i x hi => by have := (List.getElem?_eq_some_iff.1 hi).1; omega⟩
  · refine ⟨some ⟨g, 0, none⟩, cap, rfl, hn, hm, fun i x hi => ⟨g, 0, [.int .i64 x], rfl, rfl, fun j u hu => ?_, rfl, hl x (List.mem_of_getElem? hi)⟩⟩
    have hj : j = 0 := by have := (List.getElem?_eq_some_iff.1 hu).1; simp at this; omega
    subst hj
    simp at hu
    subst hu
    have := h.cells (g := g) rfl i (.int .i64 x) (by simp [hi])
    rw [Addr.add_lit] at this
    simpa using this

set_option maxHeartbeats 2000000 in
/-- it stands on the way: a way round -/
theorem from_hit {w0 w : World} {E : G} {ev : Value} {f db : Nat} {W : List Int} {wv : Value} {D : List Int} (h : Fin w0 E ev f db W wv D w) (hE : E.length ≤ 1000) (p : Int) (hp : ∀ h : W ≠ [], p ∈ out E (W.getLast h)) (hin : p ∈ W) :
    Calls Try.prog 43 #[.pointer (some ⟨f, 0, none⟩), .int .i64 p] w (FromPost w0 E ev f db W D p) := by
  have hne : W ≠ [] := List.ne_nil_of_mem hin
  have hpos : 0 < W.length := List.length_pos_iff.2 hne
  have hWl : W.length ≤ E.length := pigeon _ W h.nodup h.inr
  obtain ⟨k, hk, hkp⟩ := List.mem_iff_getElem.1 hin
  have hidx : Lib.idxOf (W.take W.length) p = (k : Int) := by
    refine Lib.idxOf_hit W W.length k p hk (Nat.le_refl _) (by simp [List.getD, hk, hkp]) (fun j hj e => ?_)
    rw [List.getD_eq_getElem?_getD, List.getElem?_eq_getElem (by omega)] at e
    simp at e
    exact List.pairwise_iff_getElem.1 h.nodup j k (by omega) hk hj (by rw [e, hkp])
  have hcyc := Lib.hid (And.intro (cyc_of_way h.nodup h.inr h.chain hne (hp hne) k hk hkp) (show OnWay E W p (W.drop k) from ⟨W, List.drop_suffix k W, h.nodup, h.inr, List.prefix_refl W, fun hn => absurd hin hn⟩))
  have hwf : ∀ x ∈ W.drop k, (Lit.int .i64 x).wf = true := by
    intro x hx
    have := h.inr x (List.mem_of_mem_drop hx)
    unfold InR at this
    simp [Lit.wf, IntKind.min, IntKind.max, IntKind.signed, IntKind.bits]
    omega
  obtain ⟨g, cap, rfl, hgB, hgs, hcap, hcm, hcell⟩ := ownsRow_some h.way hpos
  have c1 := cell_of_row w f 1 _ _ _ h.cells
  simp only [List.getElem?_toArray, List.getElem?_cons_succ, List.getElem?_cons_zero] at c1
  have hc1 : ∀ j, j < W.length → w.cell? ⟨g, 0 + j, none⟩ = some (.int .i64 (W.getD j 0)) := by
    intro j hj
    rw [Nat.zero_add]
    exact hcell j _ (by simp [hj, List.getD])
  have hc2 : ∀ j, j < (W.drop k).length → w.cell? ⟨g, k + j, none⟩ = some (.int .i64 ((W.drop k).getD j 0)) := by
    intro j hj
    simp at hj
    refine hcell (k + j) _ ?_
    have h1 : k + j < W.length := by omega
    simp [h1, List.getD]
  have HX := Lib.hid (Try.slices_Index_int g 0 W.length cap W p w (Nat.le_refl _) (by omega) hc1)
  have HY := Lib.hid (Try.slices_Clone_int g k (W.length - k) (cap - k) (W.drop k) w (by simp) (by omega) hc2)
  have HI := Lib.hid hidx
  have H := Lib.hid h
  have hkc : k < cap := by omega
  unfold maxLen at hcm
  have hk0 : (0 : Int) ≤ (k : Int) := by omega
  have HC1 := Lib.hid hc1; have HC2 := Lib.hid hc2; have HWF := Lib.hid hwf; have HCE := Lib.hid hcell
  clear hidx h hp hc1 hc2 hwf hcell hin hkp
  go_enter Try.func43, Try.ntmps43
  go_wp2_with fail
  refine HX.out.mono ?_
  rintro e w' ⟨rfl, rfl⟩
  rw [HI.out]
  go_wp2_with fail
  refine HY.out.mono ?_
  rintro e w2 ⟨v', rfl, hown, _, hb2⟩
  have ht : (W.drop k).take (W.length - k) = W.drop k := List.take_of_length_le (by simp)
  rw [ht] at hown
  obtain ⟨g2, cap2, rfl, _⟩ := ownsRow_some hown (by omega)
  have hlen : W.length - k = (W.drop k).length := by simp
  have hR := rints_of_owns HWF.out (by rw [← hlen]; exact hown)
  have HR := Lib.hid hR; have HB := Lib.hid hb2
  clear hown hb2 hR ht hlen
  go_wp2_with fail
  go_ret
  exact .inl ⟨g2, W.length - k, cap2, W.drop k, rfl, hcyc.out, HR.out, H.out.bel.trans (HB.out.mono H.out.bel.size)⟩

set_option maxHeartbeats 2000000 in
/-- it leads out of range, or was left before -/
theorem from_old {w0 w : World} {E : G} {ev : Value} {f db : Nat} {W : List Int} {wv : Value} {D : List Int} (h : Fin w0 E ev f db W wv D w) (hE : E.length ≤ 1000) (hed : REd w0 [ev] E) (p : Int) (hp0 : -9223372036854775808 ≤ p ∧ p ≤ 9223372036854775807) (hin : p ∉ W) (hold : InR E p → p ∈ D) :
    Calls Try.prog 43 #[.pointer (some ⟨f, 0, none⟩), .int .i64 p] w (FromPost w0 E ev f db W D p) := by
  have hWl : W.length ≤ E.length := pigeon _ W h.nodup h.inr
  have hidx : Lib.idxOf (W.take W.length) p = -1 := Lib.idxOf_miss W W.length p (fun j hj e => by
    rw [List.getD_eq_getElem?_getD, List.getElem?_eq_getElem hj] at e
    simp at e
    exact hin (by rw [← e]; exact List.getElem_mem hj))
  have HX : Hid (Calls Try.prog 60 #[wv, .int .i64 p] w fun e w' => e = .returned (.int .i64 (-1)) ∧ w' = w) := by
    show Calls _ _ _ _ _
    rw [← hidx]
    by_cases h0 : W.length = 0
    · obtain ⟨a, c, rfl⟩ : ∃ a c, wv = .slice a W.length c := by
        rcases h.way.2 with ⟨h1, h2⟩ | ⟨g, cap, _, h1, _⟩
        · exact ⟨none, 0, by rw [h1, h2]⟩
        · exact ⟨_, cap, h1⟩
      rw [h0]
      exact Try.slices_Index_int_empty a c p w
    · obtain ⟨g, cap, rfl, hgB, hgs, hcap, hcm, hcell⟩ := ownsRow_some h.way (by omega)
      refine Try.slices_Index_int g 0 W.length cap W p w (Nat.le_refl _) (by omega) (fun j hj => ?_)
      rw [Nat.zero_add]
      exact hcell j _ (by simp [hj, List.getD])
  obtain ⟨ea, ecap, hev, hec, hem, _⟩ := edge_cell hed
  subst hev
  have c0 := cell_of_row w f 0 _ _ _ h.cells
  have c1 := cell_of_row w f 1 _ _ _ h.cells
  have c2 := cell_of_row w f 2 _ _ _ h.cells
  simp only [List.getElem?_toArray, List.getElem?_cons_succ, List.getElem?_cons_zero] at c0 c1 c2
  have hdone : ∀ q : Nat, q < E.length → w.cell? ⟨db, q, none⟩ = some (.int .i64 (if (q : Int) ∈ D then 1 else 0)) := by
    intro q hq
    obtain ⟨g, cap, hv, _, _, _, _, hcell⟩ := ownsRow_some h.dn (by omega)
    simp at hv
    rw [hv.1]
    exact hcell q _ (doneVals_get E D q hq)
  have H := Lib.hid h; have HI := Lib.hid hidx; have HD := Lib.hid hdone; have HO := Lib.hid hold
  clear h hidx hdone hold hed
  by_cases h1 : p < 0
  · go_enter Try.func43, Try.ntmps43
    go_wp2_with fail
    refine HX.out.mono ?_
    rintro e w' ⟨rfl, rfl⟩
    go_wp2_with fail
    go_ret
    exact .inr ⟨rfl, wv, D, H.out, fun _ h => h, HO.out⟩
  · by_cases h2 : p < E.length
    · obtain ⟨q, rfl⟩ := Int.eq_ofNat_of_zero_le (show 0 ≤ p by omega)
      have hmem : (q : Int) ∈ D := HO.out ⟨by omega, h2⟩
      have hd := HD.out q (by omega)
      rw [if_pos hmem] at hd
      have HM := Lib.hid hmem; clear hmem
      go_enter Try.func43, Try.ntmps43
      go_wp2_with fail
      refine HX.out.mono ?_
      rintro e w' ⟨rfl, rfl⟩
      go_wp2_with fail
      go_ret
      exact .inr ⟨rfl, wv, D, H.out, fun _ h => h, HO.out⟩
    · have h3 : (E.length : Int) ≤ p := by omega
      go_enter Try.func43, Try.ntmps43
      go_wp2_with fail
      refine HX.out.mono ?_
      rintro e w' ⟨rfl, rfl⟩
      go_wp2_with fail
      go_ret
      exact .inr ⟨rfl, wv, D, H.out, fun _ h => h, HO.out⟩

theorem getLast_snoc {W : List Int} {p : Int} (h : W ++ [p] ≠ []) : (W ++ [p]).getLast h = p := by simp

/-- the way grows -/
theorem Fin.push {w0 w w3 : World} {E : G} {ev : Value} {f db : Nat} {W : List Int} {wv : Value} {D : List Int} (h : Fin w0 E ev f db W wv D w) (q : Nat) (hq : q < E.length) (hin : (q : Int) ∉ W) (hnd : (q : Int) ∉ D) (hp : ∀ h : W ≠ [], (q : Int) ∈ out E (W.getLast h))
    {g cap : Nat} (hown : w3.ownsRow w0.heap.size 3 1 (.slice (some ⟨g, 0, none⟩) (W.length + 1) cap) (W.length + 1) (W.map (Value.int .i64) ++ [.int .i64 q])) (hg : w.grownBy w3 wv.ownBlock) (hm : Moved w wv (.slice (some ⟨g, 0, none⟩) (W.length + 1) cap)) :
    Fin w0 E ev f db (W ++ [(q : Int)]) (.slice (some ⟨g, 0, none⟩) (W.length + 1) cap) D (w3.setCell ⟨f, 1, none⟩ (.slice (some ⟨g, 0, none⟩) (W.length + 1) cap)) := by
  obtain ⟨a1, a2⟩ := h.fw
  have hfs := (Array.getElem?_eq_some_iff.1 h.cells).1
  have hdbs : db < w.heap.size := (h.dn.lt db rfl).2
  have f1 : Frm (fun k => wv.ownBlock = some k) w w3 := (Frm.refl _ w).grown hg (fun k hk => .inr hk)
  have c3 : w3.heap[f]? = some (.cells #[ev, wv, .slice (some ⟨db, 0, none⟩) E.length E.length] 86 (0, 0)) := (f1.block f hfs (fun e => a1 f e rfl)).trans h.cells
  have hgf : g ≠ f := by
    rcases hm g rfl with e | e
    · exact a1 g e
    · omega
  have hgd : g ≠ db := by
    rcases hm g rfl with e | e
    · exact fun x => h.sep (by rw [e, x])
    · omega
  have f2 : Frm (fun k => k = f) w3 (w3.setCell ⟨f, 1, none⟩ (.slice (some ⟨g, 0, none⟩) (W.length + 1) cap)) := Frm.setCell (S := fun k => k = f) (Frm.refl _ w3) (p := ⟨f, 1, none⟩) (.inr rfl) _
  refine ⟨?_, ?_, ?_, by simp [Value.ownBlock]; exact hgd, ?_, h.fB, h.topo, ?_, ?_, ?_, ?_⟩
  · rw [heap_setCell_same w3 f 1 _ _ _ c3]; rfl
  · rw [List.length_append, List.map_append]
    exact f2.owns hown (fun k hk => by simp [Value.ownBlock] at hk; omega)
  · exact f2.owns (f1.owns h.dn (fun k hk e => h.sep (by rw [e]; exact hk.symm ▸ rfl))) (fun k hk => by simp [Value.ownBlock] at hk; omega)
  · have b1 : Below w0.heap.size w w3 := f1.below h.bel.size (fun k hk => (h.way.lt k hk).1)
    have b2 : Below w0.heap.size w3 _ := f2.below (by have := h.bel.size; have := f1.size; omega) (fun k hk => by rw [hk]; exact h.fB)
    exact (h.bel.trans b1).trans b2
  · rw [List.nodup_append]
    exact ⟨h.nodup, by simp, fun a ha b hb => by simp at hb; subst hb; exact fun e => hin (e ▸ ha)⟩
  · intro x hx
    rcases List.mem_append.1 hx with hx | hx
    · exact h.inr x hx
    · simp at hx; subst hx; exact ⟨by omega, by omega⟩
  · intro x hx
    rcases List.mem_append.1 hx with hx | hx
    · exact h.fresh x hx
    · simp at hx; subst hx; exact hnd
  · intro i hi
    have hl : (W ++ [(q : Int)]).length = W.length + 1 := by simp
    by_cases hi2 : i + 1 < W.length
    · rw [List.getElem_append_left hi2, List.getElem_append_left (by omega)]
      exact h.chain i hi2
    · have hne : W ≠ [] := List.ne_nil_of_length_pos (by omega)
      have hiW : i < W.length := by omega
      have e1 : (W ++ [(q : Int)])[i + 1] = (q : Int) := by
        have h1 : (W ++ [(q : Int)])[i + 1]? = some (q : Int) := by
          rw [List.getElem?_append_right (show W.length ≤ i + 1 by omega), show i + 1 - W.length = 0 by omega]; rfl
        exact (List.getElem?_eq_some_iff.1 h1).2
      have e2 : (W ++ [(q : Int)])[i] = W.getLast hne := by
        rw [List.getElem_append_left hiW, List.getLast_eq_getElem]
        congr 1
        omega
      rw [e1, e2]
      exact hp hne

/-- and shrinks, and its place is left -/
theorem Fin.pop {w0 w w4 : World} {E : G} {ev : Value} {f db : Nat} {W : List Int} {g cap : Nat} {D : List Int} {q : Nat} (h : Fin w0 E ev f db (W ++ [(q : Int)]) (.slice (some ⟨g, 0, none⟩) (W.length + 1) cap) D w) (hq : q < E.length) (hall : ∀ t ∈ out E q, InR E t → t ∈ D) (d : Nat)
    (hw4 : w4 = ((w.setCell ⟨f, 1, none⟩ (.slice (some ⟨g, 0, none⟩) W.length cap)).drewN d).setCell ⟨db, q, none⟩ (.int .i64 1)) :
    Fin w0 E ev f db W (.slice (some ⟨g, 0, none⟩) W.length cap) ((q : Int) :: D) w4 := by
  subst hw4
  obtain ⟨a1, a2⟩ := h.fw
  have hgf : g ≠ f := a1 g rfl
  have hgd : g ≠ db := fun e => h.sep (by simp [Value.ownBlock, e])
  have f2 : Frm (fun k => k = f) w ((w.setCell ⟨f, 1, none⟩ (.slice (some ⟨g, 0, none⟩) W.length cap)).drewN d) := (Frm.setCell (S := fun k => k = f) (Frm.refl _ w) (p := ⟨f, 1, none⟩) (.inr rfl) _).drewN d
  have d2 := f2.owns h.dn (fun k hk => by simp [Value.ownBlock] at hk; omega)
  obtain ⟨d3, dg⟩ := d2.stored q (.int .i64 1)
  rw [doneVals_set E D q hq] at d3
  have f3 : Frm (fun k => k = db) ((w.setCell ⟨f, 1, none⟩ (.slice (some ⟨g, 0, none⟩) W.length cap)).drewN d) (((w.setCell ⟨f, 1, none⟩ (.slice (some ⟨g, 0, none⟩) W.length cap)).drewN d).setCell ⟨db, q, none⟩ (.int .i64 1)) := Frm.setCell (S := fun k => k = db) (Frm.refl _ _) (p := ⟨db, q, none⟩) (.inr rfl) _
  have hway : w.ownsRow w0.heap.size 3 1 (.slice (some ⟨g, 0, none⟩) W.length cap) W.length (W.map (Value.int .i64)) := by
    have h1 := h.way
    rcases h1.2 with ⟨e, _⟩ | ⟨g', cap', cur, e, hb, hh, hn, hm, hs, ht⟩
    · cases e
    · simp at e
      obtain ⟨rfl, _, rfl⟩ := e
      refine ⟨by simp, .inr ⟨g, cap, cur, rfl, hb, hh, by simp at hn; omega, hm, hs, ?_⟩⟩
      have h2 := congrArg (List.take W.length) ht
      rw [List.take_take] at h2
      simp only [List.length_append, List.length_singleton, List.map_append, Nat.mul_one] at h2
      rw [List.take_append_of_le_length (by simp), List.take_of_length_le (l := W.map (Value.int .i64)) (by simp)] at h2
      simpa using h2
  have hbd : w0.heap.size ≤ db := (h.dn.lt db rfl).1
  have hs0 := h.bel.size
  have hs2 := f2.size
  have hnq : (q : Int) ∉ D := h.fresh q (by simp)
  refine ⟨?_, f3.owns (f2.owns hway (fun k hk => by simp [Value.ownBlock] at hk; omega)) (fun k hk => by simp [Value.ownBlock] at hk; omega), d3, by simp [Value.ownBlock]; exact hgd, ?_, h.fB, ?_, ?_, ?_, ?_, ?_⟩
  · rw [f3.block f (by have := (Array.getElem?_eq_some_iff.1 h.cells).1; omega) (fun e => a2 e.symm)]
    show (w.setCell _ _).heap[f]? = _
    rw [heap_setCell_same w f 1 _ _ _ h.cells]; rfl
  · exact (h.bel.trans (f2.below hs0 (fun k hk => by rw [hk]; exact h.fB))).trans (f3.below (by omega) (fun k hk => by rw [hk]; exact hbd))
  · exact ⟨⟨by omega, by omega⟩, hnq, hall, h.topo⟩
  · exact (List.nodup_append.1 h.nodup).1
  · exact fun x hx => h.inr x (by simp [hx])
  · intro x hx hm
    rcases List.mem_cons.1 hm with e | hm
    · exact (List.nodup_append.1 h.nodup).2.2 x hx q (by simp) e
    · exact h.fresh x (by simp [hx]) hm
  · intro i hi
    have := h.chain i (by simp; omega)
    rwa [List.getElem_append_left hi, List.getElem_append_left (by omega)] at this

def FromSaid (w0 : World) (E : G) (ev : Value) (f db : Nat) (m : Nat) : Prop :=
  ∀ (W : List Int) (wv : Value) (D : List Int) (w : World) (p : Int), Fin w0 E ev f db W wv D w → E.length ≤ W.length + m → -9223372036854775808 ≤ p ∧ p ≤ 9223372036854775807 → (∀ h : W ≠ [], p ∈ out E (W.getLast h)) →
    Calls Try.prog 43 #[.pointer (some ⟨f, 0, none⟩), .int .i64 p] w (FromPost w0 E ev f db W D p)

theorem heap_of {w w' : World} {S : Nat → Prop} {f : Nat} {o : Obj} (h : w.heap[f]? = some o) (hf : Frm S w w') (hS : ¬ S f) : w'.heap[f]? = some o :=
  (hf.block f (Array.getElem?_eq_some_iff.1 h).1 hS).trans h

/-- what the loop over what it leads to keeps -/
def LoopIn (w0 : World) (E : G) (ev : Value) (f db : Nat) (W : List Int) (D : List Int) (R : List Int) (k : Nat) (w : World) : Prop :=
  ∃ wv D', Fin w0 E ev f db W wv D' w ∧ (∀ x ∈ D, x ∈ D') ∧ ∀ t ∈ R.take k, InR E t → t ∈ D'

set_option maxHeartbeats 4000000 in
/-- it is new: the way grows, and all that it leads to is gone through -/
theorem from_new {w0 w : World} {E : G} {ev : Value} {f db : Nat} {W : List Int} {wv : Value} {D : List Int} (h : Fin w0 E ev f db W wv D w) (hE : E.length ≤ 1000) (hed : REd w0 [ev] E) (q : Nat) (hq : q < E.length) (hin : (q : Int) ∉ W) (hnd : (q : Int) ∉ D) (hp : ∀ h : W ≠ [], (q : Int) ∈ out E (W.getLast h)) (m : Nat) (hm : E.length ≤ W.length + (m + 1))
    (ih : FromSaid w0 E ev f db m) :
    Calls Try.prog 43 #[.pointer (some ⟨f, 0, none⟩), .int .i64 q] w (FromPost w0 E ev f db W D q) := by
  have hWl : W.length ≤ E.length := pigeon _ W h.nodup h.inr
  have hidx : Lib.idxOf (W.take W.length) q = -1 := Lib.idxOf_miss W W.length q (fun j hj e => by
    rw [List.getD_eq_getElem?_getD, List.getElem?_eq_getElem hj] at e
    simp at e
    exact hin (by rw [← e]; exact List.getElem_mem hj))
  have HX : Hid (Calls Try.prog 60 #[wv, .int .i64 q] w fun e w' => e = .returned (.int .i64 (-1)) ∧ w' = w) := by
    show Calls _ _ _ _ _
    rw [← hidx]
    by_cases h0 : W.length = 0
    · obtain ⟨a, c, rfl⟩ : ∃ a c, wv = .slice a W.length c := by
        rcases h.way.2 with ⟨h1, h2⟩ | ⟨g, cap, _, h1, _⟩
        · exact ⟨none, 0, by rw [h1, h2]⟩
        · exact ⟨_, cap, h1⟩
      rw [h0]
      exact Try.slices_Index_int_empty a c q w
    · obtain ⟨g, cap, rfl, hgB, hgs, hcap, hcm, hcell⟩ := ownsRow_some h.way (by omega)
      refine Try.slices_Index_int g 0 W.length cap W q w (Nat.le_refl _) (by omega) (fun j hj => ?_)
      rw [Nat.zero_add]
      exact hcell j _ (by simp [hj, List.getD])
  obtain ⟨wa, wc, hwv⟩ : ∃ a c, wv = .slice a W.length c := by
    rcases h.way.2 with ⟨h1, h2⟩ | ⟨g, cap, _, h1, _⟩
    · exact ⟨none, 0, by rw [h1, h2]⟩
    · exact ⟨_, cap, h1⟩
  subst hwv
  obtain ⟨ea, ecap, hev, hec, hem, hrows⟩ := edge_cell hed
  obtain ⟨eb, eo, hea, rv, hrc, hrow⟩ := hrows q hq
  subst hev
  subst hea
  obtain ⟨ra, rcap, hrv, hrl, hrm, hrcell⟩ := ints_form hrow
  subst hrv
  have hout : out E q = E[q] := by unfold out; simp [List.getD, hq]
  obtain ⟨R, hR⟩ : ∃ R, R = E[q] := ⟨_, rfl⟩
  rw [← hR] at hrow hrc hrl hrcell hout
  have c0 := cell_of_row w f 0 _ _ _ h.cells
  have c1 := cell_of_row w f 1 _ _ _ h.cells
  have c2 := cell_of_row w f 2 _ _ _ h.cells
  have f1 := frozen_of_row w f 1 _ _ h.cells
  simp only [List.getElem?_toArray, List.getElem?_cons_succ, List.getElem?_cons_zero] at c0 c1 c2
  have hdone : w.cell? ⟨db, q, none⟩ = some (.int .i64 0) := by
    obtain ⟨g, cap, hv, _, _, _, _, hcell⟩ := ownsRow_some h.dn (by omega)
    simp at hv
    rw [hv.1]
    have := hcell q _ (doneVals_get E D q hq)
    rwa [if_neg hnd] at this
  have hB := h.bel.size
  have hfs := (Array.getElem?_eq_some_iff.1 h.cells).1
  have H := Lib.hid h; have HI := Lib.hid hidx; have HIN := Lib.hid hin; have HND := Lib.hid hnd; have HP := Lib.hid hp; have IH := Lib.hid ih; have HO := Lib.hid hout; have HRC := Lib.hid hrcell; have HRW := Lib.hid hrow; have HRc := Lib.hid hrc
  have HED := Lib.hid hed
  clear h hidx hin hnd hp ih hout hrcell hrow hrows hR hed
  unfold maxLen at hem hrm
  go_enter Try.func43, Try.ntmps43
  go_wp2_with fail
  refine HX.out.mono ?_
  rintro e w' ⟨rfl, rfl⟩
  clear hrc
  go_wp2_with (at_builtin; refine wpList_append_some elem_int (w := w') rfl _ _ rfl w0.heap.size (.slice wa W.length wc) W.length (W.map (Value.int .i64)) rfl H.out.way 1 (by decide) #[.int .i64 q] rfl rfl (by simp [Value.oneCell']) (by omega) (by unfold maxLen; omega) hB ?_)
  intro g cap w3 hown3 hg3 hm3
  have hP := H.out.push q hq HIN.out HND.out HP.out hown3 hg3 hm3
  have P4 := Lib.hid hP
  have hfr3 : Frm (fun k => (Value.slice wa W.length wc).ownBlock = some k) w' w3 := (Frm.refl _ _).grown hg3 (fun k hk => .inr hk)
  have hc3 : w3.heap[f]? = some _ := heap_of H.out.cells hfr3 (fun e => H.out.fw.1 f e rfl)
  have d1 := cell_of_row w3 f 1 _ _ _ hc3
  have e1 := frozen_of_row w3 f 1 _ _ hc3
  simp only [List.getElem?_toArray, List.getElem?_cons_succ, List.getElem?_cons_zero] at d1
  have b0 := cell_of_row _ f 0 _ _ _ hP.cells
  simp only [List.getElem?_toArray, List.getElem?_cons_zero] at b0
  have rc4 := cell_later hP.bel HRc.out
  clear hown3 hg3 hm3 hP hfr3 hc3 c0 c1 c2 f1 hdone
  go_wp2_with fail
  obtain ⟨w4, hw4⟩ : ∃ w4, w4 = w3.setCell ⟨f, 1, none⟩ (.slice (some ⟨g, 0, none⟩) (W.length + 1) cap) := ⟨_, rfl⟩
  rw [← hw4] at P4 ⊢
  clear b0 rc4 hw4
  go_loopw [63] (fun i wr => ∃ k : Nat, k ≤ R.length ∧ i = .int .i64 k ∧ LoopIn w0 E (.slice (some ⟨eb, eo, none⟩) E.length ecap) f db (W ++ [(q : Int)]) D R k wr) (fun i _ => R.length - (intOf i).toNat)
  case atStart => exact ⟨0, by omega, rfl, _, D, P4.out, fun _ h => h, fun t ht => by simp at ht⟩
  case round =>
    obtain ⟨k, hk, rfl, wv2, D2, hF, hD, hT⟩ := hrel
    have HF := Lib.hid hF; have HD := Lib.hid hD; have HT := Lib.hid hT
    have hB2 := hF.bel.size
    by_cases hlt : k < R.length
    · obtain ⟨bb, off, hra, hrk, hr1, hr2⟩ := HRC.out k hlt
      subst hra
      have zk := cell_later hF.bel hrk
      obtain ⟨t, ht⟩ : ∃ t, t = R[k] := ⟨_, rfl⟩
      rw [← ht] at zk hr1 hr2
      have HTk := Lib.hid ht
      clear hF hD hT hrk ht
      go_wp2_with fail
      refine (IH.out (W ++ [(q : Int)]) wv2 D2 wr t HF.out (by simp; omega) ⟨hr1, hr2⟩ (fun h => by rw [getLast_snoc, HO.out, HTk.out]; exact List.getElem_mem hlt)).mono ?_
      intro e w5 hpost
      rcases hpost with ⟨g5, n5, c5, L, rfl, hcyc, hL, hb5⟩ | ⟨rfl, wv5, D5, hF5, hD5, hin5⟩
      · have HC := Lib.hid hcyc; have HL := Lib.hid hL
        clear hcyc hL
        have hnn := fun (w : World) => run_neq_slice_nil_any (P := Try.prog) w 35 3 (some ⟨g5, 0, none⟩) n5 c5 0 0 Try.underlying35
        go_wp2_with fail
        go_ret
        obtain ⟨hc1, V, v1, v2, v3, v4, _⟩ := HC.out
        exact .inl ⟨g5, n5, c5, L, rfl, ⟨hc1, V, v1, v2, v3, (List.prefix_append W [(q : Int)]).trans v4, fun _ => v4⟩, HL.out, hb5⟩
      · have hnx : LoopIn w0 E (.slice (some ⟨eb, eo, none⟩) E.length ecap) f db (W ++ [(q : Int)]) D R (k + 1) w5 := by
          refine ⟨wv5, D5, hF5, fun x hx => hD5 x (HD.out x hx), fun x hx hr => ?_⟩
          rw [List.take_add_one, List.getElem?_eq_getElem hlt] at hx
          rcases List.mem_append.1 hx with hx | hx
          · exact hD5 x (HT.out x hx hr)
          · simp at hx
            rw [hx] at hr ⊢
            rw [← HTk.out] at hr ⊢
            exact hin5 hr
        have HN := Lib.hid hnx
        clear hF5 hD5 hin5 hnx
        go_wp2_with fail
        go_roundw
        case rel => exact ⟨k + 1, by omega, by go_num, HN.out⟩
        case measure => simp [intOf]; omega
    · have hall : ∀ t ∈ out E q, InR E t → t ∈ D2 := by
        rw [HO.out]
        intro t ht
        exact hT t (by rw [List.take_of_length_le (by omega)]; exact ht)
      have HALL := Lib.hid hall
      obtain ⟨g6, cap6, hv6, _, hg6s, hcap6, hcm6, _⟩ := ownsRow_some hF.way (by simp)
      subst hv6
      have hlW : (W ++ [(q : Int)]).length = W.length + 1 := by simp
      rw [hlW] at hF HF hcap6
      have c1 := cell_of_row wr f 1 _ _ _ hF.cells
      have c2 := cell_of_row wr f 2 _ _ _ hF.cells
      have f1 := frozen_of_row wr f 1 _ _ hF.cells
      simp only [List.getElem?_toArray, List.getElem?_cons_succ, List.getElem?_cons_zero] at c1 c2
      have hdbf := hF.fw.2
      obtain ⟨_, _, hvd, _, hds, _, _, hcd⟩ := ownsRow_some hF.dn (by omega)
      have hvd2 := hvd
      simp only [Value.slice.injEq, Option.some.injEq, Addr.mk.injEq, true_and, and_true] at hvd2
      obtain ⟨rfl, rfl⟩ := hvd2
      have zq := hcd q _ (doneVals_get E D2 q hq)
      have fq := hF.dn.frozenAt q
      have hfw := (Array.getElem?_eq_some_iff.1 hF.cells).1
      unfold maxLen at hcm6
      clear hF hD hT hall hvd hcd
      go_wp2_with fail
      go_region
      go_wp2_with fail
      go_ret
      refine .inr ⟨rfl, .slice (some ⟨g6, 0, none⟩) W.length cap6, (q : Int) :: D2, HF.out.pop hq HALL.out 1 ?_, fun x hx => List.mem_cons_of_mem _ (HD.out x hx), fun _ => by simp⟩
      rfl

theorem from_all {w0 : World} {E : G} {ev : Value} {f db : Nat} (hE : E.length ≤ 1000) (hed : REd w0 [ev] E) : ∀ m, FromSaid w0 E ev f db m := by
  intro m
  induction m with
  | zero =>
    intro W wv D w p h hm hp0 hp
    by_cases hin : p ∈ W
    · exact from_hit h hE p hp hin
    · refine from_old h hE hed p hp0 hin (fun hr => ?_)
      have h1 : (p :: W).length ≤ E.length := pigeon _ (p :: W) (List.nodup_cons.2 ⟨hin, h.nodup⟩) (fun x hx => by
        rcases List.mem_cons.1 hx with e | hx
        · rw [e]; exact hr
        · exact h.inr x hx)
      simp at h1
      omega
  | succ m ih =>
    intro W wv D w p h hm hp0 hp
    by_cases hin : p ∈ W
    · exact from_hit h hE p hp hin
    · by_cases hold : InR E p → p ∈ D
      · exact from_old h hE hed p hp0 hin hold
      · have hr : InR E p := Classical.byContradiction fun hr => hold (fun h => absurd h hr)
        have hnd : p ∉ D := fun hd => hold (fun _ => hd)
        obtain ⟨q, rfl⟩ := Int.eq_ofNat_of_zero_le hr.1
        exact from_new h hE hed q (by have := hr.2; omega) hin hnd hp m (by omega) ih

def CircPost (w0 : World) (E : G) (e : Ending) (w' : World) : Prop :=
  ∃ v L, e = .returned v ∧ RSlice 1 (RInt .i64) w' [v] L ∧ Below w0.heap.size w0 w' ∧ ((L = [] ∧ ∃ D, Topo E D ∧ ∀ x, InR E x → x ∈ D) ∨ (IsCyc E L ∧ ∃ (k : Nat) (D : List Int), OnWay E [] k L ∧ Topo E D ∧ ∀ j : Nat, j < k → (j : Int) ∈ D))

set_option maxHeartbeats 1000000 in
theorem circle_any (ev : Value) (E : G) (w : World) (hE : E.length ≤ 1000) (hed : REd w [ev] E) :
    Calls Try.prog 23 #[ev] w (CircPost w E) := by
  obtain ⟨ea, ecap, hev, hec, hem, _⟩ := edge_cell hed
  subst hev
  have HED := Lib.hid hed; clear hed
  unfold maxLen at hem
  obtain ⟨i0, hi, hz0, hz1, hz2⟩ := info_parts elem_int.info
  have HI := Lib.hid hi; have HZ0 := Lib.hid hz0; have HZ1 := Lib.hid hz1; have HZ2 := Lib.hid hz2
  clear hi hz0 hz1 hz2
  go_enter Try.func23, Try.ntmps23
  go_wp2_with (at_make; refine wpList_make_full _ rfl _ _ 35 rfl w.heap.size 3 i0 (.int .i64 0) 1 Try.underlying35 HI.out HZ0.out HZ1.out _ _ _ _ E.length rfl rfl rfl rfl (by rw [HZ2.out]; omega) (by unfold maxLen; omega) (Nat.le_refl _) ?_)
  intro w1 hown hgrow
  have hb1 := grownBy_below hgrow
  have hs1 : w.heap.size < w1.heap.size := (hown.lt w.heap.size rfl).2
  have hvals : (madeCells #[Value.int .i64 0] E.length).toList = doneVals E [] := by
    have := toList_madeCells_one (.int .i64 0) E.length
    rw [this]
    apply List.ext_getElem?
    intro i
    by_cases h : i < E.length
    · rw [doneVals_get E [] i h]; simp [h]
    · rw [List.getElem?_eq_none (by simp; omega), List.getElem?_eq_none (by simp [doneVals]; omega)]
  rw [hvals] at hown
  have h0 : Fin w E (.slice ea E.length ecap) w1.heap.size w.heap.size [] (.slice none 0 0) [] (w1.alloc (.cells #[.slice ea E.length ecap, .slice none 0 0, .slice (some ⟨w.heap.size, 0, none⟩) E.length E.length] 86)) := by
    refine ⟨heap_alloc_new w1 _, World.ownsRow_nil _ _ _ _, hown.alloc _, by simp [Value.ownBlock], hb1.alloc hb1.size _, hb1.size, trivial, List.nodup_nil, by simp, by simp, by simp⟩
  have H0 := Lib.hid h0
  clear hown hgrow hvals h0
  go_wp2_with fail
  go_loopw [14] (fun i wr => ∃ k : Nat, k ≤ E.length ∧ i = .int .i64 k ∧ ∃ wv D, Fin w E (.slice ea E.length ecap) w1.heap.size w.heap.size [] wv D wr ∧ ∀ j : Nat, j < k → (j : Int) ∈ D) (fun i _ => E.length - (intOf i).toNat)
  case atStart => exact ⟨0, by omega, rfl, _, _, H0.out, fun j hj => by omega⟩
  case round =>
    obtain ⟨k, hk, rfl, wv, D, hF, hD⟩ := hrel
    have HF := Lib.hid hF; have HD := Lib.hid hD
    clear hF hD
    by_cases hlt : k < E.length
    · go_wp2_with fail
      refine (from_all hE HED.out E.length [] wv D wr (k : Int) HF.out (by simp) (by omega) (fun h => absurd rfl h)).mono ?_
      intro e w5 hpost
      rcases hpost with ⟨g5, n5, c5, L, rfl, hcyc, hL, hb5⟩ | ⟨rfl, wv5, D5, hF5, hD5, hin5⟩
      · have HC := Lib.hid hcyc; have HL := Lib.hid hL
        clear hcyc hL
        have hnn := fun (w : World) => run_neq_slice_nil_any (P := Try.prog) w 35 3 (some ⟨g5, 0, none⟩) n5 c5 0 0 Try.underlying35
        go_wp2_with fail
        go_ret
        exact ⟨_, L, rfl, HL.out, hb5, .inr ⟨HC.out.1, k, D, HC.out.2, HF.out.topo, HD.out⟩⟩
      · have hnx : ∀ j : Nat, j < k + 1 → (j : Int) ∈ D5 := by
          intro j hj
          by_cases e : j = k
          · subst e; exact hin5 ⟨by omega, by omega⟩
          · exact hD5 _ (HD.out j (by omega))
        have HN := Lib.hid hnx; have HF5 := Lib.hid hF5
        clear hF5 hD5 hin5 hnx
        go_wp2_with fail
        go_roundw
        case rel => exact ⟨k + 1, by omega, by go_num, wv5, D5, HF5.out, HN.out⟩
        case measure => simp [intOf]; omega
    · have hall : ∀ x, InR E x → x ∈ D := by
        intro x hx
        obtain ⟨j, rfl⟩ := Int.eq_ofNat_of_zero_le hx.1
        exact HD.out j (by have := hx.2; omega)
      have HA := Lib.hid hall; clear hall
      go_wp2_with fail
      go_ret
      exact ⟨_, [], rfl, ⟨none, 0, rfl, Nat.le_refl _, Nat.zero_le _, fun i x hi => by simp at hi⟩, HF.out.bel, .inl ⟨rfl, D, HF.out.topo, HA.out⟩⟩
end Go.Proofs.Ytoljhahmmdibfaa
