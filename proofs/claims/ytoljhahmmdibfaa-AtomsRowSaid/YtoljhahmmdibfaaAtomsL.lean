/- The walk of AtomsRow: it returns true. No condition. -/
import Derived.Test.YtoljhahmmdibfaaAtomsR
namespace Go.Proofs.Ytoljhahmmdibfaa
open Go.RowKit

/-- the row of those that have a number, behind the first q -/
def rowsOf (lim : Nat) (l : List At) (q : Nat) : List At := (l.take q).foldl (fun r a => addAt lim r a) []
theorem rowsOf_succ (lim : Nat) (l : List At) (q : Nat) (a : At) (h : l[q]? = some a) : rowsOf lim l (q + 1) = addAt lim (rowsOf lim l q) a := by
  unfold rowsOf
  rw [List.take_add_one, h]
  simp [List.foldl_append]
theorem addAt_len (lim : Int) (l : List At) (a : At) : (addAt lim l a).length ≤ l.length + 1 := by
  unfold addAt; split <;> simp
theorem rowsOf_len (lim : Nat) (l : List At) (q : Nat) : (rowsOf lim l q).length ≤ q := by
  have h : ∀ (l r : List At), (l.foldl (fun r a => addAt lim r a) r).length ≤ r.length + l.length := by
    intro l
    induction l with
    | nil => intro r; simp
    | cons x l ih =>
      intro r
      have h1 := ih (addAt lim r x)
      have h2 := addAt_len lim r x
      simp only [List.foldl_cons, List.length_cons]
      omega
  have := h (l.take q) []
  unfold rowsOf
  have h2 := List.length_take_le q l
  simp only [List.length_nil] at this
  omega
theorem clampT_small (n : Nat) (h : n ≤ 255) : clampT n = n := by unfold clampT; omega

/-- what the first loop keeps -/
structure RowInv (w : World) (p bm : Nat) (lim : Nat) (r : List At) (rv : Value) (tv : Value) (full : Bool) (wr : World) : Prop where
  tab : IsTab wr w.heap.size p bm tv lim 0 r full
  row : wr.ownsRow w.heap.size 27 4 rv r.length (r.flatMap atCells)
  sep : ∀ k, rv.ownBlock = some k → ¬ TabS p bm tv k
  bel : Below w.heap.size w wr
def RowRel (w : World) (p bm : Nat) (lim : Nat) (l : List At) (q : Nat) (rv : Value) (wr : World) : Prop := ∃ tv full, RowInv w p bm lim (rowsOf lim l q) rv tv full wr
theorem rd_row {w wr : World} {r : List At} {rv : Value} (h : wr.ownsRow w.heap.size 27 4 rv r.length (r.flatMap atCells)) (hw : ∀ a ∈ r, AtWf a) : RSlice 4 RAt wr [rv] r :=
  rslice_of_owns (R := RAt) atCells (fun _ => rfl) (fun x hx => ⟨rfl, hw x hx⟩) h
theorem findAdd_new (lim : Int) (r : List At) (a : At) (h0 : findAt r a = 0) (h : (r.length : Int) < lim) : addAt lim r a = r ++ [a] ∧ findAt (addAt lim r a) a = r.length + 1 := by
  have e : addAt lim r a = r ++ [a] := by unfold addAt; rw [if_pos ⟨h0, h⟩]
  rw [e, findAt_snoc, if_pos h0, if_pos rfl]
  exact ⟨rfl, rfl⟩
theorem findAdd_old (lim : Int) (r : List At) (a : At) (h : ¬ (findAt r a = 0 ∧ (r.length : Int) < lim)) : addAt lim r a = r := by unfold addAt; rw [if_neg h]

set_option maxHeartbeats 2000000 in
theorem atomsRow_true (lim : Nat) (hlim : lim ≤ 255) (v : Value) (l : List At) (w : World) (h : RSlice 4 RAt w [v] l) :
    Calls Try.prog 3 #[.int .u8 lim, v] w fun e w' => e = .returned (.bool true) ∧ Below w.heap.size w w' := by
  have HS := Lib.hid h
  obtain ⟨ad, cap, hv, hlc, hcm, hcell⟩ := h
  simp only [List.cons.injEq, and_true] at hv
  subst hv
  have HC := Lib.hid hcell; clear hcell
  unfold maxLen at hcm
  by_cases hbig : 200 < l.length
  · go_enter Try.func3, Try.ntmps3
    go_wp2_with (go_at_call 15; refine (fixed11 _).mono ?_; rintro e w2 ⟨rfl, hb2⟩)
    go_ret
    exact ⟨rfl, hb2⟩
  · have hsm : l.length ≤ 200 := by omega
    go_enter Try.func3, Try.ntmps3
    go_wp2_with fail
    refine (new_any _ _).mono ?_
    rintro e w1 ⟨p, bm, rfl, hT, hb1⟩
    rw [clampT_small lim hlim] at hT
    have h1 : RowRel w p bm lim l 0 (.slice (some ⟨w1.heap.size, 0, none⟩) 0 0) (w1.alloc (.cells #[] 27)) := by
      refine ⟨_, _, hT.below (S := fun _ => False) ((Frm.refl _ _).alloc _) (fun _ _ h => h), ?_, ?_, hb1.alloc hb1.size _⟩
      · exact World.ownsRow_lit (base := w.heap.size) (e := 27) (size := 4) w1 #[] 0 hb1.size (by decide) rfl
      · intro k hk ht
        have := hT.lts k ht
        simp [Value.ownBlock] at hk
        omega
    have H1 := Lib.hid h1
    clear hT h1
    go_wp2_with fail
    go_loopw [6, 24] (fun rv i wr => ∃ q : Nat, q ≤ l.length ∧ i = .int .i64 q ∧ RowRel w p bm lim l q rv wr) (fun _ i _ => l.length - (intOf i).toNat)
    case atStart => exact ⟨0, by omega, rfl, H1.out⟩
    case round =>
      obtain ⟨q, hq, rfl, tv, full, hI⟩ := hrel
      have HI := Lib.hid hI
      obtain ⟨ra, rc, hrv⟩ := slice_form hI.row
      subst hrv
      have hrl := rowsOf_len lim l q
      obtain ⟨r, hr⟩ : ∃ r, r = rowsOf lim l q := ⟨_, rfl⟩
      have HR := Lib.hid hr
      rw [← hr] at hI HI hrl ⊢
      clear hr
      have hsz := hI.bel.size
      by_cases hlt : q < l.length
      · obtain ⟨bb, off, ecs, hec, hel, hce, hre⟩ := HC.out q (l[q]) (List.getElem?_eq_getElem hlt)
        obtain ⟨hre1, hwf⟩ := hre
        subst hec
        subst hre1
        obtain ⟨x, hx⟩ : ∃ x, x = l[q] := ⟨_, rfl⟩
        rw [← hx] at hce hwf
        obtain ⟨k', a', b', c'⟩ := x
        have HQ := Lib.hid hx; clear hx
        have f1 : Frm (fun _ => False) w wr := Frm.of_below hI.bel
        have z0 := f1.keep (hce 0 _ rfl)
        have z1 := f1.keep (hce 1 _ rfl)
        have z2 := f1.keep (hce 2 _ rfl)
        have z3 := f1.keep (hce 3 _ rfl)
        simp only [Nat.add_zero] at z0 z1 z2 z3
        have hrd := Lib.hid (stays_slice stays_at _ _ _ _ (rd_row hI.row hI.tab.wf) ((Below.refl _ _).alloc (Nat.le_refl _) (.cells #[.int .u8 k', .int .i64 a', .int .i64 b', .int .i64 c'] 27)))
        clear hce hel hI
        go_wp2_with fail
        refine (find_any _ r _ _ _ _ _ hrd.out).mono ?_
        rintro e w2 ⟨rfl, hb2⟩
        have f2 : Frm (fun _ => False) wr w2 := ((Frm.refl _ wr).alloc _).trans (Frm.of_below hb2) (fun _ _ h => h)
        have R2 := Lib.hid (f2.owns HI.out.row (fun _ _ h => h))
        have T2 := Lib.hid (HI.out.tab.below f2 (fun _ _ h => h))
        have hb2x : w2.heap[wr.heap.size]? = some (.cells #[.int .u8 k', .int .i64 a', .int .i64 b', .int .i64 c'] 27 (0, 0)) := (hb2.block _ (by simp)).trans (heap_alloc_new wr _)
        have BX2 := Lib.hid hb2x
        have B2 := Lib.hid ((HI.out.bel.alloc hsz _).trans (hb2.mono (by simp; omega)))
        have hs2 := f2.size
        clear hb2 f2 z0 z1 z2 z3
        by_cases hnew : findAt r (k', a', b', c') = 0 ∧ (r.length : Int) < lim
        · obtain ⟨hn0, hnl⟩ := hnew
          obtain ⟨hadd, hfind⟩ := findAdd_new lim r (k', a', b', c') hn0 hnl
          have HA := Lib.hid hadd
          have HF := Lib.hid hfind
          clear hadd hfind
          have x0 := cell_blk hb2x 0
          have x1 := cell_blk hb2x 1
          have x2 := cell_blk hb2x 2
          have x3 := cell_blk hb2x 3
          simp only [List.getElem?_toArray, List.getElem?_cons_succ, List.getElem?_cons_zero] at x0 x1 x2 x3
          clear hb2x
          have HN0 := Lib.hid hn0
          rw [hn0]
          clear hn0
          go_wp2_with (at_builtin; refine wpList_append_some elem_atoms (w := w2) rfl _ _ rfl w.heap.size (.slice ra r.length rc) r.length (r.flatMap atCells) rfl R2.out 1 (by decide) #[.int .u8 k', .int .i64 a', .int .i64 b', .int .i64 c'] rfl rfl (by simp [Value.oneCell']) (by omega) (by unfold maxLen; omega) (by omega) ?_)
          intro g cap3 w3 hown3 hg3 hm3
          have f3 : Frm (fun k => (Value.slice ra r.length rc).ownBlock = some k) w2 w3 := (Frm.refl _ w2).grown hg3 (fun k hk => .inr hk)
          have S3 : Hid (∀ k, (Value.slice (some ⟨g, 0, none⟩) (r.length + 1) cap3).ownBlock = some k → ¬ TabS p bm tv k) := by
            intro k hk ht
            rcases hm3 k hk with h | h
            · exact HI.out.sep k h ht
            · have := T2.out.lts k ht; omega
          have T3 : Hid (IsTab w3 w.heap.size p bm tv lim 0 r full) := T2.out.below f3 (fun k hk h => HI.out.sep k h hk)
          have R3 : Hid (w3.ownsRow w.heap.size 27 4 (.slice (some ⟨g, 0, none⟩) (r.length + 1) cap3) (addAt lim r (k', a', b', c')).length ((addAt lim r (k', a', b', c')).flatMap atCells)) := by
            show World.ownsRow _ _ _ _ _ _ _
            rw [HA.out, List.length_append, List.flatMap_append]
            simpa [atCells] using hown3
          have hb3 := boxed BX2.out f3 (fun h => by have := (HI.out.row.lt _ h).2; omega)
          have hB3 : w.heap.size ≤ w3.heap.size := by have := f3.size; omega
          have B3 := Lib.hid (B2.out.trans (f3.below (by omega) (fun k hk => (HI.out.row.lt k hk).1)))
          have N3 : Hid (findAt (addAt lim r (k', a', b', c')) (k', a', b', c') = r.length + 1) := HF.out
          have hs3 := f3.size
          clear hown3 hg3 hm3 f3 x0 x1 x2 x3
          have hbx3 := Lib.hid hb3
          have y0 := cell_blk hb3 0
          have y1 := cell_blk hb3 1
          have y2 := cell_blk hb3 2
          have y3 := cell_blk hb3 3
          simp only [List.getElem?_toArray, List.getElem?_cons_succ, List.getElem?_cons_zero] at y0 y1 y2 y3
          clear hb3
          go_wp2_with fail
          refine (number_any T3.out hB3 _ _ _ _ hwf).mono ?_
          rintro e w4 ⟨rfl, tv4, hT4, hf4, hm4⟩
          have T4 := Lib.hid hT4
          have F4 := Lib.hid hf4
          have hnb : ¬ TabS p bm tv wr.heap.size := fun h => by have := HI.out.tab.lts _ h; omega
          have hb4 := boxed hbx3.out hf4 hnb
          have R4 := Lib.hid (hf4.owns R3.out S3.out)
          have hs4 := hf4.size
          have z0 := cell_blk hb4 0
          have z1 := cell_blk hb4 1
          have z2 := cell_blk hb4 2
          have z3 := cell_blk hb4 3
          simp only [List.getElem?_toArray, List.getElem?_cons_succ, List.getElem?_cons_zero] at z0 z1 z2 z3
          have S4 : Hid (∀ k, (Value.slice (some ⟨g, 0, none⟩) (r.length + 1) cap3).ownBlock = some k → ¬ TabS p bm tv4 k) := by
            intro k hk ht
            rcases ht with ht | ht | ht
            · exact S3.out k hk (.inl ht)
            · exact S3.out k hk (.inr (.inl ht))
            · rcases hm4 k ht with h | h
              · exact S3.out k hk (.inr (.inr h))
              · have := (R3.out.lt k hk).2; omega
          have B4 := Lib.hid (B3.out.trans (hf4.below hB3 (fun k hk => HI.out.tab.ges k hk)))
          clear hT4 hf4 hm4 hb4
          rw [N3.out]
          go_wp2_with fail
          refine (look_any T4.out _ _ _ _ hwf).mono ?_
          rintro e w5 ⟨rfl, hb5⟩
          rw [N3.out]
          have f5 : Frm (fun _ => False) w4 w5 := Frm.of_below hb5
          have hfin : RowRel w p bm lim l (q + 1) (Value.slice (some ⟨g, 0, none⟩) (r.length + 1) cap3) w5 := by
            refine ⟨tv4, (full || decide (findAt (addAt lim r (k', a', b', c')) (k', a', b', c') = 0)), ?_⟩
            rw [rowsOf_succ lim l q (k', a', b', c') (by rw [HQ.out]; exact List.getElem?_eq_getElem hlt), ← HR.out]
            exact ⟨T4.out.below f5 (fun _ _ h => h), f5.owns R4.out (fun _ _ h => h), S4.out, B4.out.trans (hb5.mono (by omega))⟩
          have HFIN := Lib.hid hfin
          clear hfin hb5 f5
          go_wp2_with fail
          go_roundw
          case rel => exact ⟨q + 1, by omega, by go_num, HFIN.out⟩
          case measure => simp [intOf]; omega

        · have hadd := findAdd_old lim r (k', a', b', c') hnew
          have HA := Lib.hid hadd
          clear hadd
          have T3 := T2
          have R3 : Hid (w2.ownsRow w.heap.size 27 4 (.slice ra r.length rc) (addAt lim r (k', a', b', c')).length ((addAt lim r (k', a', b', c')).flatMap atCells)) := by
            show World.ownsRow _ _ _ _ _ _ _
            rw [HA.out]
            exact R2.out
          have S3 : Hid (∀ k, (Value.slice ra r.length rc).ownBlock = some k → ¬ TabS p bm tv k) := HI.out.sep
          have hb3 := hb2x
          have hB3 : w.heap.size ≤ w2.heap.size := by omega
          have B3 := B2
          have N3 : Hid (findAt (addAt lim r (k', a', b', c')) (k', a', b', c') = findAt r (k', a', b', c')) := by show _ = _; rw [HA.out]
          clear hb2x
          obtain ⟨nf, hnf⟩ : ∃ nf, nf = findAt r (k', a', b', c') := ⟨_, rfl⟩
          rw [← hnf] at hnew N3 ⊢
          have hnle : nf ≤ r.length := by rw [hnf]; exact findAt_le _ _
          clear hnf
          by_cases hn0 : nf = 0
          · subst hn0
            have hnl : ¬ ((r.length : Int) < lim) := fun h => hnew ⟨rfl, h⟩
            clear hnew
            have hbx3 := Lib.hid hb3
            have y0 := cell_blk hb3 0
            have y1 := cell_blk hb3 1
            have y2 := cell_blk hb3 2
            have y3 := cell_blk hb3 3
            simp only [List.getElem?_toArray, List.getElem?_cons_succ, List.getElem?_cons_zero] at y0 y1 y2 y3
            clear hb3
            go_wp2_with fail
            refine (number_any T3.out hB3 _ _ _ _ hwf).mono ?_
            rintro e w4 ⟨rfl, tv4, hT4, hf4, hm4⟩
            have T4 := Lib.hid hT4
            have F4 := Lib.hid hf4
            have hnb : ¬ TabS p bm tv wr.heap.size := fun h => by have := HI.out.tab.lts _ h; omega
            have hb4 := boxed hbx3.out hf4 hnb
            have R4 := Lib.hid (hf4.owns R3.out S3.out)
            have hs4 := hf4.size
            have z0 := cell_blk hb4 0
            have z1 := cell_blk hb4 1
            have z2 := cell_blk hb4 2
            have z3 := cell_blk hb4 3
            simp only [List.getElem?_toArray, List.getElem?_cons_succ, List.getElem?_cons_zero] at z0 z1 z2 z3
            have S4 : Hid (∀ k, (Value.slice ra r.length rc).ownBlock = some k → ¬ TabS p bm tv4 k) := by
              intro k hk ht
              rcases ht with ht | ht | ht
              · exact S3.out k hk (.inl ht)
              · exact S3.out k hk (.inr (.inl ht))
              · rcases hm4 k ht with h | h
                · exact S3.out k hk (.inr (.inr h))
                · have := (R3.out.lt k hk).2; omega
            have B4 := Lib.hid (B3.out.trans (hf4.below hB3 (fun k hk => HI.out.tab.ges k hk)))
            clear hT4 hf4 hm4 hb4
            rw [N3.out]
            go_wp2_with fail
            refine (look_any T4.out _ _ _ _ hwf).mono ?_
            rintro e w5 ⟨rfl, hb5⟩
            rw [N3.out]
            have f5 : Frm (fun _ => False) w4 w5 := Frm.of_below hb5
            have hfin : RowRel w p bm lim l (q + 1) (Value.slice ra r.length rc) w5 := by
              refine ⟨tv4, (full || decide (findAt (addAt lim r (k', a', b', c')) (k', a', b', c') = 0)), ?_⟩
              rw [rowsOf_succ lim l q (k', a', b', c') (by rw [HQ.out]; exact List.getElem?_eq_getElem hlt), ← HR.out]
              exact ⟨T4.out.below f5 (fun _ _ h => h), f5.owns R4.out (fun _ _ h => h), S4.out, B4.out.trans (hb5.mono (by omega))⟩
            have HFIN := Lib.hid hfin
            clear hfin hb5 f5
            go_wp2_with fail
            go_roundw
            case rel => exact ⟨q + 1, by omega, by go_num, HFIN.out⟩
            case measure => simp [intOf]; omega

          · have hnp : 0 < nf := by omega
            clear hnew
            have hbx3 := Lib.hid hb3
            have y0 := cell_blk hb3 0
            have y1 := cell_blk hb3 1
            have y2 := cell_blk hb3 2
            have y3 := cell_blk hb3 3
            simp only [List.getElem?_toArray, List.getElem?_cons_succ, List.getElem?_cons_zero] at y0 y1 y2 y3
            clear hb3
            go_wp2_with fail
            refine (number_any T3.out hB3 _ _ _ _ hwf).mono ?_
            rintro e w4 ⟨rfl, tv4, hT4, hf4, hm4⟩
            have T4 := Lib.hid hT4
            have F4 := Lib.hid hf4
            have hnb : ¬ TabS p bm tv wr.heap.size := fun h => by have := HI.out.tab.lts _ h; omega
            have hb4 := boxed hbx3.out hf4 hnb
            have R4 := Lib.hid (hf4.owns R3.out S3.out)
            have hs4 := hf4.size
            have z0 := cell_blk hb4 0
            have z1 := cell_blk hb4 1
            have z2 := cell_blk hb4 2
            have z3 := cell_blk hb4 3
            simp only [List.getElem?_toArray, List.getElem?_cons_succ, List.getElem?_cons_zero] at z0 z1 z2 z3
            have S4 : Hid (∀ k, (Value.slice ra r.length rc).ownBlock = some k → ¬ TabS p bm tv4 k) := by
              intro k hk ht
              rcases ht with ht | ht | ht
              · exact S3.out k hk (.inl ht)
              · exact S3.out k hk (.inr (.inl ht))
              · rcases hm4 k ht with h | h
                · exact S3.out k hk (.inr (.inr h))
                · have := (R3.out.lt k hk).2; omega
            have B4 := Lib.hid (B3.out.trans (hf4.below hB3 (fun k hk => HI.out.tab.ges k hk)))
            clear hT4 hf4 hm4 hb4
            rw [N3.out]
            go_wp2_with fail
            refine (look_any T4.out _ _ _ _ hwf).mono ?_
            rintro e w5 ⟨rfl, hb5⟩
            rw [N3.out]
            have f5 : Frm (fun _ => False) w4 w5 := Frm.of_below hb5
            have hfin : RowRel w p bm lim l (q + 1) (Value.slice ra r.length rc) w5 := by
              refine ⟨tv4, (full || decide (findAt (addAt lim r (k', a', b', c')) (k', a', b', c') = 0)), ?_⟩
              rw [rowsOf_succ lim l q (k', a', b', c') (by rw [HQ.out]; exact List.getElem?_eq_getElem hlt), ← HR.out]
              exact ⟨T4.out.below f5 (fun _ _ h => h), f5.owns R4.out (fun _ _ h => h), S4.out, B4.out.trans (hb5.mono (by omega))⟩
            have HFIN := Lib.hid hfin
            clear hfin hb5 f5
            go_wp2_with fail
            go_roundw
            case rel => exact ⟨q + 1, by omega, by go_num, HFIN.out⟩
            case measure => simp [intOf]; omega

      · have hwf := Lib.hid hI.tab.wf
        have hr60 : r.length ≤ 200 := by omega
        clear hI
        go_wp2_with fail
        go_loopw [61] (fun i wr => ∃ j : Nat, j ≤ r.length ∧ i = .int .i64 j ∧ RowInv w p bm lim r (.slice ra r.length rc) tv full wr) (fun i _ => r.length - (intOf i).toNat)
        case atStart => exact ⟨0, by omega, rfl, HI.out⟩
        case round =>
          obtain ⟨j, hj, rfl, hI⟩ := hrel
          have HJ := Lib.hid hI
          have hsz2 := hI.bel.size
          by_cases hjl : j < r.length
          · obtain ⟨ad2, cap2, hv2, hlc2, hcm2, hcell2⟩ := rd_row hI.row hwf.out
            simp only [List.cons.injEq, and_true, Value.slice.injEq] at hv2
            obtain ⟨hv2, hv3⟩ := hv2
            simp only [true_and] at hv3
            subst hv2
            subst hv3
            obtain ⟨bb, off, ecs, hec, hel, hce, hre⟩ := hcell2 j (r[j]) (List.getElem?_eq_getElem hjl)
            obtain ⟨hre1, _⟩ := hre
            subst hec
            subst hre1
            obtain ⟨x, hx⟩ : ∃ x, x = r[j] := ⟨_, rfl⟩
            rw [← hx] at hce
            obtain ⟨k', a', b', c'⟩ := x
            have hrj : r[j]? = some (k', a', b', c') := by rw [hx]; exact List.getElem?_eq_getElem hjl
            have HX := Lib.hid hrj; clear hx hrj
            have z0 := hce 0 _ rfl
            have z1 := hce 1 _ rfl
            have z2 := hce 2 _ rfl
            have z3 := hce 3 _ rfl
            simp only [Nat.add_zero] at z0 z1 z2 z3
            have hbl := World.block_lt_of_cell? _ _ z0
            simp only at hbl
            have f1 : Frm (fun _ => False) wr (wr.alloc (.cells #[.int .u8 k', .int .i64 a', .int .i64 b', .int .i64 c'] 27)) := (Frm.refl _ _).alloc _
            have T2 := Lib.hid (hI.tab.below f1 (fun _ _ h => h))
            clear hce hel hcell2 hI f1
            go_wp2_with fail
            refine (at_any T2.out j hjl _ _ _ _ HX.out).mono ?_
            rintro e w3 ⟨rfl, hb3⟩
            have hb3x : w3.heap[wr.heap.size]? = some (.cells #[.int .u8 k', .int .i64 a', .int .i64 b', .int .i64 c'] 27 (0, 0)) := (hb3.block _ (by simp)).trans (heap_alloc_new wr _)
            have y0 := cell_blk hb3x 0
            have y1 := cell_blk hb3x 1
            have y2 := cell_blk hb3x 2
            have y3 := cell_blk hb3x 3
            simp only [List.getElem?_toArray, List.getElem?_cons_succ, List.getElem?_cons_zero] at y0 y1 y2 y3
            have g3 := (Array.getElem?_eq_some_iff.1 hb3x).1
            have f3 : Frm (fun _ => False) wr (w3.alloc (.cells #[.int .u8 k', .int .i64 a', .int .i64 b', .int .i64 c'] 27)) := (((Frm.refl _ wr).alloc _).trans (Frm.of_below hb3) (fun _ _ h => h)).alloc _
            have hI3 : RowInv w p bm lim r (.slice (some ⟨bb, off, none⟩) r.length rc) tv full (w3.alloc (.cells #[.int .u8 k', .int .i64 a', .int .i64 b', .int .i64 c'] 27)) :=
              ⟨HJ.out.tab.below f3 (fun _ _ h => h), f3.owns HJ.out.row (fun _ _ h => h), HJ.out.sep, HJ.out.bel.trans (f3.below hsz2 (fun _ h => h.elim))⟩
            have HI3 := Lib.hid hI3
            clear hb3 hb3x f3 hI3
            go_wp2_with fail
            go_roundw
            case rel => exact ⟨j + 1, by omega, by go_num, HI3.out⟩
            case measure => simp [intOf]; omega
          · clear hI
            go_wp2_with (first | (go_at_call 15; refine (fixed11 _).mono ?_; rintro e w3 ⟨rfl, hb3⟩) | (go_at_call 21; refine (len_any (HJ.out.tab.below (S := fun _ => False) (Frm.of_below hb3) (fun _ _ h => h))).mono ?_; rintro e w' ⟨rfl, rfl⟩))
            go_ret
            exact ⟨rfl, HJ.out.bel.trans (hb3.mono hsz2)⟩

theorem atomsRow_row (lim : Int) (h0 : 0 ≤ lim) (h1 : lim ≤ 255) (v : Value) (l : List At) (w : World) (h : RSlice 4 RAt w [v] l) :
    Calls Try.prog 3 #[.int .u8 lim, v] w fun e w' => e = .returned (.bool true) ∧ Below w.heap.size w w' := by
  obtain ⟨n, rfl⟩ := Int.eq_ofNat_of_zero_le h0
  exact atomsRow_true n (by omega) v l w h
end Go.Proofs.Ytoljhahmmdibfaa
