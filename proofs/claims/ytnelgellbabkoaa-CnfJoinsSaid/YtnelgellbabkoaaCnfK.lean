/- The walk of the law CnfJoins. Condition: none but the reach of what comes in. -/
import Derived.Test.YtnelgellbabkoaaCnfJ
import Derived.Test.YtnelgellbabkoaaCnfG
import Derived.Test.YtnelgellbabkoaaRow
namespace Go.Proofs.Ytnelgellbabkoaa
open Go.RowKit Go.Lib Go.Sort
open CnfM (InR holds form)

/-- the wide row, so far -/
structure WSt (w5 : World) (v6 : Value) (vsa : List Value) (a : List (List Int)) (more : List Int) (k : Nat) (wr : World) : Prop where
  ex : ∃ vs, vs.length = a.length ∧ wr.ownsRow w5.heap.size 22 1 v6 a.length vs ∧ (∀ i u f, i < k → vs[i]? = some u → a[i]? = some f → wr.ownsRow w5.heap.size 3 1 u (f ++ more).length ((f ++ more).map intv)) ∧ (∀ i, k ≤ i → vs[i]? = vsa[i]?)
  bel : Below w5.heap.size w5 wr
theorem WSt.step {w5 wr w8 : World} {g n cap : Nat} {vsa : List Value} {a : List (List Int)} {more f : List Int} {k : Nat} {v8 : Value} (hn : n = a.length) (h : WSt w5 (.slice (some ⟨g, 0, none⟩) n cap) vsa a more k wr) (hb : Below wr.heap.size wr w8) (hk : k < a.length) (hf : a[k]? = some f) (h8 : w8.ownsRow wr.heap.size 3 1 v8 (f ++ more).length ((f ++ more).map intv)) : WSt w5 (.slice (some ⟨g, 0, none⟩) n cap) vsa a more (k + 1) (w8.setCell ⟨g, k, none⟩ v8) := by
  subst hn
  obtain ⟨vs, h1, h2, h3, h4⟩ := h.ex
  have hg := h2.lt g rfl
  have r2 := ownsRow_below h2 hb
  obtain ⟨r3, _⟩ := r2.stored k v8
  have hfr : Frm (fun j => j = g) w8 (w8.setCell ⟨g, k, none⟩ v8) := Frm.setCell (S := fun j => j = g) (Frm.refl _ w8) (p := ⟨g, k, none⟩) (.inr rfl) _
  refine ⟨⟨vs.set k v8, by simp [h1], r3, fun i u f' hi hu hf' => ?_, fun i hi => ?_⟩, h.bel.trans ((hb.mono h.bel.size).trans (hfr.below (by have := hb.size; have := h.bel.size; omega) (fun j hj => by rw [hj]; exact hg.1)))⟩
  · by_cases e : i = k
    · subst e
      rw [List.getElem?_set_self (by omega)] at hu
      cases hu
      rw [hf] at hf'; cases hf'
      exact hfr.owns (ownsRow_mono h8 h.bel.size) (fun j hj e => by have := (h8.lt j hj).1; omega)
    · rw [List.getElem?_set_ne (by omega)] at hu
      have ho := h3 i u f' (by omega) hu hf'
      have ho8 := ownsRow_below ho hb
      exact hfr.owns ho8 (fun j hj e => apart_type r2 ho8 (by decide) g rfl (by rw [hj, e]))
  · rw [List.getElem?_set_ne (by omega)]
    exact h4 i (by omega)
theorem WSt.done {w5 wr : World} {v6 : Value} {vsa : List Value} {a : List (List Int)} {more : List Int} (h : WSt w5 v6 vsa a more a.length wr) (hw : ∀ f ∈ a.map (· ++ more), ∀ x ∈ f, -9223372036854775808 ≤ x ∧ x ≤ 9223372036854775807) : RIss wr [v6] (a.map (· ++ more)) := by
  obtain ⟨vs, h1, h2, h3, h4⟩ := h.ex
  have h2' : wr.ownsRow w5.heap.size 22 1 v6 (a.map (· ++ more)).length vs := by rw [List.length_map]; exact h2
  refine slice_of_owns (by rw [List.length_map]; exact h1) h2' (fun i u f hu hf => ?_)
  have hfm := List.mem_of_getElem? hf
  rw [List.getElem?_map] at hf
  obtain ⟨f0, hf0, rfl⟩ := Option.map_eq_some_iff.1 hf
  exact ints_reads (hw _ hfm) (h3 i u f0 (List.getElem?_eq_some_iff.1 hf0).1 hu hf0)
theorem holds_app (m : List Bool) (a b : List (List Int)) : holds m (a ++ b) = (holds m a && holds m b) := by unfold holds; rw [List.all_append]
theorem holds_wide (m : List Bool) (a : List (List Int)) (more : List Int) (h : holds m a = true) : holds m (a.map (· ++ more)) = true := by
  unfold holds at *
  rw [List.all_eq_true] at *
  intro c hc
  obtain ⟨d, hd, rfl⟩ := List.mem_map.1 hc
  have := h d hd
  rw [List.any_append, this]; rfl
theorem rss_wf {w : World} {v : Value} {a : List (List Int)} (h : RIss w [v] a) : ∀ f ∈ a, ∀ x ∈ f, -9223372036854775808 ≤ x ∧ x ≤ 9223372036854775807 := by
  obtain ⟨_, _, _, _, g⟩ := rows_open h
  intro f hf x hx
  obtain ⟨i, hi, e⟩ := List.mem_iff_getElem.1 hf
  obtain ⟨_, _, u, _, _, hu⟩ := g i hi
  obtain ⟨_, _, _, _, g2⟩ := ints_open hu
  rw [← e] at hx
  obtain ⟨j, hj, e2⟩ := List.mem_iff_getElem.1 hx
  obtain ⟨_, _, _, _, h2⟩ := g2 j hj
  rw [e2] at h2; exact h2
theorem rint_list {w : World} {v : Value} {l : List Int} (h : RIs w [v] l) : ∀ x ∈ l, -9223372036854775808 ≤ x ∧ x ≤ 9223372036854775807 := by
  obtain ⟨_, _, _, _, g⟩ := ints_open h
  intro x hx
  obtain ⟨i, hi, e⟩ := List.mem_iff_getElem.1 hx
  obtain ⟨_, _, _, _, h1⟩ := g i hi
  rw [e] at h1; exact h1
theorem ints_one {w : World} {u : Value} {f : List Int} (h : RIs w [u] f) : u.oneCell' = true := by
  obtain ⟨a, cap, hv, _⟩ := h
  simp only [List.cons.injEq, and_true] at hv
  subst hv; rfl
theorem frozen_own {w : World} {base : Nat} {e : TypeId} {size g n cap m : Nat} {xs : List Value} (h : w.ownsRow base e size (.slice (some ⟨g, 0, none⟩) n cap) m xs) (j : Nat) : w.frozen? ⟨g, j, none⟩ = false := by
  rcases h.2 with ⟨h', _⟩ | ⟨g', cap', cur, h', hb, hg, _⟩
  · cases h'
  · simp at h'
    obtain ⟨rfl, _⟩ := h'
    exact frozen_at hg j
theorem lit_zero' {w : World} {B : Nat} (h : B ≤ w.heap.size) : (w.alloc (.cells #[] 22)).ownsRow B 22 1 (.slice (some ⟨w.heap.size, 0, none⟩) 0 0) 0 [] := World.ownsRow_lit (base := B) (e := 22) (size := 1) w #[] 0 h (by decide) rfl
/-- the cells of a slice of numbers, later -/
theorem ints_news {w W : World} {o : Option Addr} {n c : Nat} {f : List Int} (h : RIs w [.slice o n c] f) (hb : Below w.heap.size w W) : ∀ j u, (f.map intv)[j]? = some u → ∃ b off, o = some ⟨b, off, none⟩ ∧ W.cell? ⟨b, off + j, none⟩ = some u := by
  obtain ⟨a, cap, hv, _, g⟩ := ints_open h
  simp only [Value.slice.injEq] at hv
  obtain ⟨rfl, _, _⟩ := hv
  intro j u hu
  rw [List.getElem?_map] at hu
  obtain ⟨x, hx, rfl⟩ := Option.map_eq_some_iff.1 hu
  obtain ⟨hj, e⟩ := List.getElem?_eq_some_iff.1 hx
  obtain ⟨b, off, h1, h2, _⟩ := g j hj
  exact ⟨b, off, h1, cell_later hb (by rw [h2, e])⟩
set_option maxRecDepth 10000 in
set_option maxHeartbeats 4000000 in
theorem cnfJoins_any {w : World} {u1 u2 u3 v : Value} {a b : List (List Int)} {more : List Int} {m : List Bool} (ha : RIss w [u1] a) (hb : RIss w [u2] b) (hmo : RIs w [u3] more) (hmod : RBs w [v] m) :
    Calls Try.prog 7 #[u1, u2, u3, v] w fun e w' => e = .returned (.bool true) ∧ Below w.heap.size w w' := by
  have hX := fun (W : World) => fixed12 W
  have hG1 := great12_any ha
  have hG2 := great12_any hb
  obtain ⟨oa, ca, vsa, rfl, hac, _, hal, hacell, hard⟩ := slice_vals ha
  obtain ⟨ob, cb, vsb, rfl, hbc, _, hbl, hbcell, hbrd⟩ := slice_vals hb
  obtain ⟨om, cm, rfl, hmz, _⟩ := ints_open hmo
  obtain ⟨ov, cv, rfl, hvz, _⟩ := bools_open hmod
  have hwa := rss_wf ha
  have hwb := rss_wf hb
  have hlast := rint_list hmo
  obtain ⟨na, hna⟩ : ∃ n, n = a.length := ⟨_, rfl⟩
  obtain ⟨nb, hnb⟩ : ∃ n, n = b.length := ⟨_, rfl⟩
  obtain ⟨nm, hnm⟩ : ∃ n, n = more.length := ⟨_, rfl⟩
  obtain ⟨nv, hnv⟩ : ∃ n, n = m.length := ⟨_, rfl⟩
  rw [← hna] at ha hG1 hac hal ⊢
  rw [← hnb] at hb hG2 hbc hbl ⊢
  rw [← hnm] at hmo hmz ⊢
  rw [← hnv] at hmod hvz ⊢
  have hRa : ∀ W, Below w.heap.size w W → RIss W [.slice oa na ca] a := fun W h => stays_slice (stays_slice (stays_int .i64)) _ _ _ _ ha h
  have hRb : ∀ W, Below w.heap.size w W → RIss W [.slice ob nb cb] b := fun W h => stays_slice (stays_slice (stays_int .i64)) _ _ _ _ hb h
  have hRm : ∀ W, Below w.heap.size w W → RBs W [.slice ov nv cv] m := fun W h => stays_slice stays_bool _ _ _ _ hmod h
  have ha1 : ∀ u ∈ vsa, u.oneCell' = true := fun u hu => by
    obtain ⟨i, hi⟩ := List.mem_iff_getElem?.1 hu
    have hlt := (List.getElem?_eq_some_iff.1 hi).1
    exact ints_one (hard i u a[i] hi (List.getElem?_eq_getElem (by omega)))
  have hb1 : ∀ u ∈ vsb, u.oneCell' = true := fun u hu => by
    obtain ⟨i, hi⟩ := List.mem_iff_getElem?.1 hu
    have hlt := (List.getElem?_eq_some_iff.1 hi).1
    exact ints_one (hbrd i u b[i] hi (List.getElem?_eq_getElem (by omega)))
  have Ha := Lib.hid ha; have Hb := Lib.hid hb; have Hmo := Lib.hid hmo; have Hmod := Lib.hid hmod; have HX := Lib.hid hX; have HG1 := Lib.hid hG1; have HG2 := Lib.hid hG2; have Hac := Lib.hid hac; have Hbc := Lib.hid hbc; have Hal := Lib.hid hal; have Hbl := Lib.hid hbl; have Hacell := Lib.hid hacell; have Hbcell := Lib.hid hbcell; have Hard := Lib.hid hard; have Hbrd := Lib.hid hbrd; have Hwa := Lib.hid hwa; have Hwb := Lib.hid hwb; have Hlast := Lib.hid hlast; have Hna := Lib.hid hna; have Hnb := Lib.hid hnb; have Hnm := Lib.hid hnm; have Hnv := Lib.hid hnv; have HRa := Lib.hid hRa; have HRb := Lib.hid hRb; have HRm := Lib.hid hRm; have Ha1 := Lib.hid ha1; have Hb1 := Lib.hid hb1; clear ha hb hmo hmod hX hG1 hG2 hac hbc hal hbl hacell hbcell hard hbrd hwa hwb hlast hna hnb hnm hnv hRa hRb hRm ha1 hb1
  go_enter Try.func7, Try.ntmps7
  go_wp2_with fail
  refine HG1.out.mono ?_
  rintro e w1 ⟨rfl, q1, rfl, h1⟩
  have H1 := Lib.hid h1; clear h1
  cases q1 with
  | true =>
    go_wp2_with fail
    refine (HX.out _).mono ?_
    rintro e w1 ⟨rfl, hb9⟩
    have Hb9 := Lib.hid hb9; clear hb9
    go_wp2_with fail
    go_ret
    exact ⟨rfl, Hb9.out⟩
  | false =>
  have hbig1 := H1.out rfl
  have Hbig1 := Lib.hid hbig1; clear hbig1
  go_wp2_with fail
  refine HG2.out.mono ?_
  rintro e w1 ⟨rfl, q2, rfl, h2⟩
  have H2 := Lib.hid h2; clear h2
  cases q2 with
  | true =>
    go_wp2_with fail
    refine (HX.out _).mono ?_
    rintro e w1 ⟨rfl, hb9⟩
    have Hb9 := Lib.hid hb9; clear hb9
    go_wp2_with fail
    go_ret
    exact ⟨rfl, Hb9.out⟩
  | false =>
  have hbig2 := H2.out rfl
  have hbig1 := Hbig1.out
  have hna3 : na ≤ 3000 := by have := bulk_len a; have := Hna.out; omega
  have hnb3 : nb ≤ 3000 := by have := bulk_len b; have := Hnb.out; omega
  have hlens : ∀ f ∈ a, f.length ≤ 3000 := fun f hf => by have := bulk_mem a f hf; omega
  have Hbig1 := Lib.hid hbig1; have Hbig2 := Lib.hid hbig2; have Hlens := Lib.hid hlens; clear hbig1 hbig2 hlens
  by_cases hbig : 100 < nm ∨ 300 < nv
  · have hcases : (100 < nm) ∨ (nm ≤ 100 ∧ 300 < nv) := by omega
    clear hbig
    rcases hcases with hc | ⟨hc, hc2⟩
    all_goals
      go_wp2_with fail
      refine (HX.out _).mono ?_
      rintro e w1 ⟨rfl, hb9⟩
      have Hb9 := Lib.hid hb9; clear hb9
      go_wp2_with fail
      go_ret
      exact ⟨rfl, Hb9.out⟩
  have hm1 : nm ≤ 100 := by omega
  have hm2 : nv ≤ 300 := by omega
  clear hbig
  have hH1 := holdsGo_any (HRa.out _ (Below.refl _ _)) (HRm.out _ (Below.refl _ _))
  obtain ⟨x, hx⟩ : ∃ x, x = holds m a := ⟨_, rfl⟩
  obtain ⟨y, hy⟩ : ∃ y, y = holds m b := ⟨_, rfl⟩
  rw [← hx] at hH1
  have Hx := Lib.hid hx; have Hy := Lib.hid hy; have HH1 := Lib.hid hH1; clear hx hy hH1
  go_wp2_with fail
  refine HH1.out.mono ?_
  rintro e w2 ⟨rfl, hb2⟩
  have hH2 := holdsGo_any (HRb.out w2 hb2) (HRm.out w2 hb2)
  rw [← Hy.out] at hH2
  have Hb2 := Lib.hid hb2; have HH2 := Lib.hid hH2; clear hb2 hH2
  go_wp2_with fail
  refine HH2.out.mono ?_
  rintro e w3 ⟨rfl, hb3⟩
  have hbw3 := Hb2.out.trans (hb3.mono Hb2.out.size)
  have hz3 := hbw3.size
  have hbal3 := hbw3.trans ((below_alloc1 w3 (.cells #[] 22)).mono hz3)
  have hac3 : ∀ j u, vsa[j]? = some u → ∃ b off, oa = some ⟨b, off, none⟩ ∧ (w3.alloc (.cells #[] 22)).cell? ⟨b, off + j, none⟩ = some u := fun j u hu => by
    obtain ⟨b0, off0, h1, h2⟩ := Hacell.out j u hu
    exact ⟨b0, off0, h1, cell_later hbal3 h2⟩
  have hlit3 := lit_zero' (w := w3) (B := w3.heap.size) (Nat.le_refl _)
  have hal1 : vsa.length = na * 1 := by rw [Hal.out]; omega
  have hbl1 : vsb.length = nb * 1 := by rw [Hbl.out]; omega
  have Hb3 := Lib.hid hb3; have Hbw3 := Lib.hid hbw3; have Hbal3 := Lib.hid hbal3; have Hac3 := Lib.hid hac3; have Hlit3 := Lib.hid hlit3; have Hal1 := Lib.hid hal1; have Hbl1 := Lib.hid hbl1; clear hb3 hbw3 hbal3 hac3 hlit3 hal1 hbl1
  go_wp2_with (first | (at_builtin; (refine wpList_append_from elem_ints rfl (.tmp 37) (.tmp 38) rfl w3.heap.size (.slice (some ⟨w3.heap.size, 0, none⟩) 0 0) 0 [] rfl Hlit3.out oa na ca vsa rfl Hal1.out Hac3.out Ha1.out (by omega) (by unfold maxLen; omega) (by simp) ?_; intro v4 w4 hown4 hg4 hm4; obtain ⟨o4, c4, rfl⟩ := own_shape hown4; generalize hN4 : 0 + na = N4 at hown4 ⊢; have hb4 := (bel_own (below_alloc1 w3 _) Hlit3.out (Nat.le_refl _) hg4 (by simp) : Below w3.heap.size w3 w4); have hz4 := hb4.size; have hbc4 : ∀ j u, vsb[j]? = some u → ∃ b off, ob = some ⟨b, off, none⟩ ∧ w4.cell? ⟨b, off + j, none⟩ = some u := (fun j u hu => (by obtain ⟨b0, off0, h1, h2⟩ := Hbcell.out j u hu; exact ⟨b0, off0, h1, cell_later (Hbw3.out.trans (hb4.mono hz3)) h2⟩)); have HN4 := Lib.hid hN4; have hN4' : N4 ≤ 3000 := (by omega); have Hown4 := Lib.hid hown4; have Hb4 := Lib.hid hb4; have Hbc4 := Lib.hid hbc4; clear hown4 hg4 hm4 hN4 hb4 hbc4)) | (at_builtin; (refine wpList_append_from elem_ints rfl (.tmp 39) (.tmp 40) rfl w3.heap.size (.slice o4 N4 c4) N4 _ rfl Hown4.out ob nb cb vsb rfl Hbl1.out Hbc4.out Hb1.out (by omega) (by unfold maxLen; omega) hz4 ?_; intro v5 w5 hown5 hg5 hm5; obtain ⟨o5, c5, rfl⟩ := own_shape hown5; generalize hN5 : N4 + nb = N5 at hown5 ⊢; have hb5 := (bel_own Hb4.out Hown4.out (Nat.le_refl _) hg5 hz4 : Below w3.heap.size w3 w5); have hz5 := hb5.size; have hac5 : ∀ j u, vsa[j]? = some u → ∃ b off, oa = some ⟨b, off, none⟩ ∧ (w5.alloc (.cells #[] 22)).cell? ⟨b, off + j, none⟩ = some u := (fun j u hu => (by obtain ⟨b0, off0, h1, h2⟩ := Hacell.out j u hu; exact ⟨b0, off0, h1, cell_later ((Hbw3.out.trans (hb5.mono hz3)).trans ((below_alloc1 w5 _).mono (by omega))) h2⟩)); have hlit5 := lit_zero' (w := w5) (B := w5.heap.size) (Nat.le_refl _); have HN5 := Lib.hid hN5; have Hown5 := Lib.hid hown5; have Hb5 := Lib.hid hb5; have Hac5 := Lib.hid hac5; have Hlit5 := Lib.hid hlit5; clear hown5 hg5 hm5 hN5 hb5 hac5 hlit5)) | (at_builtin; (refine wpList_append_from elem_ints rfl (.tmp 42) (.tmp 43) rfl w5.heap.size (.slice (some ⟨w5.heap.size, 0, none⟩) 0 0) 0 [] rfl Hlit5.out oa na ca vsa rfl Hal1.out Hac5.out Ha1.out (by omega) (by unfold maxLen; omega) (by simp) ?_; intro v6 w6 hown6 hg6 hm6; obtain ⟨o6, c6, rfl⟩ := own_shape hown6; generalize hN6 : 0 + na = N6 at hown6 ⊢; have hb6 := (bel_own (below_alloc1 w5 _) Hlit5.out (Nat.le_refl _) hg6 (by simp) : Below w5.heap.size w5 w6); have HN6 := Lib.hid hN6; have Hown6 := Lib.hid hown6; have Hb6 := Lib.hid hb6; clear hown6 hg6 hm6 hN6 hb6)))
  have hbw5 := Hbw3.out.trans (Hb5.out.mono hz3)
  have hz5w := hbw5.size
  have hbw6 := hbw5.trans (Hb6.out.mono hz5w)
  obtain ⟨hN6e, hN5e⟩ : N6 = a.length ∧ N5 = (a ++ b).length := by
    have h1 := HN4.out; have h2 := HN5.out; have h3 := HN6.out; have h4 := Hna.out; have h5 := Hnb.out
    rw [List.length_append]; omega
  have hall5 : RIss w5 [.slice o5 N5 c5] (a ++ b) := by
    have h9 := Hown5.out
    rw [List.nil_append] at h9
    rw [hN5e] at h9 ⊢
    refine slice_of_owns (by have := Hal.out; have := Hbl.out; have := Hna.out; have := Hnb.out; simp; omega) h9 (fun i u f hu hf => ?_)
    have hst : ∀ {u f}, RIs w [u] f → RIs w5 [u] f := fun h => stays_slice (stays_int .i64) _ _ _ _ h hbw5
    have hvl : vsa.length = a.length := by have := Hal.out; have := Hna.out; omega
    by_cases hi : i < vsa.length
    · rw [List.getElem?_append_left hi] at hu
      rw [List.getElem?_append_left (by omega)] at hf
      exact hst (Hard.out i u f hu hf)
    · rw [List.getElem?_append_right (by omega)] at hu
      rw [List.getElem?_append_right (by omega)] at hf
      rw [hvl] at hu
      exact hst (Hbrd.out _ u f hu hf)
  have hw0 : WSt w5 (.slice o6 N6 c6) vsa a more 0 w6 := ⟨⟨vsa, by have := Hal.out; have := Hna.out; omega, by have h9 := Hown6.out; rw [List.nil_append] at h9; rw [hN6e] at h9 ⊢; exact h9, fun i u f h => by omega, fun i _ => rfl⟩, Hb6.out⟩
  have hN6n : N6 = na := by have h4 := Hna.out; omega
  have Hbw5 := Lib.hid hbw5; have Hbw6 := Lib.hid hbw6; have HN6e := Lib.hid hN6e; have HN5e := Lib.hid hN5e; have Hall5 := Lib.hid hall5; have Hw0 := Lib.hid hw0; clear hbw5 hbw6 hN6e hN5e hall5 hw0
  subst hN6n
  go_loopw [47] (fun i wr => ∃ k : Nat, k ≤ N6 ∧ i = .int .i64 k ∧ WSt w5 (.slice o6 N6 c6) vsa a more k wr) (fun i _ => N6 - (intOf i).toNat)
  case atStart => exact ⟨0, Nat.zero_le _, rfl, Hw0.out⟩
  case round =>
    obtain ⟨k, hk, rfl, hw⟩ := hrel
    by_cases hlt : k < N6
    · have hka : k < a.length := by have := HN6e.out; omega
      have hkv : k < vsa.length := by have := Hal.out; omega
      obtain ⟨u, hu⟩ : ∃ u, u = vsa[k] := ⟨_, rfl⟩
      have hku : vsa[k]? = some u := by rw [hu]; exact List.getElem?_eq_getElem hkv
      obtain ⟨f, hf⟩ : ∃ f, f = a[k] := ⟨_, rfl⟩
      have hkf : a[k]? = some f := by rw [hf]; exact List.getElem?_eq_getElem hka
      have hrd := Hard.out k u f hku hkf
      have hfl := Hlens.out f (by rw [hf]; exact List.getElem_mem hka)
      obtain ⟨uo, uc, rfl, _, _⟩ := ints_open hrd
      obtain ⟨nf, hnf⟩ : ∃ nf, nf = f.length := ⟨_, rfl⟩
      rw [← hnf] at hrd hku hfl
      obtain ⟨vs, e1, e2, e3, e4⟩ := hw.ex
      have e5 := e4 k (Nat.le_refl _)
      rw [hku] at e5
      have e2' := e2
      obtain ⟨g, cap, hsh, hgB, hgl, hgc, _, hgcell⟩ := ownsRow_some e2 (by omega)
      simp only [Value.slice.injEq] at hsh
      obtain ⟨rfl, hsh2, rfl⟩ := hsh
      clear hsh2
      have d := hgcell k _ e5
      have hbwr := Hbw5.out.trans (hw.bel.mono hz5w)
      have hzr := hbwr.size
      have hlit := lit_zero (w := wr) (B := wr.heap.size) (Nat.le_refl _)
      have hnews := ints_news hrd (hbwr.trans ((below_alloc1 wr (.cells #[] 3)).mono hzr))
      have hone := one_cells f
      have honem := one_cells more
      have hfl1 : (f.map intv).length = nf * 1 := by simp [hnf]
      have hml1 : (more.map intv).length = nm * 1 := by have := Hnm.out; simp; omega
      have hgl2 : g < wr.heap.size := hgl
      have k5 : (0 : Int) ≤ (k : Int) := by omega
      have k6 : (k : Int) < (N6 : Int) := by omega
      obtain ⟨T, hT⟩ : ∃ T, T = f.map intv := ⟨_, rfl⟩
      obtain ⟨S, hS⟩ : ∃ S, S = more.map intv := ⟨_, rfl⟩
      rw [← hT] at hnews hone hfl1
      rw [← hS] at honem hml1
      have hmn : ∀ W, Below w.heap.size w W → ∀ j u, S[j]? = some u → ∃ b off, om = some ⟨b, off, none⟩ ∧ W.cell? ⟨b, off + j, none⟩ = some u := fun W hW => by rw [hS]; exact ints_news Hmo.out hW
      clear e1 e3 e4 e5 hu hf hkv hgcell
      have Hw := Lib.hid hw; have Hku := Lib.hid hku; have Hkf := Lib.hid hkf; have Hrd := Lib.hid hrd; have Hnf := Lib.hid hnf; have He2 := Lib.hid e2; have He2' := Lib.hid e2'; have Hbwr := Lib.hid hbwr; have Hlit := Lib.hid hlit; have Hnews := Lib.hid hnews; have Hone := Lib.hid hone; have Honem := Lib.hid honem; have Hfl1 := Lib.hid hfl1; have Hml1 := Lib.hid hml1; have HT := Lib.hid hT; have HS := Lib.hid hS; have Hmn := Lib.hid hmn; have Hka := Lib.hid hka; clear hw hku hkf hrd hnf e2 e2' hbwr hlit hnews hone honem hfl1 hml1 hT hS hmn hka
      go_wp2_with (first | (at_builtin; (refine wpList_append_from elem_int' rfl (.tmp 52) (.tmp 56) rfl wr.heap.size (.slice (some ⟨wr.heap.size, 0, none⟩) 0 0) 0 [] rfl Hlit.out uo nf uc T rfl Hfl1.out Hnews.out Hone.out (by omega) (by unfold maxLen; omega) (by simp) ?_; intro v7 w7 hown7 hg7 hm7; obtain ⟨a7, c7, rfl⟩ := own_shape hown7; generalize hN7 : 0 + nf = N7 at hown7 ⊢; have hb7 := (bel_own (below_alloc1 wr _) Hlit.out (Nat.le_refl _) hg7 (by simp) : Below wr.heap.size wr w7); have hz7 := hb7.size; have hmn7 := Hmn.out w7 (Hbwr.out.trans (hb7.mono hzr)); have HN7 := Lib.hid hN7; have hN7' : N7 ≤ 3000 := (by omega); have Hown7 := Lib.hid hown7; have Hb7 := Lib.hid hb7; have Hmn7 := Lib.hid hmn7; clear hown7 hg7 hm7 hN7 hb7 hmn7)) | (at_builtin; (refine wpList_append_from elem_int' rfl (.tmp 57) (.tmp 58) rfl wr.heap.size (.slice a7 N7 c7) N7 _ rfl Hown7.out om nm cm S rfl Hml1.out Hmn7.out Honem.out (by omega) (by unfold maxLen; omega) hz7 ?_; intro v8 w8 hown8 hg8 hm8; obtain ⟨a8, c8, rfl⟩ := own_shape hown8; generalize hN8 : N7 + nm = N8 at hown8 ⊢; have hb8 := (bel_own Hb7.out Hown7.out (Nat.le_refl _) hg8 hz7 : Below wr.heap.size wr w8); have d8 := ((hb8.cell (p := ⟨g, k, none⟩) hgl2).trans d); have hrow8 := ownsRow_below He2.out hb8; have f8 := frozen_own hrow8 k; have HN8 := Lib.hid hN8; have Hown8 := Lib.hid hown8; have Hb8 := Lib.hid hb8; clear hown8 hg8 hm8 hN8 hb8 hrow8)))
      have hstep := Hw.out.step (v8 := .slice a8 N8 c8) (f := f) (by have := HN6e.out; omega) Hb8.out Hka.out Hkf.out (by
        have h9 := Hown8.out
        rw [HT.out, HS.out, List.nil_append, ← List.map_append] at h9
        have e9 : N8 = (f ++ more).length := by have h1 := HN7.out; have h2 := HN8.out; have h3 := Hnf.out; have h4 := Hnm.out; rw [List.length_append]; omega
        rw [e9] at h9 ⊢
        exact h9)
      have Hstep := Lib.hid hstep; clear hstep
      go_wp2_with fail
      go_roundw
      case rel => exact ⟨k + 1, by omega, by go_num, Hstep.out⟩
      case measure => simp [intOf]; omega
    · obtain rfl : k = N6 := by omega
      rw [HN6e.out] at hw
      have hwf : ∀ f ∈ a.map (· ++ more), ∀ x ∈ f, -9223372036854775808 ≤ x ∧ x ≤ 9223372036854775807 := by
        intro f hf x hx
        obtain ⟨f0, h0, rfl⟩ := List.mem_map.1 hf
        rcases List.mem_append.1 hx with hx | hx
        · exact Hwa.out f0 h0 x hx
        · exact Hlast.out x hx
      have hwide := hw.done hwf
      rw [← HN6e.out] at hwide
      have hb6r := hw.bel
      have hbr := Hbw5.out.trans (hw.bel.mono hz5w)
      have hzr := hbr.size
      have hallr := stays_slice (stays_slice (stays_int .i64)) _ _ _ _ Hall5.out hb6r
      have hab := holds_app m a b
      have hwd := fun h => holds_wide m a more h
      rw [← Hx.out, ← Hy.out] at hab
      rw [← Hx.out] at hwd
      have hat := atomsOf_append a b
      obtain ⟨A, hA⟩ : ∃ A, A = atomsOf 0 a := ⟨_, rfl⟩
      obtain ⟨B, hB⟩ : ∃ B, B = atomsOf 0 b := ⟨_, rfl⟩
      rw [← hA, ← hB] at hat
      have hHall := fun W (h : Below wr.heap.size wr W) => holdsGo_any (stays_slice (stays_slice (stays_int .i64)) _ _ _ _ hallr h) (HRm.out W (hbr.trans (h.mono hzr)))
      have hHwide := fun W (h : Below wr.heap.size wr W) => holdsGo_any (stays_slice (stays_slice (stays_int .i64)) _ _ _ _ hwide h) (HRm.out W (hbr.trans (h.mono hzr)))
      have hAall := fun W (h : Below wr.heap.size wr W) => atoms_any (stays_slice (stays_slice (stays_int .i64)) _ _ _ _ hallr h)
      have hAa := fun W (h : Below wr.heap.size wr W) => atoms_any (HRa.out W (hbr.trans (h.mono hzr)))
      have hAb := fun W (h : Below wr.heap.size wr W) => atoms_any (HRb.out W (hbr.trans (h.mono hzr)))
      rw [hab] at hHall
      rw [hat] at hAall
      rw [← hA] at hAa
      rw [← hB] at hAb
      clear hlt
      have ey : (y == y) = true := by simp
      cases x with
      | false =>
        simp only [Bool.false_and] at hHall
        have Hw := Lib.hid hw; have Hwf := Lib.hid hwf; have Hwide := Lib.hid hwide; have Hb6r := Lib.hid hb6r; have Hbr := Lib.hid hbr; have Hallr := Lib.hid hallr; have Hab := Lib.hid hab; have Hwd := Lib.hid hwd; have Hat := Lib.hid hat; have HA := Lib.hid hA; have HB := Lib.hid hB; have HHall := Lib.hid hHall; have HHwide := Lib.hid hHwide; have HAall := Lib.hid hAall; have HAa := Lib.hid hAa; have HAb := Lib.hid hAb; clear hw hwf hwide hb6r hbr hallr hab hwd hat hA hB hHall hHwide hAall hAa hAb
        go_wp2_with fail
        refine (HX.out wr).mono ?_
        rintro e w7 ⟨rfl, hb7⟩
        have c7 := HHall.out w7 hb7
        have Hb7 := Lib.hid hb7; have Hc7 := Lib.hid c7; clear hb7 c7
        go_wp2_with fail
        refine Hc7.out.mono ?_
        rintro e w8 ⟨rfl, hb8⟩
        have hb8r := Hb7.out.trans (hb8.mono Hb7.out.size)
        obtain ⟨w9, rfl⟩ : ∃ w9, w9 = w8 := ⟨_, rfl⟩
        have hb9r := hb8r
        have c10 := HAall.out w9 hb9r
        have c11 := HAa.out w9 hb9r
        have c12 := HAb.out w9 hb9r
        have hb9w := Hbr.out.trans (hb9r.mono hzr)
        have Hb8 := Lib.hid hb8; have Hb8r := Lib.hid hb8r; have Hb9r := Lib.hid hb9r; have Hc10 := Lib.hid c10; have Hc11 := Lib.hid c11; have Hc12 := Lib.hid c12; have Hb9w := Lib.hid hb9w; clear hb8 hb8r hb9r c10 c11 c12 hb9w
        go_wp2_with fail
        refine Hc10.out.mono ?_
        rintro e w10 ⟨rfl, rfl⟩
        go_wp2_with fail
        refine Hc11.out.mono ?_
        rintro e w10 ⟨rfl, rfl⟩
        go_wp2_with fail
        refine Hc12.out.mono ?_
        rintro e w10 ⟨rfl, rfl⟩
        go_wp2_with fail
        go_ret
        exact ⟨rfl, Hb9w.out⟩
      | true =>
        simp only [Bool.true_and] at hHall
        rw [hwd rfl] at hHwide
        have Hw := Lib.hid hw; have Hwf := Lib.hid hwf; have Hwide := Lib.hid hwide; have Hb6r := Lib.hid hb6r; have Hbr := Lib.hid hbr; have Hallr := Lib.hid hallr; have Hab := Lib.hid hab; have Hwd := Lib.hid hwd; have Hat := Lib.hid hat; have HA := Lib.hid hA; have HB := Lib.hid hB; have HHall := Lib.hid hHall; have HHwide := Lib.hid hHwide; have HAall := Lib.hid hAall; have HAa := Lib.hid hAa; have HAb := Lib.hid hAb; clear hw hwf hwide hb6r hbr hallr hab hwd hat hA hB hHall hHwide hAall hAa hAb
        go_wp2_with fail
        refine (HX.out wr).mono ?_
        rintro e w7 ⟨rfl, hb7⟩
        have c7 := HHall.out w7 hb7
        have Hb7 := Lib.hid hb7; have Hc7 := Lib.hid c7; clear hb7 c7
        go_wp2_with fail
        refine Hc7.out.mono ?_
        rintro e w8 ⟨rfl, hb8⟩
        have hb8r := Hb7.out.trans (hb8.mono Hb7.out.size)
        have c9 := HHwide.out w8 hb8r
        have Hc9 := Lib.hid c9; clear c9
        go_wp2_with fail
        refine Hc9.out.mono ?_
        rintro e w9 ⟨rfl, hb9⟩
        have hb9r := hb8r.trans (hb9.mono hb8r.size)
        have Hb9 := Lib.hid hb9; clear hb9
        have c10 := HAall.out w9 hb9r
        have c11 := HAa.out w9 hb9r
        have c12 := HAb.out w9 hb9r
        have hb9w := Hbr.out.trans (hb9r.mono hzr)
        have Hb8 := Lib.hid hb8; have Hb8r := Lib.hid hb8r; have Hb9r := Lib.hid hb9r; have Hc10 := Lib.hid c10; have Hc11 := Lib.hid c11; have Hc12 := Lib.hid c12; have Hb9w := Lib.hid hb9w; clear hb8 hb8r hb9r c10 c11 c12 hb9w
        go_wp2_with fail
        refine Hc10.out.mono ?_
        rintro e w10 ⟨rfl, rfl⟩
        go_wp2_with fail
        refine Hc11.out.mono ?_
        rintro e w10 ⟨rfl, rfl⟩
        go_wp2_with fail
        refine Hc12.out.mono ?_
        rintro e w10 ⟨rfl, rfl⟩
        go_wp2_with fail
        go_ret
        exact ⟨rfl, Hb9w.out⟩
theorem opens_intss12 : Opens Try.prog 42 RIss := opens_slice Try.underlying42 (by kernel_rfl) (by decide) (opens_ints_of Try.underlying22 Try.underlying3 (by kernel_rfl))
end Go.Proofs.Ytnelgellbabkoaa
