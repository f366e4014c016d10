/- The walk of the law CnfForm. Condition: none but the reach of what comes in. -/
import Derived.Test.YtnelgellbabkoaaCnfR
import Derived.Test.YtnelgellbabkoaaCnfI
namespace Go.Proofs.Ytnelgellbabkoaa
open Go.RowKit Go.Lib Go.Sort
open CnfM (InR holds form)

/-- a literal slice of one slice -/
theorem reads_one {w : World} {g : Nat} {v : Value} {l : List Int} (h : w.heap[g]? = some (.cells #[v] 22 (0, 0))) (h1 : RIs w [v] l) : RIss w [.slice (some ⟨g, 0, none⟩) 1 1] [l] := by
  refine ⟨_, _, rfl, Nat.le_refl _, by decide, fun k x hk => ?_⟩
  match k, hk with
  | 0, hk =>
    simp at hk; subst hk
    refine ⟨g, 0, [_], rfl, rfl, fun j u hu => ?_, h1⟩
    match j, hu with
    | 0, hu => simp at hu; subst hu; simpa using cells_at h 0
set_option maxRecDepth 10000 in
set_option maxHeartbeats 4000000 in
theorem cnfForm_any {w : World} {u v : Value} {l : List Int} {m : List Bool} (h : RIs w [u] l) (hmod : RBs w [v] m) : Calls Try.prog 6 #[u, v] w fun e w' => e = .returned (.bool true) ∧ Below w.heap.size w w' := by
  obtain ⟨a, cap, rfl, hz, g⟩ := ints_open h
  obtain ⟨a2, cap2, rfl, hz2, _⟩ := bools_open hmod
  have hX := fun (W : World) => fixed12 W
  obtain ⟨n, hn⟩ : ∃ n, n = l.length := ⟨_, rfl⟩
  obtain ⟨n2, hn2⟩ : ∃ n, n = m.length := ⟨_, rfl⟩
  rw [← hn] at hz h ⊢
  rw [← hn2] at hz2 hmod ⊢
  by_cases hbig : 300 < n ∨ 300 < n2
  · have hcases : (300 < n) ∨ (n ≤ 300 ∧ 300 < n2) := by omega
    clear hbig
    rcases hcases with hc | ⟨hc, hc2⟩
    all_goals
      have Hh := Lib.hid h; have Hmod := Lib.hid hmod; have Hg := Lib.hid g; have Hn := Lib.hid hn; have Hn2 := Lib.hid hn2; have HX := Lib.hid hX; clear h hmod g hn hn2 hX
      go_enter Try.func6, Try.ntmps6
      go_wp2_with fail
      refine (HX.out _).mono ?_
      rintro e w1 ⟨rfl, hb1⟩
      have Hb1 := Lib.hid hb1; clear hb1
      go_wp2_with fail
      go_ret
      exact ⟨rfl, Hb1.out⟩
  · have hs1 : n ≤ 300 := by omega
    have hs2 : n2 ≤ 300 := by omega
    clear hbig
    have hR : ∀ W, Below w.heap.size w W → RIs W [.slice a n cap] l := fun W hb => stays_slice (stays_int .i64) _ _ _ _ h hb
    have hRm : ∀ W, Below w.heap.size w W → RBs W [.slice a2 n2 cap2] m := fun W hb => stays_slice stays_bool _ _ _ _ hmod hb
    have hwf : ∀ x ∈ l, -9223372036854775808 ≤ x ∧ x ≤ 9223372036854775807 := fun x hx => by
      obtain ⟨i, hi, e⟩ := List.mem_iff_getElem.1 hx
      obtain ⟨_, _, _, _, h1⟩ := g i hi
      rw [e] at h1; exact h1
    obtain ⟨N, hN⟩ : ∃ N, N = l.map intv := ⟨_, rfl⟩
    have hNl : N.length = n * 1 := by rw [hN]; simp [hn]
    have hN1 : ∀ u ∈ N, u.oneCell' = true := by rw [hN]; exact one_cells l
    have hNc : ∀ j u, N[j]? = some u → ∃ b off, a = some ⟨b, off, none⟩ ∧ (w.alloc (.cells #[] 3)).cell? ⟨b, off + j, none⟩ = some u := by
      intro j u hu
      rw [hN, List.getElem?_map] at hu
      obtain ⟨x, hx, rfl⟩ := Option.map_eq_some_iff.1 hu
      obtain ⟨hj, e⟩ := List.getElem?_eq_some_iff.1 hx
      obtain ⟨b, off, h1, h2, _⟩ := g j hj
      exact ⟨b, off, h1, ((Frm.refl _ w).alloc _).keep (by rw [h2, e])⟩
    have hlit : (w.alloc (.cells #[] 3)).ownsRow w.heap.size 3 1 (.slice (some ⟨w.heap.size, 0, none⟩) 0 0) 0 [] := lit_zero (Nat.le_refl _)
    obtain ⟨f, ok, hf⟩ : ∃ f ok, form l = (f, ok) := ⟨_, _, rfl⟩
    have hfw : ∀ x ∈ f, -9223372036854775808 ≤ x ∧ x ≤ 9223372036854775807 := fun x hx => hwf x (CnfM.form_mem l x (by rw [hf]; exact hx))
    have hfh : ok = true → holds m [f] = holds m [l] := fun e => by have := CnfM.holds_form m l (by rw [hf]; exact e); rw [hf] at this; exact this
    have e1 : (ok != ok) = false := by simp
    have Hh := Lib.hid h; have Hmod := Lib.hid hmod; have Hg := Lib.hid g; have Hn := Lib.hid hn; have Hn2 := Lib.hid hn2; have HX := Lib.hid hX; have HR := Lib.hid hR; have HRm := Lib.hid hRm; have Hwf := Lib.hid hwf; have HN := Lib.hid hN; have HNl := Lib.hid hNl; have HN1 := Lib.hid hN1; have HNc := Lib.hid hNc; have Hlit := Lib.hid hlit; have Hf := Lib.hid hf; have Hfw := Lib.hid hfw; have Hfh := Lib.hid hfh; clear h hmod g hn hn2 hX hR hRm hwf hN hNl hN1 hNc hlit hf hfw hfh
    go_enter Try.func6, Try.ntmps6
    go_wp2_with (at_builtin; (refine wpList_append_from elem_int' rfl (.tmp 19) (.tmp 20) rfl w.heap.size (.slice (some ⟨w.heap.size, 0, none⟩) 0 0) 0 [] rfl Hlit.out a n cap N rfl HNl.out HNc.out HN1.out (by omega) (by unfold maxLen; omega) (by simp) ?_; intro v1 w1 hown1 hg1 hm1; obtain ⟨oa, oc, rfl⟩ := own_shape hown1; generalize hN7 : 0 + n = N7 at hown1 ⊢; have Hown1 := Lib.hid hown1; have Hg1 := Lib.hid hg1; have HN7 := Lib.hid hN7; clear hown1 hg1 hm1 hN7))
    have hb1 : Below w.heap.size w w1 := bel_own (below_alloc1 w _) Hlit.out (Nat.le_refl _) Hg1.out (by simp)
    have hown : RIs w1 [.slice oa N7 oc] l := by
      have := Hown1.out
      rw [List.nil_append, HN.out] at this
      have e : N7 = l.length := by have := HN7.out; have := Hn.out; omega
      rw [e] at this ⊢
      exact ints_reads Hwf.out this
    have hF1 := form_any hown (by have := Hn.out; omega)
    have Hb1 := Lib.hid hb1; have Hown := Lib.hid hown; have HF1 := Lib.hid hF1; clear hb1 hown hF1
    go_wp2_with fail
    refine HF1.out.mono ?_
    rintro e w2 ⟨r1, rfl, h2, hb2⟩
    rw [Hf.out] at h2 ⊢
    dsimp only at h2 ⊢
    have hr1 := ints_reads Hfw.out h2
    have hbw2 := Hb1.out.trans (hb2.mono Hb1.out.size)
    have hF2 := refForm_any (HR.out w2 hbw2) (by have := Hn.out; omega)
    have hown2 := stays_slice (stays_int .i64) _ _ _ _ Hown.out hb2
    have H2 := Lib.hid h2; have Hb2 := Lib.hid hb2; have Hr1 := Lib.hid hr1; have Hbw2 := Lib.hid hbw2; have HF2 := Lib.hid hF2; have Hown2 := Lib.hid hown2; clear h2 hb2 hr1 hbw2 hF2 hown2
    go_wp2_with fail
    refine HF2.out.mono ?_
    rintro e w3 ⟨r2, rfl, h3, hb3⟩
    rw [Hf.out] at h3 ⊢
    dsimp only at h3 ⊢
    have hr2 := ints_reads Hfw.out h3
    have hbw3 := Hbw2.out.trans (hb3.mono Hbw2.out.size)
    have hr1' := stays_slice (stays_int .i64) _ _ _ _ Hr1.out hb3
    have hS1 := same12_any hr1' hr2
    rw [decide_eq_true rfl] at hS1
    have hown3 := stays_slice (stays_int .i64) _ _ _ _ Hown2.out hb3
    have H3 := Lib.hid h3; have Hb3 := Lib.hid hb3; have Hr2 := Lib.hid hr2; have Hbw3 := Lib.hid hbw3; have Hr1' := Lib.hid hr1'; have HS1 := Lib.hid hS1; have Hown3 := Lib.hid hown3; clear h3 hb3 hr2 hbw3 hr1' hS1 hown3
    go_wp2_with fail
    refine HS1.out.mono ?_
    rintro e w4 ⟨rfl, q, rfl⟩
    have hbd : ∀ Q, Below w3.heap.size w3 (w3.drewN Q) := fun Q => bel_drewN (Below.refl _ _) Q
    have hS2 := same12_any (stays_slice (stays_int .i64) _ _ _ _ Hown3.out (hbd q)) (HR.out _ (bel_drewN Hbw3.out q))
    rw [decide_eq_true rfl] at hS2
    have HS2 := Lib.hid hS2; have Hbd := Lib.hid hbd; clear hS2 hbd
    go_wp2_with fail
    refine HS2.out.mono ?_
    rintro e w4 ⟨rfl, q2, rfl⟩
    obtain ⟨w5, hw5⟩ : ∃ W, W = (w3.drewN q).drewN q2 := ⟨_, rfl⟩
    have hb5 : Below w.heap.size w w5 := by rw [hw5]; exact bel_drewN (bel_drewN Hbw3.out _) _
    have hr5 : RIs w5 [r1] f := by rw [hw5]; exact rslice_drewN (stays_int .i64) (rslice_drewN (stays_int .i64) Hr1'.out _) _
    have hX5 := HX.out w5
    rw [← hw5]
    have Hw5 := Lib.hid hw5; have Hb5 := Lib.hid hb5; have Hr5 := Lib.hid hr5; have HX5 := Lib.hid hX5; clear hw5 hb5 hr5 hX5
    go_wp2_with fail
    refine HX5.out.mono ?_
    rintro e w6 ⟨rfl, hb6⟩
    have hbw6 := Hb5.out.trans (hb6.mono Hb5.out.size)
    have hr6 := stays_slice (stays_int .i64) _ _ _ _ Hr5.out hb6
    have hz6 := hbw6.size
    have hH6 := holdsGo_any (reads_one (heap_alloc_new w6 (.cells #[.slice a n cap] 22)) (HR.out _ (hbw6.trans ((below_alloc1 w6 _).mono hz6)))) (HRm.out _ (hbw6.trans ((below_alloc1 w6 _).mono hz6)))
    have Hb6 := Lib.hid hb6; have Hbw6 := Lib.hid hbw6; have Hr6 := Lib.hid hr6; have HH6 := Lib.hid hH6; clear hb6 hbw6 hr6 hH6
    go_wp2_with fail
    refine HH6.out.mono ?_
    rintro e w7 ⟨rfl, hb7⟩
    have hba := Hbw6.out.trans ((below_alloc1 w6 (.cells #[.slice a n cap] 22)).mono hz6)
    have hbw7 := hba.trans (hb7.mono hba.size)
    have hz7 := hbw7.size
    have hr7 := stays_slice (stays_int .i64) _ _ _ _ (stays_slice (stays_int .i64) _ _ _ _ Hr6.out (below_alloc1 w6 (.cells #[.slice a n cap] 22))) hb7
    have hH7 := holdsRef_any (reads_one (heap_alloc_new w7 (.cells #[.slice a n cap] 22)) (HR.out _ (hbw7.trans ((below_alloc1 w7 _).mono hz7)))) (HRm.out _ (hbw7.trans ((below_alloc1 w7 _).mono hz7)))
    obtain ⟨q7, hq7⟩ : ∃ q, q = holds m [l] := ⟨_, rfl⟩
    rw [← hq7] at hH7 ⊢
    have e7 : (q7 == q7) = true := by simp
    have Hb7 := Lib.hid hb7; have Hba := Lib.hid hba; have Hbw7 := Lib.hid hbw7; have Hr7 := Lib.hid hr7; have HH7 := Lib.hid hH7; have Hq7 := Lib.hid hq7; clear hb7 hba hbw7 hr7 hH7 hq7
    go_wp2_with fail
    refine HH7.out.mono ?_
    rintro e w8 ⟨rfl, rfl⟩
    obtain ⟨w8, hw8⟩ : ∃ W, W = w7.alloc (.cells #[.slice a n cap] 22) := ⟨_, rfl⟩
    have hb8 : Below w.heap.size w w8 := by rw [hw8]; exact Hbw7.out.trans ((below_alloc1 w7 _).mono hz7)
    have hr8 : RIs w8 [r1] f := by rw [hw8]; exact stays_slice (stays_int .i64) _ _ _ _ Hr7.out (below_alloc1 w7 _)
    rw [← hw8]
    cases ok with
    | false =>
      have Hw8 := Lib.hid hw8; have Hb8 := Lib.hid hb8; have Hr8 := Lib.hid hr8; clear hw8 hb8 hr8
      go_wp2_with fail
      go_ret
      exact ⟨rfl, Hb8.out⟩
    | true =>
      have hfl : f.length ≤ 300 := by have := CnfM.form_len l; rw [Hf.out] at this; have := Hn.out; simp at *; omega
      obtain ⟨fa, fc, rfl⟩ := (by obtain ⟨x, y, hv, _⟩ := hr8; simp only [List.cons.injEq, and_true] at hv; exact ⟨x, y, hv⟩ : ∃ x y, r1 = .slice x f.length y)
      obtain ⟨nf, hnf⟩ : ∃ nf, nf = f.length := ⟨_, rfl⟩
      rw [← hnf] at hr8 ⊢
      have hz8 := hb8.size
      have hbz := hb8.trans ((below_alloc1 w8 (.cells #[.slice fa nf fc] 22)).mono hz8)
      have hH8 := holdsGo_any (reads_one (heap_alloc_new w8 (.cells #[.slice fa nf fc] 22)) (stays_slice (stays_int .i64) _ _ _ _ hr8 (below_alloc1 w8 _))) (HRm.out _ hbz)
      rw [Hfh.out rfl, ← Hq7.out] at hH8
      have Hw8 := Lib.hid hw8; have Hb8 := Lib.hid hb8; have Hr8 := Lib.hid hr8; have Hnf := Lib.hid hnf; have Hbz := Lib.hid hbz; have HH8 := Lib.hid hH8; have Hfl := Lib.hid hfl; clear hw8 hb8 hr8 hnf hbz hH8 hfl
      go_wp2_with fail
      refine HH8.out.mono ?_
      rintro e w9 ⟨rfl, hb9⟩
      have hbw9 := Hbz.out.trans (hb9.mono Hbz.out.size)
      have hz9 := hbw9.size
      have hH9 := holdsRef_any (reads_one (heap_alloc_new w9 (.cells #[.slice a n cap] 22)) (HR.out _ (hbw9.trans ((below_alloc1 w9 _).mono hz9)))) (HRm.out _ (hbw9.trans ((below_alloc1 w9 _).mono hz9)))
      rw [← Hq7.out] at hH9
      have Hb9 := Lib.hid hb9; have Hbw9 := Lib.hid hbw9; have HH9 := Lib.hid hH9; clear hb9 hbw9 hH9
      go_wp2_with fail
      refine HH9.out.mono ?_
      rintro e w10 ⟨rfl, rfl⟩
      go_wp2_with fail
      go_ret
      exact ⟨rfl, Hbw9.out.trans ((below_alloc1 w9 _).mono hz9)⟩
theorem opens_ints12' : Opens Try.prog 22 RIs := opens_ints_of Try.underlying22 Try.underlying3 (by kernel_rfl)
theorem opens_bools12 : Opens Try.prog 40 RBs := opens_slice Try.underlying40 (by kernel_rfl) (by decide) (opens_bool Try.underlying4)
end Go.Proofs.Ytnelgellbabkoaa
