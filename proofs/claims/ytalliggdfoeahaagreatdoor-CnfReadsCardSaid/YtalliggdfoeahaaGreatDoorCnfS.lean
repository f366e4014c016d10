/- The walks of cooperref12: Same, SameAll. No condition. -/
import Derived.Test.YtalliggdfoeahaaGreatDoorCnfF
set_option linter.unusedVariables false
set_option linter.unusedSimpArgs false
namespace Go.Proofs.YtalliggdfoeahaaGreatDoor
open Go.RowKit Go.Lib Go.Sort

theorem quiet_eq {P : Program} {f : FuncId} {args : Array Value} {w : World} {n : Nat} {v : Value}
    (h : Calls P f args (w.drewN n) fun e w' => e = .returned v ∧ ∃ q, w' = (w.drewN n).drewN q) : Calls P f args (w.drewN n) fun e w'' => e = .returned v ∧ ∃ m, w'' = w.drewN m :=
  h.mono fun _ _ ⟨he, q, hq⟩ => ⟨he, n + q, by rw [hq, World.drewN_drewN]⟩
theorem quiet_addl {P : Program} {f : FuncId} {args : Array Value} {w : World} {a n : Nat} {v : Value}
    (h : Calls P f args (w.drewN (a + n)) fun e w' => e = .returned v ∧ ∃ m, w' = (w.drewN (a + n)).drewN m) :
    Calls P f args (w.drewN (a + n)) fun e w'' => e = .returned v ∧ ∃ m, w'' = w.drewN (a + m) :=
  h.mono fun _ _ ⟨he, m, hm⟩ => ⟨he, n + m, by rw [hm, World.drewN_drewN, Nat.add_assoc]⟩
theorem rslice_drewN {α : Type} {sz : Nat} {R : Rd α} (hR : Stays R) {w : World} {cs : List Value} {l : List α} (h : RSlice sz R w cs l) (n : Nat) : RSlice sz R (w.drewN n) cs l := stays_slice hR _ _ _ _ h (bel_drewN (Below.refl _ _) n)
theorem ints_open {w : World} {v : Value} {l : List Int} (h : RIs w [v] l) : ∃ a cap, v = .slice a l.length cap ∧ l.length ≤ 9223372036854775807 ∧ ∀ i (hi : i < l.length), ∃ b off, a = some ⟨b, off, none⟩ ∧ w.cell? ⟨b, off + i, none⟩ = some (.int .i64 l[i]) ∧ -9223372036854775808 ≤ l[i] ∧ l[i] ≤ 9223372036854775807 := by
  obtain ⟨a, cap, hv, hcap, hmax, hel⟩ := h
  simp only [List.cons.injEq, and_true] at hv
  unfold maxLen at hmax
  exact ⟨a, cap, hv, by omega, fun i hi => ints_cell hel i hi⟩
/-- a difference at a place -/
theorem ne_at {α : Type} {l m : List α} {k : Nat} (h1 : k < l.length) (h2 : k < m.length) (h : l[k] ≠ m[k]) : l ≠ m := by rintro rfl; exact h rfl
theorem eq_all {α : Type} {l m : List α} (h : l.length = m.length) (hk : ∀ i (h1 : i < l.length) (h2 : i < m.length), l[i] = m[i]) : l = m := List.ext_getElem h hk
set_option maxRecDepth 10000 in
set_option maxHeartbeats 1000000 in
theorem same12_any {w : World} {u v : Value} {l m : List Int} (hl : RIs w [u] l) (hm : RIs w [v] m) : Calls Tryz.prog 26 #[u, v] w fun e w' => e = .returned (.bool (decide (l = m))) ∧ ∃ q, w' = w.drewN q := by
  obtain ⟨a1, c1, rfl, hz1, g1⟩ := ints_open hl
  obtain ⟨a2, c2, rfl, hz2, g2⟩ := ints_open hm
  clear hl hm
  obtain ⟨n, hn⟩ : ∃ n, n = l.length := ⟨_, rfl⟩
  obtain ⟨n2, hn2⟩ : ∃ n, n = m.length := ⟨_, rfl⟩
  obtain ⟨r, hr⟩ : ∃ r, r = decide (l = m) := ⟨_, rfl⟩
  rw [← hn] at hz1 ⊢
  rw [← hn2] at hz2 ⊢
  rw [← hr]
  by_cases hne : n = n2
  · subst hne
    have e0 : ((n : Int) != (n : Int)) = false := by simp
    have Hg1 := Lib.hid g1; have Hg2 := Lib.hid g2; have Hn := Lib.hid hn; have Hn2 := Lib.hid hn2; have Hr := Lib.hid hr; clear g1 g2 hn hn2 hr
    go_enter Tryz.func26, Tryz.ntmps26
    go_wp2_with fail
    go_loopw [13] (fun i wr => ∃ k : Nat, k ≤ n ∧ i = .int .i64 k ∧ (∀ j (h1 : j < l.length) (h2 : j < m.length), j < k → l[j] = m[j]) ∧ ∃ q, wr = w.drewN q) (fun i _ => n - (intOf i).toNat)
    case atStart => exact ⟨0, Nat.zero_le _, rfl, fun j _ _ h => by omega, 0, rfl⟩
    case round =>
      obtain ⟨k, hk, rfl, heq, q, rfl⟩ := hrel
      by_cases hlt : k < n
      · have hk1 : k < l.length := by have := Hn.out; omega
        have hk2 : k < m.length := by have := Hn2.out; omega
        obtain ⟨b1, o1, rfl, d1, _⟩ := Hg1.out k hk1
        obtain ⟨b2, o2, rfl, d2, _⟩ := Hg2.out k hk2
        obtain ⟨x, hx⟩ : ∃ x, x = l[k] := ⟨_, rfl⟩
        obtain ⟨y, hy⟩ : ∃ y, y = m[k] := ⟨_, rfl⟩
        rw [← hx] at d1
        rw [← hy] at d2
        have k5 : (0 : Int) ≤ (k : Int) := by omega
        have k6 : (k : Int) < (n : Int) := by omega
        by_cases he : x = y
        · have e1 : (x != y) = false := by rw [he]; simp
          have heq2 : ∀ j (h1 : j < l.length) (h2 : j < m.length), j < k + 1 → l[j] = m[j] := fun j h1 h2 hj => by
            by_cases e : j = k
            · subst e; rw [← hx, ← hy]; exact he
            · exact heq j h1 h2 (by omega)
          have Hx := Lib.hid hx; have Hy := Lib.hid hy; have Heq := Lib.hid heq; have He := Lib.hid he; have Heq2 := Lib.hid heq2; clear hx hy heq he heq2
          go_wp2_with fail
          go_quiet (fail)
          go_wp2_with fail
          go_roundw
          case rel => exact ⟨k + 1, by omega, by go_num, Heq2.out, _, rfl⟩
          case measure => simp [intOf]; omega
        · have e1 : (x != y) = true := by simpa using he
          have hf : r = false := by rw [Hr.out]; exact decide_eq_false (ne_at hk1 hk2 (by rw [← hx, ← hy]; exact he))
          have Hx := Lib.hid hx; have Hy := Lib.hid hy; have Heq := Lib.hid heq; have He := Lib.hid he; have Hf := Lib.hid hf; clear hx hy heq he hf
          go_wp2_with fail
          go_quiet (fail)
          go_wp2_with fail
          go_ret
          exact ⟨ret_bool Hf.out.symm, q + nq, World.drewN_drewN _ _ _⟩
      · have hf : r = true := by
          rw [Hr.out]
          exact decide_eq_true (eq_all (by rw [← Hn.out, ← Hn2.out]) (fun j h1 h2 => heq j h1 h2 (by have := Hn.out; omega)))
        have Heq := Lib.hid heq; have Hf := Lib.hid hf; clear heq hf
        go_wp2_with fail
        go_ret
        exact ⟨ret_bool Hf.out.symm, _, rfl⟩
  · have e0 : ((n : Int) != (n2 : Int)) = true := by rw [bne_iff_ne]; omega
    have hf : r = false := by rw [hr]; exact decide_eq_false (by rintro rfl; omega)
    have Hg1 := Lib.hid g1; have Hg2 := Lib.hid g2; have Hn := Lib.hid hn; have Hn2 := Lib.hid hn2; have Hr := Lib.hid hr; have Hf := Lib.hid hf; have Hne := Lib.hid hne; clear g1 g2 hn hn2 hr hf hne
    go_enter Tryz.func26, Tryz.ntmps26
    go_wp2_with fail
    go_ret
    exact ⟨ret_bool Hf.out.symm, 0, rfl⟩
abbrev RIss : Rd (List (List Int)) := RSlice 1 RIs
theorem rows_open {w : World} {v : Value} {l : List (List Int)} (h : RIss w [v] l) : ∃ a cap, v = .slice a l.length cap ∧ l.length ≤ 9223372036854775807 ∧ ∀ i (hi : i < l.length), ∃ b off u, a = some ⟨b, off, none⟩ ∧ w.cell? ⟨b, off + i, none⟩ = some u ∧ RIs w [u] l[i] := by
  obtain ⟨a, cap, hv, hcap, hmax, hel⟩ := h
  simp only [List.cons.injEq, and_true] at hv
  unfold maxLen at hmax
  refine ⟨a, cap, hv, by omega, fun i hi => ?_⟩
  obtain ⟨b, off, ecs, h1, h2, h3, h4⟩ := hel i l[i] (List.getElem?_eq_getElem hi)
  obtain ⟨u, rfl⟩ := IdxInt.cells_1 h2
  exact ⟨b, off, u, h1, by simpa using h3 0 u rfl, h4⟩
set_option maxRecDepth 10000 in
set_option maxHeartbeats 1000000 in
theorem sameAll12_any {w : World} {u v : Value} {l m : List (List Int)} (hl : RIss w [u] l) (hm : RIss w [v] m) : Calls Tryz.prog 10 #[u, v] w fun e w' => e = .returned (.bool (decide (l = m))) ∧ ∃ q, w' = w.drewN q := by
  obtain ⟨a1, c1, rfl, hz1, g1⟩ := rows_open hl
  obtain ⟨a2, c2, rfl, hz2, g2⟩ := rows_open hm
  clear hl hm
  obtain ⟨n, hn⟩ : ∃ n, n = l.length := ⟨_, rfl⟩
  obtain ⟨n2, hn2⟩ : ∃ n, n = m.length := ⟨_, rfl⟩
  obtain ⟨r, hr⟩ : ∃ r, r = decide (l = m) := ⟨_, rfl⟩
  rw [← hn] at hz1 ⊢
  rw [← hn2] at hz2 ⊢
  rw [← hr]
  by_cases hne : n = n2
  · subst hne
    have e0 : ((n : Int) != (n : Int)) = false := by simp
    have Hg1 := Lib.hid g1; have Hg2 := Lib.hid g2; have Hn := Lib.hid hn; have Hn2 := Lib.hid hn2; have Hr := Lib.hid hr; clear g1 g2 hn hn2 hr
    go_enter Tryz.func10, Tryz.ntmps10
    go_wp2_with fail
    go_loopw [13] (fun i wr => ∃ k : Nat, k ≤ n ∧ i = .int .i64 k ∧ (∀ j (h1 : j < l.length) (h2 : j < m.length), j < k → l[j] = m[j]) ∧ ∃ q, wr = w.drewN q) (fun i _ => n - (intOf i).toNat)
    case atStart => exact ⟨0, Nat.zero_le _, rfl, fun j _ _ h => by omega, 0, rfl⟩
    case round =>
      obtain ⟨k, hk, rfl, heq, q, rfl⟩ := hrel
      by_cases hlt : k < n
      · have hk1 : k < l.length := by have := Hn.out; omega
        have hk2 : k < m.length := by have := Hn2.out; omega
        obtain ⟨b1, o1, u1, rfl, d1, s1⟩ := Hg1.out k hk1
        obtain ⟨b2, o2, u2, rfl, d2, s2⟩ := Hg2.out k hk2
        obtain ⟨x, hx⟩ : ∃ x, x = l[k] := ⟨_, rfl⟩
        obtain ⟨y, hy⟩ : ∃ y, y = m[k] := ⟨_, rfl⟩
        rw [← hx] at s1
        rw [← hy] at s2
        have k5 : (0 : Int) ≤ (k : Int) := by omega
        have k6 : (k : Int) < (n : Int) := by omega
        have hcall := fun i => same12_any (rslice_drewN (stays_int .i64) s1 i) (rslice_drewN (stays_int .i64) s2 i)
        by_cases he : x = y
        · have e1 : decide (x = y) = true := decide_eq_true he
          rw [e1] at hcall
          have heq2 : ∀ j (h1 : j < l.length) (h2 : j < m.length), j < k + 1 → l[j] = m[j] := fun j h1 h2 hj => by
            by_cases e : j = k
            · subst e; rw [← hx, ← hy]; exact he
            · exact heq j h1 h2 (by omega)
          have Hx := Lib.hid hx; have Hy := Lib.hid hy; have Heq := Lib.hid heq; have He := Lib.hid he; have Heq2 := Lib.hid heq2; have Hs1 := Lib.hid s1; have Hs2 := Lib.hid s2; have Hcall := Lib.hid hcall; clear hx hy heq he heq2 s1 s2 hcall
          clear e1
          go_wp2_with fail
          go_quiet ((go_at_call 26; exact quiet_addl (Hcall.out _)))
          go_wp2_with fail
          go_roundw
          case rel => exact ⟨k + 1, by omega, by go_num, Heq2.out, _, rfl⟩
          case measure => simp [intOf]; omega
        · have e1 : decide (x = y) = false := decide_eq_false he
          rw [e1] at hcall
          have hf : r = false := by rw [Hr.out]; exact decide_eq_false (ne_at hk1 hk2 (by rw [← hx, ← hy]; exact he))
          have Hx := Lib.hid hx; have Hy := Lib.hid hy; have Heq := Lib.hid heq; have He := Lib.hid he; have Hf := Lib.hid hf; have Hs1 := Lib.hid s1; have Hs2 := Lib.hid s2; have Hcall := Lib.hid hcall; clear hx hy heq he hf s1 s2 hcall
          clear e1
          go_wp2_with fail
          go_quiet ((go_at_call 26; exact quiet_addl (Hcall.out _)))
          go_wp2_with fail
          go_ret
          exact ⟨ret_bool Hf.out.symm, _, World.drewN_drewN _ _ _⟩
      · have hf : r = true := by
          rw [Hr.out]
          exact decide_eq_true (eq_all (by rw [← Hn.out, ← Hn2.out]) (fun j h1 h2 => heq j h1 h2 (by have := Hn.out; omega)))
        have Heq := Lib.hid heq; have Hf := Lib.hid hf; clear heq hf
        go_wp2_with fail
        go_ret
        exact ⟨ret_bool Hf.out.symm, _, rfl⟩
  · have e0 : ((n : Int) != (n2 : Int)) = true := by rw [bne_iff_ne]; omega
    have hf : r = false := by rw [hr]; exact decide_eq_false (by rintro rfl; omega)
    have Hg1 := Lib.hid g1; have Hg2 := Lib.hid g2; have Hn := Lib.hid hn; have Hn2 := Lib.hid hn2; have Hr := Lib.hid hr; have Hf := Lib.hid hf; have Hne := Lib.hid hne; clear g1 g2 hn hn2 hr hf hne
    go_enter Tryz.func10, Tryz.ntmps10
    go_wp2_with fail
    go_ret
    exact ⟨ret_bool Hf.out.symm, 0, rfl⟩
end Go.Proofs.YtalliggdfoeahaaGreatDoor
