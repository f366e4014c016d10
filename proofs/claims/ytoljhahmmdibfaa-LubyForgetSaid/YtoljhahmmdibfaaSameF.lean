/- The walk of cooperref12.Same. No condition. -/
import Derived.Test.YtoljhahmmdibfaaNoteR
set_option linter.unusedVariables false
set_option linter.unusedSimpArgs false
namespace Go.Proofs.Ytoljhahmmdibfaa
open Go.RowKit Go.Lib Go.Sort

/-- a difference at a place -/
theorem ne_at {α : Type} {l m : List α} {k : Nat} (h1 : k < l.length) (h2 : k < m.length) (h : l[k] ≠ m[k]) : l ≠ m := by rintro rfl; exact h rfl
theorem eq_all {α : Type} {l m : List α} (h : l.length = m.length) (hk : ∀ i (h1 : i < l.length) (h2 : i < m.length), l[i] = m[i]) : l = m := List.ext_getElem h hk
set_option maxRecDepth 10000 in
set_option maxHeartbeats 1000000 in
theorem sameF_any {w : World} {a1 a2 : Option Addr} {c1 c2 : Nat} {l m : List Int} (hz1 : l.length ≤ 9223372036854775807) (hz2 : m.length ≤ 9223372036854775807) (g1 : ∀ i (hi : i < l.length), ∃ b off, a1 = some ⟨b, off, none⟩ ∧ w.cell? ⟨b, off + i, none⟩ = some (.int .i64 l[i]) ∧ True) (g2 : ∀ i (hi : i < m.length), ∃ b off, a2 = some ⟨b, off, none⟩ ∧ w.cell? ⟨b, off + i, none⟩ = some (.int .i64 m[i]) ∧ True) : Calls Try.prog 40 #[.slice a1 l.length c1, .slice a2 m.length c2] w fun e w' => e = .returned (.bool (decide (l = m))) ∧ ∃ q, w' = w.drewN q := by
  obtain ⟨n, hn⟩ : ∃ n, n = l.length := ⟨_, rfl⟩
  obtain ⟨n2, hn2⟩ : ∃ n, n = m.length := ⟨_, rfl⟩
  obtain ⟨r, hr⟩ : ∃ r, r = decide (l = m) := ⟨_, rfl⟩
  rw [← hn] at hz1 ⊢
  rw [← hn2] at hz2 ⊢
  rw [← hr]
  by_cases hne : n = n2
  · subst hne
    have e0 : ((n : Int) != (n : Int)) = false := by simp
    have Hg1 := Lib.hid g1; have Hg2 := Lib.hid g2; have Hn := Lib.hid hn; have Hn2 := Lib.hid hn2; have Hr := Lib.hid hr; clear g1 g2 hn hn2 hr
    go_enter Try.func40, Try.ntmps40
    go_wp2_with fail
    go_loopw [13] (fun i wr => ∃ k : Nat, k ≤ n ∧ i = .int .i64 k ∧ (∀ j (h1 : j < l.length) (h2 : j < m.length), j < k → l[j] = m[j]) ∧ ∃ q, wr = w.drewN q) (fun i _ => n - (intOf i).toNat)
    case atStart => exact ⟨0, Nat.zero_le _, rfl, fun j _ _ h => by omega, 0, rfl⟩
    case round =>
      obtain ⟨k, hk, rfl, heq, q, rfl⟩ := hrel
      by_cases hlt : k < n
      · have hk1 : k < l.length := by have := Hn.out; omega
        have hk2 : k < m.length := by have := Hn2.out; omega
        obtain ⟨b1, o1, rfl, d1, _⟩ := Hg1.out k hk1
        obtain ⟨b2, o2, rfl, d2, _⟩ := Hg2.out k hk2
        obtain ⟨x, hx⟩ : ∃ x, x = l[k] := ⟨_, rfl⟩
        obtain ⟨y, hy⟩ : ∃ y, y = m[k] := ⟨_, rfl⟩
        rw [← hx] at d1
        rw [← hy] at d2
        have k5 : (0 : Int) ≤ (k : Int) := by omega
        have k6 : (k : Int) < (n : Int) := by omega
        by_cases he : x = y
        · have e1 : (x != y) = false := by rw [he]; simp
          have heq2 : ∀ j (h1 : j < l.length) (h2 : j < m.length), j < k + 1 → l[j] = m[j] := fun j h1 h2 hj => by
            by_cases e : j = k
            · subst e; rw [← hx, ← hy]; exact he
            · exact heq j h1 h2 (by omega)
          have Hx := Lib.hid hx; have Hy := Lib.hid hy; have Heq := Lib.hid heq; have He := Lib.hid he; have Heq2 := Lib.hid heq2; clear hx hy heq he heq2
          go_wp2_with fail
          go_quiet (fail)
          go_wp2_with fail
          go_roundw
          case rel => exact ⟨k + 1, by omega, by go_num, Heq2.out, _, rfl⟩
          case measure => simp [intOf]; omega
        · have e1 : (x != y) = true := by simpa using he
          have hf : r = false := by rw [Hr.out]; exact decide_eq_false (ne_at hk1 hk2 (by rw [← hx, ← hy]; exact he))
          have Hx := Lib.hid hx; have Hy := Lib.hid hy; have Heq := Lib.hid heq; have He := Lib.hid he; have Hf := Lib.hid hf; clear hx hy heq he hf
          go_wp2_with fail
          go_quiet (fail)
          go_wp2_with fail
          go_ret
          exact ⟨ret_bool Hf.out.symm, q + nq, World.drewN_drewN _ _ _⟩
      · have hf : r = true := by
          rw [Hr.out]
          exact decide_eq_true (eq_all (by rw [← Hn.out, ← Hn2.out]) (fun j h1 h2 => heq j h1 h2 (by have := Hn.out; omega)))
        have Heq := Lib.hid heq; have Hf := Lib.hid hf; clear heq hf
        go_wp2_with fail
        go_ret
        exact ⟨ret_bool Hf.out.symm, _, rfl⟩
  · have e0 : ((n : Int) != (n2 : Int)) = true := by rw [bne_iff_ne]; omega
    have hf : r = false := by rw [hr]; exact decide_eq_false (by rintro rfl; omega)
    have Hg1 := Lib.hid g1; have Hg2 := Lib.hid g2; have Hn := Lib.hid hn; have Hn2 := Lib.hid hn2; have Hr := Lib.hid hr; have Hf := Lib.hid hf; have Hne := Lib.hid hne; clear g1 g2 hn hn2 hr hf hne
    go_enter Try.func40, Try.ntmps40
    go_wp2_with fail
    go_ret
    exact ⟨ret_bool Hf.out.symm, 0, rfl⟩
end Go.Proofs.Ytoljhahmmdibfaa
