/- The walk of cooperref04.Legal at settings that are of the variants. Condition: they are. -/
import Derived.Test.YtnelgellbabkoaaVarA
namespace Go.Proofs.Ytnelgellbabkoaa
open Go.RowKit Go.Shelf
attribute [local go_sem ↓] Go.wp_at_zero Go.wp_at_succ

theorem sets_open {w : World} {v : Value} {l : List Setg} (h : RSets w [v] l) : ∃ a cap, v = .slice a l.length cap ∧ l.length ≤ 9223372036854775807 ∧ ∀ i x, l[i]? = some x → ∃ b off, a = some ⟨b, off, none⟩ ∧ w.cell? ⟨b, off + i * 2, none⟩ = some (.string x.1) ∧ w.cell? ⟨b, off + i * 2 + 1, none⟩ = some (.string x.2) ∧ x.1.size ≤ 9223372036854775807 ∧ x.2.size ≤ 9223372036854775807 := by
  obtain ⟨a, cap, hv, hcap, hmax, hel⟩ := h
  simp only [List.cons.injEq, and_true] at hv
  unfold maxLen at hmax
  refine ⟨a, cap, hv, by omega, fun i x hi => ?_⟩
  obtain ⟨b, off, ecs, h1, h2, h3, h4, h5, h6⟩ := hel i x hi
  subst h4
  unfold maxLen at h5 h6
  exact ⟨b, off, h1, by simpa using h3 0 _ rfl, by simpa using h3 1 _ rfl, by omega, by omega⟩
theorem any_take_succ {ys : List ByteArray} {y : ByteArray} {k : Nat} (h : k < ys.length) : ((ys.take (k + 1)).any fun z => decide (z = y)) = (((ys.take k).any fun z => decide (z = y)) || decide (ys[k] = y)) := by
  rw [List.take_succ_eq_append_getElem h, List.any_append]; simp
set_option maxRecDepth 10000 in
set_option maxHeartbeats 2000000 in
theorem legal_yes {w : World} {v u : Value} {l : List Var} {s : List Setg} (h : RVars w [v] l) (hs : RSets w [u] s) (hL : LegalIs l s) : Calls Try.prog 24 #[v, u] w fun e w' => e = .returned (.bool true) ∧ ∃ q, w' = w.drewN q := by
  obtain ⟨a, cap, rfl, hz, g⟩ := vars_open h
  obtain ⟨sa, sc, rfl, hsz, g2⟩ := sets_open hs
  have hlen := hL.len
  obtain ⟨n, hn⟩ : ∃ n, n = l.length := ⟨_, rfl⟩
  rw [← hn] at hz h hlen ⊢
  rw [hlen] at hs ⊢
  have e1 : ((n : Int) == (n : Int)) = true := by simp
  have e2 : ((n : Int) != (n : Int)) = false := by simp
  clear hsz hlen
  have Hh := Lib.hid h; have Hs := Lib.hid hs; have Hg := Lib.hid g; have Hg2 := Lib.hid g2; have Hn := Lib.hid hn; have HL := Lib.hid hL; clear h hs g g2 hn hL
  go_enter Try.func24, Try.ntmps24
  go_wp2_with fail
  go_loopw [15] (fun i wr => ∃ k : Nat, k ≤ n ∧ i = .int .i64 k ∧ ∃ q, wr = w.drewN q) (fun i _ => n - (intOf i).toNat)
  case atStart => exact ⟨0, Nat.zero_le _, rfl, 0, rfl⟩
  case round =>
    obtain ⟨k, hk, rfl, q1, rfl⟩ := hrel
    by_cases hlt : k < n
    · have hkl : k < l.length := by have := Hn.out; omega
      obtain ⟨b, off, u, rfl, d0, d1, hsx, hu⟩ := Hg.out k hkl
      obtain ⟨y, hy, hmem⟩ := HL.out.at' k hkl
      obtain ⟨b2, off2, rfl, c0, c1, hs1, hs2⟩ := Hg2.out k _ hy
      obtain ⟨x, hx⟩ : ∃ x, x = l[k] := ⟨_, rfl⟩
      rw [← hx] at d0 hu hsx hmem c0 hs1
      obtain ⟨ua, uc, rfl, hz2, g3⟩ := strs_open hu
      obtain ⟨m, hm⟩ : ∃ m, m = x.2.length := ⟨_, rfl⟩
      rw [← hm] at d1 hu hz2
      dsimp only at c0 c1 hs1 hs2
      obtain ⟨s, hs⟩ : ∃ s, s = x.1 := ⟨_, rfl⟩
      rw [← hs] at d0 hsx c0 hs1
      have hfin : (x.2.any fun z => decide (z = y)) = true := by rw [List.any_eq_true]; exact ⟨y, hmem, by simp⟩
      have k5 : (0 : Int) ≤ (k : Int) := by omega
      have k6 : (k : Int) < (n : Int) := by omega
      clear hx hkl hy hmem
      have Hu := Lib.hid hu; have Hg3 := Lib.hid g3; have Hm := Lib.hid hm; have Hs := Lib.hid hs; have Hfin := Lib.hid hfin; clear hu g3 hm hs hfin
      go_wp2_with fail
      go_loopw [6, 24] (fun o j wr => ∃ i : Nat, i ≤ m ∧ j = .int .i64 i ∧ o = .bool ((x.2.take i).any fun z => decide (z = y)) ∧ ∃ q, wr = w.drewN q) (fun _ j _ => m - (intOf j).toNat)
      case atStart => exact ⟨0, Nat.zero_le _, rfl, rfl, q1, rfl⟩
      case round =>
        obtain ⟨i, hi, rfl, rfl, q2, rfl⟩ := hrel
        by_cases hlt2 : i < m
        · have hil : i < x.2.length := by have := Hm.out; omega
          obtain ⟨b3, off3, rfl, d2, hys⟩ := Hg3.out i hil
          have hnext := any_take_succ (y := y) hil
          obtain ⟨z, hz3⟩ : ∃ z, z = x.2[i] := ⟨_, rfl⟩
          rw [← hz3] at d2 hys hnext
          obtain ⟨q, hq⟩ : ∃ q, q = ((x.2.take i).any fun z => decide (z = y)) := ⟨_, rfl⟩
          rw [← hq] at hnext ⊢
          obtain ⟨p, hp⟩ : ∃ p, p = decide (z = y) := ⟨_, rfl⟩
          have hpe : (z.toList == y.toList) = p := by rw [hp, ← beq_toListBytes]; exact beq_dec z y
          rw [← hp] at hnext
          have k7 : (0 : Int) ≤ (i : Int) := by omega
          have k8 : (i : Int) < (m : Int) := by omega
          clear hz3 hil
          have Hnext := Lib.hid hnext; have Hq := Lib.hid hq; have Hp := Lib.hid hp; clear hnext hq hp
          cases q with
          | true =>
            go_wp2_with fail
            go_region
            go_wp2_with fail
            go_roundw
            case rel => exact ⟨i + 1, by omega, by go_num, by rw [Hnext.out]; rfl, _, rfl⟩
            case measure => simp [intOf]; omega
          | false =>
            go_wp2_with fail
            go_region
            go_wp2_with fail
            go_roundw
            case rel => exact ⟨i + 1, by omega, by go_num, by rw [Hnext.out]; simp [hpe], _, rfl⟩
            case measure => simp [intOf]; omega
        · obtain rfl : m = i := by omega
          have e : x.2.take m = x.2 := List.take_of_length_le (by have := Hm.out; omega)
          rw [e, Hfin.out]
          clear e
          go_wp2_with fail
          go_region
          go_wp2_with fail
          go_roundw
          case rel => exact ⟨k + 1, by omega, by go_num, _, rfl⟩
          case measure => simp [intOf]; omega
    · obtain rfl : n = k := by omega
      go_wp2_with fail
      go_ret
      exact ⟨rfl, _, rfl⟩
end Go.Proofs.Ytnelgellbabkoaa
