/- The walk of cooperref05.Same: two rows of lines are the same just if they read so. No condition. -/
import Derived.Test.YtoljhahmmdibfaaLexK
import Derived.Test.YtoljhahmmdibfaaKit
namespace Go.Proofs.Ytoljhahmmdibfaa
open Go.RowKit
open LexM (Bs Wd Ln St)

/-- one line of a row that is read -/
theorem ln_cell {w : World} {av : Value} {l : List Ln} (h : RLns w [av] l) : ∃ a cap, av = .slice a l.length cap ∧ l.length ≤ cap ∧ cap ≤ maxLen ∧
    ∀ (i : Nat) (hi : i < l.length), ∃ b off, a = some ⟨b, off, none⟩ ∧ w.cell? ⟨b, off + i * 2, none⟩ = some (.int .i64 l[i].1) ∧ ∃ v, w.cell? ⟨b, off + i * 2 + 1, none⟩ = some v ∧ RSlice 2 RWd w [v] l[i].2 := by
  obtain ⟨a, cap, hv, h1, h2, h3⟩ := h
  simp only [List.cons.injEq, and_true] at hv
  refine ⟨a, cap, hv, h1, h2, fun i hi => ?_⟩
  obtain ⟨b, off, ecs, ha, hl, hc, v, hr1, hr2, _⟩ := h3 i l[i] (List.getElem?_eq_getElem hi)
  subst hr1
  exact ⟨b, off, ha, by simpa using hc 0 _ rfl, v, by simpa using hc 1 _ rfl, hr2⟩
theorem wd_cell {w : World} {av : Value} {l : List Wd} (h : RSlice 2 RWd w [av] l) : ∃ a cap, av = .slice a l.length cap ∧ l.length ≤ cap ∧ cap ≤ maxLen ∧
    ∀ (i : Nat) (hi : i < l.length), ∃ b off, a = some ⟨b, off, none⟩ ∧ w.cell? ⟨b, off + i * 2, none⟩ = some (.int .i64 l[i].1) ∧ w.cell? ⟨b, off + i * 2 + 1, none⟩ = some (bv l[i].2) := by
  obtain ⟨a, cap, hv, h1, h2, h3⟩ := h
  simp only [List.cons.injEq, and_true] at hv
  refine ⟨a, cap, hv, h1, h2, fun i hi => ?_⟩
  obtain ⟨b, off, ecs, ha, hl, hc, hr1, _⟩ := h3 i l[i] (List.getElem?_eq_getElem hi)
  subst hr1
  exact ⟨b, off, ha, by simpa [wdCells] using hc 0 _ rfl, by simpa [wdCells] using hc 1 _ rfl⟩

theorem ln_shape {α : Type} {sz : Nat} {R : Rd α} {w : World} {av : Value} {l : List α} (h : RSlice sz R w [av] l) : ∃ a cap, av = .slice a l.length cap := by
  obtain ⟨a, cap, hv, _⟩ := h
  simp only [List.cons.injEq, and_true] at hv
  exact ⟨a, cap, hv⟩

def SamePost (w : World) (b : Bool) (e : Ending) (w' : World) : Prop := e = .returned (.bool b) ∧ ∃ m, w' = w.drewN m

set_option maxRecDepth 10000 in
set_option maxHeartbeats 2000000 in
theorem sameLines_any {w : World} {av bw : Value} {la lb : List Ln} (ha : RLns w [av] la) (hb : RLns w [bw] lb) : Calls Try.prog 33 #[av, bw] w (SamePost w (decide (la = lb))) := by
  obtain ⟨aa, ac, rfl, ha1, ha2, ha3⟩ := ln_cell ha
  obtain ⟨ba, bc, rfl, hb1, hb2, hb3⟩ := ln_cell hb
  unfold maxLen at ha2 hb2
  have Ha := Lib.hid ha; have Hb := Lib.hid hb; have Ha3 := Lib.hid ha3; have Hb3 := Lib.hid hb3; clear ha hb ha3 hb3
  by_cases hl : la.length = lb.length
  · have hbn : ((la.length : Int) != lb.length) = false := by rw [hl]; simp
    have hl1 : la.length ≤ lb.length := by omega
    have hl2 : lb.length ≤ la.length := by omega
    have Hl := Lib.hid hl; clear hl
    go_enter Try.func33, Try.ntmps33
    go_wp2_with fail
    go_loopw [14] (fun i wr => ∃ k m : Nat, k ≤ la.length ∧ i = .int .i64 k ∧ wr = w.drewN m ∧ la.take k = lb.take k) (fun i _ => la.length - (intOf i).toNat)
    case atStart => exact ⟨0, 0, Nat.zero_le _, rfl, rfl, rfl⟩
    case round =>
      obtain ⟨k, m, hk, rfl, rfl, hpre⟩ := hrel
      have Hpre := Lib.hid hpre; clear hpre
      by_cases hlt : k < la.length
      · obtain ⟨b1, o1, hx, c1, v1, c2, r1⟩ := Ha3.out k hlt
        subst hx
        obtain ⟨b2, o2, hx, d1, v2, d2, r2⟩ := Hb3.out k (by omega)
        subst hx
        obtain ⟨wa, wc, rfl, hw1, hw2, hw3⟩ := wd_cell r1
        obtain ⟨wb, wd, rfl, hx1, hx2, hx3⟩ := wd_cell r2
        obtain ⟨A, hA⟩ : ∃ A, A = la[k] := ⟨_, rfl⟩
        obtain ⟨B, hB⟩ : ∃ B, B = lb[k] := ⟨_, rfl⟩
        rw [← hA] at c1 c2 hw1 hw3
        rw [← hB] at d1 d2 hx1 hx3
        unfold maxLen at hw2 hx2
        have HA := Lib.hid hA; have HB := Lib.hid hB; have Hw3 := Lib.hid hw3; have Hx3 := Lib.hid hx3; clear hA hB hw3 hx3
        clear r1 r2
        by_cases h1 : A.1 = B.1
        · have hb1 : (A.1 != B.1) = false := by rw [h1]; simp
          by_cases h2 : A.2.length = B.2.length
          · have hb2 : ((A.2.length : Int) != B.2.length) = false := by rw [h2]; simp
            have H1 := Lib.hid h1; have H2 := Lib.hid h2; clear h1 h2
            go_wp2_with fail
            go_quiet (fail)
            go_wp2_with fail
            go_loopw [49] (fun i wr => ∃ j m : Nat, j ≤ A.2.length ∧ i = .int .i64 j ∧ wr = w.drewN m ∧ A.2.take j = B.2.take j) (fun i _ => A.2.length - (intOf i).toNat)
            case atStart => exact ⟨0, _, Nat.zero_le _, rfl, rfl, rfl⟩
            case round =>
              obtain ⟨j, m2, hj, rfl, rfl, hpre2⟩ := hrel
              have Hpre2 := Lib.hid hpre2; clear hpre2
              by_cases hjl : j < A.2.length
              · have hjB : j < B.2.length := by have := H2.out; omega
                obtain ⟨b3, o3, hx, e1, e2⟩ := Hw3.out j hjl
                subst hx
                obtain ⟨b4, o4, hx, f1, f2⟩ := Hx3.out j hjB
                subst hx
                obtain ⟨X, hX⟩ : ∃ X, X = A.2[j] := ⟨_, rfl⟩
                obtain ⟨Y, hY⟩ : ∃ Y, Y = B.2[j] := ⟨_, rfl⟩
                rw [← hX] at e1 e2
                rw [← hY] at f1 f2
                have HX := Lib.hid hX; have HY := Lib.hid hY; clear hX hY
                by_cases h3 : X.1 = Y.1
                · have hb3 : (X.1 == Y.1) = true := by rw [h3]; simp
                  by_cases h4 : X.2 = Y.2
                  · have H3 := Lib.hid h3; clear h3
                    go_wp2_with fail
                    go_quiet (fail)
                    go_wp2_with fail
                    go_roundw
                    case rel => exact ⟨j + 1, _, by omega, by go_num, rfl, by rw [List.take_add_one, List.take_add_one, List.getElem?_eq_getElem hjl, List.getElem?_eq_getElem hjB, Hpre2.out, ← HX.out, ← HY.out, Prod.ext H3.out h4]⟩
                    case measure => simp [intOf]; omega
                  · have H4 := Lib.hid h4
                    go_wp2_with fail
                    go_quiet (fail)
                    go_wp2_with fail
                    go_ret
                    exact ⟨ret_bool (by symm; rw [decide_eq_false_iff_not]; intro e; subst e; exact H4.out (by rw [HX.out, HY.out]; congr 1; congr 1; rw [HA.out, HB.out])), m2 + nq, by simp⟩
                · have hb3 : (X.1 == Y.1) = false := by rw [beq_eq_false_iff_ne]; exact h3
                  have H3 := Lib.hid h3; clear h3
                  go_wp2_with fail
                  go_quiet (fail)
                  go_wp2_with fail
                  go_ret
                  exact ⟨ret_bool (by symm; rw [decide_eq_false_iff_not]; intro e; subst e; exact H3.out (by rw [HX.out, HY.out]; congr 1; congr 1; rw [HA.out, HB.out])), m2 + nq, by simp⟩
              · have heq : A = B := by
                  have h5 := Hpre2.out
                  rw [List.take_of_length_le (by omega), List.take_of_length_le (by have := H2.out; omega)] at h5
                  exact Prod.ext H1.out h5
                have htk : la.take (k + 1) = lb.take (k + 1) := by
                  rw [List.take_add_one, List.take_add_one, List.getElem?_eq_getElem hlt, List.getElem?_eq_getElem (show k < lb.length by omega), Hpre.out, ← HA.out, ← HB.out, heq]
                have Htk := Lib.hid htk; have Heq := Lib.hid heq; clear htk heq
                go_wp2_with fail
                go_roundw
                case rel => exact ⟨k + 1, _, by omega, by go_num, rfl, Htk.out⟩
                case measure => simp [intOf]; omega
          · have hb2 : ((A.2.length : Int) != B.2.length) = true := by rw [bne_iff_ne]; omega
            have H1 := Lib.hid h1; have H2 := Lib.hid h2; clear h1 h2
            go_wp2_with fail
            go_quiet (fail)
            go_wp2_with fail
            go_ret
            exact ⟨ret_bool (by symm; rw [decide_eq_false_iff_not]; intro e; subst e; exact H2.out (by rw [HA.out, HB.out])), m + nq, by simp⟩
        · have hb1 : (A.1 != B.1) = true := by rw [bne_iff_ne]; exact h1
          have H1 := Lib.hid h1; clear h1
          go_wp2_with fail
          go_quiet (fail)
          go_wp2_with fail
          go_ret
          exact ⟨ret_bool (by symm; rw [decide_eq_false_iff_not]; intro e; subst e; exact H1.out (by rw [HA.out, HB.out])), m + nq, by simp⟩
      · have heq : la = lb := by
          have h5 := Hpre.out
          rw [List.take_of_length_le (by omega), List.take_of_length_le (by omega)] at h5
          exact h5
        have Heq := Lib.hid heq; clear heq
        go_wp2_with fail
        go_ret
        exact ⟨ret_bool (by symm; rw [decide_eq_true_eq]; exact Heq.out), _, rfl⟩
  · have hbn : ((la.length : Int) != lb.length) = true := by rw [bne_iff_ne]; omega
    have Hl := Lib.hid hl; clear hl
    go_enter Try.func33, Try.ntmps33
    go_wp2_with fail
    go_ret
    exact ⟨ret_bool (by symm; rw [decide_eq_false_iff_not]; intro e; exact Hl.out (by rw [e])), 0, rfl⟩
end Go.Proofs.Ytoljhahmmdibfaa
