/- The walk of cooperref20.Forget: which numbers it gives. Condition: at most three hundred. -/
import Derived.Test.YtoljhahmmdibfaaForgA
import Derived.Test.YtoljhahmmdibfaaForgB
import Derived.Test.YtoljhahmmdibfaaForgC
import Derived.Deep.CutRange
import Derived.Deep.QuietTactic
set_option linter.unusedVariables false
set_option linter.unusedSimpArgs false
namespace Go.Proofs.Ytoljhahmmdibfaa
open Go.Shelf Go.RowKit Go.Lib Go.Sort SortM ForgM

theorem filt_succ {α : Type} (p : α → Bool) {l : List α} {k : Nat} (h : k < l.length) : (l.take (k + 1)).filter p = (l.take k).filter p ++ (if p l[k] = true then [l[k]] else []) := by
  rw [List.take_succ_eq_append_getElem h, List.filter_append, List.filter_cons, List.filter_nil]
def AhP (l : List NT) (k : Nat) (y : NT × Nat) : Bool := mayN y.1 && (decide (y.2 ≠ k) && ltP wlt y (l.getD k (0, 0, 0, false), k))
def outOf (l : List NT) (k : Nat) : List Int := sortN (((l.zipIdx.take k).filter (selOf l)).map fun p => p.1.1)
theorem outOf_yes {l : List NT} {k : Nat} (h : k < l.length) (hs : selOf l (l[k], k) = true) : outOf l (k + 1) = insN l[k].1 (outOf l k) := by
  unfold outOf
  have hz : k < l.zipIdx.length := by simpa using h
  have e : l.zipIdx[k] = (l[k], k) := by simp
  rw [filt_succ _ hz, e, if_pos hs, List.map_append]
  exact sortN_snoc _ _
theorem outOf_no {l : List NT} {k : Nat} (h : k < l.length) (hs : selOf l (l[k], k) = false) : outOf l (k + 1) = outOf l k := by
  unfold outOf
  have hz : k < l.zipIdx.length := by simpa using h
  have e : l.zipIdx[k] = (l[k], k) := by simp
  rw [filt_succ _ hz, e, hs]
  simp
theorem outOf_len (l : List NT) (k : Nat) : (outOf l k).length ≤ l.length := by
  unfold outOf
  rw [sortN_len, List.length_map]
  refine Nat.le_trans (List.length_filter_le _ _) ?_
  rw [List.length_take]; simp; omega
set_option maxRecDepth 10000 in
set_option maxHeartbeats 8000000 in
theorem forgetRef_any {w : World} {v : Value} {l : List NT} (h : RNotes w [v] l) (hl : l.length ≤ 300) : Calls Try.prog 42 #[v] w (ForgPost w (refOf l)) := by
  obtain ⟨a, c, rfl⟩ := notes_shape h
  have hN := fun (W : World) (hb : Below w.heap.size w W) (i : Nat) (hi : i < l.length) => (ncell_of h i hi).below hb
  have hM := fun x0 x1 x2 x3 W => mayF_any x0 x1 x2 x3 W
  obtain ⟨n, hn⟩ : ∃ n, n = l.length := ⟨_, rfl⟩
  rw [← hn] at hl ⊢
  have hWo := fun (W : World) (hb : Below w.heap.size w W) (q k : Nat) (hq : q < l.length) (hk : k < l.length) => worseF_any (n := n) (c := c) (by omega) (by omega) (by omega) (hN W hb q hq) (hN W hb k hk)
  have hw0 : Below w.heap.size w w := Below.refl _ _
  have Hh := Lib.hid h; have HN := Lib.hid hN; have HM := Lib.hid hM; have Hn := Lib.hid hn; have HWo := Lib.hid hWo; have Hw0 := Lib.hid hw0; clear h hN hM hn hWo hw0
  go_enter Try.func42, Try.ntmps42
  go_wp2_with fail
  go_loopw [3, 13] (fun x y wr => ∃ k : Nat, y = .int .i64 k ∧ k ≤ n ∧ x = .int .i64 (((l.take k).filter mayN).length : Nat) ∧ Below w.heap.size w wr) (fun _ y _ => n - (intOf y).toNat)
  case atStart => exact ⟨0, rfl, Nat.zero_le _, rfl, Hw0.out⟩
  case round =>
    obtain ⟨k, rfl, hk, rfl, hbw⟩ := hrel
    obtain ⟨M, hMM⟩ : ∃ M, M = ((l.take k).filter mayN).length := ⟨_, rfl⟩
    rw [← hMM]
    have hMn : M ≤ n := by rw [hMM]; refine Nat.le_trans (List.length_filter_le _ _) ?_; rw [List.length_take]; omega
    by_cases hlt : k < n
    · have hkl : k < l.length := by have := Hn.out; omega
      obtain ⟨b, off, rfl, c0, c1, c2, c3⟩ := HN.out wr hbw k hkl
      have hsucc := filt_succ mayN hkl
      obtain ⟨x, hx⟩ : ∃ x, x = l[k] := ⟨_, rfl⟩
      rw [← hx] at c0 c1 c2 c3 hsucc
      have hm := HM.out x.1 x.2.1 x.2.2.1 x.2.2.2 wr
      rw [show ((x.1, x.2.1, x.2.2.1, x.2.2.2) : NT) = x from rfl] at hm
      obtain ⟨x0, hx0⟩ : ∃ v, v = x.1 := ⟨_, rfl⟩
      obtain ⟨x1, hx1⟩ : ∃ v, v = x.2.1 := ⟨_, rfl⟩
      obtain ⟨x2, hx2⟩ : ∃ v, v = x.2.2.1 := ⟨_, rfl⟩
      obtain ⟨x3, hx3⟩ : ∃ v, v = x.2.2.2 := ⟨_, rfl⟩
      rw [← hx0, ← hx1, ← hx2, ← hx3] at hm
      rw [← hx0] at c0
      rw [← hx1] at c1
      rw [← hx2] at c2
      rw [← hx3] at c3
      obtain ⟨r, hr⟩ : ∃ r, r = mayN x := ⟨_, rfl⟩
      rw [← hr] at hm hsucc
      have hsY : r = true → ((l.take (k + 1)).filter mayN).length = M + 1 := fun e => by rw [hsucc, if_pos e, List.length_append, ← hMM]; rfl
      have hsN : r = false → ((l.take (k + 1)).filter mayN).length = M := fun e => by rw [hsucc, if_neg (by rw [e]; simp), List.append_nil, ← hMM]
      have k6 : (k : Int) < (n : Int) := by omega
      have k7 : IntKind.i64.wrap ((M : Int) + 1) = (M : Int) + 1 := IntWalk.i64_in _ (by omega)
      have k8 : IntKind.i64.wrap ((k : Int) + 1) = (k : Int) + 1 := IntWalk.i64_in _ (by omega)
      have Hbw := Lib.hid hbw; have Hsucc := Lib.hid hsucc; have HsY := Lib.hid hsY; have HsN := Lib.hid hsN; have Hx := Lib.hid hx; have Hx0 := Lib.hid hx0; have Hx1 := Lib.hid hx1; have Hx2 := Lib.hid hx2; have Hx3 := Lib.hid hx3; have Hm := Lib.hid hm; have Hr := Lib.hid hr; have HMM := Lib.hid hMM; clear hbw hsucc hsY hsN hx hx0 hx1 hx2 hx3 hm hr hMM
      go_wp2_with fail
      refine Hm.out.mono ?_
      rintro e w2 ⟨rfl, hb2⟩
      have hbw2 := Hbw.out.trans (hb2.mono Hbw.out.size)
      have Hb2 := Lib.hid hb2; have Hbw2 := Lib.hid hbw2; clear hb2 hbw2
      cases r with
      | true =>
        go_wp2_with fail
        go_roundw
        case rel => exact ⟨k + 1, by go_num, by omega, by rw [HsY.out (by trivial)]; go_num, Hbw2.out⟩
        case measure => simp [intOf]; omega
      | false =>
        go_wp2_with fail
        go_roundw
        case rel => exact ⟨k + 1, by go_num, by omega, by rw [HsN.out (by trivial)], Hbw2.out⟩
        case measure => simp [intOf]; omega
    · obtain rfl : k = n := by omega
      have hMl : M = (l.filter mayN).length := by rw [hMM, List.take_of_length_le (by have := Hn.out; omega)]
      have hlit : (wr.alloc (.cells #[] 3)).ownsRow w.heap.size 3 1 (.slice (some ⟨wr.heap.size, 0, none⟩) 0 0) 0 [] := World.ownsRow_lit (base := w.heap.size) (e := 3) (size := 1) wr #[] 0 hbw.size (by decide) rfl
      have hbl := hbw.trans ((below_alloc1 wr (.cells #[] 3)).mono hbw.size)
      have HMM := Lib.hid hMM; have HMl := Lib.hid hMl; have Hlit := Lib.hid hlit; have Hbl := Lib.hid hbl; have Hbw := Lib.hid hbw; clear hMM hMl hlit hbl hbw
      go_wp2_with fail
      go_loopw [5, 27] (fun x y wr => ∃ (j g cap : Nat), x = .slice (some ⟨g, 0, none⟩) (outOf l j).length cap ∧ y = .int .i64 j ∧ j ≤ k ∧ wr.ownsRow w.heap.size 3 1 (.slice (some ⟨g, 0, none⟩) (outOf l j).length cap) (outOf l j).length ((outOf l j).map intv) ∧ Below w.heap.size w wr) (fun _ y _ => k - (intOf y).toNat)
      case atStart => exact ⟨0, _, _, rfl, rfl, Nat.zero_le _, Hlit.out, Hbl.out⟩
      case round =>
        obtain ⟨j, g, cap, rfl, rfl, hj, hown, hbw2⟩ := hrel
        obtain ⟨wo, rfl⟩ : ∃ W, W = wr := ⟨_, rfl⟩
        have hol := outOf_len l j
        obtain ⟨o, ho⟩ : ∃ o, o = outOf l j := ⟨_, rfl⟩
        rw [← ho] at hown hol ⊢
        obtain ⟨m, hm⟩ : ∃ m, m = o.length := ⟨_, rfl⟩
        rw [← hm] at hown hol ⊢
        have hm300 : m ≤ 300 := by have := Hn.out; omega
        by_cases hlt : j < k
        · have hjl : j < l.length := by have := Hn.out; omega
          have hmc : m ≤ cap := by
            rcases hown.2 with ⟨e0, _⟩ | ⟨g', cap', cur, e0, _, _, h1, _⟩
            · cases e0
            · injection e0 with e1 _ e3
              subst e3; exact h1
          have hcap3 : cap ≤ 9223372036854775807 := by
            rcases hown.2 with ⟨e0, _⟩ | ⟨g', cap', cur, e0, _, _, _, h1, _⟩
            · cases e0
            · injection e0 with e1 _ e3
              subst e3; unfold maxLen at h1; exact h1
          have hcell : ∀ q (hq : q < o.length), wo.cell? ⟨g, q, none⟩ = some (.int .i64 (o[q]'hq)) := fun q hq => by
            have h9 := hown.cellAt q (by omega)
            rw [h9, List.getElem?_map, List.getElem?_eq_getElem hq]; rfl
          obtain ⟨b, off, rfl, c0, c1, c2, c3⟩ := HN.out wo hbw2 j hjl
          have hno := fun (hs : selOf l (l[j], j) = false) => outOf_no hjl hs
          have hyes := fun (hs : selOf l (l[j], j) = true) => outOf_yes hjl hs
          have hgd : l.getD j (0, 0, 0, false) = l[j] := by rw [List.getD_eq_getElem?_getD, List.getElem?_eq_getElem hjl]; rfl
          have hWj := fun (W : World) (hb : Below w.heap.size w W) (q : Nat) (hq : q < l.length) => HWo.out W hb q j hq hjl
          obtain ⟨x, hx⟩ : ∃ x, x = l[j] := ⟨_, rfl⟩
          rw [← hx] at c0 c1 c2 c3 hno hyes hgd
          have hmx := fun W => HM.out x.1 x.2.1 x.2.2.1 x.2.2.2 W
          simp only [show ((x.1, x.2.1, x.2.2.1, x.2.2.2) : NT) = x from rfl] at hmx
          obtain ⟨r, hr⟩ : ∃ r, r = mayN x := ⟨_, rfl⟩
          rw [← hr] at hmx
          obtain ⟨x0, hx0⟩ : ∃ v, v = x.1 := ⟨_, rfl⟩
          obtain ⟨x1, hx1⟩ : ∃ v, v = x.2.1 := ⟨_, rfl⟩
          obtain ⟨x2, hx2⟩ : ∃ v, v = x.2.2.1 := ⟨_, rfl⟩
          obtain ⟨x3, hx3⟩ : ∃ v, v = x.2.2.2 := ⟨_, rfl⟩
          rw [← hx0, ← hx1, ← hx2, ← hx3] at hmx
          rw [← hx0] at c0 hyes
          rw [← hx1] at c1
          rw [← hx2] at c2
          rw [← hx3] at c3
          have hC : ∀ W, Below wo.heap.size wo W → W.cell? ⟨b, off + j * 4, none⟩ = some (.int .i64 x0) ∧ W.cell? ⟨b, off + j * 4 + 1, none⟩ = some (.int .i64 x1) ∧ W.cell? ⟨b, off + j * 4 + 2, none⟩ = some (.int .i64 x2) ∧ W.cell? ⟨b, off + j * 4 + 3, none⟩ = some (.bool x3) := fun W hb => ⟨cell_later hb c0, cell_later hb c1, cell_later hb c2, cell_later hb c3⟩
          have k6 : (j : Int) < (k : Int) := by omega
          have k8 : IntKind.i64.wrap ((j : Int) + 1) = (j : Int) + 1 := IntWalk.i64_in _ (by omega)
          clear c0 c1 c2 c3 hol
          have Hown := Lib.hid hown; have Hbw2 := Lib.hid hbw2; have Ho := Lib.hid ho; have Hm := Lib.hid hm; have Hcell := Lib.hid hcell; have Hno := Lib.hid hno; have Hyes := Lib.hid hyes; have Hgd := Lib.hid hgd; have Hx := Lib.hid hx; have Hx0 := Lib.hid hx0; have Hx1 := Lib.hid hx1; have Hx2 := Lib.hid hx2; have Hx3 := Lib.hid hx3; have Hmx := Lib.hid hmx; have Hr := Lib.hid hr; have HC := Lib.hid hC; have HWj := Lib.hid hWj; clear hown hbw2 ho hm hcell hno hyes hgd hx hx0 hx1 hx2 hx3 hmx hr hC hWj
          go_wp2_with fail
          go_loopw [7, 32] (fun x y W => ∃ q : Nat, y = .int .i64 q ∧ q ≤ k ∧ x = .int .i64 (((l.zipIdx.take q).filter (AhP l j)).length : Nat) ∧ Below wo.heap.size wo W) (fun _ y _ => k - (intOf y).toNat)
          case atStart => exact ⟨0, rfl, Nat.zero_le _, rfl, Below.refl _ _⟩
          case round =>
            obtain ⟨q, rfl, hq, rfl, hb3⟩ := hrel
            obtain ⟨A, hA⟩ : ∃ M, M = ((l.zipIdx.take q).filter (AhP l j)).length := ⟨_, rfl⟩
            rw [← hA]
            have hAn : A ≤ k := by rw [hA]; refine Nat.le_trans (List.length_filter_le _ _) ?_; rw [List.length_take]; omega
            have hbw3 := Hbw2.out.trans (hb3.mono Hbw2.out.size)
            by_cases hlt3 : q < k
            · have hql : q < l.length := by have := Hn.out; omega
              obtain ⟨b', off', e9, d0, d1, d2, d3⟩ := HN.out wr hbw3 q hql
              cases e9
              have hz : q < l.zipIdx.length := by simpa using hql
              have hsucc := filt_succ (AhP l j) hz
              rw [show l.zipIdx[q] = (l[q], q) by simp] at hsucc
              have hAhP : AhP l j (l[q], q) = (mayN l[q] && (decide (q ≠ j) && ltP wlt (l[q], q) (x, j))) := by unfold AhP; rw [Hgd.out]
              have hWq := fun (W : World) (hb : Below w.heap.size w W) => HWj.out W hb q hql
              rw [← Hx.out] at hWq
              obtain ⟨z, hzz⟩ : ∃ x, x = l[q] := ⟨_, rfl⟩
              rw [← hzz] at d0 d1 d2 d3 hsucc hAhP hWq
              have hmz := fun W => HM.out z.1 z.2.1 z.2.2.1 z.2.2.2 W
              simp only [show ((z.1, z.2.1, z.2.2.1, z.2.2.2) : NT) = z from rfl] at hmz
              obtain ⟨rz, hrz⟩ : ∃ r, r = mayN z := ⟨_, rfl⟩
              obtain ⟨rl, hrl⟩ : ∃ r, r = ltP wlt (z, q) (x, j) := ⟨_, rfl⟩
              rw [← hrz] at hmz hAhP
              rw [← hrl] at hWq hAhP
              obtain ⟨z0, hz0⟩ : ∃ v, v = z.1 := ⟨_, rfl⟩
              obtain ⟨z1, hz1⟩ : ∃ v, v = z.2.1 := ⟨_, rfl⟩
              obtain ⟨z2, hz2⟩ : ∃ v, v = z.2.2.1 := ⟨_, rfl⟩
              obtain ⟨z3, hz3⟩ : ∃ v, v = z.2.2.2 := ⟨_, rfl⟩
              rw [← hz0, ← hz1, ← hz2, ← hz3] at hmz
              rw [← hz0] at d0
              rw [← hz1] at d1
              rw [← hz2] at d2
              rw [← hz3] at d3
              have hsY : AhP l j (z, q) = true → ((l.zipIdx.take (q + 1)).filter (AhP l j)).length = A + 1 := fun e => by rw [hsucc, if_pos e, List.length_append, ← hA]; rfl
              have hsN : AhP l j (z, q) = false → ((l.zipIdx.take (q + 1)).filter (AhP l j)).length = A := fun e => by rw [hsucc, if_neg (by rw [e]; simp), List.append_nil, ← hA]
              have q6 : (q : Int) < (k : Int) := by omega
              have q7 : IntKind.i64.wrap ((A : Int) + 1) = (A : Int) + 1 := IntWalk.i64_in _ (by omega)
              have q8 : IntKind.i64.wrap ((q : Int) + 1) = (q : Int) + 1 := IntWalk.i64_in _ (by omega)
              clear hsucc hz
              have HA := Lib.hid hA; have Hb3 := Lib.hid hb3; have Hbw3 := Lib.hid hbw3; have HAhP := Lib.hid hAhP; have HWq := Lib.hid hWq; have Hzz := Lib.hid hzz; have Hmz := Lib.hid hmz; have Hrz := Lib.hid hrz; have Hrl := Lib.hid hrl; have Hz0 := Lib.hid hz0; have Hz1 := Lib.hid hz1; have Hz2 := Lib.hid hz2; have Hz3 := Lib.hid hz3; have HsY := Lib.hid hsY; have HsN := Lib.hid hsN; clear hA hb3 hbw3 hAhP hWq hzz hmz hrz hrl hz0 hz1 hz2 hz3 hsY hsN
              go_wp2_with fail
              refine (Hmz.out _).mono ?_
              rintro e w5 ⟨rfl, hb5⟩
              have hb5o := Hb3.out.trans (hb5.mono Hb3.out.size)
              have hbw5 := Hbw3.out.trans (hb5.mono Hbw3.out.size)
              clear d0 d1 d2 d3
              have Hb5 := Lib.hid hb5; have Hb5o := Lib.hid hb5o; have Hbw5 := Lib.hid hbw5; clear hb5 hb5o hbw5
              cases rz with
              | false =>
                go_wp2_with fail
                go_roundw
                case rel => exact ⟨q + 1, by go_num, by omega, by rw [HsN.out (by rw [HAhP.out]; rfl)], Hb5o.out⟩
                case measure => simp [intOf]; omega
              | true =>
                by_cases hqj : q = j
                · have t1 : ((q : Int) != (j : Int)) = false := by rw [hqj]; simp
                  have t2 : ((q : Int) == (j : Int)) = true := by rw [hqj]; simp
                  have hf0 : decide (q ≠ j) = false := by simpa using hqj
                  have Hqj := Lib.hid hqj; have Hf0 := Lib.hid hf0; clear hqj hf0
                  go_wp2_with fail
                  go_roundw
                  case rel => exact ⟨q + 1, by go_num, by omega, by rw [HsN.out (by rw [HAhP.out, Hf0.out]; rfl)], Hb5o.out⟩
                  case measure => simp [intOf]; omega
                · have t1 : ((q : Int) != (j : Int)) = true := by simp; omega
                  have t2 : ((q : Int) == (j : Int)) = false := by rw [beq_eq_false_iff_ne]; omega
                  have hf0 : decide (q ≠ j) = true := by simpa using hqj
                  have Hqj := Lib.hid hqj; have Hf0 := Lib.hid hf0; clear hqj hf0
                  go_wp2_with fail
                  refine (HWq.out _ Hbw5.out).mono ?_
                  rintro e w6 ⟨rfl, hb6⟩
                  have hb6o := Hb5o.out.trans (hb6.mono Hb5o.out.size)
                  have Hb6 := Lib.hid hb6; have Hb6o := Lib.hid hb6o; clear hb6 hb6o
                  cases rl with
                  | true =>
                    go_wp2_with fail
                    go_roundw
                    case rel => exact ⟨q + 1, by go_num, by omega, by rw [HsY.out (by rw [HAhP.out, Hf0.out]; rfl)]; go_num, Hb6o.out⟩
                    case measure => simp [intOf]; omega
                  | false =>
                    go_wp2_with fail
                    go_roundw
                    case rel => exact ⟨q + 1, by go_num, by omega, by rw [HsN.out (by rw [HAhP.out, Hf0.out]; rfl)], Hb6o.out⟩
                    case measure => simp [intOf]; omega
            · obtain rfl : k = q := by omega
              have hAl : A = aheadOf l j := by
                rw [hA, List.take_of_length_le (by rw [List.length_zipIdx]; have := Hn.out; omega)]
                rfl
              have hsel : selOf l (x, j) = (r && decide (A < M / 2)) := by
                unfold selOf
                rw [Hr.out, hAl, HMl.out]
              obtain ⟨hf, hhf⟩ : ∃ x, x = M / 2 := ⟨_, rfl⟩
              rw [← hhf] at hsel
              have q1 : (M : Int) / 2 = (hf : Int) := by omega
              have q2 : Int.tdiv (M : Int) 2 = (hf : Int) := by rw [Int.tdiv_eq_ediv_of_nonneg (by omega)]; exact q1
              obtain ⟨d0, d1, d2, d3⟩ := HC.out wr hb3
              have HA := Lib.hid hA; have Hb3 := Lib.hid hb3; have Hbw3 := Lib.hid hbw3; have HAl := Lib.hid hAl; have Hsel := Lib.hid hsel; have Hhf := Lib.hid hhf; clear hA hb3 hbw3 hAl hsel hhf
              cases r with
              | false =>
                have hs := Hno.out (by rw [Hsel.out]; rfl)
                have Hs := Lib.hid hs; clear hs
                go_wp2_with fail
                refine (Hmx.out _).mono ?_
                rintro e w5 ⟨rfl, hb5⟩
                have hb5o := Hb3.out.trans (hb5.mono Hb3.out.size)
                have hbw5 := Hbw3.out.trans (hb5.mono Hbw3.out.size)
                have ho5 := ownsRow_below Hown.out hb5o
                have Hb5 := Lib.hid hb5; have Hb5o := Lib.hid hb5o; have Hbw5 := Lib.hid hbw5; have Ho5 := Lib.hid ho5; clear hb5 hb5o hbw5 ho5
                go_wp2_with fail
                go_roundw
                case rel => exact ⟨j + 1, g, cap, by rw [Hs.out, ← Ho.out, ← Hm.out], by go_num, by omega, by rw [Hs.out, ← Ho.out, ← Hm.out]; exact Ho5.out, Hbw5.out⟩
                case measure => simp [intOf]; omega
              | true =>
                by_cases hlt4 : A < hf
                · have hs := Hyes.out (by rw [Hsel.out, decide_eq_true hlt4]; rfl)
                  have u1 : ¬ (hf : Int) ≤ (A : Int) := by omega
                  have u2 : decide ((hf : Int) ≤ (A : Int)) = false := decide_eq_false u1
                  have u3 : (A : Int) < (hf : Int) := by omega
                  have u4 : decide (hf ≤ A) = false := decide_eq_false (by omega)
                  have Hs := Lib.hid hs; clear hs
                  go_wp2_with fail
                  refine (Hmx.out _).mono ?_
                  rintro e w5 ⟨rfl, hb5⟩
                  have hb5o := Hb3.out.trans (hb5.mono Hb3.out.size)
                  have hbw5 := Hbw3.out.trans (hb5.mono Hbw3.out.size)
                  have hx5 := (HC.out w5 hb5o).1
                  have hcell5 : ∀ q (hq : q < o.length), w5.cell? ⟨g, q, none⟩ = some (.int .i64 (o[q]'hq)) := fun q hq => cell_later hb5o (Hcell.out q hq)
                  clear d0 d1 d2 d3
                  have Hb5 := Lib.hid hb5; have Hb5o := Lib.hid hb5o; have Hbw5 := Lib.hid hbw5; have Hx5 := Lib.hid hx5; have Hcell5 := Lib.hid hcell5; clear hb5 hb5o hbw5 hx5 hcell5
                  go_wp2_with fail
                  clear q1 q2 u1 u2 u3 u4
                  go_loopw [9] (fun x W => ∃ t : Nat, x = .int .i64 t ∧ t ≤ m ∧ (∀ y ∈ o.take t, y ≤ x0) ∧ Below w5.heap.size w5 W) (fun x _ => m - (intOf x).toNat)
                  case atStart => exact ⟨0, rfl, Nat.zero_le _, fun y hy => by simp at hy, Below.refl _ _⟩
                  case round =>
                    obtain ⟨t, rfl, ht, hle4, hb6⟩ := hrel
                    have hd4' := cell_later hb6 Hx5.out
                    have hcell6 : ∀ q (hq : q < o.length), wr.cell? ⟨g, q, none⟩ = some (.int .i64 (o[q]'hq)) := fun q hq => cell_later hb6 (Hcell5.out q hq)
                    have t8 : IntKind.i64.wrap ((t : Int) + 1) = (t : Int) + 1 := IntWalk.i64_in _ (by omega)
                    by_cases hlt5 : t < m
                    · have hto : t < o.length := by have := Hm.out; omega
                      have e0 := hcell6 t hto
                      have hsucc5 := List.take_succ_eq_append_getElem hto
                      have hget5 := List.getElem?_eq_getElem hto
                      obtain ⟨z, hz⟩ : ∃ z, z = o[t] := ⟨_, rfl⟩
                      rw [← hz] at e0 hsucc5 hget5
                      have t6 : (t : Int) < (m : Int) := by omega
                      have t7 : decide ((t : Int) < (m : Int)) = true := decide_eq_true t6
                      by_cases hzx : z ≤ x0
                      · have hle5 : ∀ y ∈ o.take (t + 1), y ≤ x0 := fun y hy => by
                          rw [hsucc5] at hy
                          rcases List.mem_append.1 hy with hy | hy
                          · exact hle4 y hy
                          · simp at hy; subst hy; exact hzx
                        have hzd : decide (z ≤ x0) = true := decide_eq_true hzx
                        have Hle4 := Lib.hid hle4; have Hle5 := Lib.hid hle5; have Hb6 := Lib.hid hb6; have Hcell6 := Lib.hid hcell6; have Hsucc5 := Lib.hid hsucc5; have Hget5 := Lib.hid hget5; have Hz := Lib.hid hz; clear hle4 hle5 hb6 hcell6 hsucc5 hget5 hz
                        go_wp2_with fail
                        have mixed : Try.prog.follows .mixedOrders = true := by kernel_rfl
                        go_quiet (fail)
                        go_wp2_with fail
                        go_roundw
                        case rel => exact ⟨t + 1, by go_num, by omega, Hle5.out, bel_drewN Hb6.out _⟩
                        case measure => simp [intOf]; omega
                      · have hgt4 : ∀ y, o[t]? = some y → x0 < y := fun y hy => by rw [hget5] at hy; cases hy; omega
                        have hzd : decide (z ≤ x0) = false := decide_eq_false hzx
                        have Hsucc5 := Lib.hid hsucc5; have Hget5 := Lib.hid hget5; have Hz := Lib.hid hz; have Hb6 := Lib.hid hb6; have Hcell6 := Lib.hid hcell6; have Hle4 := Lib.hid hle4; have Hgt4 := Lib.hid hgt4; clear hsucc5 hget5 hz hb6 hcell6 hle4 hgt4
                        go_wp2_with fail
                        have mixed : Try.prog.follows .mixedOrders = true := by kernel_rfl
                        go_quiet (fail)
                        go_upto_region 23 with fail
                        clear e0 hd4' hzd hzx t6 t7
                        obtain ⟨wr4, hwr4e⟩ : ∃ W, W = wr.drewN nq := ⟨_, rfl⟩
                        rw [← hwr4e]
                        have hb65 : Below w5.heap.size w5 wr4 := by rw [hwr4e]; exact bel_drewN Hb6.out _
                        have hwr4 : Below w.heap.size w wr4 := Hbw5.out.trans (hb65.mono Hbw5.out.size)
                        have hcell4 : ∀ q (hq : q < o.length), wr4.cell? ⟨g, q, none⟩ = some (.int .i64 (o[q]'hq)) := fun q hq => cell_later hb65 (Hcell5.out q hq)
                        have hd4 := cell_later hb65 Hx5.out
                        have hle4 := Hle4.out
                        have hgt4 := Hgt4.out
                        have hm := Hm.out
                        have hsucc := Hs.out
                        rw [← Ho.out] at hsucc
                        have Hwr4e := Lib.hid hwr4e; have Hb65 := Lib.hid hb65; clear hwr4e hb65
                        obtain ⟨B1, hB1⟩ : ∃ n, n = wr4.heap.size := ⟨_, rfl⟩
                        have hlit : (wr4.alloc (.cells #[] 3)).ownsRow B1 3 1 (.slice (some ⟨wr4.heap.size, 0, none⟩) 0 0) 0 [] := World.ownsRow_lit (base := B1) (e := 3) (size := 1) wr4 #[] 0 (by rw [hB1]; exact Nat.le_refl _) (by decide) rfl
                        obtain ⟨W1, hW1⟩ : ∃ W, W = wr4.alloc (.cells #[] 3) := ⟨_, rfl⟩
                        rw [← hW1] at hlit
                        have hbW1 : Below B1 wr4 W1 := by rw [hW1, hB1]; exact below_alloc1 _ _
                        have hB1l : B1 ≤ W1.heap.size := by have := hbW1.size; omega
                        have hins := insN_split x0 o t (by omega) hle4 hgt4
                        obtain ⟨NA, hNA⟩ : ∃ L, L = (o.take t).map intv := ⟨_, rfl⟩
                        obtain ⟨NB, hNB⟩ : ∃ L, L = (o.drop t).map intv := ⟨_, rfl⟩
                        have hNAl : NA.length = t * 1 := by rw [hNA, List.length_map, List.length_take]; omega
                        have hNBl : NB.length = (m - t) * 1 := by rw [hNB, List.length_map, List.length_drop]; omega
                        have hNA1 : ∀ u ∈ NA, u.oneCell' = true := by rw [hNA]; intro u hu; obtain ⟨z, _, rfl⟩ := List.mem_map.1 hu; rfl
                        have hNB1 : ∀ u ∈ NB, u.oneCell' = true := by rw [hNB]; intro u hu; obtain ⟨z, _, rfl⟩ := List.mem_map.1 hu; rfl
                        have hcellsA : ∀ W, Below B1 wr4 W → ∀ z u, NA[z]? = some u → ∃ b off, (some ⟨g, 0, none⟩ : Option Addr) = some ⟨b, off, none⟩ ∧ W.cell? ⟨b, off + z, none⟩ = some u := fun W hb z u hu => ⟨g, 0, rfl, by
                          rw [Nat.zero_add]
                          have hjt : z < t := by have := (List.getElem?_eq_some_iff.1 hu).1; omega
                          have hjo : z < o.length := by omega
                          have e1 := hcell4 z hjo
                          have : NA[z]? = some (.int .i64 (o[z]'hjo)) := by rw [hNA, List.getElem?_map, List.getElem?_take, if_pos hjt, List.getElem?_eq_getElem hjo]; rfl
                          rw [hu] at this
                          rw [this]
                          exact cell_later (by rw [← hB1]; exact hb) e1⟩
                        have hcellsB : ∀ W, Below B1 wr4 W → ∀ z u, NB[z]? = some u → ∃ b off, (some ⟨g, t, none⟩ : Option Addr) = some ⟨b, off, none⟩ ∧ W.cell? ⟨b, off + z, none⟩ = some u := fun W hb z u hu => ⟨g, t, rfl, by
                          have hjt : z < m - t := by have := (List.getElem?_eq_some_iff.1 hu).1; omega
                          have hjo : t + z < o.length := by omega
                          have e1 := hcell4 (t + z) hjo
                          have : NB[z]? = some (.int .i64 (o[t + z]'hjo)) := by rw [hNB, List.getElem?_map, List.getElem?_drop, List.getElem?_eq_getElem hjo]; rfl
                          rw [hu] at this
                          rw [this]
                          exact cell_later (by rw [← hB1]; exact hb) e1⟩
                        have hcA := hcellsA W1 hbW1
                        have hd0' : ∀ W, Below B1 wr4 W → W.cell? ⟨b, off + j * 4, none⟩ = some (.int .i64 x0) := fun W hb => cell_later (by rw [← hB1]; exact hb) hd4
                        have y1 : (t : Int) ≤ (m : Int) := by omega
                        have y2 : (t : Int) ≤ (cap : Int) := by omega
                        have y3 : t ≤ cap := by omega
                        have y4 : m ≤ cap := hmc
                        have HW1 := Lib.hid hW1; have HbW1 := Lib.hid hbW1; have Hins := Lib.hid hins; have HNA := Lib.hid hNA; have HNB := Lib.hid hNB; have HNAl := Lib.hid hNAl; have HNBl := Lib.hid hNBl; have HNA1 := Lib.hid hNA1; have HNB1 := Lib.hid hNB1; have HcellsA := Lib.hid hcellsA; have HcellsB := Lib.hid hcellsB; have HcA := Lib.hid hcA; have Hd0' := Lib.hid hd0'; have Hlit := Lib.hid hlit; have HB1 := Lib.hid hB1; have Hcell4 := Lib.hid hcell4; have Hd4 := Lib.hid hd4; have Hle4 := Lib.hid hle4; have Hgt4 := Lib.hid hgt4; have Hm := Lib.hid hm; have Hsucc := Lib.hid hsucc; have Hwr4 := Lib.hid hwr4; clear hW1 hbW1 hins hNA hNB hNAl hNBl hNA1 hNB1 hcellsA hcellsB hcA hd0' hlit hB1 hcell4 hd4 hle4 hgt4 hm hsucc hwr4
                        go_upto_region 24 with fail
                        rw [← HW1.out, ← HB1.out]
                        go_upto_region 25 with (at_builtin; (refine wpList_append_from elem_intF rfl (.tmp 85) (.tmp 88) rfl B1 (.slice (some ⟨B1, 0, none⟩) 0 0) 0 [] rfl (by have h9 := Hlit.out; rw [← HB1.out] at h9; exact h9) (some ⟨g, 0, none⟩) t cap NA rfl HNAl.out HcA.out HNA1.out (by omega) (by unfold maxLen; omega) hB1l ?_; intro v5 w5 hown5 hg5 hm5; obtain ⟨pa5, pc5, rfl⟩ := own_shape hown5; generalize hN5 : 0 + t = N5 at hown5 ⊢; have Hown5 := Lib.hid hown5; have Hg5 := Lib.hid hg5; have HN5 := Lib.hid hN5; clear hown5 hg5 hm5 hN5))
                        have hb5 : Below B1 wr4 w5 := bel_own HbW1.out (by have h9 := Hlit.out; rw [← HB1.out] at h9; exact h9) (Nat.le_refl _) Hg5.out hB1l
                        have hz5 : B1 ≤ w5.heap.size := by have := hb5.size; rw [← HB1.out] at this; exact this
                        have hN5b : N5 ≤ 1000 := by have := HN5.out; omega
                        have hd5 := Hd0'.out w5 hb5
                        have Hb5 := Lib.hid hb5; clear hb5
                        go_upto_region 26 with (at_builtin; (refine wpList_append_some elem_intF (w := w5) rfl (.tmp 90) (.tmp 96) rfl B1 (.slice pa5 N5 pc5) N5 _ rfl Hown5.out 1 (by decide) #[.int .i64 x0] rfl rfl (by simp [Value.oneCell']) (by omega) (by unfold maxLen; omega) hz5 ?_; intro g6 c6 w6 hown6 hg6 hm6; have Hown6 := Lib.hid hown6; have Hg6 := Lib.hid hg6; clear hown6 hg6 hm6))
                        have hb6 : Below B1 wr4 w6 := bel_own Hb5.out Hown5.out (Nat.le_refl _) Hg6.out hz5
                        have hz6 : B1 ≤ w6.heap.size := by have := hb6.size; rw [← HB1.out] at this; exact this
                        have hcB := HcellsB.out w6 hb6
                        have Hb6 := Lib.hid hb6; have HcB := Lib.hid hcB; clear hb6 hcB
                        clear hd5
                        go_wp2_with (at_builtin; (refine wpList_append_from elem_intF rfl (.tmp 98) (.tmp 101) rfl B1 (.slice (some ⟨g6, 0, none⟩) (N5 + 1) c6) (N5 + 1) _ rfl Hown6.out (some ⟨g, t, none⟩) (m - t) (cap - t) NB rfl HNBl.out HcB.out HNB1.out (by omega) (by unfold maxLen; omega) hz6 ?_; intro v7 w7 hown7 hg7 hm7; obtain ⟨g7, c7, rfl, _⟩ := ownsRow_some hown7 (by omega); have Hown7 := Lib.hid hown7; have Hg7 := Lib.hid hg7; clear hown7 hg7 hm7))
                        have hb7 : Below B1 wr4 w7 := bel_own Hb6.out Hown6.out (Nat.le_refl _) Hg7.out hz6
                        have hBw : w.heap.size ≤ B1 := by rw [HB1.out]; exact Hwr4.out.size
                        have hbw7 : Below w.heap.size w w7 := Hwr4.out.trans (hb7.mono hBw)
                        have ho7 : w7.ownsRow w.heap.size 3 1 (.slice (some ⟨g7, 0, none⟩) (N5 + 1 + (m - t)) c7) (N5 + 1 + (m - t)) ((insN x0 o).map intv) := by
                          rw [Hins.out, List.map_append, List.map_cons, ← HNA.out, ← HNB.out]
                          have h9 := ownsRow_mono Hown7.out hBw
                          simpa using h9
                        have hlen7 : (insN x0 o).length = N5 + 1 + (m - t) := by rw [Hins.out, List.length_append, List.length_cons, List.length_take, List.length_drop, Hm.out, HN5.out.symm]; have := Hm.out; omega
                        go_roundw
                        case rel => exact ⟨j + 1, g7, c7, by rw [Hsucc.out, hlen7], by go_num, by omega, by rw [Hsucc.out, hlen7]; exact ho7, hbw7⟩
                        case measure => simp [intOf]; omega
                    · have hgt4 : ∀ y, o[t]? = some y → x0 < y := fun y hy => by
                        have := (List.getElem?_eq_some_iff.1 hy).1
                        have := Hm.out
                        omega
                      have t6 : ¬ (t : Int) < (m : Int) := by omega
                      have t7 : decide ((t : Int) < (m : Int)) = false := decide_eq_false t6
                      have Hb6 := Lib.hid hb6; have Hcell6 := Lib.hid hcell6; have Hle4 := Lib.hid hle4; have Hgt4 := Lib.hid hgt4; clear hb6 hcell6 hle4 hgt4
                      go_wp2_with fail
                      go_region
                      go_upto_region 23 with fail
                      clear hd4' t6 t7
                      by_cases hct : t < cap
                      · have y5 : ¬ cap - t = 0 := by omega
                        have y6 : (t : Int) < (cap : Int) := by omega
                        obtain ⟨wr4, hwr4e⟩ : ∃ W, W = wr.drew := ⟨_, rfl⟩
                        rw [← hwr4e]
                        have hb65 : Below w5.heap.size w5 wr4 := by rw [hwr4e]; exact bel_drewN Hb6.out _
                        have hwr4 : Below w.heap.size w wr4 := Hbw5.out.trans (hb65.mono Hbw5.out.size)
                        have hcell4 : ∀ q (hq : q < o.length), wr4.cell? ⟨g, q, none⟩ = some (.int .i64 (o[q]'hq)) := fun q hq => cell_later hb65 (Hcell5.out q hq)
                        have hd4 := cell_later hb65 Hx5.out
                        have hle4 := Hle4.out
                        have hgt4 := Hgt4.out
                        have hm := Hm.out
                        have hsucc := Hs.out
                        rw [← Ho.out] at hsucc
                        have Hwr4e := Lib.hid hwr4e; have Hb65 := Lib.hid hb65; clear hwr4e hb65
                        obtain ⟨B1, hB1⟩ : ∃ n, n = wr4.heap.size := ⟨_, rfl⟩
                        have hlit : (wr4.alloc (.cells #[] 3)).ownsRow B1 3 1 (.slice (some ⟨wr4.heap.size, 0, none⟩) 0 0) 0 [] := World.ownsRow_lit (base := B1) (e := 3) (size := 1) wr4 #[] 0 (by rw [hB1]; exact Nat.le_refl _) (by decide) rfl
                        obtain ⟨W1, hW1⟩ : ∃ W, W = wr4.alloc (.cells #[] 3) := ⟨_, rfl⟩
                        rw [← hW1] at hlit
                        have hbW1 : Below B1 wr4 W1 := by rw [hW1, hB1]; exact below_alloc1 _ _
                        have hB1l : B1 ≤ W1.heap.size := by have := hbW1.size; omega
                        have hins := insN_split x0 o t (by omega) hle4 hgt4
                        obtain ⟨NA, hNA⟩ : ∃ L, L = (o.take t).map intv := ⟨_, rfl⟩
                        obtain ⟨NB, hNB⟩ : ∃ L, L = (o.drop t).map intv := ⟨_, rfl⟩
                        have hNAl : NA.length = t * 1 := by rw [hNA, List.length_map, List.length_take]; omega
                        have hNBl : NB.length = (m - t) * 1 := by rw [hNB, List.length_map, List.length_drop]; omega
                        have hNA1 : ∀ u ∈ NA, u.oneCell' = true := by rw [hNA]; intro u hu; obtain ⟨z, _, rfl⟩ := List.mem_map.1 hu; rfl
                        have hNB1 : ∀ u ∈ NB, u.oneCell' = true := by rw [hNB]; intro u hu; obtain ⟨z, _, rfl⟩ := List.mem_map.1 hu; rfl
                        have hcellsA : ∀ W, Below B1 wr4 W → ∀ z u, NA[z]? = some u → ∃ b off, (some ⟨g, 0, none⟩ : Option Addr) = some ⟨b, off, none⟩ ∧ W.cell? ⟨b, off + z, none⟩ = some u := fun W hb z u hu => ⟨g, 0, rfl, by
                          rw [Nat.zero_add]
                          have hjt : z < t := by have := (List.getElem?_eq_some_iff.1 hu).1; omega
                          have hjo : z < o.length := by omega
                          have e1 := hcell4 z hjo
                          have : NA[z]? = some (.int .i64 (o[z]'hjo)) := by rw [hNA, List.getElem?_map, List.getElem?_take, if_pos hjt, List.getElem?_eq_getElem hjo]; rfl
                          rw [hu] at this
                          rw [this]
                          exact cell_later (by rw [← hB1]; exact hb) e1⟩
                        have hcellsB : ∀ W, Below B1 wr4 W → ∀ z u, NB[z]? = some u → ∃ b off, (some ⟨g, t, none⟩ : Option Addr) = some ⟨b, off, none⟩ ∧ W.cell? ⟨b, off + z, none⟩ = some u := fun W hb z u hu => ⟨g, t, rfl, by
                          have hjt : z < m - t := by have := (List.getElem?_eq_some_iff.1 hu).1; omega
                          have hjo : t + z < o.length := by omega
                          have e1 := hcell4 (t + z) hjo
                          have : NB[z]? = some (.int .i64 (o[t + z]'hjo)) := by rw [hNB, List.getElem?_map, List.getElem?_drop, List.getElem?_eq_getElem hjo]; rfl
                          rw [hu] at this
                          rw [this]
                          exact cell_later (by rw [← hB1]; exact hb) e1⟩
                        have hcA := hcellsA W1 hbW1
                        have hd0' : ∀ W, Below B1 wr4 W → W.cell? ⟨b, off + j * 4, none⟩ = some (.int .i64 x0) := fun W hb => cell_later (by rw [← hB1]; exact hb) hd4
                        have y1 : (t : Int) ≤ (m : Int) := by omega
                        have y2 : (t : Int) ≤ (cap : Int) := by omega
                        have y3 : t ≤ cap := by omega
                        have y4 : m ≤ cap := hmc
                        have HW1 := Lib.hid hW1; have HbW1 := Lib.hid hbW1; have Hins := Lib.hid hins; have HNA := Lib.hid hNA; have HNB := Lib.hid hNB; have HNAl := Lib.hid hNAl; have HNBl := Lib.hid hNBl; have HNA1 := Lib.hid hNA1; have HNB1 := Lib.hid hNB1; have HcellsA := Lib.hid hcellsA; have HcellsB := Lib.hid hcellsB; have HcA := Lib.hid hcA; have Hd0' := Lib.hid hd0'; have Hlit := Lib.hid hlit; have HB1 := Lib.hid hB1; have Hcell4 := Lib.hid hcell4; have Hd4 := Lib.hid hd4; have Hle4 := Lib.hid hle4; have Hgt4 := Lib.hid hgt4; have Hm := Lib.hid hm; have Hsucc := Lib.hid hsucc; have Hwr4 := Lib.hid hwr4; clear hW1 hbW1 hins hNA hNB hNAl hNBl hNA1 hNB1 hcellsA hcellsB hcA hd0' hlit hB1 hcell4 hd4 hle4 hgt4 hm hsucc hwr4
                        go_upto_region 24 with fail
                        rw [← HW1.out, ← HB1.out]
                        go_upto_region 25 with (at_builtin; (refine wpList_append_from elem_intF rfl (.tmp 85) (.tmp 88) rfl B1 (.slice (some ⟨B1, 0, none⟩) 0 0) 0 [] rfl (by have h9 := Hlit.out; rw [← HB1.out] at h9; exact h9) (some ⟨g, 0, none⟩) t cap NA rfl HNAl.out HcA.out HNA1.out (by omega) (by unfold maxLen; omega) hB1l ?_; intro v5 w5 hown5 hg5 hm5; obtain ⟨pa5, pc5, rfl⟩ := own_shape hown5; generalize hN5 : 0 + t = N5 at hown5 ⊢; have Hown5 := Lib.hid hown5; have Hg5 := Lib.hid hg5; have HN5 := Lib.hid hN5; clear hown5 hg5 hm5 hN5))
                        have hb5 : Below B1 wr4 w5 := bel_own HbW1.out (by have h9 := Hlit.out; rw [← HB1.out] at h9; exact h9) (Nat.le_refl _) Hg5.out hB1l
                        have hz5 : B1 ≤ w5.heap.size := by have := hb5.size; rw [← HB1.out] at this; exact this
                        have hN5b : N5 ≤ 1000 := by have := HN5.out; omega
                        have hd5 := Hd0'.out w5 hb5
                        have Hb5 := Lib.hid hb5; clear hb5
                        go_upto_region 26 with (at_builtin; (refine wpList_append_some elem_intF (w := w5) rfl (.tmp 90) (.tmp 96) rfl B1 (.slice pa5 N5 pc5) N5 _ rfl Hown5.out 1 (by decide) #[.int .i64 x0] rfl rfl (by simp [Value.oneCell']) (by omega) (by unfold maxLen; omega) hz5 ?_; intro g6 c6 w6 hown6 hg6 hm6; have Hown6 := Lib.hid hown6; have Hg6 := Lib.hid hg6; clear hown6 hg6 hm6))
                        have hb6 : Below B1 wr4 w6 := bel_own Hb5.out Hown5.out (Nat.le_refl _) Hg6.out hz5
                        have hz6 : B1 ≤ w6.heap.size := by have := hb6.size; rw [← HB1.out] at this; exact this
                        have hcB := HcellsB.out w6 hb6
                        have Hb6 := Lib.hid hb6; have HcB := Lib.hid hcB; clear hb6 hcB
                        clear hd5
                        go_wp2_with (at_builtin; (refine wpList_append_from elem_intF rfl (.tmp 98) (.tmp 101) rfl B1 (.slice (some ⟨g6, 0, none⟩) (N5 + 1) c6) (N5 + 1) _ rfl Hown6.out (some ⟨g, t, none⟩) (m - t) (cap - t) NB rfl HNBl.out HcB.out HNB1.out (by omega) (by unfold maxLen; omega) hz6 ?_; intro v7 w7 hown7 hg7 hm7; obtain ⟨g7, c7, rfl, _⟩ := ownsRow_some hown7 (by omega); have Hown7 := Lib.hid hown7; have Hg7 := Lib.hid hg7; clear hown7 hg7 hm7))
                        have hb7 : Below B1 wr4 w7 := bel_own Hb6.out Hown6.out (Nat.le_refl _) Hg7.out hz6
                        have hBw : w.heap.size ≤ B1 := by rw [HB1.out]; exact Hwr4.out.size
                        have hbw7 : Below w.heap.size w w7 := Hwr4.out.trans (hb7.mono hBw)
                        have ho7 : w7.ownsRow w.heap.size 3 1 (.slice (some ⟨g7, 0, none⟩) (N5 + 1 + (m - t)) c7) (N5 + 1 + (m - t)) ((insN x0 o).map intv) := by
                          rw [Hins.out, List.map_append, List.map_cons, ← HNA.out, ← HNB.out]
                          have h9 := ownsRow_mono Hown7.out hBw
                          simpa using h9
                        have hlen7 : (insN x0 o).length = N5 + 1 + (m - t) := by rw [Hins.out, List.length_append, List.length_cons, List.length_take, List.length_drop, Hm.out, HN5.out.symm]; have := Hm.out; omega
                        go_roundw
                        case rel => exact ⟨j + 1, g7, c7, by rw [Hsucc.out, hlen7], by go_num, by omega, by rw [Hsucc.out, hlen7]; exact ho7, hbw7⟩
                        case measure => simp [intOf]; omega
                      · obtain rfl : m = t := by omega
                        obtain rfl : m = cap := by omega
                        obtain ⟨wr4, hwr4e⟩ : ∃ W, W = wr.drew := ⟨_, rfl⟩
                        rw [← hwr4e]
                        have hb65 : Below w5.heap.size w5 wr4 := by rw [hwr4e]; exact bel_drewN Hb6.out _
                        have hwr4 : Below w.heap.size w wr4 := Hbw5.out.trans (hb65.mono Hbw5.out.size)
                        have hcell4 : ∀ q (hq : q < o.length), wr4.cell? ⟨g, q, none⟩ = some (.int .i64 (o[q]'hq)) := fun q hq => cell_later hb65 (Hcell5.out q hq)
                        have hd4 := cell_later hb65 Hx5.out
                        have hle4 := Hle4.out
                        have hgt4 := Hgt4.out
                        have hm := Hm.out
                        have hsucc := Hs.out
                        rw [← Ho.out] at hsucc
                        have Hwr4e := Lib.hid hwr4e; have Hb65 := Lib.hid hb65; clear hwr4e hb65
                        obtain ⟨B1, hB1⟩ : ∃ n, n = wr4.heap.size := ⟨_, rfl⟩
                        have hlit : (wr4.alloc (.cells #[] 3)).ownsRow B1 3 1 (.slice (some ⟨wr4.heap.size, 0, none⟩) 0 0) 0 [] := World.ownsRow_lit (base := B1) (e := 3) (size := 1) wr4 #[] 0 (by rw [hB1]; exact Nat.le_refl _) (by decide) rfl
                        obtain ⟨W1, hW1⟩ : ∃ W, W = wr4.alloc (.cells #[] 3) := ⟨_, rfl⟩
                        rw [← hW1] at hlit
                        have hbW1 : Below B1 wr4 W1 := by rw [hW1, hB1]; exact below_alloc1 _ _
                        have hB1l : B1 ≤ W1.heap.size := by have := hbW1.size; omega
                        have hins := insN_split x0 o m (by omega) hle4 hgt4
                        obtain ⟨NA, hNA⟩ : ∃ L, L = (o.take m).map intv := ⟨_, rfl⟩
                        obtain ⟨NB, hNB⟩ : ∃ L, L = (o.drop m).map intv := ⟨_, rfl⟩
                        have hNAl : NA.length = m * 1 := by rw [hNA, List.length_map, List.length_take]; omega
                        have hNBl : NB.length = 0 * 1 := by rw [hNB, List.length_map, List.length_drop]; omega
                        have hNA1 : ∀ u ∈ NA, u.oneCell' = true := by rw [hNA]; intro u hu; obtain ⟨z, _, rfl⟩ := List.mem_map.1 hu; rfl
                        have hNB1 : ∀ u ∈ NB, u.oneCell' = true := by rw [hNB]; intro u hu; obtain ⟨z, _, rfl⟩ := List.mem_map.1 hu; rfl
                        have hcellsA : ∀ W, Below B1 wr4 W → ∀ z u, NA[z]? = some u → ∃ b off, (some ⟨g, 0, none⟩ : Option Addr) = some ⟨b, off, none⟩ ∧ W.cell? ⟨b, off + z, none⟩ = some u := fun W hb z u hu => ⟨g, 0, rfl, by
                          rw [Nat.zero_add]
                          have hjt : z < m := by have := (List.getElem?_eq_some_iff.1 hu).1; omega
                          have hjo : z < o.length := by omega
                          have e1 := hcell4 z hjo
                          have : NA[z]? = some (.int .i64 (o[z]'hjo)) := by rw [hNA, List.getElem?_map, List.getElem?_take, if_pos hjt, List.getElem?_eq_getElem hjo]; rfl
                          rw [hu] at this
                          rw [this]
                          exact cell_later (by rw [← hB1]; exact hb) e1⟩
                        have hcellsB : ∀ W, Below B1 wr4 W → ∀ z u, NB[z]? = some u → ∃ b off, (some ⟨g, 0, none⟩ : Option Addr) = some ⟨b, off, none⟩ ∧ W.cell? ⟨b, off + z, none⟩ = some u := fun W hb z u hu => absurd (List.getElem?_eq_some_iff.1 hu).1 (by omega)
                        have hcA := hcellsA W1 hbW1
                        have hd0' : ∀ W, Below B1 wr4 W → W.cell? ⟨b, off + j * 4, none⟩ = some (.int .i64 x0) := fun W hb => cell_later (by rw [← hB1]; exact hb) hd4
                        have y1 : (m : Int) ≤ (m : Int) := by omega
                        have y2 : (m : Int) ≤ (m : Int) := by omega
                        have y3 : m ≤ m := by omega
                        have y4 : m ≤ m := hmc
                        have HW1 := Lib.hid hW1; have HbW1 := Lib.hid hbW1; have Hins := Lib.hid hins; have HNA := Lib.hid hNA; have HNB := Lib.hid hNB; have HNAl := Lib.hid hNAl; have HNBl := Lib.hid hNBl; have HNA1 := Lib.hid hNA1; have HNB1 := Lib.hid hNB1; have HcellsA := Lib.hid hcellsA; have HcellsB := Lib.hid hcellsB; have HcA := Lib.hid hcA; have Hd0' := Lib.hid hd0'; have Hlit := Lib.hid hlit; have HB1 := Lib.hid hB1; have Hcell4 := Lib.hid hcell4; have Hd4 := Lib.hid hd4; have Hle4 := Lib.hid hle4; have Hgt4 := Lib.hid hgt4; have Hm := Lib.hid hm; have Hsucc := Lib.hid hsucc; have Hwr4 := Lib.hid hwr4; clear hW1 hbW1 hins hNA hNB hNAl hNBl hNA1 hNB1 hcellsA hcellsB hcA hd0' hlit hB1 hcell4 hd4 hle4 hgt4 hm hsucc hwr4
                        go_upto_region 24 with fail
                        rw [← HW1.out, ← HB1.out]
                        go_upto_region 25 with (at_builtin; (refine wpList_append_from elem_intF rfl (.tmp 85) (.tmp 88) rfl B1 (.slice (some ⟨B1, 0, none⟩) 0 0) 0 [] rfl (by have h9 := Hlit.out; rw [← HB1.out] at h9; exact h9) (some ⟨g, 0, none⟩) m m NA rfl HNAl.out HcA.out HNA1.out (by omega) (by unfold maxLen; omega) hB1l ?_; intro v5 w5 hown5 hg5 hm5; obtain ⟨pa5, pc5, rfl⟩ := own_shape hown5; generalize hN5 : 0 + m = N5 at hown5 ⊢; have Hown5 := Lib.hid hown5; have Hg5 := Lib.hid hg5; have HN5 := Lib.hid hN5; clear hown5 hg5 hm5 hN5))
                        have hb5 : Below B1 wr4 w5 := bel_own HbW1.out (by have h9 := Hlit.out; rw [← HB1.out] at h9; exact h9) (Nat.le_refl _) Hg5.out hB1l
                        have hz5 : B1 ≤ w5.heap.size := by have := hb5.size; rw [← HB1.out] at this; exact this
                        have hN5b : N5 ≤ 1000 := by have := HN5.out; omega
                        have hd5 := Hd0'.out w5 hb5
                        have Hb5 := Lib.hid hb5; clear hb5
                        go_upto_region 26 with (at_builtin; (refine wpList_append_some elem_intF (w := w5) rfl (.tmp 90) (.tmp 96) rfl B1 (.slice pa5 N5 pc5) N5 _ rfl Hown5.out 1 (by decide) #[.int .i64 x0] rfl rfl (by simp [Value.oneCell']) (by omega) (by unfold maxLen; omega) hz5 ?_; intro g6 c6 w6 hown6 hg6 hm6; have Hown6 := Lib.hid hown6; have Hg6 := Lib.hid hg6; clear hown6 hg6 hm6))
                        have hb6 : Below B1 wr4 w6 := bel_own Hb5.out Hown5.out (Nat.le_refl _) Hg6.out hz5
                        have hz6 : B1 ≤ w6.heap.size := by have := hb6.size; rw [← HB1.out] at this; exact this
                        have hcB := HcellsB.out w6 hb6
                        have Hb6 := Lib.hid hb6; have HcB := Lib.hid hcB; clear hb6 hcB
                        clear hd5
                        go_wp2_with (at_builtin; (refine wpList_append_from elem_intF rfl (.tmp 98) (.tmp 101) rfl B1 (.slice (some ⟨g6, 0, none⟩) (N5 + 1) c6) (N5 + 1) _ rfl Hown6.out (some ⟨g, 0, none⟩) 0 0 NB rfl HNBl.out HcB.out HNB1.out (by omega) (by unfold maxLen; omega) hz6 ?_; intro v7 w7 hown7 hg7 hm7; rw [Nat.add_zero] at hown7; obtain ⟨g7, c7, rfl, _⟩ := ownsRow_some hown7 (by omega); have Hown7 := Lib.hid hown7; have Hg7 := Lib.hid hg7; clear hown7 hg7 hm7))
                        have hb7 : Below B1 wr4 w7 := bel_own Hb6.out Hown6.out (Nat.le_refl _) Hg7.out hz6
                        have hBw : w.heap.size ≤ B1 := by rw [HB1.out]; exact Hwr4.out.size
                        have hbw7 : Below w.heap.size w w7 := Hwr4.out.trans (hb7.mono hBw)
                        have ho7 : w7.ownsRow w.heap.size 3 1 (.slice (some ⟨g7, 0, none⟩) (N5 + 1) c7) (N5 + 1) ((insN x0 o).map intv) := by
                          rw [Hins.out, List.map_append, List.map_cons, ← HNA.out, ← HNB.out]
                          have h9 := ownsRow_mono Hown7.out hBw
                          simpa using h9
                        have hlen7 : (insN x0 o).length = N5 + 1 := by rw [Hins.out, List.length_append, List.length_cons, List.length_take, List.length_drop, Hm.out, HN5.out.symm]; have := Hm.out; omega
                        go_roundw
                        case rel => exact ⟨j + 1, g7, c7, by rw [Hsucc.out, hlen7], by go_num, by omega, by rw [Hsucc.out, hlen7]; exact ho7, hbw7⟩
                        case measure => simp [intOf]; omega
                · have hs := Hno.out (by rw [Hsel.out, decide_eq_false hlt4]; rfl)
                  have u1 : (hf : Int) ≤ (A : Int) := by omega
                  have u2 : decide ((hf : Int) ≤ (A : Int)) = true := decide_eq_true u1
                  have u4 : decide (hf ≤ A) = true := decide_eq_true (by omega)
                  have Hs := Lib.hid hs; clear hs
                  go_wp2_with fail
                  refine (Hmx.out _).mono ?_
                  rintro e w5 ⟨rfl, hb5⟩
                  have hb5o := Hb3.out.trans (hb5.mono Hb3.out.size)
                  have hbw5 := Hbw3.out.trans (hb5.mono Hbw3.out.size)
                  have ho5 := ownsRow_below Hown.out hb5o
                  have Hb5 := Lib.hid hb5; have Hb5o := Lib.hid hb5o; have Hbw5 := Lib.hid hbw5; have Ho5 := Lib.hid ho5; clear hb5 hb5o hbw5 ho5
                  go_wp2_with fail
                  go_roundw
                  case rel => exact ⟨j + 1, g, cap, by rw [Hs.out, ← Ho.out, ← Hm.out], by go_num, by omega, by rw [Hs.out, ← Ho.out, ← Hm.out]; exact Ho5.out, Hbw5.out⟩
                  case measure => simp [intOf]; omega
        · obtain rfl : k = j := by omega
          have hfin : outOf l k = refOf l := by
            unfold outOf refOf
            rw [List.take_of_length_le (by rw [List.length_zipIdx]; have := Hn.out; omega)]
          rw [ho, hfin] at hown
          rw [ho, hfin] at hm
          have Hbw2 := Lib.hid hbw2; have Hfin := Lib.hid hfin; clear hbw2 hfin
          subst hm
          have Hown := Lib.hid hown; clear hown
          go_wp2_with fail
          go_ret
          exact ⟨_, rfl, Hown.out, Hbw2.out⟩
end Go.Proofs.Ytoljhahmmdibfaa
