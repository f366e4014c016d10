/- The walk of LexMany: it returns true. No condition. -/
import Derived.Test.YtoljhahmmdibfaaLexV
import Derived.Test.YtoljhahmmdibfaaLexY
namespace Go.Proofs.Ytoljhahmmdibfaa
open Go.RowKit
open LexM (Bs Wd Ln St)

abbrev ba (t : Bs) : ByteArray := ⟨t.toArray⟩
theorem ba_append (a b : Bs) : ba a ++ ba b = ba (a ++ b) := by
  apply ByteArray.ext
  simp [ba]
theorem lines_call (t : Bs) (h : t.length ≤ 65536) (r : LexM.Res) (hr : LexM.lines t = r) (w : World) : Calls Try.prog 31 #[.string (ba t)] w (LinesPost w r) := by
  have := lexLines_any (ba t) (by show t.toArray.size ≤ _; simp; omega) w
  have e : (ba t).data.toList = t := rfl
  rw [e, hr] at this
  exact this

set_option maxRecDepth 10000 in
set_option maxHeartbeats 4000000 in
theorem lexMany_true (a b : Int) (ha : 0 ≤ a ∧ a ≤ 65535) (hb : 0 ≤ b ∧ b ≤ 65535) (w : World) : Calls Try.prog 10 #[.int .u16 a, .int .u16 b] w fun e w' => e = .returned (.bool true) ∧ Below w.heap.size w w' := by
  obtain ⟨n, hn⟩ : ∃ n : Nat, (n : Int) = a % 50 := ⟨(a % 50).toNat, by omega⟩
  obtain ⟨m, hm⟩ : ∃ m : Nat, (m : Int) = b % 2010 := ⟨(b % 2010).toNat, by omega⟩
  have hn2 : n < 50 := by omega
  have hm2 : m < 2010 := by omega
  have hn3 : a % 50 = n := hn.symm
  have hm3 : b % 2010 = m := hm.symm
  clear hn hm
  go_enter Try.func10, Try.ntmps10
  go_wp2_with fail
  go_loop [7, 19] (fun s i => ∃ k : Nat, k ≤ n ∧ i = .int .i64 k ∧ s = .string (ba (LexM.rep [97, 32] k))) (fun _ i => n - (intOf i).toNat)
  case atStart => exact ⟨0, Nat.zero_le _, rfl, rfl⟩
  case round =>
    obtain ⟨k, hk, rfl, rfl⟩ := hrel
    by_cases hlt : k < n
    · have hcat : ba (LexM.rep [97, 32] k) ++ ⟨#[97, 32]⟩ = ba (LexM.rep [97, 32] (k + 1)) := ba_append _ _
      have hsz : (ba (LexM.rep [97, 32] k)).size ≤ 1000 := by
        have := LexM.rep_len [97, 32] k
        show (LexM.rep [97, 32] k).toArray.size ≤ _
        simp at this ⊢
        omega
      have hsz2 : (LexM.rep [97, 32] k).length ≤ 1000 := by rw [LexM.rep_len]; simp; omega
      have Hcat := Lib.hid hcat; clear hcat
      go_wp2_with fail
      go_round
      case rel => exact ⟨k + 1, by omega, by go_num, by rw [Hcat.out]⟩
      case measure => simp [intOf]; omega
    · obtain rfl : k = n := by omega
      by_cases h40 : k ≤ 40
      · have HL := Lib.hid (fun w => lines_call (LexM.rep [97, 32] k) (by rw [LexM.rep_len]; simp; omega) _ (LexM.lines_row k h40) w)
        by_cases h0 : k = 0
        · subst h0
          rw [if_pos rfl] at HL
          go_wp2_with fail
          refine (HL.out _).mono ?_
          rintro e w1 ⟨v1, rfl, hr1, hb1⟩
          dsimp only at hr1
          obtain ⟨p1, c1, rfl⟩ := ln_shape hr1
          have Hr1 := Lib.hid hr1; have Hb1 := Lib.hid hb1; clear hr1 hb1
          go_wp2_with fail
          go_loop [8, 65] (fun s i => ∃ j : Nat, j ≤ m ∧ i = .int .i64 j ∧ s = .string (ba (LexM.rep [10, 32, 98, 10] j))) (fun _ i => m - (intOf i).toNat)
          case atStart => exact ⟨0, Nat.zero_le _, rfl, rfl⟩
          case round =>
            obtain ⟨j, hj, rfl, rfl⟩ := hrel
            by_cases hlt2 : j < m
            · have hcat : ba (LexM.rep [10, 32, 98, 10] j) ++ ⟨#[10, 32, 98, 10]⟩ = ba (LexM.rep [10, 32, 98, 10] (j + 1)) := ba_append _ _
              have hsz2 : (LexM.rep [10, 32, 98, 10] j).length ≤ 10000 := by rw [LexM.rep_len]; simp; omega
              have Hcat := Lib.hid hcat; clear hcat
              go_wp2_with fail
              go_round
              case rel => exact ⟨j + 1, by omega, by go_num, by rw [Hcat.out]⟩
              case measure => simp [intOf]; omega
            · obtain rfl : j = m := by omega
              by_cases h2000 : j ≤ 2000
              · have HM := Lib.hid (fun w => lines_call (LexM.rep [10, 32, 98, 10] j) (by rw [LexM.rep_len]; simp; omega) _ (LexM.lines_col j h2000) w)
                go_wp2_with fail
                refine (HM.out _).mono ?_
                rintro e w2 ⟨v2, rfl, hr2, hb2⟩
                dsimp only at hr2
                obtain ⟨p2, c2, rfl⟩ := ln_shape hr2
                have hk2 : w2.heap[w1.heap.size]? = some (.cells #[.int .i64 0, .int .i64 0] 47 (0, 0)) := by
                  rw [hb2.block _ (by simp)]; exact heap_alloc_new w1 _
                have z0 := cells_at hk2 0
                have z1 := cells_at hk2 1
                have y0 := frozen_at hk2 0
                have y1 := frozen_at hk2 1
                simp only [List.getElem?_toArray, List.getElem?_cons_succ, List.getElem?_cons_zero] at z0 z1
                have hc2 := hr2
                obtain ⟨_, _, hcc, hcl, hcm, _⟩ := hc2
                simp only [List.cons.injEq, and_true, Value.slice.injEq] at hcc
                have hbel2 : Below w.heap.size w w2 := (Hb1.out.alloc Hb1.out.size _).trans (hb2.mono (by have := Hb1.out.size; simp; omega))
                have Hr2 := Lib.hid hr2; have Hb2 := Lib.hid hb2; have Hk2 := Lib.hid hk2; have Hbel2 := Lib.hid hbel2; clear hr2 hb2 hk2 hbel2
                clear hcc hcl hcm
                go_wp2_with fail
                refine (fixed05 _).mono ?_
                rintro e w3 ⟨rfl, hb3⟩
                have hbel3 := Hbel2.out.trans (((((Below.refl _ _).setCell (B := w.heap.size) (by have := Hb1.out.size; simpa using this) _).setCell (by have := Hb1.out.size; simpa using this) _).trans (hb3.mono (by have := Hbel2.out.size; simp; omega))))
                have Hb3 := Lib.hid hb3; have Hbel3 := Lib.hid hbel3; clear hb3 hbel3
                go_wp2_with fail
                go_ret
                exact ⟨rfl, Hbel3.out⟩
              · have h2001 : 2000 < j := by omega
                have HM := Lib.hid (fun w => lines_call (LexM.rep [10, 32, 98, 10] j) (by rw [LexM.rep_len]; simp; omega) _ (LexM.lines_colLong j h2001 (by omega)) w)
                go_wp2_with fail
                refine (HM.out _).mono ?_
                rintro e w2 ⟨v2, rfl, hr2, hb2⟩
                dsimp only at hr2
                obtain ⟨p2, c2, rfl⟩ := ln_shape hr2
                have hk2 : w2.heap[w1.heap.size]? = some (.cells #[.int .i64 0, .int .i64 0] 47 (0, 0)) := by
                  rw [hb2.block _ (by simp)]; exact heap_alloc_new w1 _
                have z0 := cells_at hk2 0
                have z1 := cells_at hk2 1
                have y0 := frozen_at hk2 0
                have y1 := frozen_at hk2 1
                simp only [List.getElem?_toArray, List.getElem?_cons_succ, List.getElem?_cons_zero] at z0 z1
                have hc2 := hr2
                obtain ⟨_, _, hcc, hcl, hcm, _⟩ := hc2
                simp only [List.cons.injEq, and_true, Value.slice.injEq] at hcc
                have hbel2 : Below w.heap.size w w2 := (Hb1.out.alloc Hb1.out.size _).trans (hb2.mono (by have := Hb1.out.size; simp; omega))
                have Hr2 := Lib.hid hr2; have Hb2 := Lib.hid hb2; have Hk2 := Lib.hid hk2; have Hbel2 := Lib.hid hbel2; clear hr2 hb2 hk2 hbel2
                clear hcc hcl hcm
                go_wp2_with fail
                refine (fixed05 _).mono ?_
                rintro e w3 ⟨rfl, hb3⟩
                have hg2 : w1.heap.size < w2.heap.size := (Array.getElem?_eq_some_iff.1 Hk2.out).1
                have hk3 : w3.heap[w1.heap.size]? = some (.cells #[.int .i64 4002, .int .i64 2] 47 (0, 0)) := by
                  rw [hb3.block _ (by simpa using hg2)]
                  have k1 := heap_setCell_same _ w1.heap.size 0 _ _ (.int .i64 4002) Hk2.out
                  rw [heap_setCell_same _ w1.heap.size 1 _ _ (.int .i64 2) k1]
                  rfl
                have u0 := cells_at hk3 0
                have u1 := cells_at hk3 1
                simp only [List.getElem?_toArray, List.getElem?_cons_succ, List.getElem?_cons_zero] at u0 u1
                have hbel3 := Hbel2.out.trans (((((Below.refl _ _).setCell (B := w.heap.size) (by have := Hb1.out.size; simpa using this) _).setCell (by have := Hb1.out.size; simpa using this) _).trans (hb3.mono (by have := Hbel2.out.size; simp; omega))))
                have Hb3 := Lib.hid hb3; have Hbel3 := Lib.hid hbel3; have Hk3 := Lib.hid hk3; clear hb3 hbel3 hk3
                go_wp2_with fail
                go_ret
                exact ⟨rfl, Hbel3.out⟩
        · rw [if_neg h0] at HL
          have hk0 : 0 < k := by omega
          go_wp2_with fail
          refine (HL.out _).mono ?_
          rintro e w1 ⟨v1, rfl, hr1, hb1⟩
          dsimp only at hr1
          obtain ⟨p1, c1, rfl, g1, g2, g3⟩ := ln_cell hr1
          obtain ⟨b1, o1, hx, k1, v1, k2, r1⟩ := g3 0 (by simp)
          subst hx
          obtain ⟨wa, wc, rfl⟩ := ln_shape r1
          simp only [List.getElem_cons_zero, Nat.zero_mul, Nat.add_zero, List.length_map, List.length_range, List.length_cons, List.length_nil, Nat.zero_add] at k1 k2 g1
          unfold maxLen at g2
          have ac1 : ∀ o : Obj, (w1.alloc o).cell? ⟨b1, o1, none⟩ = some _ := fun o => ((Frm.refl _ w1).alloc o).keep k1
          have ac2 : ∀ o : Obj, (w1.alloc o).cell? ⟨b1, o1 + 1, none⟩ = some _ := fun o => ((Frm.refl _ w1).alloc o).keep k2
          have hkk : ((k : Int) != k) = false := by simp
          have Hr1 := Lib.hid hr1; have Hb1 := Lib.hid hb1; have Hg3 := Lib.hid g3; have Hr1 := Lib.hid r1; clear hr1 hb1 g3 r1
          clear h0
          go_wp2_with fail
          go_loop [8, 65] (fun s i => ∃ j : Nat, j ≤ m ∧ i = .int .i64 j ∧ s = .string (ba (LexM.rep [10, 32, 98, 10] j))) (fun _ i => m - (intOf i).toNat)
          case atStart => exact ⟨0, Nat.zero_le _, rfl, rfl⟩
          case round =>
            obtain ⟨j, hj, rfl, rfl⟩ := hrel
            by_cases hlt2 : j < m
            · have hcat : ba (LexM.rep [10, 32, 98, 10] j) ++ ⟨#[10, 32, 98, 10]⟩ = ba (LexM.rep [10, 32, 98, 10] (j + 1)) := ba_append _ _
              have hsz2 : (LexM.rep [10, 32, 98, 10] j).length ≤ 10000 := by rw [LexM.rep_len]; simp; omega
              have Hcat := Lib.hid hcat; clear hcat
              go_wp2_with fail
              go_round
              case rel => exact ⟨j + 1, by omega, by go_num, by rw [Hcat.out]⟩
              case measure => simp [intOf]; omega
            · obtain rfl : j = m := by omega
              by_cases h2000 : j ≤ 2000
              · have HM := Lib.hid (fun w => lines_call (LexM.rep [10, 32, 98, 10] j) (by rw [LexM.rep_len]; simp; omega) _ (LexM.lines_col j h2000) w)
                go_wp2_with fail
                refine (HM.out _).mono ?_
                rintro e w2 ⟨v2, rfl, hr2, hb2⟩
                dsimp only at hr2
                obtain ⟨p2, c2, rfl⟩ := ln_shape hr2
                have hk2 : w2.heap[w1.heap.size]? = some (.cells #[.int .i64 0, .int .i64 0] 47 (0, 0)) := by
                  rw [hb2.block _ (by simp)]; exact heap_alloc_new w1 _
                have z0 := cells_at hk2 0
                have z1 := cells_at hk2 1
                have y0 := frozen_at hk2 0
                have y1 := frozen_at hk2 1
                simp only [List.getElem?_toArray, List.getElem?_cons_succ, List.getElem?_cons_zero] at z0 z1
                have hc2 := hr2
                obtain ⟨_, _, hcc, hcl, hcm, _⟩ := hc2
                simp only [List.cons.injEq, and_true, Value.slice.injEq] at hcc
                have hbel2 : Below w.heap.size w w2 := (Hb1.out.alloc Hb1.out.size _).trans (hb2.mono (by have := Hb1.out.size; simp; omega))
                have Hr2 := Lib.hid hr2; have Hb2 := Lib.hid hb2; have Hk2 := Lib.hid hk2; have Hbel2 := Lib.hid hbel2; clear hr2 hb2 hk2 hbel2
                clear hcc hcl hcm
                go_wp2_with fail
                refine (fixed05 _).mono ?_
                rintro e w3 ⟨rfl, hb3⟩
                have hbel3 := Hbel2.out.trans (((((Below.refl _ _).setCell (B := w.heap.size) (by have := Hb1.out.size; simpa using this) _).setCell (by have := Hb1.out.size; simpa using this) _).trans (hb3.mono (by have := Hbel2.out.size; simp; omega))))
                have Hb3 := Lib.hid hb3; have Hbel3 := Lib.hid hbel3; clear hb3 hbel3
                go_wp2_with fail
                go_ret
                exact ⟨rfl, Hbel3.out⟩
              · have h2001 : 2000 < j := by omega
                have HM := Lib.hid (fun w => lines_call (LexM.rep [10, 32, 98, 10] j) (by rw [LexM.rep_len]; simp; omega) _ (LexM.lines_colLong j h2001 (by omega)) w)
                go_wp2_with fail
                refine (HM.out _).mono ?_
                rintro e w2 ⟨v2, rfl, hr2, hb2⟩
                dsimp only at hr2
                obtain ⟨p2, c2, rfl⟩ := ln_shape hr2
                have hk2 : w2.heap[w1.heap.size]? = some (.cells #[.int .i64 0, .int .i64 0] 47 (0, 0)) := by
                  rw [hb2.block _ (by simp)]; exact heap_alloc_new w1 _
                have z0 := cells_at hk2 0
                have z1 := cells_at hk2 1
                have y0 := frozen_at hk2 0
                have y1 := frozen_at hk2 1
                simp only [List.getElem?_toArray, List.getElem?_cons_succ, List.getElem?_cons_zero] at z0 z1
                have hc2 := hr2
                obtain ⟨_, _, hcc, hcl, hcm, _⟩ := hc2
                simp only [List.cons.injEq, and_true, Value.slice.injEq] at hcc
                have hbel2 : Below w.heap.size w w2 := (Hb1.out.alloc Hb1.out.size _).trans (hb2.mono (by have := Hb1.out.size; simp; omega))
                have Hr2 := Lib.hid hr2; have Hb2 := Lib.hid hb2; have Hk2 := Lib.hid hk2; have Hbel2 := Lib.hid hbel2; clear hr2 hb2 hk2 hbel2
                clear hcc hcl hcm
                go_wp2_with fail
                refine (fixed05 _).mono ?_
                rintro e w3 ⟨rfl, hb3⟩
                have hg2 : w1.heap.size < w2.heap.size := (Array.getElem?_eq_some_iff.1 Hk2.out).1
                have hk3 : w3.heap[w1.heap.size]? = some (.cells #[.int .i64 4002, .int .i64 2] 47 (0, 0)) := by
                  rw [hb3.block _ (by simpa using hg2)]
                  have k1 := heap_setCell_same _ w1.heap.size 0 _ _ (.int .i64 4002) Hk2.out
                  rw [heap_setCell_same _ w1.heap.size 1 _ _ (.int .i64 2) k1]
                  rfl
                have u0 := cells_at hk3 0
                have u1 := cells_at hk3 1
                simp only [List.getElem?_toArray, List.getElem?_cons_succ, List.getElem?_cons_zero] at u0 u1
                have hbel3 := Hbel2.out.trans (((((Below.refl _ _).setCell (B := w.heap.size) (by have := Hb1.out.size; simpa using this) _).setCell (by have := Hb1.out.size; simpa using this) _).trans (hb3.mono (by have := Hbel2.out.size; simp; omega))))
                have Hb3 := Lib.hid hb3; have Hbel3 := Lib.hid hbel3; have Hk3 := Lib.hid hk3; clear hb3 hbel3 hk3
                go_wp2_with fail
                go_ret
                exact ⟨rfl, Hbel3.out⟩
      · have h41 : 40 < k := by omega
        have HL := Lib.hid (fun w => lines_call (LexM.rep [97, 32] k) (by rw [LexM.rep_len]; simp; omega) _ (LexM.lines_rowLong k h41 (by omega)) w)
        go_wp2_with fail
        refine (HL.out _).mono ?_
        rintro e w1 ⟨v1, rfl, hr1, hb1⟩
        dsimp only at hr1
        obtain ⟨p1, c1, rfl⟩ := ln_shape hr1
        have Hr1 := Lib.hid hr1; have Hb1 := Lib.hid hb1; clear hr1 hb1
        go_wp2_with fail
        go_loop [8, 65] (fun s i => ∃ j : Nat, j ≤ m ∧ i = .int .i64 j ∧ s = .string (ba (LexM.rep [10, 32, 98, 10] j))) (fun _ i => m - (intOf i).toNat)
        case atStart => exact ⟨0, Nat.zero_le _, rfl, rfl⟩
        case round =>
          obtain ⟨j, hj, rfl, rfl⟩ := hrel
          by_cases hlt2 : j < m
          · have hcat : ba (LexM.rep [10, 32, 98, 10] j) ++ ⟨#[10, 32, 98, 10]⟩ = ba (LexM.rep [10, 32, 98, 10] (j + 1)) := ba_append _ _
            have hsz2 : (LexM.rep [10, 32, 98, 10] j).length ≤ 10000 := by rw [LexM.rep_len]; simp; omega
            have Hcat := Lib.hid hcat; clear hcat
            go_wp2_with fail
            go_round
            case rel => exact ⟨j + 1, by omega, by go_num, by rw [Hcat.out]⟩
            case measure => simp [intOf]; omega
          · obtain rfl : j = m := by omega
            by_cases h2000 : j ≤ 2000
            · have HM := Lib.hid (fun w => lines_call (LexM.rep [10, 32, 98, 10] j) (by rw [LexM.rep_len]; simp; omega) _ (LexM.lines_col j h2000) w)
              go_wp2_with fail
              refine (HM.out _).mono ?_
              rintro e w2 ⟨v2, rfl, hr2, hb2⟩
              dsimp only at hr2
              obtain ⟨p2, c2, rfl⟩ := ln_shape hr2
              have hk2 : w2.heap[w1.heap.size]? = some (.cells #[.int .i64 1, .int .i64 81] 47 (0, 0)) := by
                rw [hb2.block _ (by simp)]; exact heap_alloc_new w1 _
              have z0 := cells_at hk2 0
              have z1 := cells_at hk2 1
              have y0 := frozen_at hk2 0
              have y1 := frozen_at hk2 1
              simp only [List.getElem?_toArray, List.getElem?_cons_succ, List.getElem?_cons_zero] at z0 z1
              have hc2 := hr2
              obtain ⟨_, _, hcc, hcl, hcm, _⟩ := hc2
              simp only [List.cons.injEq, and_true, Value.slice.injEq] at hcc
              have hbel2 : Below w.heap.size w w2 := (Hb1.out.alloc Hb1.out.size _).trans (hb2.mono (by have := Hb1.out.size; simp; omega))
              have Hr2 := Lib.hid hr2; have Hb2 := Lib.hid hb2; have Hk2 := Lib.hid hk2; have Hbel2 := Lib.hid hbel2; clear hr2 hb2 hk2 hbel2
              clear hcc hcl hcm
              go_wp2_with fail
              refine (fixed05 _).mono ?_
              rintro e w3 ⟨rfl, hb3⟩
              have hbel3 := Hbel2.out.trans (((((Below.refl _ _).setCell (B := w.heap.size) (by have := Hb1.out.size; simpa using this) _).setCell (by have := Hb1.out.size; simpa using this) _).trans (hb3.mono (by have := Hbel2.out.size; simp; omega))))
              have Hb3 := Lib.hid hb3; have Hbel3 := Lib.hid hbel3; clear hb3 hbel3
              go_wp2_with fail
              go_ret
              exact ⟨rfl, Hbel3.out⟩
            · have h2001 : 2000 < j := by omega
              have HM := Lib.hid (fun w => lines_call (LexM.rep [10, 32, 98, 10] j) (by rw [LexM.rep_len]; simp; omega) _ (LexM.lines_colLong j h2001 (by omega)) w)
              go_wp2_with fail
              refine (HM.out _).mono ?_
              rintro e w2 ⟨v2, rfl, hr2, hb2⟩
              dsimp only at hr2
              obtain ⟨p2, c2, rfl⟩ := ln_shape hr2
              have hk2 : w2.heap[w1.heap.size]? = some (.cells #[.int .i64 1, .int .i64 81] 47 (0, 0)) := by
                rw [hb2.block _ (by simp)]; exact heap_alloc_new w1 _
              have z0 := cells_at hk2 0
              have z1 := cells_at hk2 1
              have y0 := frozen_at hk2 0
              have y1 := frozen_at hk2 1
              simp only [List.getElem?_toArray, List.getElem?_cons_succ, List.getElem?_cons_zero] at z0 z1
              have hc2 := hr2
              obtain ⟨_, _, hcc, hcl, hcm, _⟩ := hc2
              simp only [List.cons.injEq, and_true, Value.slice.injEq] at hcc
              have hbel2 : Below w.heap.size w w2 := (Hb1.out.alloc Hb1.out.size _).trans (hb2.mono (by have := Hb1.out.size; simp; omega))
              have Hr2 := Lib.hid hr2; have Hb2 := Lib.hid hb2; have Hk2 := Lib.hid hk2; have Hbel2 := Lib.hid hbel2; clear hr2 hb2 hk2 hbel2
              clear hcc hcl hcm
              go_wp2_with fail
              refine (fixed05 _).mono ?_
              rintro e w3 ⟨rfl, hb3⟩
              have hg2 : w1.heap.size < w2.heap.size := (Array.getElem?_eq_some_iff.1 Hk2.out).1
              have hk3 : w3.heap[w1.heap.size]? = some (.cells #[.int .i64 4002, .int .i64 2] 47 (0, 0)) := by
                rw [hb3.block _ (by simpa using hg2)]
                have k1 := heap_setCell_same _ w1.heap.size 0 _ _ (.int .i64 4002) Hk2.out
                rw [heap_setCell_same _ w1.heap.size 1 _ _ (.int .i64 2) k1]
                rfl
              have u0 := cells_at hk3 0
              have u1 := cells_at hk3 1
              simp only [List.getElem?_toArray, List.getElem?_cons_succ, List.getElem?_cons_zero] at u0 u1
              have hbel3 := Hbel2.out.trans (((((Below.refl _ _).setCell (B := w.heap.size) (by have := Hb1.out.size; simpa using this) _).setCell (by have := Hb1.out.size; simpa using this) _).trans (hb3.mono (by have := Hbel2.out.size; simp; omega))))
              have Hb3 := Lib.hid hb3; have Hbel3 := Lib.hid hbel3; have Hk3 := Lib.hid hk3; clear hb3 hbel3 hk3
              go_wp2_with fail
              go_ret
              exact ⟨rfl, Hbel3.out⟩
end Go.Proofs.Ytoljhahmmdibfaa
