/- The walks of slices.SortStableFunc at luby.Note: swapRangeCmpFunc: two runs are exchanged. Printed by gen_stb.py. -/
import Derived.Test.YtoljhahmmdibfaaStbNoteK
import Derived.Deep.LoopGhost
import Derived.BigRegion
import Derived.Test.YtoljhahmmdibfaaRows
set_option linter.unusedVariables false
set_option linter.unusedSimpArgs false
namespace Go.Proofs.Ytoljhahmmdibfaa
open Go.Shelf Go.RowKit Go.Lib Go.Sort SortM StbA StbB
namespace StbNote
variable {α : Type} [Inhabited α] {f0 : α → Int} {f1 : α → Int} {f2 : α → Int} {f3 : α → Bool} {w0 : World} {blk off : Nat} {d0 : Array α}
set_option maxRecDepth 10000 in
set_option maxHeartbeats 4000000 in
theorem swapRange_any {d : Array α} {w : World} (R : RowK (enc f0 f1 f2 f3) 4 w0 blk off d0) (hs : d.size = d0.size) (S : SWK (enc f0 f1 f2 f3) 4 w0 blk off d w) (a b m cap : Nat) (hab : a + m ≤ b) (hb : b + m ≤ d0.size) (hn : d0.size ≤ 1000000) (cv : Value) :
    Calls Try.prog 92 #[.slice (some ⟨blk, off, none⟩) d0.size cap, .int .i64 a, .int .i64 b, .int .i64 m, cv] w fun e w' => e = .returned (.tuple #[]) ∧ SWK (enc f0 f1 f2 f3) 4 w0 blk off (swr d a b m) w' := by
  have hlen := size_swr d a b
  obtain ⟨N, hN⟩ : ∃ N, N = d0.size := ⟨_, rfl⟩
  rw [← hN] at hb hn hs ⊢
  have HS := Lib.hid S; have Hlen := Lib.hid hlen; clear S hlen
  go_enter Try.func92, Try.ntmps92
  go_wp2_with fail
  go_loopw [10] (fun i wr => ∃ k : Nat, k ≤ m ∧ i = .int .i64 k ∧ SWK (enc f0 f1 f2 f3) 4 w0 blk off (swr d a b k) wr) (fun i _ => m - (intOf i).toNat)
  case atStart => exact ⟨0, Nat.zero_le _, rfl, HS.out⟩
  case round =>
    obtain ⟨k, hk, rfl, S⟩ := hrel
    by_cases hlt : k < m
    · have hl := Hlen.out k
      obtain ⟨dk, hdk⟩ : ∃ dk, dk = swr d a b k := ⟨_, rfl⟩
      rw [← hdk] at S hl
      have hnx : swr d a b (k + 1) = swp dk (a + k) (b + k) := by rw [swr, ← hdk]
      have hEX := exch S R (a + k) (b + k) (by omega) (by omega)
      obtain ⟨p0, pf0, p1, pf1, p2, pf2, p3, pf3⟩ := cells S R (by omega) (a + k) (by omega)
      obtain ⟨q0, qf0, q1, qf1, q2, qf2, q3, qf3⟩ := cells S R (by omega) (b + k) (by omega)
      obtain ⟨x, hx⟩ : ∃ x, x = dk[a + k]! := ⟨_, rfl⟩
      obtain ⟨y, hy⟩ : ∃ y, y = dk[b + k]! := ⟨_, rfl⟩
      rw [← hx] at p0 p1 p2 p3 hEX
      rw [← hy] at q0 q1 q2 q3 hEX
      obtain ⟨x0, hx0⟩ : ∃ v, v = f0 x := ⟨_, rfl⟩
      obtain ⟨y0, hy0⟩ : ∃ v, v = f0 y := ⟨_, rfl⟩
      rw [← hx0] at p0 hEX
      rw [← hy0] at q0 hEX
      obtain ⟨x1, hx1⟩ : ∃ v, v = f1 x := ⟨_, rfl⟩
      obtain ⟨y1, hy1⟩ : ∃ v, v = f1 y := ⟨_, rfl⟩
      rw [← hx1] at p1 hEX
      rw [← hy1] at q1 hEX
      obtain ⟨x2, hx2⟩ : ∃ v, v = f2 x := ⟨_, rfl⟩
      obtain ⟨y2, hy2⟩ : ∃ v, v = f2 y := ⟨_, rfl⟩
      rw [← hx2] at p2 hEX
      rw [← hy2] at q2 hEX
      obtain ⟨x3, hx3⟩ : ∃ v, v = f3 x := ⟨_, rfl⟩
      obtain ⟨y3, hy3⟩ : ∃ v, v = f3 y := ⟨_, rfl⟩
      rw [← hx3] at p3 hEX
      rw [← hy3] at q3 hEX
      have na00 : ¬ off + (a + k) * 4 = off + (b + k) * 4 := by omega
      have nb00 : ¬ off + (b + k) * 4 = off + (a + k) * 4 := by omega
      have na01 : ¬ off + (a + k) * 4 = off + (b + k) * 4 + 1 := by omega
      have nb01 : ¬ off + (b + k) * 4 = off + (a + k) * 4 + 1 := by omega
      have na02 : ¬ off + (a + k) * 4 = off + (b + k) * 4 + 2 := by omega
      have nb02 : ¬ off + (b + k) * 4 = off + (a + k) * 4 + 2 := by omega
      have na03 : ¬ off + (a + k) * 4 = off + (b + k) * 4 + 3 := by omega
      have nb03 : ¬ off + (b + k) * 4 = off + (a + k) * 4 + 3 := by omega
      have na10 : ¬ off + (a + k) * 4 + 1 = off + (b + k) * 4 := by omega
      have nb10 : ¬ off + (b + k) * 4 + 1 = off + (a + k) * 4 := by omega
      have na11 : ¬ off + (a + k) * 4 + 1 = off + (b + k) * 4 + 1 := by omega
      have nb11 : ¬ off + (b + k) * 4 + 1 = off + (a + k) * 4 + 1 := by omega
      have na12 : ¬ off + (a + k) * 4 + 1 = off + (b + k) * 4 + 2 := by omega
      have nb12 : ¬ off + (b + k) * 4 + 1 = off + (a + k) * 4 + 2 := by omega
      have na13 : ¬ off + (a + k) * 4 + 1 = off + (b + k) * 4 + 3 := by omega
      have nb13 : ¬ off + (b + k) * 4 + 1 = off + (a + k) * 4 + 3 := by omega
      have na20 : ¬ off + (a + k) * 4 + 2 = off + (b + k) * 4 := by omega
      have nb20 : ¬ off + (b + k) * 4 + 2 = off + (a + k) * 4 := by omega
      have na21 : ¬ off + (a + k) * 4 + 2 = off + (b + k) * 4 + 1 := by omega
      have nb21 : ¬ off + (b + k) * 4 + 2 = off + (a + k) * 4 + 1 := by omega
      have na22 : ¬ off + (a + k) * 4 + 2 = off + (b + k) * 4 + 2 := by omega
      have nb22 : ¬ off + (b + k) * 4 + 2 = off + (a + k) * 4 + 2 := by omega
      have na23 : ¬ off + (a + k) * 4 + 2 = off + (b + k) * 4 + 3 := by omega
      have nb23 : ¬ off + (b + k) * 4 + 2 = off + (a + k) * 4 + 3 := by omega
      have na30 : ¬ off + (a + k) * 4 + 3 = off + (b + k) * 4 := by omega
      have nb30 : ¬ off + (b + k) * 4 + 3 = off + (a + k) * 4 := by omega
      have na31 : ¬ off + (a + k) * 4 + 3 = off + (b + k) * 4 + 1 := by omega
      have nb31 : ¬ off + (b + k) * 4 + 3 = off + (a + k) * 4 + 1 := by omega
      have na32 : ¬ off + (a + k) * 4 + 3 = off + (b + k) * 4 + 2 := by omega
      have nb32 : ¬ off + (b + k) * 4 + 3 = off + (a + k) * 4 + 2 := by omega
      have na33 : ¬ off + (a + k) * 4 + 3 = off + (b + k) * 4 + 3 := by omega
      have nb33 : ¬ off + (b + k) * 4 + 3 = off + (a + k) * 4 + 3 := by omega
      have w1 : IntKind.i64.wrap ((a : Int) + (k : Int)) = (a : Int) + (k : Int) := IntWalk.i64_in _ (by omega)
      have w2 : IntKind.i64.wrap ((b : Int) + (k : Int)) = (b : Int) + (k : Int) := IntWalk.i64_in _ (by omega)
      have n1 : ((a : Int) + (k : Int)).toNat = a + k := by omega
      have n2 : ((b : Int) + (k : Int)).toNat = b + k := by omega
      have u1 : (0 : Int) ≤ (a : Int) + (k : Int) := by omega
      have u2 : (0 : Int) ≤ (b : Int) + (k : Int) := by omega
      have v1 : (a : Int) + (k : Int) < (N : Int) := by omega
      have v2 : (b : Int) + (k : Int) < (N : Int) := by omega
      rw [← hnx] at hEX
      clear S
      have Hdk := Lib.hid hdk; have Hnx := Lib.hid hnx; have Hl := Lib.hid hl; have Hx := Lib.hid hx; have Hy := Lib.hid hy; have Hx0 := Lib.hid hx0; have Hy0 := Lib.hid hy0; have Hx1 := Lib.hid hx1; have Hy1 := Lib.hid hy1; have Hx2 := Lib.hid hx2; have Hy2 := Lib.hid hy2; have Hx3 := Lib.hid hx3; have Hy3 := Lib.hid hy3; have HEX := Lib.hid hEX; clear hdk hnx hl hx hy hx0 hy0 hx1 hy1 hx2 hy2 hx3 hy3 hEX
      go_wp2_with fail
      go_region
      all_goals
        go_wp2_with fail
        go_roundw
        case rel => exact ⟨k + 1, by omega, by go_num, HEX.out⟩
        case measure => simp [intOf]; omega
    · obtain rfl : k = m := by omega
      have HS := Lib.hid S; clear S
      go_wp2_with fail
      go_end0
      exact ⟨rfl, HS.out⟩
end StbNote
end Go.Proofs.Ytoljhahmmdibfaa
