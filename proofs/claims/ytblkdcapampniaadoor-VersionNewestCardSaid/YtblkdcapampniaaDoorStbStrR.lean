/- The walks of slices.SortStableFunc at string: swapRangeCmpFunc: two runs are exchanged. Printed by gen_stc.py. -/
import Derived.Test.YtblkdcapampniaaDoorStbStrK
import Derived.Deep.LoopGhost
import Derived.BigRegion
import Derived.Test.YtblkdcapampniaaDoorRows
set_option linter.unusedVariables false
set_option linter.unusedSimpArgs false
namespace Go.Proofs.YtblkdcapampniaaDoor
open Go.Shelf Go.RowKit Go.Lib Go.Sort SortM StbA StbB
namespace StbStr
variable {α : Type} [Inhabited α] {f0 : α → ByteArray} {w0 : World} {blk off : Nat} {d0 : Array α}
set_option maxRecDepth 10000 in
set_option maxHeartbeats 4000000 in
theorem swapRange_any {d : Array α} {w : World} (R : RowK (enc f0) 1 w0 blk off d0) (hs : d.size = d0.size) (S : SWK (enc f0) 1 w0 blk off d w) (a b m cap : Nat) (hab : a + m ≤ b) (hb : b + m ≤ d0.size) (hn : d0.size ≤ 1000000) (cv : Value) :
    Calls Tryd.prog 98 #[.slice (some ⟨blk, off, none⟩) d0.size cap, .int .i64 a, .int .i64 b, .int .i64 m, cv] w fun e w' => e = .returned (.tuple #[]) ∧ SWK (enc f0) 1 w0 blk off (swr d a b m) w' := by
  have hlen := size_swr d a b
  obtain ⟨N, hN⟩ : ∃ N, N = d0.size := ⟨_, rfl⟩
  rw [← hN] at hb hn hs ⊢
  have HS := Lib.hid S; have Hlen := Lib.hid hlen; clear S hlen
  go_enter Tryd.func98, Tryd.ntmps98
  go_wp2_with fail
  go_loopw [10] (fun i wr => ∃ k : Nat, k ≤ m ∧ i = .int .i64 k ∧ SWK (enc f0) 1 w0 blk off (swr d a b k) wr) (fun i _ => m - (intOf i).toNat)
  case atStart => exact ⟨0, Nat.zero_le _, rfl, HS.out⟩
  case round =>
    obtain ⟨k, hk, rfl, S⟩ := hrel
    by_cases hlt : k < m
    · have hl := Hlen.out k
      obtain ⟨dk, hdk⟩ : ∃ dk, dk = swr d a b k := ⟨_, rfl⟩
      rw [← hdk] at S hl
      have hnx : swr d a b (k + 1) = swp dk (a + k) (b + k) := by rw [swr, ← hdk]
      have hEX := exch S R (a + k) (b + k) (by omega) (by omega)
      obtain ⟨p0, pf0⟩ := cells S R (by omega) (a + k) (by omega)
      obtain ⟨q0, qf0⟩ := cells S R (by omega) (b + k) (by omega)
      obtain ⟨x, hx⟩ : ∃ x, x = dk[a + k]! := ⟨_, rfl⟩
      obtain ⟨y, hy⟩ : ∃ y, y = dk[b + k]! := ⟨_, rfl⟩
      rw [← hx] at p0 hEX
      rw [← hy] at q0 hEX
      obtain ⟨x0, hx0⟩ : ∃ v, v = f0 x := ⟨_, rfl⟩
      obtain ⟨y0, hy0⟩ : ∃ v, v = f0 y := ⟨_, rfl⟩
      rw [← hx0] at p0 hEX
      rw [← hy0] at q0 hEX
      have na00 : ¬ off + (a + k) = off + (b + k) := by omega
      have nb00 : ¬ off + (b + k) = off + (a + k) := by omega
      have w1 : IntKind.i64.wrap ((a : Int) + (k : Int)) = (a : Int) + (k : Int) := IntWalk.i64_in _ (by omega)
      have w2 : IntKind.i64.wrap ((b : Int) + (k : Int)) = (b : Int) + (k : Int) := IntWalk.i64_in _ (by omega)
      have n1 : ((a : Int) + (k : Int)).toNat = a + k := by omega
      have n2 : ((b : Int) + (k : Int)).toNat = b + k := by omega
      have u1 : (0 : Int) ≤ (a : Int) + (k : Int) := by omega
      have u2 : (0 : Int) ≤ (b : Int) + (k : Int) := by omega
      have v1 : (a : Int) + (k : Int) < (N : Int) := by omega
      have v2 : (b : Int) + (k : Int) < (N : Int) := by omega
      rw [← hnx] at hEX
      clear S
      have Hdk := Lib.hid hdk; have Hnx := Lib.hid hnx; have Hl := Lib.hid hl; have Hx := Lib.hid hx; have Hy := Lib.hid hy; have Hx0 := Lib.hid hx0; have Hy0 := Lib.hid hy0; have HEX := Lib.hid hEX; clear hdk hnx hl hx hy hx0 hy0 hEX
      go_wp2_with fail
      go_region
      all_goals
        go_wp2_with fail
        go_roundw
        case rel => exact ⟨k + 1, by omega, by go_num, HEX.out⟩
        case measure => simp [intOf]; omega
    · obtain rfl : k = m := by omega
      have HS := Lib.hid S; clear S
      go_wp2_with fail
      go_end0
      exact ⟨rfl, HS.out⟩
end StbStr
end Go.Proofs.YtblkdcapampniaaDoor
