/- The walks of slices.SortStableFunc at luby.Note: the row and its elements. Printed by gen_stb.py. -/
import Derived.Test.YtoljhahmmdibfaaStbB
import Derived.Shelf.SlSortCmp.KitK
import Derived.Test.YtoljhahmmdibfaaKit
set_option linter.unusedVariables false
set_option linter.unusedSimpArgs false
namespace Go.Proofs.Ytoljhahmmdibfaa
open Go.Shelf Go.RowKit Go.Lib Go.Sort SortM StbA StbB
namespace StbNote
variable {α : Type} {f0 : α → Int} {f1 : α → Int} {f2 : α → Int} {f3 : α → Bool} {w0 : World} {blk off : Nat} {d0 : Array α}
def enc (f0 : α → Int) (f1 : α → Int) (f2 : α → Int) (f3 : α → Bool) (x : α) : List Value := [.int .i64 (f0 x), .int .i64 (f1 x), .int .i64 (f2 x), .bool (f3 x)]
theorem enc_len : ∀ x, (enc f0 f1 f2 f3 x).length = 4 := fun _ => rfl
theorem enc_one : ∀ x, ∀ v ∈ enc f0 f1 f2 f3 x, v.oneCell' = true := fun x v h => by
  unfold enc at h
  simp only [List.mem_cons, List.not_mem_nil, or_false] at h
  rcases h with rfl | rfl | rfl | rfl <;> rfl
variable [Inhabited α]
theorem cells {dk : Array α} {W : World} (S : SWK (enc f0 f1 f2 f3) 4 w0 blk off dk W) (R : RowK (enc f0 f1 f2 f3) 4 w0 blk off d0) (hs : dk.size = d0.size) (i : Nat) (hi : i < dk.size) :
    W.cell? ⟨blk, off + i * 4, none⟩ = some (.int .i64 (f0 dk[i]!)) ∧ W.frozen? ⟨blk, off + i * 4, none⟩ = false ∧ W.cell? ⟨blk, off + i * 4 + 1, none⟩ = some (.int .i64 (f1 dk[i]!)) ∧ W.frozen? ⟨blk, off + i * 4 + 1, none⟩ = false ∧ W.cell? ⟨blk, off + i * 4 + 2, none⟩ = some (.int .i64 (f2 dk[i]!)) ∧ W.frozen? ⟨blk, off + i * 4 + 2, none⟩ = false ∧ W.cell? ⟨blk, off + i * 4 + 3, none⟩ = some (.bool (f3 dk[i]!)) ∧ W.frozen? ⟨blk, off + i * 4 + 3, none⟩ = false := by
  have h := S.holds R.hblk R.hH hs
  have h0 := HoldsK.cell h hi (show 0 < 4 by decide)
  have h1 := HoldsK.cell h hi (show 1 < 4 by decide)
  have h2 := HoldsK.cell h hi (show 2 < 4 by decide)
  have h3 := HoldsK.cell h hi (show 3 < 4 by decide)
  exact ⟨h0.1, h0.2, h1.1, h1.2, h2.1, h2.2, h3.1, h3.2⟩
theorem drew_setCell (w : World) (a : Addr) (v : Value) : w.drew.setCell a v = (w.setCell a v).drew := rfl
theorem exch {dk : Array α} {W : World} (S : SWK (enc f0 f1 f2 f3) 4 w0 blk off dk W) (R : RowK (enc f0 f1 f2 f3) 4 w0 blk off d0) (i j : Nat) (hi : i < dk.size) (hj : j < dk.size) :
    SWK (enc f0 f1 f2 f3) 4 w0 blk off (swp dk i j) (((((((((W).setCell ⟨blk, off + i * 4, none⟩ (.int .i64 (f0 dk[j]!))).setCell ⟨blk, off + i * 4 + 1, none⟩ (.int .i64 (f1 dk[j]!))).setCell ⟨blk, off + i * 4 + 2, none⟩ (.int .i64 (f2 dk[j]!))).setCell ⟨blk, off + i * 4 + 3, none⟩ (.bool (f3 dk[j]!))).setCell ⟨blk, off + j * 4, none⟩ (.int .i64 (f0 dk[i]!))).setCell ⟨blk, off + j * 4 + 1, none⟩ (.int .i64 (f1 dk[i]!))).setCell ⟨blk, off + j * 4 + 2, none⟩ (.int .i64 (f2 dk[i]!))).setCell ⟨blk, off + j * 4 + 3, none⟩ (.bool (f3 dk[i]!))).drew := by
  have h : SWK (enc f0 f1 f2 f3) 4 w0 blk off (swp dk i j) (((((((((W.drew).setCell ⟨blk, off + i * 4, none⟩ (.int .i64 (f0 dk[j]!))).setCell ⟨blk, off + i * 4 + 1, none⟩ (.int .i64 (f1 dk[j]!))).setCell ⟨blk, off + i * 4 + 2, none⟩ (.int .i64 (f2 dk[j]!))).setCell ⟨blk, off + i * 4 + 3, none⟩ (.bool (f3 dk[j]!))).setCell ⟨blk, off + j * 4, none⟩ (.int .i64 (f0 dk[i]!))).setCell ⟨blk, off + j * 4 + 1, none⟩ (.int .i64 (f1 dk[i]!))).setCell ⟨blk, off + j * 4 + 2, none⟩ (.int .i64 (f2 dk[i]!))).setCell ⟨blk, off + j * 4 + 3, none⟩ (.bool (f3 dk[i]!))) := S.swapped R i j hi hj
  rw [drew_setCell, drew_setCell, drew_setCell, drew_setCell, drew_setCell, drew_setCell, drew_setCell, drew_setCell] at h
  exact h
end StbNote
end Go.Proofs.Ytoljhahmmdibfaa
