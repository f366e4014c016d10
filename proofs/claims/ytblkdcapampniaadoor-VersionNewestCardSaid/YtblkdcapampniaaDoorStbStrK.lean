/- The walks of slices.SortStableFunc at string: the row and its elements. Printed by gen_stc.py. -/
import Derived.Test.YtblkdcapampniaaDoorSortR
import Derived.Shelf.SlSortCmp.QuietGrown
import Derived.Deep.RegionHeld3
import Derived.Shelf.SlSortCmp.Insertion
import Derived.Deep.RegionHeld3
import Derived.Test.YtblkdcapampniaaDoorKit
set_option linter.unusedVariables false
set_option linter.unusedSimpArgs false
namespace Go.Proofs.YtblkdcapampniaaDoor
open Go.Shelf Go.RowKit Go.Lib Go.Sort SortM StbA StbB
namespace StbStr
variable {α : Type} {f0 : α → ByteArray} {w0 : World} {blk off : Nat} {d0 : Array α}
def enc (f0 : α → ByteArray) (x : α) : List Value := [.string (f0 x)]
theorem enc_len : ∀ x, (enc f0 x).length = 1 := fun _ => rfl
/-- what is asked of the comparison -/
def CmpLays (P : Program) (g : Nat) (cb : Array Value) (f : α → List Value) (_k : Nat) (cf : α → α → Int) (blk _off _size : Nat) (w : World) : Prop :=
  ∀ W, Frm (fun b => b = blk) w W → ∀ x y : α, Calls P g (#[(f x)[0]!, (f y)[0]!] ++ cb) W fun e w' => e = .returned (.int .i64 (cf x y)) ∧ Below W.heap.size W w'
variable [Inhabited α]
abbrev SWK (f : α → List Value) (k : Nat) (w0 : World) (blk off : Nat) (d : Array α) (W : World) : Prop := SortR.SRW 9 f k w0 blk off d W
abbrev RowK (f : α → List Value) (k : Nat) (w0 : World) (blk off : Nat) (d : Array α) : Prop := SWK f k w0 blk off d w0
theorem cells {dk : Array α} {W : World} (S : SWK (enc f0) 1 w0 blk off dk W) (_R : RowK (enc f0) 1 w0 blk off d0) (_hs : dk.size = d0.size) (i : Nat) (hi : i < dk.size) :
    W.cell? ⟨blk, off + i, none⟩ = some (.string (f0 dk[i]!)) ∧ W.frozen? ⟨blk, off + i, none⟩ = false := by
  have h0 := S.cell hi (show 0 < 1 by decide) rfl
  rw [Nat.mul_one, Nat.add_zero] at h0
  exact ⟨h0.1, h0.2⟩
theorem exch {dk : Array α} {W : World} (S : SWK (enc f0) 1 w0 blk off dk W) (_R : RowK (enc f0) 1 w0 blk off d0) (i j : Nat) (hi : i < dk.size) (hj : j < dk.size) :
    SWK (enc f0) 1 w0 blk off (swp dk i j) (((W).setCell ⟨blk, off + i, none⟩ (.string (f0 dk[j]!))).setCell ⟨blk, off + j, none⟩ (.string (f0 dk[i]!))).drew := by
  have h := (SortR.SRW.exch S enc_len hi hj).drew
  rw [Nat.mul_one, Nat.mul_one] at h
  exact h
end StbStr
end Go.Proofs.YtblkdcapampniaaDoor
