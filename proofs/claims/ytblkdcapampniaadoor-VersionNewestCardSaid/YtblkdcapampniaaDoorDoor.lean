/- What the program's own start has laid in the library's variables, as the walks lean on it. No condition. -/
import Derived.Test.YtblkdcapampniaaDoorShelf
import Derived.Test.YtblkdcapampniaaDoorMem
import Derived.Test.YtblkdcapampniaaDoorTxt
import Derived.WalkSmall
import Derived.Sort.Grow
set_option linter.unusedVariables false
set_option linter.unusedSimpArgs false
namespace Go.Proofs.YtblkdcapampniaaDoor
open Go.RowKit Go.Lib

structure Doors (w : World) : Prop where
  tab : TabIs Tryd.prog w "internal/strconv.uint64pow10" .u64 pow10Tab
  syn : ∃ tp p, w.var? Tryd.prog "strconv.ErrSyntax" = some #[.iface tp p]
  rng : ∃ tp p, w.var? Tryd.prog "strconv.ErrRange" = some #[.iface tp p]
  max : ∃ m, w.cell? ⟨0, 0, none⟩ = some (.int .i64 m)
theorem gTab : Tryd.prog.globalNamed "internal/strconv.uint64pow10" = some 5 := by kernel_rfl
theorem gSyn : Tryd.prog.globalNamed "strconv.ErrSyntax" = some 3 := by kernel_rfl
theorem gRng : Tryd.prog.globalNamed "strconv.ErrRange" = some 4 := by kernel_rfl
theorem var_lt {w : World} {n : String} {g : Nat} {cs : Array Value} {v : Value} (hg : Tryd.prog.globalNamed n = some g) (h : w.var? Tryd.prog n = some cs) (h0 : cs[0]? = some v) : g < w.heap.size := by
  have := World.var?_cell hg h 0
  rw [h0] at this
  exact World.block_lt_of_cell? w _ this
theorem Doors.below {w w' : World} (h : Doors w) (hb : Below w.heap.size w w') : Doors w' := by
  obtain ⟨tp, p, hs⟩ := h.syn
  obtain ⟨tq, q, hr⟩ := h.rng
  obtain ⟨m, hm⟩ := h.max
  exact ⟨var?_below hb gTab (var_lt (v := .int .u64 1) gTab h.tab rfl) h.tab, ⟨tp, p, var?_below hb gSyn (var_lt gSyn hs rfl) hs⟩, ⟨tq, q, var?_below hb gRng (var_lt gRng hr rfl) hr⟩, ⟨m, cell_later hb hm⟩⟩
theorem Doors.from {B : Nat} {w w' : World} (h : Doors w) (hB : w.heap.size ≤ B) (hb : Below B w w') : Doors w' := h.below (hb.mono hB)
/-- strconv.Atoi, whatever the text -/
theorem atoi_any (s : ByteArray) (hs : s.size ≤ 1000000) {w : World} (hD : Doors w) :
    Calls Tryd.prog 69 #[.string s] w fun e w' => ((∃ v, atoiAll s.data.toList = .ok v ∧ e = .returned (.tuple #[.int .i64 v, .nilIface])) ∨
      ((∀ v, atoiAll s.data.toList ≠ .ok v) ∧ ∃ (v : Int) (N : Nat), e = .returned (.tuple #[.int .i64 v, .iface 92 (.pointer (some ⟨N, 0, none⟩))]))) ∧ Below w.heap.size w w' := by
  obtain ⟨tp, p, hv⟩ := hD.syn
  obtain ⟨tq, q, hr⟩ := hD.rng
  cases h : atoiAll s.data.toList with
  | ok v =>
    refine (Tryd.strconv_Atoi_ok s (by omega) v h w).mono fun e w' ⟨he, hw⟩ => ⟨.inl ⟨v, rfl, he⟩, ?_⟩
    rcases hw with rfl | ⟨t, rfl⟩
    · exact Below.refl _ _
    · exact bytesWorld_below _ _ _
  | range => exact (Tryd.strconv_Atoi_range_var s (by omega) h tq q w hr).mono fun e w' ⟨N, he, _, _, hb⟩ => ⟨.inr ⟨(fun v hv => by cases hv), _, N, he⟩, hb⟩
  | _ => exact (Tryd.strconv_Atoi_syntax_var s (by omega) h tp p w hv).mono fun e w' ⟨N, he, _, _, hb⟩ => ⟨.inr ⟨(fun v hv => by cases hv), 0, N, he⟩, hb⟩
theorem grow_below (w : World) (k : Nat) (os : Array Obj) : Below w.heap.size w (Sort.grow (w.drewN k) os) :=
  ⟨rfl, rfl, rfl, by show w.heap.size ≤ (w.heap ++ os).size; rw [Array.size_append]; omega, fun j hj => by show (w.heap ++ os)[j]? = w.heap[j]?; exact Array.getElem?_append_left hj⟩
theorem itoa_any (n : Int) (h0 : -9223372036854775808 ≤ n) (h1 : n ≤ 9223372036854775807) {w : World} (hD : Doors w) :
    Calls Tryd.prog 70 #[.int .i64 n] w fun e w' => e = .returned (.string ⟨(itoa n).toArray⟩) ∧ Below w.heap.size w w' :=
  (Tryd.strconv_Itoa n h0 h1 w hD.tab).mono fun e w' ⟨he, k, os, hw⟩ => ⟨he, hw ▸ grow_below w k os⟩
end Go.Proofs.YtblkdcapampniaaDoor
