/- Boxes of spans; == at spans. No condition. -/
import Derived.Test.YtblkdcapampniaaDoorSpnL
import Derived.Laws.StructEq
set_option linter.unusedVariables false
set_option linter.unusedSimpArgs false
namespace Go.Proofs.YtblkdcapampniaaDoor
open Go.RowKit Go.Lib VerN

abbrev PrObj (x y : Value) : Obj := .cells #[x, y] 33 (0, 0)
theorem pbox1_0 (w : World) (x y : Value) : (w.alloc (.cells #[x, y] 33)).heap[w.heap.size]? = some (PrObj x y) := heap_alloc_new _ _
theorem pbox2_0 (w : World) (x y z u : Value) : ((w.alloc (.cells #[x, y] 33)).alloc (.cells #[z, u] 33)).heap[w.heap.size]? = some (PrObj x y) := heap_below (below_alloc1 _ _) (heap_alloc_new _ _)
theorem pbox2_1 (w : World) (x y z u : Value) : ((w.alloc (.cells #[x, y] 33)).alloc (.cells #[z, u] 33)).heap[w.heap.size + 1]? = some (PrObj z u) := heap_new_at (by simp)
theorem pbox3_0 (w : World) (x y z u p q : Value) : (((w.alloc (.cells #[x, y] 33)).alloc (.cells #[z, u] 33)).alloc (.cells #[p, q] 33)).heap[w.heap.size]? = some (PrObj x y) := heap_below (below_alloc1 _ _) (pbox2_0 _ _ _ _ _)
theorem pbox3_1 (w : World) (x y z u p q : Value) : (((w.alloc (.cells #[x, y] 33)).alloc (.cells #[z, u] 33)).alloc (.cells #[p, q] 33)).heap[w.heap.size + 1]? = some (PrObj z u) := heap_below (below_alloc1 _ _) (pbox2_1 _ _ _ _ _)
theorem pbox3_2 (w : World) (x y z u p q : Value) : (((w.alloc (.cells #[x, y] 33)).alloc (.cells #[z, u] 33)).alloc (.cells #[p, q] 33)).heap[w.heap.size + 1 + 1]? = some (PrObj p q) := heap_new_at (by simp)
theorem spn_eqs (s t a b : ByteArray) (W : World) : (binOp .eql 33 (.agg #[.string s, .string t]) (.agg #[.string a, .string b])).run Tryd.prog W = .ok (.bool (decide (s = a) && decide (t = b))) W := by
  have u9 := Tryd.underlying9
  have hS : Tryd.prog.underlying 33 = some (.struct (Tryd.prog.fieldsOf 33)) := by kernel_rfl
  have hp : Tryd.prog.stoodInHeld 33 = false := by kernel_rfl
  rw [run_eql_struct, show (10000 : Nat) = 9999 + 1 from rfl, run_equalIn_agg W 9999 33 _ _ hS hp]
  simp only [Program.fieldsOf, Tryd.underlying33]
  go_simp
  have e1 := Txt.eq_dec s a
  have e2 := Txt.eq_dec t b
  by_cases h1 : s = a <;> by_cases h2 : t = b <;> simp [h1, h2] at e1 e2 ⊢ <;> simp_all
end Go.Proofs.YtblkdcapampniaaDoor
