/- A return whose two results lie in boxes of one cell each. No condition. -/
import Derived.Test.YtblkdcapampniaaDoorMem
import Derived.Laws.Rows
set_option linter.unusedVariables false
set_option linter.unusedSimpArgs false
namespace Go.Proofs.YtblkdcapampniaaDoor
open Go.RowKit

theorem results_cells {P : Program} {fn : Func} {p q : Tmp} {ty tz : TypeId} (h : fn.results = #[.cell p ty, .cell q tz]) {tmps : Array Value} {w : World} {a b : Nat} {x y : Value} {ex ey : TypeId}
    (hp : tmps.getD p undef = .pointer (some ⟨a, 0, none⟩)) (hq : tmps.getD q undef = .pointer (some ⟨b, 0, none⟩))
    (hx : w.heap[a]? = some (.cells #[x] ex (0, 0))) (hy : w.heap[b]? = some (.cells #[y] ey (0, 0)))
    (ax : (isAgg ty).run P w = .ok false w) (ay : (isAgg tz).run P w = .ok false w) :
    (results fn tmps).run P w = .ok (.tuple #[x, y]) w := by
  have cx : w.cell? ⟨a, 0, none⟩ = some x := cells_at hx 0
  have cy : w.cell? ⟨b, 0, none⟩ = some y := cells_at hy 0
  have hp' : tmps[p]?.getD undef = .pointer (some ⟨a, 0, none⟩) := by simpa using hp
  have hq' : tmps[q]?.getD undef = .pointer (some ⟨b, 0, none⟩) := by simpa using hq
  simp only [results, h]
  simp [Sem.run_bind, Result.andThen, go_sem, hp', hq', ax, ay, cx, cy]
end Go.Proofs.YtblkdcapampniaaDoor
