/- Laws for blocks and rows that a call owns. No condition. -/
import Derived.Test.YtoljhahmmdibfaaKit
set_option linter.unusedVariables false
set_option linter.unusedSimpArgs false
namespace Go.Proofs.Ytoljhahmmdibfaa
open Go.RowKit

theorem own_type {w : World} {B : Nat} {e : TypeId} {size : Nat} {v : Value} {n : Nat} {xs : List Value} (h : w.ownsRow B e size v n xs) : ∀ k, v.ownBlock = some k → ∃ cs, w.heap[k]? = some (.cells cs e (0, 0)) := by
  intro k hk
  rcases h.2 with ⟨h1, _⟩ | ⟨g, cap, cur, h1, _, hg, _⟩
  · rw [h1] at hk; simp [Value.ownBlock] at hk
  · rw [h1] at hk
    simp [Value.ownBlock] at hk
    subst hk
    exact ⟨_, hg⟩
theorem apart_type {w : World} {B B' : Nat} {e e' : TypeId} {size size' : Nat} {v v' : Value} {n n' : Nat} {xs xs' : List Value} (h : w.ownsRow B e size v n xs) (h' : w.ownsRow B' e' size' v' n' xs') (hne : e ≠ e') : ∀ k, v.ownBlock = some k → v'.ownBlock ≠ some k := by
  intro k hk hk'
  obtain ⟨c, hc⟩ := own_type h k hk
  obtain ⟨c', hc'⟩ := own_type h' k hk'
  rw [hc] at hc'
  simp at hc'
  exact hne hc'.2
theorem apart_block {w : World} {B : Nat} {e t : TypeId} {size : Nat} {v : Value} {n : Nat} {xs : List Value} {x : Nat} {cs : Array Value} {fr : Nat × Nat} (h : w.ownsRow B e size v n xs) (hx : w.heap[x]? = some (.cells cs t fr)) (hne : e ≠ t) : v.ownBlock ≠ some x := by
  intro hk
  obtain ⟨c, hc⟩ := own_type h x hk
  rw [hc] at hx
  simp at hx
  exact hne hx.2.1
theorem cells_at {w : World} {p : Nat} {cs : Array Value} {t : TypeId} {fr : Nat × Nat} (h : w.heap[p]? = some (.cells cs t fr)) (i : Nat) : w.cell? ⟨p, i, none⟩ = cs[i]? := cell_of_row w p i cs t fr h
theorem frozen_at {w : World} {p : Nat} {cs : Array Value} {t : TypeId} (h : w.heap[p]? = some (.cells cs t (0, 0))) (i : Nat) : w.frozen? ⟨p, i, none⟩ = false := frozen_of_row w p i cs t h
theorem heap_to {w w' : World} {S : Nat → Prop} {f : Nat} {o : Obj} (h : w.heap[f]? = some o) (hf : Frm S w w') (hS : ¬ S f) : w'.heap[f]? = some o :=
  (hf.block f (Array.getElem?_eq_some_iff.1 h).1 hS).trans h

theorem own_shape {w : World} {B : Nat} {e : TypeId} {size : Nat} {v : Value} {n : Nat} {xs : List Value} (h : w.ownsRow B e size v n xs) : ∃ a cap, v = .slice a n cap := by
  rcases h.2 with ⟨h1, h2⟩ | ⟨g, cap, _, h1, _⟩
  · exact ⟨none, 0, by rw [h1, h2]⟩
  · exact ⟨_, cap, h1⟩
theorem frm_cell {x : Nat} {a w : World} (h : Frm (fun k => k = x) a w) (i : Nat) (u : Value) : Frm (fun k => k = x) a (w.setCell ⟨x, i, none⟩ u) := Frm.setCell (S := fun k => k = x) h (p := ⟨x, i, none⟩) (.inr rfl) u
theorem grown_drew {w w' : World} {row : Option Nat} (h : w.drew.grownBy w' row) : w.grownBy w' row := ⟨h.os, h.tape, h.output, h.size, h.block⟩
/-- a block stays where memory only grows -/
theorem heap_below {w w' : World} (h : Below w.heap.size w w') {k : Nat} {o : Obj} (hk : w.heap[k]? = some o) : w'.heap[k]? = some o := (h.block k (Array.getElem?_eq_some_iff.1 hk).1).trans hk
/-- a row of one cell an element, that grows by one -/
theorem frm_of_grown {w w' : World} {v : Value} (h : w.grownBy w' v.ownBlock) : Frm (fun k => v.ownBlock = some k) w w' := ⟨h.os, h.tape, h.output, h.size, fun k hk hne => h.block k hk (fun e => hne e.symm)⟩
theorem below_alloc1 (w : World) (o : Obj) : Below w.heap.size w (w.alloc o) := (Below.refl _ _).alloc (Nat.le_refl _) _
/-- blocks of one type are as they were -/
def KeepT (t : TypeId) (w w' : World) : Prop := ∀ (k : Nat) (cs : Array Value) (fr : Nat × Nat), w.heap[k]? = some (.cells cs t fr) → w'.heap[k]? = some (.cells cs t fr)
theorem KeepT.refl (t : TypeId) (w : World) : KeepT t w w := fun _ _ _ h => h
theorem KeepT.trans {t : TypeId} {a b c : World} (h : KeepT t a b) (k : KeepT t b c) : KeepT t a c := fun i cs fr h1 => k i cs fr (h i cs fr h1)
theorem keepT_below {t : TypeId} {w w' : World} (h : Below w.heap.size w w') : KeepT t w w' := fun _ _ _ h1 => heap_below h h1
theorem keepT_grown {t e : TypeId} {w w' : World} {B size : Nat} {v : Value} {n : Nat} {xs : List Value} (hg : w.grownBy w' v.ownBlock) (hown : w.ownsRow B e size v n xs) (hne : e ≠ t) : KeepT t w w' :=
  fun k cs fr h => (hg.block k (Array.getElem?_eq_some_iff.1 h).1 (fun hk => apart_block hown h hne hk.symm)).trans h
theorem keepT_set {t e : TypeId} {w : World} {b : Nat} {cs : Array Value} {fr : Nat × Nat} (hb : w.heap[b]? = some (.cells cs e fr)) (hne : e ≠ t) (i : Nat) (u : Value) : KeepT t w (w.setCell ⟨b, i, none⟩ u) := by
  intro k cs' fr' h
  have hk : k ≠ b := by
    rintro rfl
    rw [hb] at h
    simp at h
    exact hne h.2.1
  rw [Below.heap_setCell _ _ _ _ hk]
  exact h
theorem heap_new_at {w : World} {o : Obj} {n : Nat} (h : w.heap.size = n) : (w.alloc o).heap[n]? = some o := by subst h; exact heap_alloc_new w o
end Go.Proofs.Ytoljhahmmdibfaa
