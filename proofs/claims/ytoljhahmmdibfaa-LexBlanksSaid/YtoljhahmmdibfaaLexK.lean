/- Words and lines as values in memory, and a lexer's state there. No condition. -/
import Derived.Test.YtoljhahmmdibfaaRows
import Derived.Test.YtoljhahmmdibfaaLexM
import Derived.Test.YtoljhahmmdibfaaOpen2
namespace Go.Proofs.Ytoljhahmmdibfaa
open Go.RowKit
open LexM (Bs Wd Ln St)

abbrev bv (s : Bs) : Value := .string ⟨s.toArray⟩
def wdCells (x : Wd) : List Value := [.int .i64 x.1, bv x.2]
def byVals (s : Bs) : List Value := s.map fun c => .int .u8 c.toNat
def lnCells (out : List Ln) (rv : List Value) : List Value := (out.zip rv).flatMap fun x => [.int .i64 x.1.1, x.2]
theorem elem_byte : Elem Try.prog 67 5 (.int .u8 0) 1 1 := ⟨Try.underlying67, by kernel_rfl, rfl, by decide⟩
theorem elem_word : Elem Try.prog 56 91 (.agg #[.int .i64 0, .string ⟨#[]⟩]) 2 24 := ⟨Try.underlying56, by kernel_rfl, rfl, by decide⟩
theorem elem_line : Elem Try.prog 45 58 (.agg #[.int .i64 0, .slice none 0 0]) 2 32 := ⟨Try.underlying45, by kernel_rfl, rfl, by decide⟩

theorem own_type {w : World} {B : Nat} {e : TypeId} {size : Nat} {v : Value} {n : Nat} {xs : List Value} (h : w.ownsRow B e size v n xs) : ∀ k, v.ownBlock = some k → ∃ cs, w.heap[k]? = some (.cells cs e (0, 0)) := by
  intro k hk
  rcases h.2 with ⟨h1, _⟩ | ⟨g, cap, cur, h1, _, hg, _⟩
  · rw [h1] at hk; simp [Value.ownBlock] at hk
  · rw [h1] at hk
    simp [Value.ownBlock] at hk
    subst hk
    exact ⟨_, hg⟩
theorem apart_type {w : World} {B B' : Nat} {e e' : TypeId} {size size' : Nat} {v v' : Value} {n n' : Nat} {xs xs' : List Value} (h : w.ownsRow B e size v n xs) (h' : w.ownsRow B' e' size' v' n' xs') (hne : e ≠ e') : ∀ k, v.ownBlock = some k → v'.ownBlock ≠ some k := by
  intro k hk hk'
  obtain ⟨c, hc⟩ := own_type h k hk
  obtain ⟨c', hc'⟩ := own_type h' k hk'
  rw [hc] at hc'
  simp at hc'
  exact hne hc'.2
theorem apart_block {w : World} {B : Nat} {e t : TypeId} {size : Nat} {v : Value} {n : Nat} {xs : List Value} {x : Nat} {cs : Array Value} {fr : Nat × Nat} (h : w.ownsRow B e size v n xs) (hx : w.heap[x]? = some (.cells cs t fr)) (hne : e ≠ t) : v.ownBlock ≠ some x := by
  intro hk
  obtain ⟨c, hc⟩ := own_type h x hk
  rw [hc] at hx
  simp at hx
  exact hne hx.2.1
theorem cells_at {w : World} {p : Nat} {cs : Array Value} {t : TypeId} {fr : Nat × Nat} (h : w.heap[p]? = some (.cells cs t fr)) (i : Nat) : w.cell? ⟨p, i, none⟩ = cs[i]? := cell_of_row w p i cs t fr h
theorem frozen_at {w : World} {p : Nat} {cs : Array Value} {t : TypeId} (h : w.heap[p]? = some (.cells cs t (0, 0))) (i : Nat) : w.frozen? ⟨p, i, none⟩ = false := frozen_of_row w p i cs t h
theorem heap_to {w w' : World} {S : Nat → Prop} {f : Nat} {o : Obj} (h : w.heap[f]? = some o) (hf : Frm S w w') (hS : ¬ S f) : w'.heap[f]? = some o :=
  (hf.block f (Array.getElem?_eq_some_iff.1 h).1 hS).trans h

theorem own_shape {w : World} {B : Nat} {e : TypeId} {size : Nat} {v : Value} {n : Nat} {xs : List Value} (h : w.ownsRow B e size v n xs) : ∃ a cap, v = .slice a n cap := by
  rcases h.2 with ⟨h1, h2⟩ | ⟨g, cap, _, h1, _⟩
  · exact ⟨none, 0, by rw [h1, h2]⟩
  · exact ⟨_, cap, h1⟩
/-- the cells of a lexer -/
def lexCells (s : St) (wv sv ov : Value) : Array Value := #[.int .i64 s.line, .int .i64 s.col, .int .i64 s.frm, .bool s.off, wv, sv, ov]
structure LexSt (w0 : World) (x : Nat) (s : St) (wv sv ov : Value) (rv : List Value) (w : World) : Prop where
  cells : w.heap[x]? = some (.cells (lexCells s wv sv ov) 94 (0, 0))
  word : w.ownsRow w0.heap.size 5 1 wv s.word.length (byVals s.word)
  words : w.ownsRow w0.heap.size 91 2 sv s.words.length (s.words.flatMap wdCells)
  out : w.ownsRow w0.heap.size 58 2 ov s.out.length (lnCells s.out rv)
  rlen : rv.length = s.out.length
  rows : ∀ (i : Nat) (ln : Ln) (v : Value), s.out[i]? = some ln → rv[i]? = some v → w.ownsRow w0.heap.size 91 2 v ln.2.length (ln.2.flatMap wdCells) ∧ ∀ k, v.ownBlock = some k → sv.ownBlock ≠ some k
  bel : Below w0.heap.size w0 w
  xB : w0.heap.size ≤ x

theorem LexSt.xs {w0 w : World} {x : Nat} {s : St} {wv sv ov : Value} {rv : List Value} (h : LexSt w0 x s wv sv ov rv w) : x < w.heap.size := (Array.getElem?_eq_some_iff.1 h.cells).1

/-- only the lexer's own cells have turned -/
theorem LexSt.to {w0 w w' : World} {x : Nat} {s s' : St} {wv sv ov wv' sv' : Value} {rv : List Value} (h : LexSt w0 x s wv sv ov rv w) (hf : Frm (fun k => k = x) w w')
    (hc : w'.heap[x]? = some (.cells (lexCells s' wv' sv' ov) 94 (0, 0)))
    (h1 : (wv' = wv ∧ s'.word = s.word) ∨ (wv' = .slice none 0 0 ∧ s'.word = [])) (h2 : (sv' = sv ∧ s'.words = s.words) ∨ (sv' = .slice none 0 0 ∧ s'.words = [])) (h3 : s'.out = s.out) : LexSt w0 x s' wv' sv' ov rv w' := by
  have hxw := apart_block h.word h.cells (by decide)
  have hxs := apart_block h.words h.cells (by decide)
  have hxo := apart_block h.out h.cells (by decide)
  refine ⟨hc, ?_, ?_, ?_, by rw [h3]; exact h.rlen, ?_, h.bel.trans (hf.below h.bel.size (fun k hk => by rw [hk]; exact h.xB)), h.xB⟩
  · rcases h1 with ⟨rfl, e⟩ | ⟨rfl, e⟩
    · rw [e]; exact hf.owns h.word (fun k hk e => hxw (by rw [hk, e]))
    · rw [e]; exact World.ownsRow_nil _ _ _ _
  · rcases h2 with ⟨rfl, e⟩ | ⟨rfl, e⟩
    · rw [e]; exact hf.owns h.words (fun k hk e => hxs (by rw [hk, e]))
    · rw [e]; exact World.ownsRow_nil _ _ _ _
  · rw [h3]; exact hf.owns h.out (fun k hk e => hxo (by rw [hk, e]))
  · intro i ln v hi hv
    rw [h3] at hi
    obtain ⟨r1, r2⟩ := h.rows i ln v hi hv
    have hxv := apart_block r1 h.cells (by decide)
    refine ⟨hf.owns r1 (fun k hk e => hxv (by rw [hk, e])), fun k hk => ?_⟩
    rcases h2 with ⟨rfl, e⟩ | ⟨rfl, e⟩
    · exact r2 k hk
    · simp [Value.ownBlock]
/-- other blocks have turned -/
theorem LexSt.keep {w0 w w' : World} {x : Nat} {s : St} {wv sv ov : Value} {rv : List Value} (h : LexSt w0 x s wv sv ov rv w) (hf : Frm (fun _ => False) w w') : LexSt w0 x s wv sv ov rv w' :=
  h.to (hf.mono (fun _ _ h => h.elim)) (heap_to h.cells hf (fun h => h)) (.inl ⟨rfl, rfl⟩) (.inl ⟨rfl, rfl⟩) rfl

/-- a byte more -/
theorem LexSt.pushByte {w0 w w3 : World} {x : Nat} {s : St} {wv sv ov : Value} {rv : List Value} (h : LexSt w0 x s wv sv ov rv w) (c : UInt8) {wv' : Value}
    (hown : w3.ownsRow w0.heap.size 5 1 wv' (s.word.length + 1) (byVals s.word ++ [.int .u8 c.toNat])) (hg : w.grownBy w3 wv.ownBlock) :
    LexSt w0 x { s with word := s.word ++ [c] } wv' sv ov rv (w3.setCell ⟨x, 4, none⟩ wv') := by
  have hxw := apart_block h.word h.cells (by decide)
  have f1 : Frm (fun k => wv.ownBlock = some k) w w3 := (Frm.refl _ w).grown hg (fun k hk => .inr hk)
  have hc3 := heap_to h.cells f1 hxw
  have f2 : Frm (fun k => k = x) w3 (w3.setCell ⟨x, 4, none⟩ wv') := Frm.setCell (S := fun k => k = x) (Frm.refl _ _) (p := ⟨x, 4, none⟩) (.inr rfl) _
  have hx3 := apart_block hown hc3 (by decide)
  refine ⟨?_, ?_, ?_, ?_, h.rlen, ?_, ?_, h.xB⟩
  · rw [heap_setCell_same w3 x 4 _ _ wv' hc3]; rfl
  · simp only [List.length_append, List.length_singleton, byVals, List.map_append]
    exact f2.owns hown (fun k hk e => hx3 (by rw [hk, e]))
  · have := f1.owns h.words (fun k hk e => apart_type h.words h.word (by decide) k hk e)
    have hxs := apart_block this hc3 (by decide)
    exact f2.owns this (fun k hk e => hxs (by rw [hk, e]))
  · have := f1.owns h.out (fun k hk e => apart_type h.out h.word (by decide) k hk e)
    have hxs := apart_block this hc3 (by decide)
    exact f2.owns this (fun k hk e => hxs (by rw [hk, e]))
  · intro i ln v hi hv
    obtain ⟨r1, r2⟩ := h.rows i ln v hi hv
    have := f1.owns r1 (fun k hk e => apart_type r1 h.word (by decide) k hk e)
    have hxs := apart_block this hc3 (by decide)
    exact ⟨f2.owns this (fun k hk e => hxs (by rw [hk, e])), r2⟩
  · have b1 : Below w0.heap.size w w3 := f1.below h.bel.size (fun k hk => (h.word.lt k hk).1)
    exact (h.bel.trans b1).trans (f2.below (by have := h.bel.size; have := f1.size; omega) (fun k hk => by rw [hk]; exact h.xB))

/-- a word more -/
theorem LexSt.pushWord {w0 w w3 : World} {x : Nat} {s : St} {wv sv ov : Value} {rv : List Value} (h : LexSt w0 x s wv sv ov rv w) (a : Wd) {sv' : Value}
    (hown : w3.ownsRow w0.heap.size 91 2 sv' (s.words.length + 1) (s.words.flatMap wdCells ++ wdCells a)) (hg : w.grownBy w3 sv.ownBlock) (hm : Moved w sv sv') :
    LexSt w0 x { s with words := s.words ++ [a] } wv sv' ov rv (w3.setCell ⟨x, 5, none⟩ sv') := by
  have hxw := apart_block h.words h.cells (by decide)
  have f1 : Frm (fun k => sv.ownBlock = some k) w w3 := (Frm.refl _ w).grown hg (fun k hk => .inr hk)
  have hc3 := heap_to h.cells f1 hxw
  have f2 : Frm (fun k => k = x) w3 (w3.setCell ⟨x, 5, none⟩ sv') := Frm.setCell (S := fun k => k = x) (Frm.refl _ _) (p := ⟨x, 5, none⟩) (.inr rfl) _
  have hx3 := apart_block hown hc3 (by decide)
  refine ⟨?_, ?_, ?_, ?_, h.rlen, ?_, ?_, h.xB⟩
  · rw [heap_setCell_same w3 x 5 _ _ sv' hc3]; rfl
  · have := f1.owns h.word (fun k hk e => apart_type h.word h.words (by decide) k hk e)
    have hxs := apart_block this hc3 (by decide)
    exact f2.owns this (fun k hk e => hxs (by rw [hk, e]))
  · simp only [List.length_append, List.length_singleton, List.flatMap_append, List.flatMap_cons, List.flatMap_nil, List.append_nil]
    exact f2.owns hown (fun k hk e => hx3 (by rw [hk, e]))
  · have := f1.owns h.out (fun k hk e => apart_type h.out h.words (by decide) k hk e)
    have hxs := apart_block this hc3 (by decide)
    exact f2.owns this (fun k hk e => hxs (by rw [hk, e]))
  · intro i ln v hi hv
    obtain ⟨r1, r2⟩ := h.rows i ln v hi hv
    have := f1.owns r1 (fun k hk e => r2 k hk e)
    have hxs := apart_block this hc3 (by decide)
    refine ⟨f2.owns this (fun k hk e => hxs (by rw [hk, e])), fun k hk e => ?_⟩
    rcases hm k e with e | e
    · exact r2 k hk e
    · have := (r1.lt k hk).2; omega
  · have b1 : Below w0.heap.size w w3 := f1.below h.bel.size (fun k hk => (h.words.lt k hk).1)
    exact (h.bel.trans b1).trans (f2.below (by have := h.bel.size; have := f1.size; omega) (fun k hk => by rw [hk]; exact h.xB))

theorem lnCells_snoc {out : List Ln} {rv : List Value} (h : rv.length = out.length) (ln : Ln) (v : Value) : lnCells (out ++ [ln]) (rv ++ [v]) = lnCells out rv ++ [.int .i64 ln.1, v] := by
  unfold lnCells
  rw [List.zip_append h.symm]
  simp
/-- a line more, of the words that stand there -/
theorem LexSt.pushLine {w0 w w3 w' : World} {x : Nat} {s s' : St} {wv sv ov : Value} {rv : List Value} (h : LexSt w0 x s wv sv ov rv w) {ov' : Value}
    (hown : w3.ownsRow w0.heap.size 58 2 ov' (s.out.length + 1) (lnCells s.out rv ++ [.int .i64 s.line, sv])) (hg : w.grownBy w3 ov.ownBlock) (hf : Frm (fun k => k = x) w3 w')
    (hc : w'.heap[x]? = some (.cells (lexCells s' wv (.slice none 0 0) ov') 94 (0, 0))) (h1 : s'.word = s.word) (h2 : s'.words = []) (h3 : s'.out = s.out ++ [(s.line, s.words)]) :
    LexSt w0 x s' wv (.slice none 0 0) ov' (rv ++ [sv]) w' := by
  have hxw := apart_block h.out h.cells (by decide)
  have f1 : Frm (fun k => ov.ownBlock = some k) w w3 := (Frm.refl _ w).grown hg (fun k hk => .inr hk)
  have hc3 := heap_to h.cells f1 hxw
  have hx3 := apart_block hown hc3 (by decide)
  refine ⟨hc, ?_, ?_, ?_, by rw [h3]; simp [h.rlen], ?_, ?_, h.xB⟩
  · rw [h1]
    have := f1.owns h.word (fun k hk e => apart_type h.word h.out (by decide) k hk e)
    have hxs := apart_block this hc3 (by decide)
    exact hf.owns this (fun k hk e => hxs (by rw [hk, e]))
  · rw [h2]; exact World.ownsRow_nil _ _ _ _
  · rw [h3, lnCells_snoc h.rlen, List.length_append]
    exact hf.owns hown (fun k hk e => hx3 (by rw [hk, e]))
  · intro i ln v hi hv
    refine ⟨?_, by simp [Value.ownBlock]⟩
    rw [h3] at hi
    by_cases hlt : i < s.out.length
    · rw [List.getElem?_append_left hlt] at hi
      rw [List.getElem?_append_left (by rw [h.rlen]; exact hlt)] at hv
      obtain ⟨r1, r2⟩ := h.rows i ln v hi hv
      have := f1.owns r1 (fun k hk e => apart_type r1 h.out (by decide) k hk e)
      have hxs := apart_block this hc3 (by decide)
      exact hf.owns this (fun k hk e => hxs (by rw [hk, e]))
    · have hil := (List.getElem?_eq_some_iff.1 hi).1
      simp at hil
      obtain rfl : i = s.out.length := by omega
      have hh := h.rlen
      rw [List.getElem?_append_right (Nat.le_refl _)] at hi
      rw [← hh, List.getElem?_append_right (Nat.le_refl _)] at hv
      simp at hi hv
      subst hi; subst hv
      have := f1.owns h.words (fun k hk e => apart_type h.words h.out (by decide) k hk e)
      have hxs := apart_block this hc3 (by decide)
      exact hf.owns this (fun k hk e => hxs (by rw [hk, e]))
  · have b1 : Below w0.heap.size w w3 := f1.below h.bel.size (fun k hk => (h.out.lt k hk).1)
    exact (h.bel.trans b1).trans (hf.below (by have := h.bel.size; have := f1.size; omega) (fun k hk => by rw [hk]; exact h.xB))

/-- nothing is great -/
structure Small (s : St) (m : Nat) : Prop where
  col : 0 ≤ s.col ∧ s.col ≤ m
  line : 0 ≤ s.line ∧ s.line ≤ m + 1
  frm : 0 ≤ s.frm ∧ s.frm ≤ m
  word : s.word.length ≤ m
  words : s.words.length ≤ m
  out : s.out.length ≤ m
  begun : 0 < s.frm → s.word ≠ []

/-! what is read -/
def RWd : Rd Wd := fun _ cs x => cs = wdCells x ∧ (Lit.int .i64 x.1).wf = true ∧ x.2.length ≤ maxLen
def RLn : Rd Ln := fun w cs x => ∃ v, cs = [.int .i64 x.1, v] ∧ RSlice 2 RWd w [v] x.2 ∧ (Lit.int .i64 x.1).wf = true
abbrev RLns : Rd (List Ln) := RSlice 2 RLn
theorem stays_wd : Stays RWd := fun _ _ _ _ h _ => h
theorem stays_ln : Stays RLn := fun _ _ _ _ ⟨v, h1, h2, h3⟩ hb => ⟨v, h1, stays_slice stays_wd _ _ _ _ h2 hb, h3⟩
theorem stays_lns : Stays RLns := stays_slice stays_ln
/-- a row that is owned is read -/
theorem rslice_of_owns {α : Type} {w : World} {B : Nat} {e : TypeId} {sz : Nat} {v : Value} {l : List α} (f : α → List Value) (R : Rd α) (hsz : ∀ x ∈ l, (f x).length = sz) (hR : ∀ x ∈ l, R w (f x) x) (h : w.ownsRow B e sz v l.length (l.flatMap f)) : RSlice sz R w [v] l := by
  have hget : ∀ (i : Nat) x, l[i]? = some x → ∀ j u, (f x)[j]? = some u → (l.flatMap f)[i * sz + j]? = some u := by
    clear h hR
    induction l with
    | nil => intro i x hi; simp at hi
    | cons a l ih =>
      intro i x hi j u hu
      rw [List.flatMap_cons]
      have ha := hsz a (by simp)
      have hj : j < sz := by
        have hx := hsz x (List.mem_of_getElem? hi)
        have := (List.getElem?_eq_some_iff.1 hu).1
        omega
      match i, hi with
      | 0, hi =>
        simp at hi
        subst hi
        rw [List.getElem?_append_left (by omega)]
        simpa using hu
      | i + 1, hi =>
        have hge : sz ≤ (i + 1) * sz + j := by rw [Nat.succ_mul]; omega
        rw [List.getElem?_append_right (by omega), ha, show (i + 1) * sz + j - sz = i * sz + j by rw [Nat.succ_mul]; omega]
        exact ih (fun y hy => hsz y (by simp [hy])) i x (by simpa using hi) j u hu
  rcases h.2 with ⟨rfl, h0⟩ | ⟨g, cap, cur, rfl, hg, hh, hn, hm, hs, ht⟩
  · exact ⟨none, 0, by rw [h0], by omega, Nat.zero_le _, fun i x hi => by have := (List.getElem?_eq_some_iff.1 hi).1; omega⟩
  · refine ⟨some ⟨g, 0, none⟩, cap, rfl, hn, hm, fun i x hi => ⟨g, 0, f x, rfl, hsz x (List.mem_of_getElem? hi), fun j u hu => ?_, hR x (List.mem_of_getElem? hi)⟩⟩
    have := h.cells (g := g) rfl (i * sz + j) u (hget i x hi j u hu)
    rw [Addr.add_lit] at this
    simpa [Nat.add_assoc] using this
end Go.Proofs.Ytoljhahmmdibfaa
