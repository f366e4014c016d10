/- Rows of notes that a call owns, or reads; slices.Clone at notes. Condition: few notes. -/
import Derived.Test.YtoljhahmmdibfaaApp
import Derived.Test.YtoljhahmmdibfaaOwnK
import Derived.Test.YtoljhahmmdibfaaWorse
import Derived.Test.YtoljhahmmdibfaaOpen
set_option linter.unusedVariables false
set_option linter.unusedSimpArgs false
namespace Go.Proofs.Ytoljhahmmdibfaa
open Go.Shelf Go.RowKit Go.Lib Go.Sort ForgM

def RNote : Rd NT := fun _ cs x => cs = ntCells x
theorem stays_note : Stays RNote := fun _ _ _ _ h _ => h
abbrev RNotes : Rd (List NT) := RSlice 4 RNote
theorem ntCells_len : ∀ x : NT, (ntCells x).length = 4 := fun _ => rfl
theorem nt_one : ∀ x : NT, ∀ v ∈ ntCells x, v.oneCell' = true := fun x v h => by
  unfold ntCells at h
  simp only [List.mem_cons, List.not_mem_nil, or_false] at h
  rcases h with rfl | rfl | rfl | rfl <;> rfl
theorem notes_one (l : List NT) : ∀ u ∈ l.flatMap ntCells, u.oneCell' = true := by
  intro u hu
  obtain ⟨x, _, h⟩ := List.mem_flatMap.1 hu
  exact nt_one x u h
theorem elem_note : Elem Try.prog 73 76 (.agg #[.int .i64 0, .int .i64 0, .int .i64 0, .bool false]) 4 32 := ⟨Try.underlying73, by kernel_rfl, rfl, by decide⟩
theorem notes_news {w : World} {o : Option Addr} {n c : Nat} {f : List NT} (h : RNotes w [.slice o n c] f) : ∀ j u, (f.flatMap ntCells)[j]? = some u → ∃ b off, o = some ⟨b, off, none⟩ ∧ w.cell? ⟨b, off + j, none⟩ = some u := by
  obtain ⟨a, cap, hv, _, _, hel⟩ := h
  simp only [List.cons.injEq, and_true, Value.slice.injEq] at hv
  obtain ⟨rfl, _, _⟩ := hv
  intro j u hu
  have hj := (List.getElem?_eq_some_iff.1 hu).1
  rw [flatMap_len ntCells_len] at hj
  have hi : j / 4 < f.length := by omega
  have e := flat_get ntCells 4 ntCells_len f (j / 4) hi (j % 4) (by omega)
  have ej : j / 4 * 4 + j % 4 = j := by omega
  rw [ej, hu] at e
  obtain ⟨b, off, ecs, h1, h2, h3, h4⟩ := hel (j / 4) f[j / 4] (List.getElem?_eq_getElem hi)
  subst h4
  refine ⟨b, off, h1, ?_⟩
  have := h3 (j % 4) u e.symm
  rwa [Nat.add_assoc, ej] at this
theorem notes_shape {w : World} {v : Value} {f : List NT} (h : RNotes w [v] f) : ∃ a c, v = .slice a f.length c := by
  obtain ⟨a, cap, hv, _⟩ := h
  simp only [List.cons.injEq, and_true] at hv
  exact ⟨a, cap, hv⟩
theorem notes_reads {w : World} {B : Nat} {v : Value} {f : List NT} (h : w.ownsRow B 76 4 v f.length (f.flatMap ntCells)) : RNotes w [v] f := by
  obtain ⟨a, cap, rfl, h1, h2, h3⟩ := Sl.of_owns h
  refine ⟨a, cap, rfl, h1, h2, fun i x hi => ?_⟩
  have hil := (List.getElem?_eq_some_iff.1 hi).1
  have hx := (List.getElem?_eq_some_iff.1 hi).2
  have hc : ∀ c, c < 4 → ∀ u, (ntCells x)[c]? = some u → ∃ b off, a = some ⟨b, off, none⟩ ∧ w.cell? ⟨b, off + (i * 4 + c), none⟩ = some u := fun c hc u hu => h3 (i * 4 + c) u (by rw [flat_get ntCells 4 ntCells_len f i hil c hc, hx]; exact hu)
  obtain ⟨b, off, ha, _⟩ := hc 0 (by omega) _ rfl
  refine ⟨b, off, ntCells x, ha, rfl, fun j u hu => ?_, rfl⟩
  have hj : j < 4 := by have := (List.getElem?_eq_some_iff.1 hu).1; rwa [ntCells_len] at this
  obtain ⟨b', off', ha', h5⟩ := hc j hj u hu
  rw [ha] at ha'
  cases ha'
  rw [Nat.add_assoc]
  exact h5
/-- the cells of an element of a row of notes -/
theorem note_at {w : World} {B g n cap : Nat} {d : Array NT} (h : w.ownsRow B 76 4 (.slice (some ⟨g, 0, none⟩) n cap) n (d.toList.flatMap ntCells)) (hn : d.size = n) (i : Nat) (hi : i < n) :
    (w.cell? ⟨g, i * 4, none⟩ = some (.int .i64 d[i]!.1) ∧ w.cell? ⟨g, i * 4 + 1, none⟩ = some (.int .i64 d[i]!.2.1) ∧ w.cell? ⟨g, i * 4 + 2, none⟩ = some (.int .i64 d[i]!.2.2.1) ∧ w.cell? ⟨g, i * 4 + 3, none⟩ = some (.bool d[i]!.2.2.2)) ∧
    w.frozen? ⟨g, i * 4, none⟩ = false ∧ w.frozen? ⟨g, i * 4 + 1, none⟩ = false ∧ w.frozen? ⟨g, i * 4 + 2, none⟩ = false ∧ w.frozen? ⟨g, i * 4 + 3, none⟩ = false := by
  have hil : i < d.toList.length := by simpa using (by omega : i < d.size)
  have e : d[i]! = d.toList[i] := by rw [getElem!_pos _ i (by omega)]; rfl
  rw [e]
  have hc : ∀ c, c < 4 → w.cell? ⟨g, i * 4 + c, none⟩ = (ntCells d.toList[i])[c]? := fun c hc => by
    have h0 := h.cellAt (i * 4 + c) (by omega)
    rw [flat_get ntCells 4 ntCells_len d.toList i hil c hc] at h0
    exact h0
  exact ⟨⟨hc 0 (by decide), hc 1 (by decide), hc 2 (by decide), hc 3 (by decide)⟩, h.frozenAt (i * 4 + 0), h.frozenAt (i * 4 + 1), h.frozenAt (i * 4 + 2), h.frozenAt (i * 4 + 3)⟩
/-- an element is put -/
def putNote (w : World) (g i : Nat) (x : NT) : World := (((w.setCell ⟨g, i * 4, none⟩ (.int .i64 x.1)).setCell ⟨g, i * 4 + 1, none⟩ (.int .i64 x.2.1)).setCell ⟨g, i * 4 + 2, none⟩ (.int .i64 x.2.2.1)).setCell ⟨g, i * 4 + 3, none⟩ (.bool x.2.2.2)
theorem note_put {w : World} {B g n cap : Nat} {d : Array NT} (h : w.ownsRow B 76 4 (.slice (some ⟨g, 0, none⟩) n cap) n (d.toList.flatMap ntCells)) (hn : d.size = n) (i : Nat) (hi : i < n) (x : NT) :
    (putNote w g i x).ownsRow B 76 4 (.slice (some ⟨g, 0, none⟩) n cap) n ((d.setIfInBounds i x).toList.flatMap ntCells) ∧ ∀ w0, Below B w0 w → B ≤ w.heap.size → Below B w0 (putNote w g i x) ∧ B ≤ (putNote w g i x).heap.size := by
  have h1 := h.stored (i * 4) (.int .i64 x.1)
  have h2 := h1.1.stored (i * 4 + 1) (.int .i64 x.2.1)
  have h3 := h2.1.stored (i * 4 + 2) (.int .i64 x.2.2.1)
  have h4 := h3.1.stored (i * 4 + 3) (.bool x.2.2.2)
  refine ⟨?_, fun w0 hb hB => ?_⟩
  · rw [Array.toList_setIfInBounds, ← flat_set ntCells 4 ntCells_len d.toList i (by simpa using (by omega : i < d.size)) x]
    exact h4.1
  · have hg : ∀ k, some g = some k → B ≤ k := fun k hk => by cases hk; exact (h.lt g rfl).1
    have s1 := h1.2.size
    have s2 := h2.2.size
    have s3 := h3.2.size
    have s4 := h4.2.size
    exact ⟨(((hb.grown h1.2 hB hg).grown h2.2 (by omega) hg).grown h3.2 (by omega) hg).grown h4.2 (by omega) hg, by unfold putNote; omega⟩
theorem zero_note : ∀ w, (zeroValue 76).run Try.prog w = .ok (.agg #[.int .i64 0, .int .i64 0, .int .i64 0, .bool false]) w := fun w => by
  obtain ⟨i, hi, hz, _, _⟩ := info_parts elem_note.info
  simp [zeroValue, typeInfo, hi, hz]
theorem clear_notes {W : World} {g o m c : Nat} (ty : TypeId) (hm : 0 < m) (hc : ∀ j, j < m * 4 → (W.cell? ⟨g, o + j, none⟩).isSome = true) (hf : ∀ j, j < m * 4 → W.frozen? ⟨g, o + j, none⟩ = false) :
    (Builtin.clear_ #[73] ty #[.slice (some ⟨g, o, none⟩) m c]).run Try.prog W = .ok (.tuple #[]) (W.setCells g o (Builtin.zeroCells #[.int .i64 0, .int .i64 0, .int .i64 0, .bool false] m).toList) := by
  have hl : (Builtin.zeroCells #[.int .i64 0, .int .i64 0, .int .i64 0, .bool false] m).toList.length = m * 4 := by rw [Array.length_toList, size_zeroCells]; rfl
  have hst := run_storeCells_cells (P := Try.prog) g o (Builtin.zeroCells #[.int .i64 0, .int .i64 0, .int .i64 0, .bool false] m).toList 0 W (by rw [hl]; simpa using hc) (by rw [hl]; simpa using hf) (by
    intro v hv
    simp only [Builtin.zeroCells, Array.toList_map, List.mem_map] at hv
    obtain ⟨t, _, rfl⟩ := hv
    have : t % 4 = 0 ∨ t % 4 = 1 ∨ t % 4 = 2 ∨ t % 4 = 3 := by omega
    rcases this with h | h | h | h <;> simp [h, Value.oneCell'])
  simp only [Nat.add_zero] at hst
  obtain ⟨m', rfl⟩ : ∃ m', m = m' + 1 := ⟨m - 1, by omega⟩
  simp [Builtin.clear_, run_underlying Try.underlying73, zero_note, Value.cells, hst]
theorem lit_notes {w : World} {B : Nat} (h : B ≤ w.heap.size) : (w.alloc (.cells #[] 76)).ownsRow B 76 4 (.slice (some ⟨w.heap.size, 0, none⟩) 0 0) 0 [] := World.ownsRow_lit (base := B) (e := 76) (size := 4) w #[] 0 h (by decide) rfl
def NCPost (w : World) (n : Nat) (N : List Value) (e : Ending) (w' : World) : Prop := ∃ o, e = .returned o ∧ w'.ownsRow w.heap.size 76 4 o n N ∧ Below w.heap.size w w'
set_option maxRecDepth 10000 in
theorem cloneNote_any {w : World} {v : Value} {l : List NT} (h : RNotes w [v] l) (hl : l.length ≤ 1000000) : Calls Try.prog 53 #[v] w (NCPost w l.length (l.flatMap ntCells)) := by
  obtain ⟨a, c, rfl⟩ := notes_shape h
  have hN : ∀ j u, (l.flatMap ntCells)[j]? = some u → ∃ b off, a = some ⟨b, off, none⟩ ∧ (w.alloc (.cells #[] 76)).cell? ⟨b, off + j, none⟩ = some u := fun j u hu => by
    obtain ⟨b, off, h1, h2⟩ := notes_news h j u hu
    exact ⟨b, off, h1, cell_later (below_alloc1 _ _) h2⟩
  have h1 := notes_one l
  have hfl := flatMap_len ntCells_len l
  have hlit := lit_notes (w := w) (B := w.heap.size) (Nat.le_refl _)
  obtain ⟨n, hn⟩ : ∃ n, n = l.length := ⟨_, rfl⟩
  obtain ⟨N, hNN⟩ : ∃ N, N = l.flatMap ntCells := ⟨_, rfl⟩
  rw [← hNN] at hN h1 hfl
  rw [← hn] at hfl hl h ⊢
  rw [← hNN]
  cases a with
  | none =>
    have hl0 : l = [] := by
      cases l with
      | nil => rfl
      | cons x r =>
        obtain ⟨_, _, hv, _, _, hel⟩ := h
        simp only [List.cons.injEq, and_true, Value.slice.injEq] at hv
        obtain ⟨rfl, _, _⟩ := hv
        obtain ⟨b, off, ecs, h1, _⟩ := hel 0 x rfl
        cases h1
    have hn0 : n = 0 := by rw [hn, hl0]; rfl
    have hN0 : N = [] := by rw [hNN, hl0]; rfl
    subst hn0
    have hnil : ∀ W, (binOp .eql 73 (.slice none 0 c) (.slice none 0 0)).run Try.prog W = .ok (.bool true) W := fun W => Lib.run_eql_slice_nil W 73 76 none 0 c 0 0 Try.underlying73
    have Hh := Lib.hid h; have HN := Lib.hid hN; have H1 := Lib.hid h1; have Hfl := Lib.hid hfl; have Hlit := Lib.hid hlit; have Hn := Lib.hid hn; have HNN := Lib.hid hNN; have Hl0 := Lib.hid hl0; have HN0 := Lib.hid hN0; clear h hN h1 hfl hlit hn hNN hl0 hN0
    go_enter Try.func53, Try.ntmps53
    go_wp2_with fail
    go_ret
    exact ⟨_, rfl, by rw [HN0.out]; exact World.ownsRow_nil _ _ _ _, Below.refl _ _⟩
  | some p =>
    have hnil : ∀ W, (binOp .eql 73 (.slice (some p) n c) (.slice none 0 0)).run Try.prog W = .ok (.bool false) W := fun W => Lib.run_eql_slice_nil W 73 76 (some p) n c 0 0 Try.underlying73
    have Hh := Lib.hid h; have HN := Lib.hid hN; have H1 := Lib.hid h1; have Hfl := Lib.hid hfl; have Hlit := Lib.hid hlit; have Hn := Lib.hid hn; have HNN := Lib.hid hNN; clear h hN h1 hfl hlit hn hNN
    go_enter Try.func53, Try.ntmps53
    go_wp2_with (at_builtin; (refine wpList_append_from elem_note rfl (.tmp 5) (.tmp 6) rfl w.heap.size (.slice (some ⟨w.heap.size, 0, none⟩) 0 0) 0 [] rfl Hlit.out (some p) n c N rfl Hfl.out HN.out H1.out (by omega) (by unfold maxLen; omega) (by simp) ?_; intro v1 w1 hown1 hg1 hm1; obtain ⟨oa, oc, rfl⟩ := own_shape hown1; generalize hN7 : 0 + n = N7 at hown1 ⊢; have Hown1 := Lib.hid hown1; have Hg1 := Lib.hid hg1; have HN7 := Lib.hid hN7; clear hown1 hg1 hm1 hN7))
    go_ret
    have hb1 : Below w.heap.size w w1 := bel_own (below_alloc1 w _) Hlit.out (Nat.le_refl _) Hg1.out (by simp)
    refine ⟨_, rfl, ?_, hb1⟩
    have h9 := Hown1.out
    have e : N7 = n := by have := HN7.out; omega
    rw [List.nil_append] at h9
    rw [e] at h9 ⊢
    exact h9
end Go.Proofs.Ytoljhahmmdibfaa
