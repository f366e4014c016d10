/- Laws for a row of rows that a call owns, and for an append of what is read. No condition. -/
import Derived.Test.YtoljhahmmdibfaaOrderR
set_option linter.unusedVariables false
set_option linter.unusedSimpArgs false
namespace Go.Proofs.Ytoljhahmmdibfaa
open Go.RowKit OrderM

theorem run_append_from {P : Program} {t e : TypeId} {z : Value} {size bytes : Nat} (E : Elem P t e z size bytes) (w : World) (base : Nat) (ty : TypeId)
    (v : Value) (n : Nat) (xs : List Value) (hown : w.ownsRow base e size v n xs)
    (ao : Option Addr) (m c : Nat) (news : List Value) (hl : news.length = m * size) (hnews : ∀ j u, news[j]? = some u → ∃ b off, ao = some ⟨b, off, none⟩ ∧ w.cell? ⟨b, off + j, none⟩ = some u) (h1 : ∀ u ∈ news, u.oneCell' = true)
    (h63 : n + m ≤ maxLen) (hbytes : (n + m) * bytes ≤ 140737488355328) (hbase : base ≤ w.heap.size) :
    ∃ v' w', (Builtin.append_ #[t, t] ty #[v, .slice ao m c]).run P w = .ok v' w' ∧ w'.ownsRow base e size v' (n + m) (xs ++ news) ∧ w.grownBy w' v.ownBlock ∧ Moved w v v' := by
  obtain ⟨i, hi, hz, hsz, hby⟩ := info_parts E.info
  cases ao with
  | some a =>
    obtain ⟨v', w', hr, h2, h3, h4⟩ := run_append_where (P := P) w base t ty e i z size bytes E.slice hi hz hsz hby E.zero E.pos v n xs hown a m c news hl (by
      intro j u hu
      obtain ⟨b, off, e1, e2⟩ := hnews j u hu
      cases e1
      rw [Addr.add_lit]
      exact e2) h1 h63 hbytes hbase
    refine ⟨v', w', hr, h2, h3, fun k hk => ?_⟩
    rcases h4 with h4 | h4
    · exact .inl (by rw [← h4]; exact hk)
    · right; rw [h4] at hk; simp at hk; omega
  | none =>
    have hn : news = [] := by
      cases news with
      | nil => rfl
      | cons x r => obtain ⟨b, off, e1, _⟩ := hnews 0 x rfl; cases e1
    subst hn
    have hm : m = 0 := by
      have hp := E.pos
      rcases Nat.eq_zero_or_pos m with h | h
      · exact h
      · have := Nat.mul_pos h hp; simp at hl; omega
    subst hm
    refine ⟨v, w, ?_, by simpa using hown, World.grownBy.refl _ _, fun k hk => .inl hk⟩
    rcases hown.2 with ⟨rfl, rfl⟩ | ⟨g, cap, cur, rfl, _, _, hnc, _⟩
    · simp [Builtin.append_, run_underlying E.slice, sizeOf, typeInfo, hi, Builtin.lenOf, Builtin.firstCells]
    · simp [Builtin.append_, run_underlying E.slice, sizeOf, typeInfo, hi, Builtin.lenOf, Builtin.firstCells, hnc, storeCells]

theorem wp_append_from {P : Program} {t e : TypeId} {z : Value} {size bytes : Nat} (E : Elem P t e z size bytes) {w : World} {o : Oper} {a : Act} {K : Act → World → Prop} {Q : Exit → Act → World → Prop}
    (s x : Operand) (ho : o.op = .call { callee := .builtin .append, args := #[s, x], argTypes := #[t, t] })
    (base : Nat) (v : Value) (n : Nat) (xs : List Value) (hs : a.eval s = v) (hown : w.ownsRow base e size v n xs)
    (ao : Option Addr) (m c : Nat) (news : List Value) (hx : a.eval x = .slice ao m c) (hl : news.length = m * size) (hnews : ∀ j u, news[j]? = some u → ∃ b off, ao = some ⟨b, off, none⟩ ∧ w.cell? ⟨b, off + j, none⟩ = some u) (h1 : ∀ u ∈ news, u.oneCell' = true)
    (hb : (n + m) * bytes ≤ 140737488355328) (hb1 : n + m ≤ maxLen) (hbase : base ≤ w.heap.size)
    (h : ∀ v' w', w'.ownsRow base e size v' (n + m) (xs ++ news) → w.grownBy w' v.ownBlock → Moved w v v' → K (a.put o.dst v') w') :
    o.wp P a w K Q := by
  obtain ⟨v', w', hr, h2, h3, h4⟩ := run_append_from E w base o.type v n xs hown ao m c news hl hnews h1 hb1 hb hbase
  unfold Oper.wp execOp
  simp only [ho, resolve, invoke, builtin, Sem.run_bind, Sem.run_pure, Result.andThen_ok, List.map_toArray, List.map_cons, List.map_nil, hs, hx, hr]
  exact h v' w' h2 h3 h4
theorem wpList_append_from {P : Program} {t e : TypeId} {z : Value} {size bytes : Nat} (E : Elem P t e z size bytes) {w : World} {ops : Array Oper} {rest : List Oper} {o : Oper} {a : Act} {Q : Exit → Act → World → Prop}
    (hgd : o.guard = none) (s x : Operand) (ho : o.op = .call { callee := .builtin .append, args := #[s, x], argTypes := #[t, t] })
    (base : Nat) (v : Value) (n : Nat) (xs : List Value) (hs : a.eval s = v) (hown : w.ownsRow base e size v n xs)
    (ao : Option Addr) (m c : Nat) (news : List Value) (hx : a.eval x = .slice ao m c) (hl : news.length = m * size) (hnews : ∀ j u, news[j]? = some u → ∃ b off, ao = some ⟨b, off, none⟩ ∧ w.cell? ⟨b, off + j, none⟩ = some u) (h1 : ∀ u ∈ news, u.oneCell' = true)
    (hb : (n + m) * bytes ≤ 140737488355328) (hb1 : n + m ≤ maxLen) (hbase : base ≤ w.heap.size)
    (h : ∀ v' w', w'.ownsRow base e size v' (n + m) (xs ++ news) → w.grownBy w' v.ownBlock → Moved w v v' → wpList P ops Q rest (a.put o.dst v') w') :
    wpList P ops Q (o :: rest) a w :=
  wpList_plain hgd fun _ hK => wp_append_from E s x ho base v n xs hs hown ao m c news hx hl hnews h1 hb hb1 hbase fun v' w' h2 h3 h4 => hK _ _ (h v' w' h2 h3 h4)

theorem slice_shape {w : World} {B : Nat} {e : TypeId} {size : Nat} {v : Value} {n : Nat} {xs : List Value} (h : w.ownsRow B e size v n xs) : ∃ a cap, v = .slice a n cap := by
  rcases h.2 with ⟨h1, h2⟩ | ⟨g, cap, _, h1, _⟩
  · exact ⟨none, 0, by rw [h1, h2]⟩
  · exact ⟨_, cap, h1⟩
theorem elem_rows : Elem Try.prog 34 35 (.slice none 0 0) 1 24 := ⟨Try.underlying34, by kernel_rfl, rfl, by decide⟩

/-- rows that a call owns, each a block of its own -/
structure Mat (B mb : Nat) (n : Nat) (w : World) (E : G) (vs : List Value) : Prop where
  len : E.length = n
  vlen : vs.length = n
  row : w.ownsRow B 35 1 (.slice (some ⟨mb, 0, none⟩) n n) n vs
  rows : ∀ (i : Nat) v l, vs[i]? = some v → E[i]? = some l → w.ownsRow B 3 1 v l.length (l.map (Value.int .i64))
  sep : ∀ (i j : Nat) u v, vs[i]? = some u → vs[j]? = some v → i ≠ j → ∀ k, u.ownBlock = some k → v.ownBlock ≠ some k
def MatS (mb : Nat) (vs : List Value) (k : Nat) : Prop := k = mb ∨ ∃ v ∈ vs, v.ownBlock = some k

theorem Mat.lt {B mb n : Nat} {w : World} {E : G} {vs : List Value} (h : Mat B mb n w E vs) : ∀ k, MatS mb vs k → B ≤ k ∧ k < w.heap.size := by
  rintro k (rfl | ⟨v, hv, hk⟩)
  · exact h.row.lt k rfl
  · obtain ⟨i, hi⟩ := List.mem_iff_getElem?.1 hv
    have hlt := (List.getElem?_eq_some_iff.1 hi).1
    have hlE : i < E.length := by have := h.len; have := h.vlen; omega
    exact (h.rows i v E[i] hi (List.getElem?_eq_getElem hlE)).lt k hk
theorem Mat.kept {B mb n : Nat} {w w' : World} {E : G} {vs : List Value} (h : Mat B mb n w E vs) {S : Nat → Prop} (hf : Frm S w w') (hS : ∀ k, MatS mb vs k → ¬ S k) : Mat B mb n w' E vs where
  len := h.len
  vlen := h.vlen
  row := hf.owns h.row (fun k hk => hS k (by simp [Value.ownBlock] at hk; exact .inl hk.symm))
  rows := fun i v l hv hl => hf.owns (h.rows i v l hv hl) (fun k hk => hS k (.inr ⟨v, List.mem_of_getElem? hv, hk⟩))
  sep := h.sep
/-- a row's block is not the rows' row -/
theorem Mat.mbne {B mb n : Nat} {w : World} {E : G} {vs : List Value} (h : Mat B mb n w E vs) : ∀ (i : Nat) v, vs[i]? = some v → v.ownBlock ≠ some mb := by
  intro i v hv hk
  have hlt := (List.getElem?_eq_some_iff.1 hv).1
  have hlE : i < E.length := by have := h.len; have := h.vlen; omega
  rcases (h.rows i v E[i] hv (List.getElem?_eq_getElem hlE)).2 with ⟨h1, _⟩ | ⟨g, cap, cur, h1, _, hg, _⟩
  · rw [h1] at hk; simp [Value.ownBlock] at hk
  · rw [h1] at hk
    simp [Value.ownBlock] at hk
    subst hk
    rcases h.row.2 with ⟨h2, _⟩ | ⟨g', cap', cur', h2, _, hg', _⟩
    · cases h2
    · simp at h2
      rw [← h2.1, hg] at hg'
      simp at hg'
/-- one row is put anew -/
theorem Mat.put {B mb n : Nat} {w w3 : World} {E : G} {vs : List Value} (h : Mat B mb n w E vs) (i : Nat) (v v' : Value) (hv : vs[i]? = some v) (l : List Int) (hf : Frm (fun k => v.ownBlock = some k) w w3) (hown : w3.ownsRow B 3 1 v' l.length (l.map (Value.int .i64)))
    (hmv : Moved w v v') : Mat B mb n (w3.setCell ⟨mb, i, none⟩ v') (E.set i l) (vs.set i v') ∧ Frm (MatS mb vs) w (w3.setCell ⟨mb, i, none⟩ v') ∧ ∀ k, MatS mb (vs.set i v') k → MatS mb vs k ∨ w.heap.size ≤ k := by
  have hne := h.mbne i v hv
  have r3 := hf.owns h.row (fun k hk e => by simp [Value.ownBlock] at hk; subst hk; exact hne e)
  obtain ⟨r4, _⟩ := r3.stored i v'
  have f4 : Frm (fun k => k = mb) w3 (w3.setCell ⟨mb, i, none⟩ v') := Frm.setCell (S := fun k => k = mb) (Frm.refl _ w3) (p := ⟨mb, i, none⟩) (.inr rfl) _
  have hmb : mb < w.heap.size := (h.row.lt mb rfl).2
  have hv'mb : v'.ownBlock ≠ some mb := by
    intro e
    rcases hmv mb e with e | e
    · exact hne e
    · omega
  have hi := (List.getElem?_eq_some_iff.1 hv).1
  refine ⟨⟨by rw [List.length_set]; exact h.len, by rw [List.length_set]; exact h.vlen, r4, ?_, ?_⟩, ?_, ?_⟩
  · intro j u m hu hm
    by_cases e : i = j
    · subst e
      have hiE : i < E.length := by have := h.len; have := h.vlen; omega
      rw [List.getElem?_set_self hi] at hu
      rw [List.getElem?_set_self hiE] at hm
      cases hu; cases hm
      exact f4.owns hown (fun k hk e => hv'mb (by rw [hk, e]))
    · rw [List.getElem?_set_ne e] at hu hm
      have := hf.owns (h.rows j u m hu hm) (fun k hk e2 => h.sep i j v u hv hu e k e2 hk)
      exact f4.owns this (fun k hk e2 => h.mbne j u hu (by rw [hk, e2]))
  · have hold : ∀ j u, vs[j]? = some u → i ≠ j → ∀ k, v'.ownBlock = some k → u.ownBlock ≠ some k := by
      intro j u hu hij k hk hk2
      rcases hmv k hk with e | e
      · exact h.sep i j v u hv hu hij k e hk2
      · have := (h.lt k (.inr ⟨u, List.mem_of_getElem? hu, hk2⟩)).2; omega
    intro a b u x hu hx hab k hk hk2
    by_cases ea : i = a
    · subst ea
      rw [List.getElem?_set_self hi] at hu
      cases hu
      rw [List.getElem?_set_ne hab] at hx
      exact hold b x hx hab k hk hk2
    · rw [List.getElem?_set_ne ea] at hu
      by_cases eb : i = b
      · subst eb
        rw [List.getElem?_set_self hi] at hx
        cases hx
        exact hold a u hu ea k hk2 hk
      · rw [List.getElem?_set_ne eb] at hx
        exact h.sep a b u x hu hx hab k hk hk2
  · exact (hf.mono (T := MatS mb vs) (fun k _ hk => .inr ⟨v, List.mem_of_getElem? hv, hk⟩)).trans f4 (fun k _ e => .inl e)
  · rintro k (rfl | ⟨u, hu, hk⟩)
    · exact .inl (.inl rfl)
    · rcases List.mem_or_eq_of_mem_set hu with hu | rfl
      · exact .inl (.inr ⟨u, hu, hk⟩)
      · rcases hmv k hk with e | e
        · exact .inl (.inr ⟨v, List.mem_of_getElem? hv, e⟩)
        · exact .inr e

theorem Mat.below {B mb n : Nat} {w w' : World} {E : G} {vs : List Value} (h : Mat B mb n w E vs) (hb : Below w.heap.size w w') : Mat B mb n w' E vs :=
  h.kept (S := fun _ => False) (Frm.of_below hb) (fun _ _ h => h)
theorem rint_wf {l : List Int} (h : ∀ x ∈ l, -9223372036854775808 ≤ x ∧ x ≤ 9223372036854775807) : ∀ x ∈ l, (Lit.int .i64 x).wf = true := by
  intro x hx
  have := h x hx
  simp [Lit.wf, IntKind.min, IntKind.max, IntKind.signed, IntKind.bits]
  omega
/-- it reads as edges -/
theorem Mat.reads {B mb n : Nat} {w : World} {E : G} {vs : List Value} (h : Mat B mb n w E vs) (hn : n ≤ maxLen) (hw : ∀ l ∈ E, ∀ x ∈ l, -9223372036854775808 ≤ x ∧ x ≤ 9223372036854775807) : REd w [.slice (some ⟨mb, 0, none⟩) n n] E := by
  refine ⟨some ⟨mb, 0, none⟩, n, by rw [h.len], by rw [h.len]; exact Nat.le_refl _, hn, fun i l hi => ?_⟩
  have hlE := (List.getElem?_eq_some_iff.1 hi).1
  have hlv : i < vs.length := by have := h.len; have := h.vlen; omega
  refine ⟨mb, 0, [vs[i]], rfl, rfl, fun j u hu => ?_, rints_of_owns (rint_wf (hw l (List.mem_of_getElem? hi))) (h.rows i vs[i] l (List.getElem?_eq_getElem hlv) hi)⟩
  have hj : j = 0 := by have := (List.getElem?_eq_some_iff.1 hu).1; simp at this; omega
  subst hj
  simp at hu
  subst hu
  have := h.row.cells (g := mb) rfl i vs[i] (List.getElem?_eq_getElem hlv)
  rw [Addr.add_lit] at this
  simpa using this
theorem Mat.cell {B mb n : Nat} {w : World} {E : G} {vs : List Value} (h : Mat B mb n w E vs) (i : Nat) (hi : i < n) : ∃ a c, vs[i]? = some (.slice a (E.getD i []).length c) ∧ w.cell? ⟨mb, i, none⟩ = some (.slice a (E.getD i []).length c) ∧ w.ownsRow B 3 1 (.slice a (E.getD i []).length c) (E.getD i []).length ((E.getD i []).map (Value.int .i64)) := by
  have hlv : i < vs.length := by have := h.vlen; omega
  have hlE : i < E.length := by have := h.len; omega
  have hr := h.rows i vs[i] E[i] (List.getElem?_eq_getElem hlv) (List.getElem?_eq_getElem hlE)
  have he : E.getD i [] = E[i] := by simp [List.getD, hlE]
  rw [he]
  have hc := h.row.cells (g := mb) rfl i vs[i] (List.getElem?_eq_getElem hlv)
  rw [Addr.add_lit, Nat.zero_add] at hc
  have hv : vs[i]? = some vs[i] := List.getElem?_eq_getElem hlv
  obtain ⟨a, c, hx⟩ : ∃ a c, vs[i] = .slice a E[i].length c := by
    rcases hr.2 with ⟨h1, h2⟩ | ⟨g, cap, _, h1, _⟩
    · exact ⟨none, 0, by rw [h1, h2]⟩
    · exact ⟨_, cap, h1⟩
  rw [hx] at hr hc hv
  exact ⟨a, c, hv, hc, hr⟩

/-- three of them, apart -/
structure Tri (w0 : World) (n mb bb ub : Nat) (M B U : G) (w : World) : Prop where
  ex : ∃ Mv Bv Uv, Mat w0.heap.size mb n w M Mv ∧ Mat w0.heap.size bb n w B Bv ∧ Mat w0.heap.size ub n w U Uv ∧ (∀ k, MatS mb Mv k → ¬ MatS bb Bv k) ∧ (∀ k, MatS mb Mv k → ¬ MatS ub Uv k) ∧ (∀ k, MatS bb Bv k → ¬ MatS ub Uv k)
  bel : Below w0.heap.size w0 w

theorem mat_put_sep {B mb n : Nat} {w : World} {E : G} {vs : List Value} {S T : Nat → Prop} (h : Mat B mb n w E vs) (hs : ∀ k, S k → ¬ MatS mb vs k) (ht : ∀ k, T k → S k ∨ w.heap.size ≤ k) : ∀ k, T k → ¬ MatS mb vs k := by
  intro k hk hm
  rcases ht k hk with h1 | h1
  · exact hs k h1 hm
  · have := (h.lt k hm).2; omega

/-- one row of one of them is put anew -/
theorem Tri.putM {w0 w w3 : World} {n mb bb ub : Nat} {M B U : G} (h : Tri w0 n mb bb ub M B U w) (i : Nat) (hi : i < n) (l : List Int) (v v' : Value)
    (hv : w.cell? ⟨mb, i, none⟩ = some v) (hf : Frm (fun k => v.ownBlock = some k) w w3) (hown : w3.ownsRow w0.heap.size 3 1 v' l.length (l.map (Value.int .i64))) (hmv : Moved w v v') :
    Tri w0 n mb bb ub (M.set i l) B U (w3.setCell ⟨mb, i, none⟩ v') := by
  obtain ⟨Mv, Bv, Uv, hM, hB, hU, s1, s2, s3⟩ := h.ex
  have hvv : Mv[i]? = some v := by
    obtain ⟨a, c, h1, h2, _⟩ := hM.cell i hi
    rw [h2] at hv; rw [h1]; exact hv
  obtain ⟨p1, p2, p3⟩ := hM.put i v v' hvv l hf hown hmv
  refine ⟨⟨Mv.set i v', Bv, Uv, p1, hB.kept p2 (fun k hk hm => s1 k hm hk), hU.kept p2 (fun k hk hm => s2 k hm hk), mat_put_sep hB s1 p3, mat_put_sep hU s2 p3, s3⟩, ?_⟩
  exact h.bel.trans (p2.below h.bel.size (fun k hk => (hM.lt k hk).1))
theorem Tri.putB {w0 w w3 : World} {n mb bb ub : Nat} {M B U : G} (h : Tri w0 n mb bb ub M B U w) (i : Nat) (hi : i < n) (l : List Int) (v v' : Value)
    (hv : w.cell? ⟨bb, i, none⟩ = some v) (hf : Frm (fun k => v.ownBlock = some k) w w3) (hown : w3.ownsRow w0.heap.size 3 1 v' l.length (l.map (Value.int .i64))) (hmv : Moved w v v') :
    Tri w0 n mb bb ub M (B.set i l) U (w3.setCell ⟨bb, i, none⟩ v') := by
  obtain ⟨Mv, Bv, Uv, hM, hB, hU, s1, s2, s3⟩ := h.ex
  have hvv : Bv[i]? = some v := by
    obtain ⟨a, c, h1, h2, _⟩ := hB.cell i hi
    rw [h2] at hv; rw [h1]; exact hv
  obtain ⟨p1, p2, p3⟩ := hB.put i v v' hvv l hf hown hmv
  have s1' := mat_put_sep hM (S := MatS bb Bv) (fun k hk hm => s1 k hm hk) p3
  refine ⟨⟨Mv, Bv.set i v', Uv, hM.kept p2 (fun k hk hm => s1 k hk hm), p1, hU.kept p2 (fun k hk hm => s3 k hm hk), fun k h1 h2 => s1' k h2 h1, s2, mat_put_sep hU s3 p3⟩, ?_⟩
  exact h.bel.trans (p2.below h.bel.size (fun k hk => (hB.lt k hk).1))
theorem Tri.putU {w0 w w3 : World} {n mb bb ub : Nat} {M B U : G} (h : Tri w0 n mb bb ub M B U w) (i : Nat) (hi : i < n) (l : List Int) (v v' : Value)
    (hv : w.cell? ⟨ub, i, none⟩ = some v) (hf : Frm (fun k => v.ownBlock = some k) w w3) (hown : w3.ownsRow w0.heap.size 3 1 v' l.length (l.map (Value.int .i64))) (hmv : Moved w v v') :
    Tri w0 n mb bb ub M B (U.set i l) (w3.setCell ⟨ub, i, none⟩ v') := by
  obtain ⟨Mv, Bv, Uv, hM, hB, hU, s1, s2, s3⟩ := h.ex
  have hvv : Uv[i]? = some v := by
    obtain ⟨a, c, h1, h2, _⟩ := hU.cell i hi
    rw [h2] at hv; rw [h1]; exact hv
  obtain ⟨p1, p2, p3⟩ := hU.put i v v' hvv l hf hown hmv
  have s2' := mat_put_sep hM (S := MatS ub Uv) (fun k hk hm => s2 k hm hk) p3
  have s3' := mat_put_sep hB (S := MatS ub Uv) (fun k hk hm => s3 k hm hk) p3
  refine ⟨⟨Mv, Bv, Uv.set i v', hM.kept p2 (fun k hk hm => s2 k hk hm), hB.kept p2 (fun k hk hm => s3 k hk hm), p1, s1, fun k h1 h2 => s2' k h2 h1, fun k h1 h2 => s3' k h2 h1⟩, ?_⟩
  exact h.bel.trans (p2.below h.bel.size (fun k hk => (hU.lt k hk).1))
theorem Tri.kept {w0 w w' : World} {n mb bb ub : Nat} {M B U : G} (h : Tri w0 n mb bb ub M B U w) (hb : Below w.heap.size w w') : Tri w0 n mb bb ub M B U w' := by
  obtain ⟨Mv, Bv, Uv, hM, hB, hU, s⟩ := h.ex
  exact ⟨⟨Mv, Bv, Uv, hM.below hb, hB.below hb, hU.below hb, s⟩, h.bel.trans (hb.mono h.bel.size)⟩
theorem Tri.ne {w0 w : World} {n mb bb ub : Nat} {M B U : G} (h : Tri w0 n mb bb ub M B U w) : mb ≠ bb ∧ mb ≠ ub ∧ bb ≠ ub := by
  obtain ⟨Mv, Bv, Uv, hM, hB, hU, s1, s2, s3⟩ := h.ex
  exact ⟨fun e => s1 mb (.inl rfl) (.inl e), fun e => s2 mb (.inl rfl) (.inl e), fun e => s3 bb (.inl rfl) (.inl e)⟩
theorem Tri.atM {w0 w : World} {n mb bb ub : Nat} {M B U : G} (h : Tri w0 n mb bb ub M B U w) (i : Nat) (hi : i < n) : ∃ a c, w.cell? ⟨mb, i, none⟩ = some (.slice a (M.getD i []).length c) ∧ w.ownsRow w0.heap.size 3 1 (.slice a (M.getD i []).length c) (M.getD i []).length ((M.getD i []).map (Value.int .i64)) ∧
    ∀ w3, Frm (fun k => (Value.slice a (M.getD i []).length c).ownBlock = some k) w w3 → w3.cell? ⟨mb, i, none⟩ = some (.slice a (M.getD i []).length c) ∧ w3.frozen? ⟨mb, i, none⟩ = false := by
  obtain ⟨Mv, Bv, Uv, hM, hB, hU, s1, s2, s3⟩ := h.ex
  obtain ⟨a, c, h1, h2, h3⟩ := hM.cell i hi
  refine ⟨a, c, h2, h3, fun w3 hf => ?_⟩
  have hr := hf.owns hM.row (fun k hk e => by simp [Value.ownBlock] at hk; subst hk; exact hM.mbne i _ h1 e)
  refine ⟨?_, hr.frozenAt i⟩
  have hc := hr.cells (g := mb) rfl i _ h1
  rw [Addr.add_lit, Nat.zero_add] at hc
  exact hc
theorem Tri.atB {w0 w : World} {n mb bb ub : Nat} {M B U : G} (h : Tri w0 n mb bb ub M B U w) (i : Nat) (hi : i < n) : ∃ a c, w.cell? ⟨bb, i, none⟩ = some (.slice a (B.getD i []).length c) ∧ w.ownsRow w0.heap.size 3 1 (.slice a (B.getD i []).length c) (B.getD i []).length ((B.getD i []).map (Value.int .i64)) ∧
    ∀ w3, Frm (fun k => (Value.slice a (B.getD i []).length c).ownBlock = some k) w w3 → w3.cell? ⟨bb, i, none⟩ = some (.slice a (B.getD i []).length c) ∧ w3.frozen? ⟨bb, i, none⟩ = false := by
  obtain ⟨Mv, Bv, Uv, hM, hB, hU, s1, s2, s3⟩ := h.ex
  obtain ⟨a, c, h1, h2, h3⟩ := hB.cell i hi
  refine ⟨a, c, h2, h3, fun w3 hf => ?_⟩
  have hr := hf.owns hB.row (fun k hk e => by simp [Value.ownBlock] at hk; subst hk; exact hB.mbne i _ h1 e)
  refine ⟨?_, hr.frozenAt i⟩
  have hc := hr.cells (g := bb) rfl i _ h1
  rw [Addr.add_lit, Nat.zero_add] at hc
  exact hc
theorem Tri.atU {w0 w : World} {n mb bb ub : Nat} {M B U : G} (h : Tri w0 n mb bb ub M B U w) (i : Nat) (hi : i < n) : ∃ a c, w.cell? ⟨ub, i, none⟩ = some (.slice a (U.getD i []).length c) ∧ w.ownsRow w0.heap.size 3 1 (.slice a (U.getD i []).length c) (U.getD i []).length ((U.getD i []).map (Value.int .i64)) ∧
    ∀ w3, Frm (fun k => (Value.slice a (U.getD i []).length c).ownBlock = some k) w w3 → w3.cell? ⟨ub, i, none⟩ = some (.slice a (U.getD i []).length c) ∧ w3.frozen? ⟨ub, i, none⟩ = false := by
  obtain ⟨Mv, Bv, Uv, hM, hB, hU, s1, s2, s3⟩ := h.ex
  obtain ⟨a, c, h1, h2, h3⟩ := hU.cell i hi
  refine ⟨a, c, h2, h3, fun w3 hf => ?_⟩
  have hr := hf.owns hU.row (fun k hk e => by simp [Value.ownBlock] at hk; subst hk; exact hU.mbne i _ h1 e)
  refine ⟨?_, hr.frozenAt i⟩
  have hc := hr.cells (g := ub) rfl i _ h1
  rw [Addr.add_lit, Nat.zero_add] at hc
  exact hc
end Go.Proofs.Ytoljhahmmdibfaa
