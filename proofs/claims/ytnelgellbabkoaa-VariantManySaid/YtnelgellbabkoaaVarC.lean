/- The walk of slices.Clone at settings, and rows of settings that a call owns. Condition: few settings. -/
import Derived.Test.YtnelgellbabkoaaVarU
import Derived.Test.YtnelgellbabkoaaApp
import Derived.Test.YtnelgellbabkoaaSortA
namespace Go.Proofs.Ytnelgellbabkoaa
open Go.RowKit Go.Shelf

/-- a setting's two cells -/
def RSet : Rd Setg := fun _ cs x => cs = [.string x.1, .string x.2] ∧ x.1.size ≤ maxLen ∧ x.2.size ≤ maxLen
theorem stays_set : Stays RSet := fun _ _ _ _ h _ => h
abbrev RSets : Rd (List Setg) := RSlice 2 RSet
theorem setCells_len (x : Setg) : (setCells x).length = 2 := rfl
theorem setsFlat_len : ∀ (l : List Setg), (l.flatMap setCells).length = l.length * 2
  | [] => rfl
  | x :: l => by rw [List.flatMap_cons, List.length_append, setsFlat_len l, setCells_len, List.length_cons]; omega
theorem sets_one (l : List Setg) : ∀ u ∈ l.flatMap setCells, u.oneCell' = true := by
  intro u hu
  obtain ⟨x, _, h⟩ := List.mem_flatMap.1 hu
  simp [setCells] at h
  rcases h with rfl | rfl <;> rfl
theorem SortM_flat (f : List Setg) (i : Nat) (h : i < f.length) (j : Nat) (hj : j < 2) : (f.flatMap setCells)[i * 2 + j]? = (setCells f[i])[j]? := flat_get setCells 2 setCells_len f i h j hj
/-- the cells of a slice of settings -/
theorem sets_news {w : World} {o : Option Addr} {n c : Nat} {f : List Setg} (h : RSets w [.slice o n c] f) : ∀ j u, (f.flatMap setCells)[j]? = some u → ∃ b off, o = some ⟨b, off, none⟩ ∧ w.cell? ⟨b, off + j, none⟩ = some u := by
  obtain ⟨a, cap, hv, _, _, hel⟩ := h
  simp only [List.cons.injEq, and_true, Value.slice.injEq] at hv
  obtain ⟨rfl, _, _⟩ := hv
  intro j u hu
  have hj := (List.getElem?_eq_some_iff.1 hu).1
  rw [setsFlat_len] at hj
  have hi : j / 2 < f.length := by omega
  have e := SortM_flat f (j / 2) hi (j % 2) (by omega)
  have ej : j / 2 * 2 + j % 2 = j := by omega
  rw [ej, hu] at e
  obtain ⟨b, off, ecs, h1, h2, h3, h4, _⟩ := hel (j / 2) f[j / 2] (List.getElem?_eq_getElem hi)
  subst h4
  refine ⟨b, off, h1, ?_⟩
  have := h3 (j % 2) u e.symm
  rwa [Nat.add_assoc, ej] at this
theorem sets_shape {w : World} {v : Value} {f : List Setg} (h : RSets w [v] f) : ∃ a c, v = .slice a f.length c := by
  obtain ⟨a, cap, hv, _⟩ := h
  simp only [List.cons.injEq, and_true] at hv
  exact ⟨a, cap, hv⟩
theorem lit_sets {w : World} {B : Nat} (h : B ≤ w.heap.size) : (w.alloc (.cells #[] 38)).ownsRow B 38 2 (.slice (some ⟨w.heap.size, 0, none⟩) 0 0) 0 [] := World.ownsRow_lit (base := B) (e := 38) (size := 2) w #[] 0 h (by decide) rfl
def ClonePost (w : World) (n : Nat) (N : List Value) (e : Ending) (w' : World) : Prop := ∃ o, e = .returned o ∧ w'.ownsRow w.heap.size 38 2 o n N ∧ Below w.heap.size w w'
set_option maxRecDepth 10000 in
theorem cloneSet_any {w : World} {v : Value} {l : List Setg} (h : RSets w [v] l) (hl : l.length ≤ 1000000) : Calls Try.prog 68 #[v] w (ClonePost w l.length (l.flatMap setCells)) := by
  obtain ⟨a, c, rfl⟩ := sets_shape h
  have hN : ∀ j u, (l.flatMap setCells)[j]? = some u → ∃ b off, a = some ⟨b, off, none⟩ ∧ (w.alloc (.cells #[] 38)).cell? ⟨b, off + j, none⟩ = some u := fun j u hu => by
    obtain ⟨b, off, h1, h2⟩ := sets_news h j u hu
    exact ⟨b, off, h1, cell_later (below_alloc1 _ _) h2⟩
  have h1 := sets_one l
  have hfl := setsFlat_len l
  have hlit := lit_sets (w := w) (B := w.heap.size) (Nat.le_refl _)
  obtain ⟨n, hn⟩ : ∃ n, n = l.length := ⟨_, rfl⟩
  obtain ⟨N, hNN⟩ : ∃ N, N = l.flatMap setCells := ⟨_, rfl⟩
  rw [← hNN] at hN h1 hfl
  rw [← hn] at hfl hl h ⊢
  rw [← hNN]
  cases a with
  | none =>
    have hl0 : l = [] := by
      cases l with
      | nil => rfl
      | cons x r =>
        obtain ⟨_, _, hv, _, _, hel⟩ := h
        simp only [List.cons.injEq, and_true, Value.slice.injEq] at hv
        obtain ⟨rfl, _, _⟩ := hv
        obtain ⟨b, off, ecs, h1, _⟩ := hel 0 x rfl
        cases h1
    have hn0 : n = 0 := by rw [hn, hl0]; rfl
    have hN0 : N = [] := by rw [hNN, hl0]; rfl
    subst hn0
    have hnil : ∀ W, (binOp .eql 36 (.slice none 0 c) (.slice none 0 0)).run Try.prog W = .ok (.bool true) W := fun W => Lib.run_eql_slice_nil W 36 38 none 0 c 0 0 Try.underlying36
    have Hh := Lib.hid h; have HN := Lib.hid hN; have H1 := Lib.hid h1; have Hfl := Lib.hid hfl; have Hlit := Lib.hid hlit; have Hn := Lib.hid hn; have HNN := Lib.hid hNN; have Hl0 := Lib.hid hl0; have HN0 := Lib.hid hN0; clear h hN h1 hfl hlit hn hNN hl0 hN0
    go_enter Try.func68, Try.ntmps68
    go_wp2_with fail
    go_ret
    exact ⟨_, rfl, by rw [HN0.out]; exact World.ownsRow_nil _ _ _ _, Below.refl _ _⟩
  | some p =>
    have hnil : ∀ W, (binOp .eql 36 (.slice (some p) n c) (.slice none 0 0)).run Try.prog W = .ok (.bool false) W := fun W => Lib.run_eql_slice_nil W 36 38 (some p) n c 0 0 Try.underlying36
    have Hh := Lib.hid h; have HN := Lib.hid hN; have H1 := Lib.hid h1; have Hfl := Lib.hid hfl; have Hlit := Lib.hid hlit; have Hn := Lib.hid hn; have HNN := Lib.hid hNN; clear h hN h1 hfl hlit hn hNN
    go_enter Try.func68, Try.ntmps68
    go_wp2_with (at_builtin; (refine wpList_append_from elem_set rfl (.tmp 5) (.tmp 6) rfl w.heap.size (.slice (some ⟨w.heap.size, 0, none⟩) 0 0) 0 [] rfl Hlit.out (some p) n c N rfl Hfl.out HN.out H1.out (by omega) (by unfold maxLen; omega) (by simp) ?_; intro v1 w1 hown1 hg1 hm1; obtain ⟨oa, oc, rfl⟩ := own_shape hown1; generalize hN7 : 0 + n = N7 at hown1 ⊢; have Hown1 := Lib.hid hown1; have Hg1 := Lib.hid hg1; have HN7 := Lib.hid hN7; clear hown1 hg1 hm1 hN7))
    go_ret
    have hb1 : Below w.heap.size w w1 := bel_own (below_alloc1 w _) Hlit.out (Nat.le_refl _) Hg1.out (by simp)
    refine ⟨_, rfl, ?_, hb1⟩
    have h9 := Hown1.out
    have e : N7 = n := by have := HN7.out; omega
    rw [List.nil_append] at h9
    rw [e] at h9 ⊢
    exact h9
/-- rows of settings that a call owns, in a row -/
structure SRws (B : Nat) (w : World) (v : Value) (vs : List Value) (l : List (List Setg)) : Prop where
  len : vs.length = l.length
  row : w.ownsRow B 36 1 v l.length vs
  rows : ∀ (i : Nat) u f, vs[i]? = some u → l[i]? = some f → w.ownsRow B 38 2 u f.length (f.flatMap setCells)
theorem SRws.nil (B : Nat) (w : World) : SRws B w (.slice none 0 0) [] [] := ⟨rfl, World.ownsRow_nil _ _ _ _, fun i u f h => by simp at h⟩
theorem SRws.below {B : Nat} {w w' : World} {v : Value} {vs : List Value} {l : List (List Setg)} (h : SRws B w v vs l) (hb : Below w.heap.size w w') : SRws B w' v vs l :=
  ⟨h.len, ownsRow_below h.row hb, fun i u f h1 h2 => ownsRow_below (h.rows i u f h1 h2) hb⟩
/-- it stays where another row grows -/
theorem SRws.kept {B B' : Nat} {w w' : World} {v x : Value} {vs xs : List Value} {l : List (List Setg)} {n : Nat} (h : SRws B w v vs l) (hown : w.ownsRow B' 36 1 x n xs) (hne : ∀ k, v.ownBlock = some k → x.ownBlock ≠ some k) (hg : w.grownBy w' x.ownBlock) : SRws B w' v vs l := by
  have hf := frm_of_grown hg
  exact ⟨h.len, hf.owns h.row (fun k hk e => hne k hk e), fun i u f hu hl => by
    have ho := h.rows i u f hu hl
    exact hf.owns ho (fun k hk e => apart_type hown ho (by decide) k e hk)⟩
theorem SRws.push {B : Nat} {w w' : World} {v v' u : Value} {vs : List Value} {l : List (List Setg)} {f : List Setg} (h : SRws B w v vs l) (hu : w.ownsRow B 38 2 u f.length (f.flatMap setCells))
    (hown : w'.ownsRow B 36 1 v' (l.length + 1) (vs ++ [u])) (hg : w.grownBy w' v.ownBlock) : SRws B w' v' (vs ++ [u]) (l ++ [f]) := by
  have hf := frm_of_grown hg
  refine ⟨by simp [h.len], by simpa using hown, fun i x g hx hl => ?_⟩
  by_cases hi : i < vs.length
  · rw [List.getElem?_append_left hi] at hx
    rw [List.getElem?_append_left (by rw [← h.len]; exact hi)] at hl
    have ho := h.rows i x g hx hl
    exact hf.owns ho (fun k hk e => apart_type h.row ho (by decide) k e hk)
  · have hlt := (List.getElem?_eq_some_iff.1 hx).1
    have hiv : i = vs.length := by simp at hlt; omega
    rw [List.getElem?_append_right (by omega), hiv, Nat.sub_self] at hx
    rw [List.getElem?_append_right (by rw [← h.len]; omega), hiv, h.len, Nat.sub_self] at hl
    simp at hx hl
    subst hx; subst hl
    exact hf.owns hu (fun k hk e => apart_type h.row hu (by decide) k e hk)
/-- a row of settings that the call owns reads as they are -/
theorem sets_reads {w : World} {B : Nat} {v : Value} {f : List Setg} (hw : ∀ x ∈ f, x.1.size ≤ maxLen ∧ x.2.size ≤ maxLen) (h : w.ownsRow B 38 2 v f.length (f.flatMap setCells)) : RSets w [v] f := by
  obtain ⟨a, cap, rfl, h1, h2, h3⟩ := Sl.of_owns h
  refine ⟨a, cap, rfl, h1, h2, fun i x hi => ?_⟩
  have hil := (List.getElem?_eq_some_iff.1 hi).1
  have hx := (List.getElem?_eq_some_iff.1 hi).2
  have hc : ∀ c, c < 2 → ∀ u, (setCells x)[c]? = some u → ∃ b off, a = some ⟨b, off, none⟩ ∧ w.cell? ⟨b, off + (i * 2 + c), none⟩ = some u := fun c hc u hu => h3 (i * 2 + c) u (by rw [SortM_flat f i hil c hc, hx]; exact hu)
  obtain ⟨b, off, ha, h4⟩ := hc 0 (by omega) _ rfl
  obtain ⟨b', off', ha', h5⟩ := hc 1 (by omega) _ rfl
  rw [ha] at ha'
  cases ha'
  refine ⟨b, off, setCells x, ha, rfl, fun j u hu => ?_, rfl, (hw x (List.mem_of_getElem? hi)).1, (hw x (List.mem_of_getElem? hi)).2⟩
  match j, hu with
  | 0, hu => simp [setCells] at hu; subst hu; rw [← Nat.add_assoc] at h4; exact h4
  | 1, hu => simp [setCells] at hu; subst hu; rw [← Nat.add_assoc] at h5; exact h5
end Go.Proofs.Ytnelgellbabkoaa
