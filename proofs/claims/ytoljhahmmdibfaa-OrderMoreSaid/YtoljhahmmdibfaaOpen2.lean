/- Readings of plain data with the reach: each string and slice takes at most 2^47 bytes. No condition. -/
import Derived.Test.YtoljhahmmdibfaaOpen
import Derived.SizedLaws
set_option linter.unusedVariables false
set_option linter.unusedSimpArgs false
namespace Go.Proofs.Ytoljhahmmdibfaa
open Go.RowKit

def RStrZ : Rd ByteArray := fun _ cs s => cs = [.string s] ∧ s.size ≤ 140737488351232
/-- a slice, with its reach -/
def RSlZ {α : Type} (sz bytes : Nat) (R : Rd α) : Rd (List α) := fun w cs l => RSlice sz R w cs l ∧ l.length * bytes ≤ 140737488351232
theorem stays_strZ : Stays RStrZ := fun _ _ _ _ h _ => h
theorem stays_slZ {α : Type} {sz bytes : Nat} {R : Rd α} (hR : Stays R) : Stays (RSlZ sz bytes R) := fun w w' cs a h hb => ⟨stays_slice hR w w' cs a h.1 hb, h.2⟩

def OpensZ {α : Type} (P : Program) (t : TypeId) (R : Rd α) : Prop :=
  ∀ {H : Type} (enc : TypeId × Value → H) (w : World) (base : Nat) (spare : Nat → Bool) (held : Bool) (fuel : Nat) (cs : List Value) (x : DataW H × List MemPlace),
    DataW.trod enc P w base spare held fuel t cs = some x → (∀ n ∈ x.1.weights P t, n ≤ reachBytes) → ∃ a, R w cs a

theorem opensZ_of {α : Type} {P : Program} {t : TypeId} {R : Rd α} (h : Opens P t R) : OpensZ P t R := fun enc w base spare held fuel cs x hx _ => h enc w base spare held fuel cs x hx
theorem opensZ_int {P : Program} {t : TypeId} {k : IntKind} (ht : P.underlying t = some (.int k)) : OpensZ P t (RInt k) := opensZ_of (opens_int ht)
theorem opensZ_bool {P : Program} {t : TypeId} (ht : P.underlying t = some .bool) : OpensZ P t RBool := opensZ_of (opens_bool ht)
theorem opensZ_str {P : Program} {t : TypeId} (ht : P.underlying t = some .string) : OpensZ P t RStrZ := by
  intro H enc w base spare held fuel cs x h hz
  obtain ⟨n, h1, h2, h3⟩ := DataW.trod_string ht h
  refine ⟨n, h1, ?_⟩
  subst h2
  have := hz n.data.toList.length (by simp only [DataW.weights, List.mem_singleton])
  have e : reachBytes = 140737488351232 := rfl
  rw [e] at this
  have e2 : n.data.toList.length = n.size := by rw [Array.length_toList]; rfl
  omega
theorem weightsAll_mem' {H : Type} {P : Program} {e : TypeId} : ∀ {l : List (DataW H)} {d : DataW H}, d ∈ l → ∀ n ∈ d.weights P e, n ∈ DataW.weightsAll P e l
  | x :: r, d, hd, n, hn => by
    simp only [DataW.weightsAll, List.mem_append]
    rcases List.mem_cons.1 hd with rfl | h
    · exact Or.inl hn
    · exact Or.inr (weightsAll_mem' h n hn)
theorem opensZ_slice {α : Type} {P : Program} {t e : TypeId} {R : Rd α} {sz bytes : Nat} (ht : P.underlying t = some (.slice e)) (hc : P.cellsOf e = sz) (hy : P.bytesOf e = bytes) (hz : 0 < sz) (he : OpensZ P e R) : OpensZ P t (RSlZ sz bytes R) := by
  intro H enc w base spare held fuel cs x h hw
  have hre : reachBytes = 140737488351232 := rfl
  rcases Go.Deep.open_slice ht h with ⟨rfl, _⟩ | ⟨a, len, cap, m, n, D, Pl, rfl, hb, hl, hm, hmm, hxx, hx⟩
  · exact ⟨[], ⟨none, 0, rfl, Nat.le_refl _, Nat.zero_le _, fun i x hi => by simp at hi⟩, by simp⟩
  · subst hxx
    have hlm : len ≤ m := by rw [hmm]; split <;> omega
    have hwt : ∀ i, i < len → ∀ n ∈ (D i).weights P e, n ≤ reachBytes := by
      intro i hi n hn
      refine hw n ?_
      simp only [DataW.weights, ht, List.mem_cons, List.mem_append]
      exact .inr (.inl (weightsAll_mem' (List.mem_map.2 ⟨i, List.mem_range.2 hi, rfl⟩) n hn))
    have hlen : len * bytes ≤ 140737488351232 := by
      have := hw ((((List.range len).map D).length + ((List.range (m - len)).map fun j => D (len + j)).length) * P.bytesOf e) (by simp [DataW.weights, ht])
      rw [hy, hre, List.length_map, List.length_range, List.length_map, List.length_range] at this
      have h2 : len * bytes ≤ (len + (m - len)) * bytes := Nat.mul_le_mul_right _ (by omega)
      omega
    have hex : ∀ i, i < len → ∃ y : α, ∃ cs', w.cells? base (a.add (i * P.cellsOf e)) (P.cellsOf e) = some cs' ∧ R w cs' y := by
      intro i hi
      obtain ⟨cs', h1, h2⟩ := hx i (by omega)
      obtain ⟨y, hy⟩ := he enc w base spare held n cs' _ h2 (hwt i hi)
      exact ⟨y, cs', h1, hy⟩
    have build : ∀ k, k ≤ len → ∃ l : List α, l.length = k ∧ ∀ i y, l[i]? = some y → ∃ cs', w.cells? base (a.add (i * P.cellsOf e)) (P.cellsOf e) = some cs' ∧ R w cs' y := by
      intro k
      induction k with
      | zero => exact fun _ => ⟨[], rfl, fun i y hi => by simp at hi⟩
      | succ k ih =>
        intro hk
        obtain ⟨l, h1, h2⟩ := ih (by omega)
        obtain ⟨y, cs', h3, h4⟩ := hex k (by omega)
        refine ⟨l ++ [y], by simp [h1], fun i z hz => ?_⟩
        rw [List.getElem?_append] at hz
        split at hz
        · exact h2 i z hz
        · have hik : i = k := by
            have := (List.getElem?_eq_some_iff.1 hz).1
            simp at this; omega
          subst hik
          rw [h1, Nat.sub_self] at hz
          simp at hz
          subst hz
          exact ⟨cs', h3, h4⟩
    obtain ⟨l, h1, h2⟩ := build len (Nat.le_refl _)
    refine ⟨l, ⟨some a, cap, by rw [h1], by omega, hm, fun i y hi => ?_⟩, by rw [h1]; exact hlen⟩
    obtain ⟨cs', h3, h4⟩ := h2 i y hi
    obtain ⟨_, h5, h6⟩ := World.cells?_some h3
    obtain ⟨b, off, spot⟩ := a
    have hspot : spot = none := by
      obtain ⟨cs0, g3, _⟩ := hx 0 (by have := (List.getElem?_eq_some_iff.1 hi).1; omega)
      obtain ⟨_, g5, g6⟩ := World.cells?_some g3
      have h0 := g6 0 (by omega)
      have : 0 < cs0.length := by omega
      rw [List.getElem?_eq_getElem this] at h0
      have := World.cell?_spot h0
      simpa [Addr.add] using this
    subst hspot
    refine ⟨b, off, cs', rfl, by omega, fun j u hu => ?_, h4⟩
    have hj : j < P.cellsOf e := by have := (List.getElem?_eq_some_iff.1 hu).1; omega
    have := h6 j hj
    rw [Addr.add_lit, Addr.add_lit, hu, hc] at this
    exact this

/-- the fields of a struct from one offset on read as S says -/
def FieldsZ {β : Type} (P : Program) (N : Nat) (fs : List Field) (off : Nat) (S : Rd β) : Prop :=
  off ≤ N ∧ ∀ {H : Type} (enc : TypeId × Value → H) (w : World) (base : Nat) (spare : Nat → Bool) (held : Bool) (n : Nat) (cs : List Value), cs.length = N →
    (∀ f ∈ fs, ∃ x, DataW.trod enc P w base spare held n f.type ((cs.drop f.offset).take (P.cellsOf f.type)) = some x ∧ ∀ n ∈ x.1.weights P f.type, n ≤ reachBytes) → ∃ b, S w (cs.drop off) b
theorem fieldsZ_nil {P : Program} {N : Nat} : FieldsZ P N [] N RNil :=
  ⟨Nat.le_refl _, fun _ _ _ _ _ _ cs hN _ => ⟨(), by simp [RNil, hN]⟩⟩
theorem fieldsZ_cons {P : Program} {N : Nat} {f : Field} {fs : List Field} {off sz : Nat} {α β : Type} {R : Rd α} {S : Rd β} (ho : f.offset = off) (hs : P.cellsOf f.type = sz) (hR : OpensZ P f.type R)
    (h : FieldsZ P N fs (off + sz) S) : FieldsZ P N (f :: fs) off (RCons sz R S) := by
  obtain ⟨hle, ih⟩ := h
  refine ⟨by omega, fun enc w base spare held n cs hN hf => ?_⟩
  obtain ⟨x, hx, hxw⟩ := hf f (by simp)
  obtain ⟨a, ha⟩ := hR enc w base spare held n _ _ hx hxw
  obtain ⟨b, hb⟩ := ih enc w base spare held n cs hN (fun g hg => hf g (by simp [hg]))
  refine ⟨(a, b), (cs.drop off).take sz, cs.drop (off + sz), ?_, ?_, ?_, hb⟩
  · rw [← List.drop_drop, List.take_append_drop]
  · simp; omega
  · rw [ho, hs] at ha; exact ha
theorem opensZ_struct {P : Program} {t : TypeId} {fs : Array Field} {β : Type} {S : Rd β} (ht : P.underlying t = some (.struct fs)) (h : FieldsZ P (P.cellsOf t) fs.toList 0 S) : OpensZ P t S := by
  intro H enc w base spare held fuel cs x hx hw
  obtain ⟨xs, n, _, hxx, hl, hlen, hf⟩ := DataW.trod_struct ht hx
  obtain ⟨b, hb⟩ := h.2 enc w base spare held n cs hl (by
    intro f hfm
    obtain ⟨i, hi⟩ := List.mem_iff_getElem?.1 hfm
    have h1 : fs[i]? = some f := by simpa using hi
    have h2 := hf i f h1
    have hlt : i < xs.length := by
      rw [hlen]
      have := (Array.getElem?_eq_some_iff.1 h1).1
      exact this
    refine ⟨xs[i], by rw [h2]; simp [hlt], fun n hn => hw n ?_⟩
    subst hxx
    simp only [DataW.weights, ht]
    exact DataW.weights_mem_each (j := i) (by rw [List.getElem?_map, hi]; rfl) (by simp [hlt]) n hn)
  exact ⟨b, by simpa using hb⟩
theorem opensZ_map {α β : Type} {P : Program} {t : TypeId} {R : Rd α} {S : Rd β} (hR : OpensZ P t R) (h : ∀ w cs a, R w cs a → ∃ b, S w cs b) : OpensZ P t S := by
  intro H enc w base spare held fuel cs x hx hw
  obtain ⟨a, ha⟩ := hR enc w base spare held fuel cs x hx hw
  exact h _ _ _ ha
/-- the reach of one argument -/
theorem sized_arg {H : Type} {P : Program} {ts : List TypeId} {ds : List (DataW H)} (h : (DataW.weightsEach P ts ds).all (· ≤ reachBytes) = true) {j : Nat} {t : TypeId} {d : DataW H} (ht : ts[j]? = some t) (hd : ds[j]? = some d) : ∀ n ∈ d.weights P t, n ≤ reachBytes := by
  intro n hn
  exact of_decide_eq_true (List.all_eq_true.1 h _ (DataW.weights_mem_each ht hd n hn))
end Go.Proofs.Ytoljhahmmdibfaa
