/- Readings of plain data in memory, by shapes; each is opened out of the form's own reading, and stays where memory only grows. No condition. -/
import Derived.Test.YtoljhahmmdibfaaKit
import Derived.ProofKit
import Derived.Deep.Slices
set_option linter.unusedVariables false
set_option linter.unusedSimpArgs false
namespace Go.Proofs.Ytoljhahmmdibfaa
open Go.RowKit

abbrev Rd (α : Type) := World → List Value → α → Prop

def RInt (k : IntKind) : Rd Int := fun _ cs n => cs = [.int k n] ∧ (Lit.int k n).wf = true
def RBool : Rd Bool := fun _ cs b => cs = [.bool b]
def RStr : Rd ByteArray := fun _ cs s => cs = [.string s] ∧ s.size ≤ maxLen
/-- a slice: its elements, each of sz cells, in a row -/
def RSlice {α : Type} (sz : Nat) (R : Rd α) : Rd (List α) := fun w cs l =>
  ∃ a cap, cs = [.slice a l.length cap] ∧ l.length ≤ cap ∧ cap ≤ maxLen ∧
    ∀ i x, l[i]? = some x → ∃ b off ecs, a = some ⟨b, off, none⟩ ∧ ecs.length = sz ∧ (∀ j u, ecs[j]? = some u → w.cell? ⟨b, off + i * sz + j, none⟩ = some u) ∧ R w ecs x
def RNil : Rd Unit := fun _ cs _ => cs = []
def RCons {α β : Type} (sz : Nat) (R : Rd α) (S : Rd β) : Rd (α × β) := fun w cs x => ∃ c1 c2, cs = c1 ++ c2 ∧ c1.length = sz ∧ R w c1 x.1 ∧ S w c2 x.2

def Stays {α : Type} (R : Rd α) : Prop := ∀ w w' cs a, R w cs a → Below w.heap.size w w' → R w' cs a

theorem stays_int (k : IntKind) : Stays (RInt k) := fun _ _ _ _ h _ => h
theorem stays_bool : Stays RBool := fun _ _ _ _ h _ => h
theorem stays_str : Stays RStr := fun _ _ _ _ h _ => h
theorem stays_nil : Stays RNil := fun _ _ _ _ h _ => h
theorem stays_cons {α β : Type} {sz : Nat} {R : Rd α} {S : Rd β} (hR : Stays R) (hS : Stays S) : Stays (RCons sz R S) := by
  rintro w w' cs ⟨a, b⟩ ⟨c1, c2, h1, h2, h3, h4⟩ hb
  exact ⟨c1, c2, h1, h2, hR _ _ _ _ h3 hb, hS _ _ _ _ h4 hb⟩
theorem stays_slice {α : Type} {sz : Nat} {R : Rd α} (hR : Stays R) : Stays (RSlice sz R) := by
  rintro w w' cs l ⟨a, cap, rfl, h1, h2, h3⟩ hb
  refine ⟨a, cap, rfl, h1, h2, fun i x hi => ?_⟩
  obtain ⟨b, off, ecs, rfl, h4, h5, h6⟩ := h3 i x hi
  exact ⟨b, off, ecs, rfl, h4, fun j u hu => cell_later hb (h5 j u hu), hR _ _ _ _ h6 hb⟩

def Opens {α : Type} (P : Program) (t : TypeId) (R : Rd α) : Prop :=
  ∀ {H : Type} (enc : TypeId × Value → H) (w : World) (base : Nat) (spare : Nat → Bool) (held : Bool) (fuel : Nat) (cs : List Value) (x : DataW H × List MemPlace),
    DataW.trod enc P w base spare held fuel t cs = some x → ∃ a, R w cs a

theorem opens_int {P : Program} {t : TypeId} {k : IntKind} (ht : P.underlying t = some (.int k)) : Opens P t (RInt k) := by
  intro H enc w base spare held fuel cs x h
  obtain ⟨n, h1, _, h3⟩ := DataW.trod_int ht h
  exact ⟨n, h1, h3⟩
theorem opens_bool {P : Program} {t : TypeId} (ht : P.underlying t = some .bool) : Opens P t RBool := by
  intro H enc w base spare held fuel cs x h
  obtain ⟨n, h1, _⟩ := DataW.trod_bool ht h
  exact ⟨n, h1⟩
theorem opens_str {P : Program} {t : TypeId} (ht : P.underlying t = some .string) : Opens P t RStr := by
  intro H enc w base spare held fuel cs x h
  obtain ⟨n, h1, _, h3⟩ := DataW.trod_string ht h
  exact ⟨n, h1, h3⟩
theorem opens_slice {α : Type} {P : Program} {t e : TypeId} {R : Rd α} {sz : Nat} (ht : P.underlying t = some (.slice e)) (hc : P.cellsOf e = sz) (hz : 0 < sz) (he : Opens P e R) : Opens P t (RSlice sz R) := by
  intro H enc w base spare held fuel cs x h
  rcases Go.Deep.open_slice ht h with ⟨rfl, _⟩ | ⟨a, len, cap, m, n, D, Pl, rfl, hb, hl, hm, hmm, _, hx⟩
  · exact ⟨[], none, 0, rfl, Nat.le_refl _, Nat.zero_le _, fun i x hi => by simp at hi⟩
  · have hlm : len ≤ m := by rw [hmm]; split <;> omega
    have hex : ∀ i, i < len → ∃ y : α, ∃ cs', w.cells? base (a.add (i * P.cellsOf e)) (P.cellsOf e) = some cs' ∧ R w cs' y := by
      intro i hi
      obtain ⟨cs', h1, h2⟩ := hx i (by omega)
      obtain ⟨y, hy⟩ := he enc w base spare held n cs' _ h2
      exact ⟨y, cs', h1, hy⟩
    have build : ∀ k, k ≤ len → ∃ l : List α, l.length = k ∧ ∀ i y, l[i]? = some y → ∃ cs', w.cells? base (a.add (i * P.cellsOf e)) (P.cellsOf e) = some cs' ∧ R w cs' y := by
      intro k
      induction k with
      | zero => exact fun _ => ⟨[], rfl, fun i y hi => by simp at hi⟩
      | succ k ih =>
        intro hk
        obtain ⟨l, h1, h2⟩ := ih (by omega)
        obtain ⟨y, cs', h3, h4⟩ := hex k (by omega)
        refine ⟨l ++ [y], by simp [h1], fun i z hz => ?_⟩
        rw [List.getElem?_append] at hz
        split at hz
        · exact h2 i z hz
        · have hik : i = k := by
            have := (List.getElem?_eq_some_iff.1 hz).1
            simp at this; omega
          subst hik
          rw [h1, Nat.sub_self] at hz
          simp at hz
          subst hz
          exact ⟨cs', h3, h4⟩
    obtain ⟨l, h1, h2⟩ := build len (Nat.le_refl _)
    refine ⟨l, some a, cap, by rw [h1], by omega, hm, fun i y hi => ?_⟩
    obtain ⟨cs', h3, h4⟩ := h2 i y hi
    obtain ⟨_, h5, h6⟩ := World.cells?_some h3
    obtain ⟨b, off, spot⟩ := a
    have hspot : spot = none := by
      obtain ⟨cs0, g3, _⟩ := hx 0 (by have := (List.getElem?_eq_some_iff.1 hi).1; omega)
      obtain ⟨_, g5, g6⟩ := World.cells?_some g3
      have h0 := g6 0 (by omega)
      have : 0 < cs0.length := by omega
      rw [List.getElem?_eq_getElem this] at h0
      have := World.cell?_spot h0
      simpa [Addr.add] using this
    subst hspot
    refine ⟨b, off, cs', rfl, by omega, fun j u hu => ?_, h4⟩
    have hj : j < P.cellsOf e := by have := (List.getElem?_eq_some_iff.1 hu).1; omega
    have := h6 j hj
    rw [Addr.add_lit, Addr.add_lit, hu, hc] at this
    exact this

/-- the fields of a struct from one offset on read as S says -/
def FieldsOpen {β : Type} (P : Program) (N : Nat) (fs : List Field) (off : Nat) (S : Rd β) : Prop :=
  off ≤ N ∧ ∀ {H : Type} (enc : TypeId × Value → H) (w : World) (base : Nat) (spare : Nat → Bool) (held : Bool) (n : Nat) (cs : List Value), cs.length = N →
    (∀ f ∈ fs, ∃ x, DataW.trod enc P w base spare held n f.type ((cs.drop f.offset).take (P.cellsOf f.type)) = some x) → ∃ b, S w (cs.drop off) b

theorem fields_nil {P : Program} {N : Nat} : FieldsOpen P N [] N RNil :=
  ⟨Nat.le_refl _, fun _ _ _ _ _ _ cs hN _ => ⟨(), by simp [RNil, hN]⟩⟩
theorem fields_cons {P : Program} {N : Nat} {f : Field} {fs : List Field} {off sz : Nat} {α β : Type} {R : Rd α} {S : Rd β} (ho : f.offset = off) (hs : P.cellsOf f.type = sz) (hR : Opens P f.type R)
    (h : FieldsOpen P N fs (off + sz) S) : FieldsOpen P N (f :: fs) off (RCons sz R S) := by
  obtain ⟨hle, ih⟩ := h
  refine ⟨by omega, fun enc w base spare held n cs hN hf => ?_⟩
  obtain ⟨x, hx⟩ := hf f (by simp)
  obtain ⟨a, ha⟩ := hR enc w base spare held n _ _ hx
  obtain ⟨b, hb⟩ := ih enc w base spare held n cs hN (fun g hg => hf g (by simp [hg]))
  refine ⟨(a, b), (cs.drop off).take sz, cs.drop (off + sz), ?_, ?_, ?_, hb⟩
  · rw [← List.drop_drop, List.take_append_drop]
  · simp; omega
  · rw [ho, hs] at ha; exact ha

theorem opens_struct {P : Program} {t : TypeId} {fs : Array Field} {β : Type} {S : Rd β} (ht : P.underlying t = some (.struct fs)) (h : FieldsOpen P (P.cellsOf t) fs.toList 0 S) : Opens P t S := by
  intro H enc w base spare held fuel cs x hx
  obtain ⟨xs, n, _, _, hl, hlen, hf⟩ := DataW.trod_struct ht hx
  obtain ⟨b, hb⟩ := h.2 enc w base spare held n cs hl (by
    intro f hfm
    obtain ⟨i, hi⟩ := List.mem_iff_getElem?.1 hfm
    have h1 : fs[i]? = some f := by simpa using hi
    have h2 := hf i f h1
    have hlt : i < xs.length := by
      rw [hlen]
      have := (Array.getElem?_eq_some_iff.1 h1).1
      exact this
    exact ⟨xs[i], by rw [h2]; simp [hlt]⟩)
  exact ⟨b, by simpa using hb⟩

theorem opens_map {α β : Type} {P : Program} {t : TypeId} {R : Rd α} {S : Rd β} (hR : Opens P t R) (h : ∀ w cs a, R w cs a → ∃ b, S w cs b) : Opens P t S := by
  intro H enc w base spare held fuel cs x hx
  obtain ⟨a, ha⟩ := hR enc w base spare held fuel cs x hx
  exact h _ _ _ ha

theorem opens_ints_of {P : Program} {t e : TypeId} (ht : P.underlying t = some (.slice e)) (he : P.underlying e = some (.int .i64)) (hc : P.cellsOf e = 1) : Opens P t (RSlice 1 (RInt .i64)) := opens_slice ht hc (by decide) (opens_int he)
/-- one element of a slice of numbers -/
theorem ints_cell {w : World} {a : Option Addr} {l : List Int} (h : ∀ i x, l[i]? = some x → ∃ b off ecs, a = some ⟨b, off, none⟩ ∧ ecs.length = 1 ∧ (∀ j u, ecs[j]? = some u → w.cell? ⟨b, off + i * 1 + j, none⟩ = some u) ∧ RInt .i64 w ecs x) (i : Nat) (hi : i < l.length) :
    ∃ b off, a = some ⟨b, off, none⟩ ∧ w.cell? ⟨b, off + i, none⟩ = some (.int .i64 l[i]) ∧ -9223372036854775808 ≤ l[i] ∧ l[i] ≤ 9223372036854775807 := by
  obtain ⟨b, off, ecs, h1, h2, h3, h4, h5⟩ := h i l[i] (List.getElem?_eq_getElem hi)
  subst h4
  refine ⟨b, off, h1, by simpa using h3 0 _ rfl, ?_⟩
  simpa [Lit.wf, IntKind.min, IntKind.max, IntKind.signed, IntKind.bits] using h5
theorem okWide_agg {P : Program} {w : World} {r : Reach} {base : Nat} {t : TypeId} {v : Value} {fs : Array Field} (ht : P.underlying t = some (.struct fs)) (h : Value.okWide P w r base t v) : ∃ cs, v = .agg cs := by
  unfold Value.okWide at h
  rw [ht] at h
  obtain ⟨cs, h, _⟩ := h
  exact ⟨cs, h⟩
theorem wf_u8 {n : Int} (h : (Lit.int .u8 n).wf = true) : 0 ≤ n ∧ n ≤ 255 := by simpa [Lit.wf, IntKind.min, IntKind.max, IntKind.signed, IntKind.bits] using h
theorem wf_u16 {n : Int} (h : (Lit.int .u16 n).wf = true) : 0 ≤ n ∧ n ≤ 65535 := by simpa [Lit.wf, IntKind.min, IntKind.max, IntKind.signed, IntKind.bits] using h
theorem wf_i64 {n : Int} (h : (Lit.int .i64 n).wf = true) : -9223372036854775808 ≤ n ∧ n ≤ 9223372036854775807 := by simpa [Lit.wf, IntKind.min, IntKind.max, IntKind.signed, IntKind.bits] using h
end Go.Proofs.Ytoljhahmmdibfaa
