/- Plain facts: how many settings of variants meet a wish. -/
import Derived.Test.YtnelgellbabkoaaVarV
namespace Go.Proofs.Ytnelgellbabkoaa
open Go.RowKit

def okAt (wish : List Setg) (nm y : ByteArray) : Bool := wish.all fun x => !decide (x.1 = nm) || decide (x.2 = y)
def nOk (wish : List Setg) (x : Var) : Nat := x.2.countP (okAt wish x.1)
def prodOf (wish : List Setg) : List Var → Nat := fun l => l.foldl (fun c x => c * nOk wish x) 1
theorem prodOf_succ {wish : List Setg} {l : List Var} {k : Nat} (h : k < l.length) : prodOf wish (l.take (k + 1)) = prodOf wish (l.take k) * nOk wish l[k] := by
  unfold prodOf
  rw [List.take_succ_eq_append_getElem h, List.foldl_append]; rfl
def nameC (wish : List Setg) (v : Var) : Nat := wish.countP fun x => decide (x.1 = v.1)
def namedOf (wish : List Setg) (l : List Var) : Nat := (l.map (nameC wish)).sum
theorem namedOf_succ {wish : List Setg} {l : List Var} {k : Nat} (h : k < l.length) : namedOf wish (l.take (k + 1)) = namedOf wish (l.take k) + nameC wish l[k] := by
  unfold namedOf
  rw [List.take_succ_eq_append_getElem h, List.map_append, List.sum_append]; simp
def consOf (wish : List Setg) (f : List Setg) : Bool := f.all fun z => okAt wish z.1 z.2
theorem cons_snoc (wish f : List Setg) (s y : ByteArray) : consOf wish (f ++ [(s, y)]) = (consOf wish f && okAt wish s y) := by
  unfold consOf
  rw [List.all_append]; simp
theorem count_ext1 (wish : List Setg) (s y : ByteArray) : ∀ O : List (List Setg), (ext1 s y O).countP (consOf wish) = if okAt wish s y then O.countP (consOf wish) else 0
  | [] => by simp [ext1]
  | f :: O => by
    have ih := count_ext1 wish s y O
    unfold ext1 at ih ⊢
    rw [List.map_cons, List.countP_cons, ih, List.countP_cons, cons_snoc]
    cases okAt wish s y <;> cases consOf wish f <;> simp
theorem count_flat (wish : List Setg) (s : ByteArray) (O : List (List Setg)) : ∀ ys : List ByteArray, (ys.flatMap fun y => ext1 s y O).countP (consOf wish) = ys.countP (okAt wish s) * O.countP (consOf wish)
  | [] => by simp
  | y :: ys => by
    rw [List.flatMap_cons, List.countP_append, count_flat wish s O ys, count_ext1, List.countP_cons]
    cases okAt wish s y <;> simp [Nat.add_mul, Nat.add_comm]
theorem count_cons (wish : List Setg) (l : List Var) : ∀ k, k ≤ l.length → (allOf (l.take k)).countP (consOf wish) = prodOf wish (l.take k)
  | 0, _ => by simp [allOf, prodOf, consOf]
  | k + 1, h => by
    rw [allOf_succ (by omega), prodOf_succ (by omega)]
    unfold allStep
    rw [count_flat, count_cons wish l k (by omega)]
    exact Nat.mul_comm _ _
theorem named_cons (x : Setg) (wish : List Setg) : ∀ l : List Var, namedOf (x :: wish) l = namedOf wish l + l.countP (fun v => decide (x.1 = v.1))
  | [] => by simp [namedOf]
  | v :: l => by
    have ih := named_cons x wish l
    unfold namedOf at ih ⊢
    rw [List.map_cons, List.sum_cons, ih, List.map_cons, List.sum_cons, List.countP_cons]
    unfold nameC
    rw [List.countP_cons]
    omega
theorem count_name (s : ByteArray) : ∀ l : List Var, (l.map (·.1)).Nodup → (l.countP (fun v => decide (s = v.1)) ≤ 1 ∧ (l.countP (fun v => decide (s = v.1)) = 1 ↔ s ∈ l.map (·.1)))
  | [], _ => by simp
  | v :: l, h => by
    rw [List.map_cons, List.nodup_cons] at h
    obtain ⟨h1, h2⟩ := count_name s l h.2
    rw [List.countP_cons, List.map_cons, List.mem_cons]
    by_cases e : s = v.1
    · have : s ∉ l.map (·.1) := by rw [e]; exact h.1
      have h3 : ¬ l.countP (fun v => decide (s = v.1)) = 1 := fun h => this (h2.1 h)
      simp only [e, decide_true, if_true, true_or, iff_true]
      rw [e] at h1 h3
      omega
    · simp only [e, decide_false, Bool.false_eq_true, if_false, false_or, Nat.add_zero]
      exact ⟨h1, h2⟩
theorem named_nil : ∀ l : List Var, namedOf [] l = 0
  | [] => rfl
  | v :: l => by
    have ih := named_nil l
    unfold namedOf at ih ⊢
    rw [List.map_cons, List.sum_cons, ih]; rfl
theorem prod_le {wish : List Setg} {l : List Var} : ∀ k, k ≤ l.length → prodOf wish (l.take k) ≤ cnt l k
  | 0, _ => by simp [prodOf, cnt_zero]
  | k + 1, h => by
    rw [prodOf_succ (by omega), cnt_succ (by omega), Nat.mul_comm]
    exact Nat.mul_le_mul List.countP_le_length (prod_le k (by omega))
theorem named_bd {wish : List Setg} {l : List Var} : ∀ k, k ≤ l.length → namedOf wish (l.take k) ≤ k * wish.length
  | 0, _ => by simp [namedOf]
  | k + 1, h => by
    rw [namedOf_succ (by omega), Nat.succ_mul]
    have : nameC wish l[k] ≤ wish.length := List.countP_le_length
    have := named_bd (wish := wish) k (by omega : k ≤ l.length)
    omega
theorem named_le {l : List Var} (h : (l.map (·.1)).Nodup) : ∀ wish : List Setg, namedOf wish l ≤ wish.length ∧ (namedOf wish l = wish.length ↔ ∀ x ∈ wish, x.1 ∈ l.map (·.1))
  | [] => by
    simp [named_nil]
  | x :: wish => by
    obtain ⟨h1, h2⟩ := named_le h wish
    obtain ⟨h3, h4⟩ := count_name x.1 l h
    rw [named_cons, List.length_cons]
    refine ⟨by omega, ?_⟩
    rw [List.forall_mem_cons, ← h4, ← h2]
    omega
theorem all_names {l : List Var} (hl : ∀ x ∈ l, 0 < x.2.length) {f : List Setg} (hf : f ∈ allOf l) : f.map (·.1) = l.map (·.1) := by
  obtain ⟨i, hi⟩ := List.mem_iff_getElem?.1 hf
  have hL := all_legal hl hi
  apply List.ext_getElem
  · simp [hL.len]
  · intro j h1 h2
    obtain ⟨y, hy, _⟩ := hL.at' j (by simpa using h2)
    rw [List.getElem_map, List.getElem_map]
    have := (List.getElem?_eq_some_iff.1 hy).2
    rw [this]
theorem nodup_val : ∀ {f : List Setg}, (f.map (·.1)).Nodup → ∀ {a b c : ByteArray}, (a, b) ∈ f → (a, c) ∈ f → b = c
  | [], _, _, _, _, h, _ => by simp at h
  | z :: f, hn, a, b, c, h1, h2 => by
    rw [List.map_cons, List.nodup_cons] at hn
    rcases List.mem_cons.1 h1 with h1 | h1 <;> rcases List.mem_cons.1 h2 with h2 | h2
    · rw [← h1] at h2; injection h2 with _ h2; exact h2.symm
    · exact absurd (by rw [← h1]; exact List.mem_map_of_mem (f := (·.1)) h2) hn.1
    · exact absurd (by rw [← h2]; exact List.mem_map_of_mem (f := (·.1)) h1) hn.1
    · exact nodup_val hn.2 h1 h2
theorem any_isSet (f : List Setg) (x : Setg) : f.any (isSet x) = true ↔ x ∈ f := by
  rw [List.any_eq_true]
  constructor
  · rintro ⟨z, hz, h⟩
    unfold isSet at h
    simp only [Bool.and_eq_true, decide_eq_true_eq] at h
    have : x = z := Prod.ext h.1 h.2
    rw [this]; exact hz
  · intro h
    exact ⟨x, h, by simp [isSet]⟩
theorem meets_eq {wish f : List Setg} (hn : (f.map (·.1)).Nodup) : meetsOf f wish = true ↔ consOf wish f = true ∧ ∀ x ∈ wish, x.1 ∈ f.map (·.1) := by
  unfold meetsOf consOf okAt
  simp only [List.all_eq_true, any_isSet, Bool.or_eq_true, Bool.not_eq_true', decide_eq_false_iff_not, decide_eq_true_eq]
  constructor
  · intro h
    refine ⟨fun z hz x hx => ?_, fun x hx => List.mem_map_of_mem (f := (·.1)) (h x hx)⟩
    by_cases e : x.1 = z.1
    · refine Or.inr (nodup_val hn (a := x.1) (h x hx) ?_)
      rw [e]; exact hz
    · exact Or.inl e
  · rintro ⟨h1, h2⟩ x hx
    obtain ⟨z, hz, e⟩ := List.mem_map.1 (h2 x hx)
    rcases h1 z hz x hx with h3 | h3
    · exact absurd e.symm h3
    · have : x = z := Prod.ext e.symm h3
      rw [this]; exact hz
/-- how many settings of variants meet a wish -/
theorem many {l : List Var} (wish : List Setg) (hmay : mayOf l = true) (hl : ∀ x ∈ l, 0 < x.2.length) : (allOf l).countP (fun f => meetsOf f wish) = if namedOf wish l < wish.length then 0 else prodOf wish l := by
  have hnd : (l.map (·.1)).Nodup := by
    unfold mayOf at hmay
    simp only [Bool.and_eq_true, decide_eq_true_eq] at hmay
    exact hmay.2.2
  obtain ⟨h1, h2⟩ := named_le hnd wish
  by_cases h : namedOf wish l < wish.length
  · rw [if_pos h, List.countP_eq_zero]
    intro f hf hm
    have hn := all_names hl hf
    rw [meets_eq (by rw [hn]; exact hnd), hn, ← h2] at hm
    omega
  · rw [if_neg h]
    have hall := h2.1 (by omega)
    have hc := count_cons wish l l.length (Nat.le_refl _)
    rw [List.take_length] at hc
    rw [← hc]
    apply List.countP_congr
    intro f hf
    have hn := all_names hl hf
    rw [meets_eq (by rw [hn]; exact hnd), hn]
    simp only [and_iff_left hall]
end Go.Proofs.Ytnelgellbabkoaa
