/- Plain facts of ways round in a graph: a way round, an order in which each place stands behind those that it leads to, and places that go one by one. No condition. -/
import Derived.Lib.Hide
set_option linter.unusedVariables false
set_option linter.unusedSimpArgs false
namespace Go.Proofs.Ytoljhahmmdibfaa.OrderM

abbrev G := List (List Int)
def InR (E : G) (t : Int) : Prop := 0 ≤ t ∧ t < E.length
def out (E : G) (p : Int) : List Int := E.getD p.toNat []
/-- l is a way round -/
def IsCyc (E : G) (l : List Int) : Prop := l ≠ [] ∧ l.Nodup ∧ (∀ x ∈ l, InR E x) ∧ ∀ (i : Nat) (h : i < l.length), l[(i + 1) % l.length]'(Nat.mod_lt _ (by omega)) ∈ out E l[i]
def HasCyc (E : G) : Prop := ∃ l, IsCyc E l
/-- places in an order, the last one first: each leads only to places behind it in the list, or out of range -/
def Topo (E : G) : List Int → Prop
  | [] => True
  | p :: r => InR E p ∧ p ∉ r ∧ (∀ t ∈ out E p, InR E t → t ∈ r) ∧ Topo E r

theorem Topo.inR {E : G} : ∀ {r : List Int}, Topo E r → ∀ x ∈ r, InR E x
  | [], _, x, hx => by simp at hx
  | p :: r, h, x, hx => by
    rcases List.mem_cons.1 hx with rfl | hx
    · exact h.1
    · exact Topo.inR h.2.2.2 x hx
theorem Topo.closed {E : G} : ∀ {r : List Int}, Topo E r → ∀ x ∈ r, ∀ t ∈ out E x, InR E t → t ∈ r
  | [], _, x, hx => by simp at hx
  | p :: r, h, x, hx => by
    intro t ht hr
    rcases List.mem_cons.1 hx with rfl | hx
    · exact List.mem_cons_of_mem _ (h.2.2.1 t ht hr)
    · exact List.mem_cons_of_mem _ (Topo.closed h.2.2.2 x hx t ht hr)
theorem Topo.nodup {E : G} : ∀ {r : List Int}, Topo E r → r.Nodup
  | [], _ => List.nodup_nil
  | _ :: _, h => List.nodup_cons.2 ⟨h.2.1, Topo.nodup h.2.2.2⟩

theorem cyc_next {E : G} {l : List Int} (h : IsCyc E l) (x : Int) (hx : x ∈ l) : ∃ s ∈ l, s ∈ out E x ∧ InR E s := by
  obtain ⟨i, hi, rfl⟩ := List.mem_iff_getElem.1 hx
  have hm : (i + 1) % l.length < l.length := Nat.mod_lt _ (by omega)
  exact ⟨l[(i + 1) % l.length], List.getElem_mem hm, h.2.2.2 i hi, h.2.2.1 _ (List.getElem_mem hm)⟩
theorem topo_cyc {E : G} {l : List Int} (h : IsCyc E l) : ∀ {r : List Int}, Topo E r → ∀ x ∈ l, x ∉ r
  | [], _, x, _ => by simp
  | p :: r, ht, x, hx => by
    intro hm
    rcases List.mem_cons.1 hm with rfl | hm
    · obtain ⟨s, hs, hso, hsr⟩ := cyc_next h x hx
      exact topo_cyc h ht.2.2.2 s hs (ht.2.2.1 s hso hsr)
    · exact topo_cyc h ht.2.2.2 x hx hm
theorem topo_none {E : G} {r : List Int} (ht : Topo E r) (hall : ∀ x, InR E x → x ∈ r) : ¬ HasCyc E := by
  rintro ⟨l, h⟩
  obtain ⟨x, hx⟩ := List.exists_mem_of_ne_nil l h.1
  exact topo_cyc h ht x hx (hall x (h.2.2.1 x hx))

/-- unlike numbers below n are at most n -/
theorem pigeon : ∀ (n : Nat) (l : List Int), l.Nodup → (∀ x ∈ l, 0 ≤ x ∧ x < n) → l.length ≤ n
  | 0, l, _, h => by
    cases l with
    | nil => simp
    | cons x l => have := h x (by simp); omega
  | n + 1, l, hn, h => by
    have h1 : (l.erase (n : Int)).Nodup := hn.erase _
    have h2 : ∀ x ∈ l.erase (n : Int), 0 ≤ x ∧ x < n := by
      intro x hx
      have hm := List.mem_of_mem_erase hx
      have hne : x ≠ (n : Int) := fun e => by
        subst e
        exact (hn.not_mem_erase) hx
      have := h x hm
      omega
    have h3 := pigeon n _ h1 h2
    have h4 : l.length - 1 ≤ (l.erase (n : Int)).length := by
      rw [List.length_erase]
      split <;> omega
    omega

/-- a way whose last place leads back into it holds a way round -/
theorem cyc_of_way {E : G} {W : List Int} {p : Int} (hn : W.Nodup) (hr : ∀ x ∈ W, InR E x) (hs : ∀ i (h : i + 1 < W.length), W[i + 1] ∈ out E W[i]) (hne : W ≠ []) (hl : p ∈ out E (W.getLast hne)) (k : Nat) (hk : k < W.length) (hp : W[k] = p) : IsCyc E (W.drop k) := by
  have hlen : (W.drop k).length = W.length - k := List.length_drop
  refine ⟨fun h => by have := congrArg List.length h; simp at this; omega, hn.sublist (List.drop_sublist _ _), fun x hx => hr x (List.mem_of_mem_drop hx), ?_⟩
  intro i hi
  have hi2 : i < W.length - k := by omega
  rw [List.getElem_drop, List.getElem_drop]
  by_cases hlast : i + 1 = (W.drop k).length
  · have e1 : (i + 1) % (W.drop k).length = 0 := by rw [hlast, Nat.mod_self]
    have e2 : W[k + (i + 1) % (W.drop k).length]'(by rw [e1]; omega) = p := by
      have : k + (i + 1) % (W.drop k).length = k := by omega
      rw [← hp]; congr 1
    have e3 : W[k + i]'(by omega) = W.getLast hne := by
      rw [List.getLast_eq_getElem]
      congr 1
      omega
    rw [e2, e3]
    exact hl
  · have e1 : (i + 1) % (W.drop k).length = i + 1 := Nat.mod_eq_of_lt (by omega)
    have := hs (k + i) (by omega)
    have e2 : W[k + (i + 1) % (W.drop k).length]'(by rw [e1]; omega) = W[k + i + 1]'(by omega) := by congr 1; omega
    rw [e2]
    exact this

/-! places that go one by one -/
def held (E : G) (g : List Bool) (l : List Int) : Bool := l.any fun t => decide (0 ≤ t) && decide (t < (E.length : Int)) && !g.getD t.toNat false
def step (E : G) (g : List Bool) (p : Nat) : List Bool := g.set p (g.getD p false || !held E g (E.getD p []))
def steps (E : G) (g : List Bool) (j : Nat) : List Bool := (List.range j).foldl (step E) g
def passes (E : G) : Nat → List Bool
  | 0 => List.replicate E.length false
  | k + 1 => steps E (passes E k) E.length
def left (E : G) : Bool := (passes E E.length).any (!·)

theorem steps_succ (E : G) (g : List Bool) (j : Nat) : steps E g (j + 1) = step E (steps E g j) j := by simp [steps, List.range_succ]
theorem step_len (E : G) (g : List Bool) (p : Nat) : (step E g p).length = g.length := by simp [step]
theorem steps_len (E : G) (g : List Bool) (j : Nat) : (steps E g j).length = g.length := by
  induction j with
  | zero => rfl
  | succ j ih => rw [steps_succ, step_len, ih]
theorem passes_len (E : G) (k : Nat) : (passes E k).length = E.length := by
  induction k with
  | zero => simp [passes]
  | succ k ih => simp [passes, steps_len, ih]

theorem step_get (E : G) (g : List Bool) (p q : Nat) (hp : p < g.length) : (step E g p).getD q false = if q = p then (g.getD p false || !held E g (E.getD p [])) else g.getD q false := by
  unfold step
  simp only [List.getD_eq_getElem?_getD, List.getElem?_set]
  by_cases h : q = p
  · subst h; simp [hp]
  · simp [h, show ¬ p = q from fun e => h e.symm]

/-- what is on a way round stays -/
theorem stays_step {E : G} {l : List Int} (h : IsCyc E l) (g : List Bool) (p : Nat) (hg : g.length = E.length) (hp : p < E.length) (hs : ∀ x ∈ l, g.getD x.toNat false = false) : ∀ x ∈ l, (step E g p).getD x.toNat false = false := by
  intro x hx
  rw [step_get E g p _ (by omega)]
  split
  · rename_i e
    have hr := h.2.2.1 x hx
    obtain ⟨s, hsl, hso, hsr⟩ := cyc_next h x hx
    have h1 : held E g (E.getD p []) = true := by
      unfold held
      rw [List.any_eq_true]
      refine ⟨s, ?_, ?_⟩
      · rw [← e]; exact hso
      · have h3 := hs s hsl
        rw [List.getD_eq_getElem?_getD] at h3
        simp [hsr.1, hsr.2, h3]
    rw [h1, ← e, hs x hx]; rfl
  · exact hs x hx
theorem stays_steps {E : G} {l : List Int} (h : IsCyc E l) (g : List Bool) (hg : g.length = E.length) (hs : ∀ x ∈ l, g.getD x.toNat false = false) : ∀ j, j ≤ E.length → ∀ x ∈ l, (steps E g j).getD x.toNat false = false := by
  intro j
  induction j with
  | zero => exact fun _ => hs
  | succ j ih =>
    intro hj
    rw [steps_succ]
    exact stays_step h _ j (by rw [steps_len, hg]) (by omega) (ih (by omega))
theorem left_of_cyc {E : G} (h : HasCyc E) : left E = true := by
  obtain ⟨l, h⟩ := h
  have key : ∀ k, ∀ x ∈ l, (passes E k).getD x.toNat false = false := by
    intro k
    induction k with
    | zero => intro x _; simp only [passes, List.getD_eq_getElem?_getD, List.getElem?_replicate]; split <;> rfl
    | succ k ih => exact stays_steps h _ (passes_len E k) ih _ (Nat.le_refl _)
  obtain ⟨x, hx⟩ := List.exists_mem_of_ne_nil l h.1
  have hr := h.2.2.1 x hx
  have hlt : x.toNat < (passes E E.length).length := by rw [passes_len]; have := hr.1; have := hr.2; omega
  have := key E.length x hx
  unfold left
  rw [List.any_eq_true]
  refine ⟨(passes E E.length)[x.toNat], List.getElem_mem hlt, ?_⟩
  rw [List.getD_eq_getElem?_getD, List.getElem?_eq_getElem hlt] at this
  simp at this
  simp [this]

theorem gone_step {E : G} (g : List Bool) (p q : Nat) (hp : p < g.length) (h : g.getD q false = true) : (step E g p).getD q false = true := by
  rw [step_get E g p q hp]
  split
  · rename_i e; subst e; rw [h]; rfl
  · exact h
theorem gone_steps {E : G} (g : List Bool) (hg : g.length = E.length) (q : Nat) (j : Nat) (hj : j ≤ E.length) (h : g.getD q false = true) : (steps E g j).getD q false = true := by
  induction j with
  | zero => exact h
  | succ j ih => rw [steps_succ]; exact gone_step _ j q (by rw [steps_len]; omega) (ih (by omega))
/-- one pass takes the next place of the order -/
theorem gone_pass {E : G} (g : List Bool) (hg : g.length = E.length) (p : Nat) (hp : p < E.length) (h : ∀ t ∈ E.getD p [], InR E t → g.getD t.toNat false = true) : (steps E g E.length).getD p false = true := by
  have key : ∀ j, p < j → j ≤ E.length → (steps E g j).getD p false = true := by
    intro j
    induction j with
    | zero => intro h; omega
    | succ j ih =>
      intro h1 h2
      rw [steps_succ]
      by_cases e : p = j
      · subst e
        rw [step_get _ _ _ _ (by rw [steps_len]; omega), if_pos rfl]
        have : held E (steps E g p) (E.getD p []) = false := by
          unfold held
          rw [List.any_eq_false]
          intro t ht hh
          simp only [Bool.and_eq_true, decide_eq_true_eq] at hh
          have := gone_steps g hg t.toNat p (by omega) (h t ht ⟨hh.1.1, hh.1.2⟩)
          rw [this] at hh
          simp at hh
        rw [this]; simp
      · exact gone_step _ j p (by rw [steps_len]; omega) (ih (by omega) (by omega))
  exact key E.length hp (Nat.le_refl _)
theorem gone_order {E : G} : ∀ {r : List Int}, Topo E r → ∀ k, r.length ≤ k → ∀ x ∈ r, (passes E k).getD x.toNat false = true
  | [], _, _, _, x, hx => by simp at hx
  | p :: r, h, k, hk, x, hx => by
    cases k with
    | zero => simp at hk
    | succ k =>
      have ih := gone_order h.2.2.2 k (by simp at hk; omega)
      rcases List.mem_cons.1 hx with rfl | hx
      · refine gone_pass (E := E) _ (passes_len E k) _ (by have := h.1; unfold InR at this; omega) (fun t ht hr => ih t (h.2.2.1 t ht hr))
      · exact gone_steps _ (passes_len E k) _ _ (Nat.le_refl _) (ih x hx)
theorem left_of_topo {E : G} {r : List Int} (ht : Topo E r) (hall : ∀ x, InR E x → x ∈ r) : left E = false := by
  have hlen : r.length ≤ E.length := pigeon E.length r ht.nodup (fun x hx => ht.inR x hx)
  unfold left
  rw [List.any_eq_false]
  intro b hb
  obtain ⟨i, hi, rfl⟩ := List.mem_iff_getElem.1 hb
  have hi2 : i < E.length := by rw [passes_len] at hi; exact hi
  have := gone_order ht E.length hlen (i : Int) (hall i ⟨by omega, by omega⟩)
  rw [Int.toNat_natCast, List.getD_eq_getElem?_getD, List.getElem?_eq_getElem hi] at this
  simp at this
  simp [this]
end Go.Proofs.Ytoljhahmmdibfaa.OrderM
