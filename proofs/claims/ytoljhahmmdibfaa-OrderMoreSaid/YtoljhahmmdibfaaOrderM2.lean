/- Plain facts of a graph with an edge more, turned round, and with only its rising edges. No condition. -/
import Derived.Test.YtoljhahmmdibfaaOrderM
set_option linter.unusedVariables false
set_option linter.unusedSimpArgs false
namespace Go.Proofs.Ytoljhahmmdibfaa.OrderM

def inB (E : G) (t : Int) : Bool := decide (0 ≤ t) && decide (t < (E.length : Int))
/-- one edge from p to t, turned round -/
def backStep (n : Nat) (p : Int) (b : G) (t : Int) : G := if 0 ≤ t ∧ t < n then b.set t.toNat (b.getD t.toNat [] ++ [p]) else b
def upStep (p : Nat) (u : G) (t : Int) : G := if (p : Int) < t then u.set p (u.getD p [] ++ [t]) else u
def backRow (n : Nat) (p : Nat) (b : G) (l : List Int) : G := l.foldl (backStep n p) b
def upRow (p : Nat) (u : G) (l : List Int) : G := l.foldl (upStep p) u
def backs (E : G) : Nat → G
  | 0 => List.replicate E.length []
  | p + 1 => backRow E.length p (backs E p) (E.getD p [])
def ups (E : G) : Nat → G
  | 0 => List.replicate E.length []
  | p + 1 => upRow p (ups E p) (E.getD p [])
/-- the first p rows, the others empty -/
def mores (E : G) (p : Nat) : G := E.take p ++ List.replicate (E.length - p) []
def plus (E : G) (k : Nat) (t : Int) : G := E.set k (E.getD k [] ++ [t])

theorem mores_len (E : G) (p : Nat) (h : p ≤ E.length) : (mores E p).length = E.length := by simp [mores]; omega
theorem mores_set (E : G) (p : Nat) (h : p < E.length) : (mores E p).set p E[p] = mores E (p + 1) := by
  apply List.ext_getElem?
  intro i
  unfold mores
  have h1 : (E.take p).length = p := by simp; omega
  have h2 : (E.take (p + 1)).length = p + 1 := by simp; omega
  rw [List.getElem?_set]
  by_cases e : p = i
  · subst e
    rw [if_pos rfl, if_pos (by simp; omega), List.getElem?_append_left (by omega), List.getElem?_take, if_pos (by omega), List.getElem?_eq_getElem h]
  · rw [if_neg e]
    by_cases h3 : i < p
    · rw [List.getElem?_append_left (by omega), List.getElem?_append_left (by omega), List.getElem?_take, List.getElem?_take, if_pos h3, if_pos (by omega)]
    · rw [List.getElem?_append_right (by omega), List.getElem?_append_right (by omega), List.getElem?_replicate, List.getElem?_replicate, h1, h2]
      by_cases h4 : i < E.length
      · rw [if_pos (by omega), if_pos (by omega)]
      · rw [if_neg (by omega), if_neg (by omega)]
theorem mores_all (E : G) : mores E E.length = E := by simp [mores]
theorem mores_zero (E : G) : mores E 0 = List.replicate E.length [] := by simp [mores]

theorem backStep_len (n : Nat) (p : Int) (b : G) (t : Int) : (backStep n p b t).length = b.length := by unfold backStep; split <;> simp
theorem upStep_len (p : Nat) (u : G) (t : Int) : (upStep p u t).length = u.length := by unfold upStep; split <;> simp
theorem backRow_len (n p : Nat) (l : List Int) : ∀ b : G, (backRow n p b l).length = b.length := by
  induction l with
  | nil => intro b; rfl
  | cons t l ih => intro b; show (backRow n p (backStep n p b t) l).length = _; rw [ih, backStep_len]
theorem upRow_len (p : Nat) (l : List Int) : ∀ u : G, (upRow p u l).length = u.length := by
  induction l with
  | nil => intro b; rfl
  | cons t l ih => intro b; show (upRow p (upStep p b t) l).length = _; rw [ih, upStep_len]
theorem backs_len (E : G) (p : Nat) : (backs E p).length = E.length := by
  induction p with
  | zero => simp [backs]
  | succ p ih => simp [backs, backRow_len, ih]
theorem ups_len (E : G) (p : Nat) : (ups E p).length = E.length := by
  induction p with
  | zero => simp [ups]
  | succ p ih => simp [ups, upRow_len, ih]
theorem backRow_snoc (n p : Nat) (b : G) (l : List Int) (t : Int) : backRow n p b (l ++ [t]) = backStep n p (backRow n p b l) t := by simp [backRow]
theorem upRow_snoc (p : Nat) (u : G) (l : List Int) (t : Int) : upRow p u (l ++ [t]) = upStep p (upRow p u l) t := by simp [upRow]

theorem out_set (b : G) (i : Nat) (l : List Int) (x : Int) (h : i < b.length) : out (b.set i l) x = if x.toNat = i then l else out b x := by
  unfold out
  simp only [List.getD_eq_getElem?_getD, List.getElem?_set]
  by_cases e : x.toNat = i
  · subst e; simp [h]
  · simp [e, show ¬ i = x.toNat from fun h => e h.symm]

/-- what stands in a row that is turned round -/
theorem mem_backStep (n : Nat) (p : Int) (b : G) (t x s : Int) (hb : b.length = n) (hx : 0 ≤ x ∧ x < n) : s ∈ out (backStep n p b t) x ↔ s ∈ out b x ∨ (s = p ∧ t = x) := by
  unfold backStep
  by_cases h : 0 ≤ t ∧ t < n
  · rw [if_pos h, out_set _ _ _ _ (by omega)]
    by_cases e : x.toNat = t.toNat
    · rw [if_pos e]
      have : t = x := by omega
      subst this
      unfold out
      simp
    · rw [if_neg e]
      constructor
      · exact .inl
      · rintro (h1 | ⟨_, h1⟩)
        · exact h1
        · subst h1; exact absurd rfl e
  · rw [if_neg h]
    constructor
    · exact .inl
    · rintro (h1 | ⟨_, h1⟩)
      · exact h1
      · subst h1; exact absurd hx h
theorem mem_backRow (n p : Nat) (l : List Int) (x s : Int) (hx : 0 ≤ x ∧ x < n) : ∀ b : G, b.length = n → (s ∈ out (backRow n p b l) x ↔ s ∈ out b x ∨ (s = p ∧ x ∈ l)) := by
  induction l with
  | nil => intro b _; simp [backRow]
  | cons t l ih =>
    intro b hb
    show s ∈ out (backRow n p (backStep n p b t) l) x ↔ _
    rw [ih _ (by rw [backStep_len, hb]), mem_backStep n p b t x s hb hx]
    simp only [List.mem_cons]
    constructor
    · rintro ((h | ⟨h1, h2⟩) | ⟨h1, h2⟩)
      · exact .inl h
      · exact .inr ⟨h1, .inl h2.symm⟩
      · exact .inr ⟨h1, .inr h2⟩
    · rintro (h | ⟨h1, h2 | h2⟩)
      · exact .inl (.inl h)
      · exact .inl (.inr ⟨h1, h2.symm⟩)
      · exact .inr ⟨h1, h2⟩
theorem mem_backs (E : G) (x s : Int) (hx : InR E x) : ∀ p, p ≤ E.length → (s ∈ out (backs E p) x ↔ 0 ≤ s ∧ s < p ∧ x ∈ out E s) := by
  intro p
  induction p with
  | zero =>
    intro _
    unfold out
    simp only [backs, List.getD_eq_getElem?_getD, List.getElem?_replicate]
    split
    · simp; omega
    · simp; omega
  | succ p ih =>
    intro hp
    show s ∈ out (backRow E.length p (backs E p) (E.getD p [])) x ↔ _
    rw [mem_backRow E.length p _ x s hx _ (backs_len E p), ih (by omega)]
    constructor
    · rintro (⟨h1, h2, h3⟩ | ⟨h1, h2⟩)
      · exact ⟨h1, by omega, h3⟩
      · subst h1; exact ⟨by omega, by omega, by unfold out; simpa using h2⟩
    · rintro ⟨h1, h2, h3⟩
      by_cases e : s = p
      · subst e; exact .inr ⟨rfl, by unfold out at h3; simpa using h3⟩
      · exact .inl ⟨h1, by omega, h3⟩

theorem mem_upRow (p : Nat) (l : List Int) (x s : Int) : ∀ u : G, p < u.length → s ∈ out (upRow p u l) x → s ∈ out u x ∨ (x.toNat = p ∧ (p : Int) < s) := by
  induction l with
  | nil => intro u _ h; exact .inl h
  | cons t l ih =>
    intro u hu h
    rcases ih (upStep p u t) (by rw [upStep_len]; exact hu) h with h1 | h1
    · unfold upStep at h1
      split at h1
      · rename_i hlt
        rw [out_set _ _ _ _ hu] at h1
        split at h1
        · rename_i e
          rcases List.mem_append.1 h1 with h2 | h2
          · left; unfold out; rw [e]; exact h2
          · simp at h2; subst h2; exact .inr ⟨e, hlt⟩
        · exact .inl h1
      · exact .inl h1
    · exact .inr h1
theorem mem_ups (E : G) (x s : Int) : ∀ p, p ≤ E.length → s ∈ out (ups E p) x → (x.toNat : Int) < s := by
  intro p
  induction p with
  | zero =>
    intro _ h
    unfold out at h
    simp only [ups, List.getD_eq_getElem?_getD, List.getElem?_replicate] at h
    split at h <;> simp at h
  | succ p ih =>
    intro hp h
    rcases mem_upRow p _ x s _ (by rw [ups_len]; omega) h with h1 | ⟨h1, h2⟩
    · exact ih (by omega) h1
    · omega

theorem no_up (U : G) (h : ∀ x s : Int, s ∈ out U x → (x.toNat : Int) < s) : ¬ HasCyc U := by
  rintro ⟨L, hL⟩
  have key : ∀ n : Nat, ∀ x ∈ L, (n : Int) ≤ x := by
    intro n
    induction n with
    | zero => exact fun x hx => (hL.2.2.1 x hx).1
    | succ n ih =>
      intro x hx
      obtain ⟨i, hi, rfl⟩ := List.mem_iff_getElem.1 hx
      -- the place ahead of it
      have hlen : 0 < L.length := by omega
      have h1 := hL.2.2.2 ((i + (L.length - 1)) % L.length) (Nat.mod_lt _ hlen)
      have e : ((i + (L.length - 1)) % L.length + 1) % L.length = i := by
        rw [Nat.mod_add_mod]
        rw [show i + (L.length - 1) + 1 = i + L.length by omega, Nat.add_mod_right, Nat.mod_eq_of_lt hi]
      have h2 := h _ _ h1
      have h3 := ih _ (List.getElem_mem (Nat.mod_lt (i + (L.length - 1)) hlen))
      have h4 : L[((i + (L.length - 1)) % L.length + 1) % L.length]'(Nat.mod_lt _ hlen) = L[i] := by congr 1
      rw [h4] at h2
      have := (hL.2.2.1 _ (List.getElem_mem (Nat.mod_lt (i + (L.length - 1)) hlen))).1
      omega
  obtain ⟨x, hx⟩ := List.exists_mem_of_ne_nil L hL.1
  have h1 := key (x.toNat + 1) x hx
  have h2 := (hL.2.2.1 x hx).1
  omega

theorem cyc_mono {E F : G} (hl : F.length = E.length) (hs : ∀ x, InR E x → ∀ s ∈ out E x, s ∈ out F x) (h : HasCyc E) : HasCyc F := by
  obtain ⟨L, h1, h2, h3, h4⟩ := h
  refine ⟨L, h1, h2, fun x hx => by have := h3 x hx; unfold InR at this ⊢; omega, fun i hi => hs _ (h3 _ (List.getElem_mem hi)) _ (h4 i hi)⟩

theorem cyc_rev {E F : G} (hl : F.length = E.length) (hs : ∀ x s, InR E x → InR E s → s ∈ out E x → x ∈ out F s) (h : HasCyc E) : HasCyc F := by
  obtain ⟨L, h1, h2, h3, h4⟩ := h
  refine ⟨L.reverse, by simpa using h1, List.pairwise_reverse.2 (List.Pairwise.imp (fun h => h.symm) h2), fun x hx => by have := h3 x (by simpa using hx); unfold InR at this ⊢; omega, fun i hi => ?_⟩
  have hi' : i < L.length := by simpa using hi
  have hlen : 0 < L.length := by omega
  have hr : L.reverse.length = L.length := List.length_reverse
  have hm : (i + 1) % L.length < L.length := Nat.mod_lt _ hlen
  have e1 : L.reverse[(i + 1) % L.reverse.length]'(Nat.mod_lt _ (by omega)) = L[L.length - 1 - (i + 1) % L.length]'(by omega) := by
    rw [List.getElem_reverse]; congr 1; rw [hr]
  have e2 : L.reverse[i] = L[L.length - 1 - i]'(by omega) := List.getElem_reverse _
  rw [e1, e2]
  have h5 := h4 (L.length - 1 - (i + 1) % L.length) (by omega)
  have e3 : (L.length - 1 - (i + 1) % L.length + 1) % L.length = L.length - 1 - i := by
    by_cases e : i + 1 = L.length
    · rw [e, Nat.mod_self, show L.length - 1 - 0 + 1 = L.length by omega, Nat.mod_self]; omega
    · rw [Nat.mod_eq_of_lt (show i + 1 < L.length by omega), Nat.mod_eq_of_lt (by omega)]; omega
  have e4 : L[(L.length - 1 - (i + 1) % L.length + 1) % L.length]'(Nat.mod_lt _ hlen) = L[L.length - 1 - i]'(by omega) := by congr 1
  rw [e4] at h5
  exact hs _ _ (h3 _ (List.getElem_mem _)) (h3 _ (List.getElem_mem _)) h5

theorem plus_cyc (E : G) (k : Nat) (t : Int) (hk : k < E.length) (h : HasCyc E) : HasCyc (plus E k t) := by
  refine cyc_mono (by simp [plus]) (fun x _ s hs => ?_) h
  unfold plus
  rw [out_set _ _ _ _ hk]
  split
  · rename_i e
    unfold out at hs
    rw [e] at hs
    exact List.mem_append_left _ hs
  · exact hs
theorem back_cyc (E : G) : HasCyc (backs E E.length) ↔ HasCyc E := by
  constructor
  · refine cyc_rev (by rw [backs_len]) (fun x s hx hs h => ?_)
    have hx' : InR E x := by unfold InR at hx ⊢; rw [backs_len] at hx; exact hx
    exact ((mem_backs E x s hx' E.length (Nat.le_refl _)).1 h).2.2
  · refine cyc_rev (backs_len E _) (fun x s hx hs h => ?_)
    exact (mem_backs E s x hs E.length (Nat.le_refl _)).2 ⟨hx.1, hx.2, h⟩
theorem up_cyc (E : G) : ¬ HasCyc (ups E E.length) := no_up _ (fun x s h => mem_ups E x s E.length (Nat.le_refl _) h)
end Go.Proofs.Ytoljhahmmdibfaa.OrderM
