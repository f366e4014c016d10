/- Plain facts on stable sorting: swaps of neighbours that stand the wrong way lead to one sorted row alone; parts that are sorted may be put together. Condition: a strict weak order. -/
namespace Go.Proofs.YtalliggdfoeahaaGreatDoor.SortM
variable {α : Type}

structure Swo (lt : α → α → Bool) : Prop where
  asymm : ∀ a b, lt a b = true → lt b a = false
  ntrans : ∀ a b c, lt b a = false → lt c b = false → lt c a = false

/-- it comes of l by swaps of neighbours that stand the wrong way -/
inductive Sw (lt : α → α → Bool) (l : List α) : List α → Prop
  | refl : Sw lt l l
  | step (p : List α) (x y : α) (q : List α) : Sw lt l (p ++ x :: y :: q) → lt y x = true → Sw lt l (p ++ y :: x :: q)

def Sorted (lt : α → α → Bool) (l : List α) : Prop := l.Pairwise fun a b => lt b a = false

variable {lt : α → α → Bool}
theorem Sw.trans {a b c : List α} (h : Sw lt a b) (k : Sw lt b c) : Sw lt a c := by
  induction k with
  | refl => exact h
  | step p x y q _ hlt ih => exact .step p x y q ih hlt
theorem Sw.perm {a b : List α} (h : Sw lt a b) : a.Perm b := by
  induction h with
  | refl => exact List.Perm.refl _
  | step p x y q _ _ ih => exact ih.trans (List.Perm.append_left _ (List.Perm.swap _ _ _))
theorem Sw.ctx {a b : List α} (h : Sw lt a b) (u v : List α) : Sw lt (u ++ a ++ v) (u ++ b ++ v) := by
  induction h with
  | refl => exact .refl
  | step p x y q _ hlt ih =>
    have h1 : u ++ (p ++ x :: y :: q) ++ v = (u ++ p) ++ x :: y :: (q ++ v) := by simp
    have h2 : u ++ (p ++ y :: x :: q) ++ v = (u ++ p) ++ y :: x :: (q ++ v) := by simp
    rw [h1] at ih
    rw [h2]
    exact .step _ x y _ ih hlt
theorem Sw.app {a b c d : List α} (h : Sw lt a b) (k : Sw lt c d) : Sw lt (a ++ c) (b ++ d) := by
  have h1 := h.ctx [] c
  have h2 := k.ctx b []
  simp only [List.nil_append, List.append_nil] at h1 h2
  exact h1.trans h2
/-- one element is carried over a block -/
theorem Sw.over (x : α) : ∀ (b : List α), (∀ y ∈ b, lt y x = true) → Sw lt (x :: b) (b ++ [x]) := by
  intro b
  induction b with
  | nil => intro _; exact .refl
  | cons y b ih =>
    intro h
    have h1 : Sw lt (x :: y :: b) (y :: x :: b) := .step [] x y b .refl (h y (by simp))
    have h2 := (ih (fun z hz => h z (by simp [hz]))).ctx [y] []
    simp only [List.append_nil] at h2
    exact h1.trans h2
/-- two blocks are exchanged -/
theorem Sw.blocks : ∀ (a b : List α), (∀ x ∈ a, ∀ y ∈ b, lt y x = true) → Sw lt (a ++ b) (b ++ a) := by
  intro a
  induction a with
  | nil => intro b _; rw [List.append_nil]; exact .refl
  | cons x a ih =>
    intro b h
    have h1 := (ih b (fun z hz => h z (by simp [hz]))).ctx [x] []
    have h2 := (Sw.over x b (h x (by simp))).ctx [] a
    simp only [List.append_nil, List.nil_append] at h1 h2
    have e : x :: b ++ a = [x] ++ (b ++ a) := rfl
    rw [e] at h2
    refine h1.trans (h2.trans ?_)
    rw [List.append_assoc]
    exact .refl

def eqv (lt : α → α → Bool) (a x : α) : Bool := !lt a x && !lt x a
theorem eqv_of (h : Swo lt) {a x y : α} (hx : eqv lt a x = true) (hy : eqv lt a y = true) : lt y x = false := by
  unfold eqv at hx hy
  simp only [Bool.and_eq_true, Bool.not_eq_true'] at hx hy
  exact h.ntrans x a y hx.1 hy.2
theorem Sw.filter (h : Swo lt) {l m : List α} (k : Sw lt l m) (a : α) : l.filter (eqv lt a) = m.filter (eqv lt a) := by
  induction k with
  | refl => rfl
  | step p x y q _ hlt ih =>
    rw [ih]
    simp only [List.filter_append, List.filter_cons]
    cases hx : eqv lt a x <;> cases hy : eqv lt a y <;> simp
    rw [eqv_of h hx hy] at hlt
    cases hlt
theorem irrefl (h : Swo lt) (a : α) : lt a a = false := by
  cases e : lt a a
  · rfl
  · have := h.asymm a a e; rw [e] at this; exact this
theorem eqv_self (h : Swo lt) (a : α) : eqv lt a a = true := by unfold eqv; rw [irrefl h a]; rfl
theorem uniq (h : Swo lt) : ∀ (a b : List α), a.Perm b → (∀ x, a.filter (eqv lt x) = b.filter (eqv lt x)) → Sorted lt a → Sorted lt b → a = b := by
  intro a
  induction a with
  | nil => intro b hp _ _ _; exact hp.nil_eq
  | cons x a ih =>
    intro b hp hf ha hb
    match b with
    | [] => exact absurd hp.symm.nil_eq (by simp)
    | y :: b =>
      have h1 : lt y x = false := by
        have hy : y ∈ x :: a := hp.symm.subset (by simp)
        rcases List.mem_cons.1 hy with e | hy
        · rw [e]; exact irrefl h x
        · exact (List.pairwise_cons.1 ha).1 y hy
      have h2 : lt x y = false := by
        have hx : x ∈ y :: b := hp.subset (by simp)
        rcases List.mem_cons.1 hx with e | hx
        · rw [e]; exact irrefl h y
        · exact (List.pairwise_cons.1 hb).1 x hx
      have h3 : eqv lt x y = true := by unfold eqv; rw [h1, h2]; rfl
      have hx := hf x
      rw [List.filter_cons, List.filter_cons, if_pos (eqv_self h x), if_pos h3] at hx
      injection hx with hxy _
      subst hxy
      congr 1
      refine ih b (List.Perm.cons_inv hp) (fun z => ?_) (List.pairwise_cons.1 ha).2 (List.pairwise_cons.1 hb).2
      have := hf z
      rw [List.filter_cons, List.filter_cons] at this
      split at this
      · injection this
      · exact this
/-- x behind all that it is not ahead of, of a sorted row -/
def ins (lt : α → α → Bool) (x : α) : List α → List α
  | [] => [x]
  | y :: l => if lt x y = true then x :: y :: l else y :: ins lt x l
def ssort (lt : α → α → Bool) (l : List α) : List α := l.foldl (fun r x => ins lt x r) []
theorem mem_ins (x z : α) (l : List α) : z ∈ ins lt x l ↔ z = x ∨ z ∈ l := by
  induction l with
  | nil => simp [ins]
  | cons y l ih =>
    unfold ins
    split
    · simp
    · simp only [List.mem_cons, ih]
      constructor
      · rintro (h | h | h)
        · exact .inr (.inl h)
        · exact .inl h
        · exact .inr (.inr h)
      · rintro (h | h | h)
        · exact .inr (.inl h)
        · exact .inl h
        · exact .inr (.inr h)
theorem ins_sorted (h : Swo lt) (x : α) (l : List α) (hl : Sorted lt l) : Sorted lt (ins lt x l) := by
  induction l with
  | nil => simp [ins, Sorted]
  | cons y l ih =>
    have hl' := List.pairwise_cons.1 hl
    unfold ins
    split
    · rename_i hxy
      refine List.pairwise_cons.2 ⟨fun z hz => ?_, hl⟩
      rcases List.mem_cons.1 hz with e | hz
      · rw [e]; exact h.asymm _ _ hxy
      · exact h.ntrans x y z (h.asymm _ _ hxy) (hl'.1 z hz)
    · rename_i hxy
      refine List.pairwise_cons.2 ⟨fun z hz => ?_, ih hl'.2⟩
      rcases (mem_ins x z l).1 hz with e | hz
      · rw [e]; simpa using hxy
      · exact hl'.1 z hz
/-- the row with x behind it comes to that -/
theorem ins_sw (h : Swo lt) (x : α) (l : List α) (hl : Sorted lt l) : Sw lt (l ++ [x]) (ins lt x l) := by
  induction l with
  | nil => exact .refl
  | cons y l ih =>
    have hl' := List.pairwise_cons.1 hl
    unfold ins
    split
    · rename_i hxy
      have : ∀ z ∈ y :: l, lt x z = true := by
        intro z hz
        cases e : lt x z
        · have h1 : lt x y = false := by
            rcases List.mem_cons.1 hz with e2 | hz
            · rw [← e2]; exact e
            · exact h.ntrans y z x (hl'.1 z hz) e
          rw [hxy] at h1; cases h1
        · rfl
      have h2 := Sw.blocks (lt := lt) (y :: l) [x] (fun a ha b hb => by simp at hb; subst hb; exact this a ha)
      exact h2
    · have h2 := (ih hl'.2).ctx [y] []
      simp only [List.append_nil] at h2
      exact h2
theorem fold_sorted (h : Swo lt) : ∀ (l r : List α), Sorted lt r → Sorted lt (l.foldl (fun r x => ins lt x r) r) ∧ Sw lt (r ++ l) (l.foldl (fun r x => ins lt x r) r) := by
  intro l
  induction l with
  | nil => intro r hr; exact ⟨hr, by rw [List.append_nil]; exact .refl⟩
  | cons x l ih =>
    intro r hr
    obtain ⟨h1, h2⟩ := ih (ins lt x r) (ins_sorted h x r hr)
    refine ⟨h1, ?_⟩
    have h3 := (ins_sw h x r hr).ctx [] l
    simp only [List.nil_append] at h3
    have e : r ++ [x] ++ l = r ++ x :: l := by simp
    rw [e] at h3
    exact h3.trans h2
theorem ssort_sorted (h : Swo lt) (l : List α) : Sorted lt (ssort lt l) := (fold_sorted h l [] List.Pairwise.nil).1
theorem ssort_sw (h : Swo lt) (l : List α) : Sw lt l (ssort lt l) := by
  have := (fold_sorted h l [] List.Pairwise.nil).2
  rw [List.nil_append] at this
  exact this
/-- the one sorted row to which swaps lead -/
theorem ssort_eq (h : Swo lt) {l a : List α} (hs : Sw lt l a) (ha : Sorted lt a) : a = ssort lt l := by
  have h1 := ssort_sw h l
  exact uniq h a (ssort lt l) (hs.perm.symm.trans h1.perm) (fun x => (hs.filter h x).symm.trans (h1.filter h x)) ha (ssort_sorted h l)
theorem ssort_of_sw (h : Swo lt) {l a : List α} (hs : Sw lt l a) : ssort lt a = ssort lt l := ssort_eq h (hs.trans (ssort_sw h a)) (ssort_sorted h a)
theorem ssort_id (h : Swo lt) {l : List α} (hl : Sorted lt l) : ssort lt l = l := (ssort_eq h .refl hl).symm
theorem ssort_len (h : Swo lt) (l : List α) : (ssort lt l).length = l.length := (ssort_sw h l).perm.length_eq.symm
theorem mem_ssort (h : Swo lt) (l : List α) (x : α) : x ∈ ssort lt l ↔ x ∈ l := (ssort_sw h l).perm.symm.mem_iff
theorem ssort_app (h : Swo lt) (a b : List α) : ssort lt (ssort lt a ++ ssort lt b) = ssort lt (a ++ b) := ssort_of_sw h ((ssort_sw h a).app (ssort_sw h b))
theorem ssort_snoc (l : List α) (x : α) : ssort lt (l ++ [x]) = ins lt x (ssort lt l) := by unfold ssort; rw [List.foldl_append]; rfl
/-- a merge, cut in two -/
theorem ssort_cut (h : Swo lt) (l1 l2 r1 r2 : List α) (hx : ∀ x ∈ l2, ∀ y ∈ r1, lt y x = true) (h12 : ∀ a ∈ l1, ∀ b ∈ l2, lt b a = false) (hr : ∀ a ∈ r1, ∀ b ∈ r2, lt b a = false) (hlr : ∀ a ∈ l1, ∀ b ∈ r2, lt b a = false) :
    ssort lt (l1 ++ l2 ++ (r1 ++ r2)) = ssort lt (l1 ++ r1) ++ ssort lt (l2 ++ r2) := by
  symm
  apply ssort_eq h
  · have h1 := (Sw.blocks l2 r1 hx).ctx l1 r2
    have e1 : l1 ++ (l2 ++ r1) ++ r2 = l1 ++ l2 ++ (r1 ++ r2) := by simp
    have e2 : l1 ++ (r1 ++ l2) ++ r2 = (l1 ++ r1) ++ (l2 ++ r2) := by simp
    rw [e1, e2] at h1
    exact h1.trans ((ssort_sw h _).app (ssort_sw h _))
  · refine List.pairwise_append.2 ⟨ssort_sorted h _, ssort_sorted h _, fun a ha b hb => ?_⟩
    rw [mem_ssort h] at ha hb
    rcases List.mem_append.1 ha with ha | ha <;> rcases List.mem_append.1 hb with hb | hb
    · exact h12 a ha b hb
    · exact hlr a ha b hb
    · exact h.asymm _ _ (hx b hb a ha)
    · exact hr a ha b hb
/-- where x comes to stand -/
theorem ins_at (h : Swo lt) (x : α) : ∀ (S : List α), Sorted lt S → ∀ m, m ≤ S.length → (∀ y ∈ S.drop m, lt x y = true) → (∀ y, S[m - 1]? = some y → 0 < m → lt x y = false) → S.take m ++ x :: S.drop m = ins lt x S := by
  intro S
  induction S with
  | nil => intro _ m hm _ _; simp [ins]
  | cons y S ih =>
    intro hS m hm h1 h2
    have hS' := List.pairwise_cons.1 hS
    match m with
    | 0 =>
      have := h1 y (by simp)
      simp [ins, this]
    | m + 1 =>
      have hxy : lt x y = false := by
        have hl : m < (y :: S).length := by simp at hm ⊢; omega
        have hlast := h2 (y :: S)[m] (by simp [List.getElem?_eq_getElem hl]) (by omega)
        by_cases h0 : m = 0
        · subst h0; simpa using hlast
        · have hmem : (y :: S)[m] ∈ S := by
            obtain ⟨j, rfl⟩ : ∃ j, m = j + 1 := ⟨m - 1, by omega⟩
            simp
          exact h.ntrans y _ x (hS'.1 _ hmem) hlast
      unfold ins
      rw [if_neg (by rw [hxy]; simp)]
      simp only [List.take_succ_cons, List.drop_succ_cons, List.cons_append]
      congr 1
      refine ih hS'.2 m (by simpa using hm) h1 (fun z hz hm0 => ?_)
      refine h2 z ?_ (by omega)
      obtain ⟨j, rfl⟩ : ∃ j, m = j + 1 := ⟨m - 1, by omega⟩
      simpa using hz
end Go.Proofs.YtalliggdfoeahaaGreatDoor.SortM
