/- A stable sort is a sort by the key and the place. Conditions: a strict weak order. -/
import Derived.Test.YtoljhahmmdibfaaSortM
set_option linter.unusedVariables false
set_option linter.unusedSimpArgs false
/- Plain facts for the law LubyForget: who stands at a place of the stable sorting has so many ahead of it. -/
namespace Go.Proofs.Ytoljhahmmdibfaa.ForgM
open Go.Proofs.Ytoljhahmmdibfaa.SortM
variable {α : Type}

/-- by lt, those alike by their places -/
def ltP (lt : α → α → Bool) (x y : α × Nat) : Bool := lt x.1 y.1 || (!lt y.1 x.1 && decide (x.2 < y.2))
def ltF (lt : α → α → Bool) (x y : α × Nat) : Bool := lt x.1 y.1
variable {lt : α → α → Bool}
theorem ltF_swo (h : Swo lt) : Swo (ltF lt) := ⟨fun a b => h.asymm a.1 b.1, fun a b c => h.ntrans a.1 b.1 c.1⟩
theorem ltP_irrefl (h : Swo lt) (x : α × Nat) : ltP lt x x = false := by unfold ltP; rw [irrefl h]; simp
theorem ltP_asymm (h : Swo lt) {x y : α × Nat} (hxy : ltP lt x y = true) : ltP lt y x = false := by
  unfold ltP at *
  cases e1 : lt x.1 y.1
  · rw [e1, Bool.false_or, Bool.and_eq_true, Bool.not_eq_true', decide_eq_true_eq] at hxy
    rw [hxy.1, Bool.false_or, Bool.not_false, Bool.true_and]
    exact decide_eq_false (by omega)
  · rw [h.asymm _ _ e1]; simp
theorem map_ins (x : α × Nat) : ∀ l : List (α × Nat), (ins (ltF lt) x l).map Prod.fst = ins lt x.1 (l.map Prod.fst)
  | [] => rfl
  | y :: l => by
    unfold ins
    simp only [List.map_cons]
    by_cases hc : lt x.1 y.1 = true
    · rw [if_pos hc, if_pos (show ltF lt x y = true from hc)]; rfl
    · rw [if_neg hc, if_neg (show ¬ ltF lt x y = true from hc), List.map_cons, map_ins x l]
theorem map_fold : ∀ (l r : List (α × Nat)), (l.foldl (fun r x => ins (ltF lt) x r) r).map Prod.fst = (l.map Prod.fst).foldl (fun r x => ins lt x r) (r.map Prod.fst)
  | [], _ => rfl
  | x :: l, r => by rw [List.foldl_cons, map_fold l, map_ins]; rfl
theorem map_ssort (l : List (α × Nat)) : (ssort (ltF lt) l).map Prod.fst = ssort lt (l.map Prod.fst) := map_fold l []
theorem ins_strict (h : Swo lt) (x : α × Nat) : ∀ l : List (α × Nat), l.Pairwise (fun a b => ltP lt a b = true) → Sorted (ltF lt) l → (∀ y ∈ l, y.2 < x.2) → (ins (ltF lt) x l).Pairwise (fun a b => ltP lt a b = true)
  | [], _, _, _ => by simp [ins]
  | y :: l, hp, hs, hx => by
    have hp' := List.pairwise_cons.1 hp
    have hs' := List.pairwise_cons.1 hs
    unfold ins
    by_cases hc : ltF lt x y = true
    · rw [if_pos hc]
      refine List.pairwise_cons.2 ⟨fun z hz => ?_, hp⟩
      have : lt x.1 z.1 = true := by
        rcases List.mem_cons.1 hz with e | hz
        · rw [e]; exact hc
        · cases e : lt x.1 z.1
          · have h1 := h.ntrans y.1 z.1 x.1 (hs'.1 z hz) e
            rw [show lt x.1 y.1 = true from hc] at h1; cases h1
          · rfl
      unfold ltP
      rw [this]; rfl
    · rw [if_neg hc]
      refine List.pairwise_cons.2 ⟨fun z hz => ?_, ins_strict h x l hp'.2 hs'.2 fun z hz => hx z (by simp [hz])⟩
      rcases (mem_ins x z l).1 hz with e | hz
      · subst e
        have hc' : lt z.1 y.1 = false := by simpa [ltF] using hc
        unfold ltP
        rw [hc', decide_eq_true (hx y (by simp))]; simp
      · exact hp'.1 z hz
theorem fold_strict (h : Swo lt) : ∀ (l r : List (α × Nat)), r.Pairwise (fun a b => ltP lt a b = true) → Sorted (ltF lt) r → l.Pairwise (fun a b => a.2 < b.2) → (∀ y ∈ r, ∀ x ∈ l, y.2 < x.2) → (l.foldl (fun r x => ins (ltF lt) x r) r).Pairwise (fun a b => ltP lt a b = true)
  | [], _, hr, _, _, _ => hr
  | x :: l, r, hr, hs, hl, hrl => by
    have hl' := List.pairwise_cons.1 hl
    rw [List.foldl_cons]
    refine fold_strict h l _ (ins_strict h x r hr hs fun y hy => hrl y hy x (by simp)) (ins_sorted (ltF_swo h) x r hs) hl'.2 fun y hy z hz => ?_
    rcases (mem_ins x y r).1 hy with e | hy
    · rw [e]; exact hl'.1 z hz
    · exact hrl y hy z (by simp [hz])
theorem ssort_strict (h : Swo lt) {l : List (α × Nat)} (hl : l.Pairwise (fun a b => a.2 < b.2)) : (ssort (ltF lt) l).Pairwise (fun a b => ltP lt a b = true) :=
  fold_strict h l [] List.Pairwise.nil List.Pairwise.nil hl fun y hy => by cases hy
/-- of a strictly sorted row those with fewer than h ahead are the first h -/
theorem take_rank (h : Swo lt) (L : List (α × Nat)) (hL : L.Pairwise (fun a b => ltP lt a b = true)) (m : Nat) : L.filter (fun x => decide ((L.filter (ltP lt · x)).length < m)) = L.take m := by
  have rank : ∀ i (hi : i < L.length), (L.filter (ltP lt · L[i])).length = i := by
    intro i hi
    have e : L = L.take i ++ L[i] :: L.drop (i + 1) := by rw [← List.drop_eq_getElem_cons hi, List.take_append_drop]
    have h1 : (L.take i).filter (ltP lt · L[i]) = L.take i := List.filter_eq_self.2 fun y hy => by
      obtain ⟨j, hj, rfl⟩ := List.getElem_of_mem hy
      simp only [List.length_take] at hj
      rw [List.getElem_take]
      exact List.pairwise_iff_getElem.1 hL j i (by omega) hi (by omega)
    have h2 : (L.drop (i + 1)).filter (ltP lt · L[i]) = [] := List.filter_eq_nil_iff.2 fun y hy => by
      obtain ⟨j, hj, rfl⟩ := List.getElem_of_mem hy
      simp only [List.length_drop] at hj
      rw [List.getElem_drop]
      have := List.pairwise_iff_getElem.1 hL i (i + 1 + j) hi (by omega) (by omega)
      rw [ltP_asymm h this]; simp
    generalize L[i] = x at *
    conv => lhs; rw [e]
    rw [List.filter_append, List.filter_cons, ltP_irrefl h, h1, h2]
    simp; omega
  have key : ∀ n, n ≤ L.length → (L.take n).filter (fun x => decide ((L.filter (ltP lt · x)).length < m)) = (L.take n).take m := by
    intro n
    induction n with
    | zero => intro _; simp
    | succ n ih =>
      intro hn
      rw [List.take_succ_eq_append_getElem (by omega), List.filter_append, ih (by omega), List.filter_cons, rank n (by omega), List.filter_nil]
      by_cases hnm : n < m
      · have a1 : (L.take n).take m = L.take n := List.take_of_length_le (by rw [List.length_take]; omega)
        have a2 : (L.take n ++ [L[n]]).take m = L.take n ++ [L[n]] := List.take_of_length_le (by rw [List.length_append, List.length_take, List.length_singleton]; omega)
        rw [if_pos (by simpa using hnm), a1, a2]
      · have a3 : (L.take n ++ [L[n]]).take m = (L.take n).take m := List.take_append_of_le_length (by rw [List.length_take]; omega)
        rw [if_neg (by simpa using hnm), List.append_nil, a3]
  have := key L.length (Nat.le_refl _)
  rw [List.take_length] at this
  exact this
/-- those with fewer than m ahead are, as a set with repetitions, the first m of the stable sorting -/
theorem first_perm (h : Swo lt) {l : List (α × Nat)} (hl : l.Pairwise (fun a b => a.2 < b.2)) (m : Nat) :
    (l.filter (fun x => decide ((l.filter (ltP lt · x)).length < m))).Perm ((ssort (ltF lt) l).take m) := by
  have hp := (ssort_sw (ltF_swo h) l).perm
  rw [← take_rank h (ssort (ltF lt) l) (ssort_strict h hl) m]
  have e : (fun x => decide ((l.filter (ltP lt · x)).length < m)) = (fun x => decide (((ssort (ltF lt) l).filter (ltP lt · x)).length < m)) := by
    funext x
    rw [(hp.filter (ltP lt · x)).length_eq]
  rw [e]
  exact hp.filter _

/-! rising rows of numbers -/
def insN (x : Int) : List Int → List Int
  | [] => [x]
  | y :: l => if y ≤ x then y :: insN x l else x :: y :: l
theorem insN_perm (x : Int) : ∀ l, (insN x l).Perm (x :: l)
  | [] => List.Perm.refl _
  | y :: l => by
    unfold insN
    split
    · exact ((insN_perm x l).cons y).trans (List.Perm.swap x y l)
    · exact List.Perm.refl _
def Rising (l : List Int) : Prop := l.Pairwise (· ≤ ·)
theorem insN_rising (x : Int) : ∀ l, Rising l → Rising (insN x l)
  | [], _ => List.pairwise_singleton _ _
  | y :: l, h => by
    have h' := List.pairwise_cons.1 h
    unfold insN
    split
    · rename_i hc
      refine List.pairwise_cons.2 ⟨fun z hz => ?_, insN_rising x l h'.2⟩
      rcases List.mem_cons.1 ((insN_perm x l).subset hz) with e | hz
      · rw [e]; exact hc
      · exact h'.1 z hz
    · rename_i hc
      refine List.pairwise_cons.2 ⟨fun z hz => ?_, h⟩
      rcases List.mem_cons.1 hz with e | hz
      · omega
      · have := h'.1 z hz; omega
theorem insN_split (x : Int) (l : List Int) (at_ : Nat) (h0 : at_ ≤ l.length) (h1 : ∀ y ∈ l.take at_, y ≤ x) (h2 : ∀ y, l[at_]? = some y → x < y) : insN x l = l.take at_ ++ x :: l.drop at_ := by
  induction l generalizing at_ with
  | nil => simp [insN]
  | cons y l ih =>
    match at_ with
    | 0 =>
      have := h2 y rfl
      unfold insN
      rw [if_neg (by omega)]; rfl
    | k + 1 =>
      have hy : y ≤ x := h1 y (by simp)
      unfold insN
      rw [if_pos hy, ih k (by simpa using h0) (fun z hz => h1 z (by simp [hz])) (fun z hz => h2 z (by simpa using hz))]
      rfl
def sortN (l : List Int) : List Int := l.foldl (fun r x => insN x r) []
theorem foldN (l : List Int) : ∀ r, Rising r → Rising (l.foldl (fun r x => insN x r) r) ∧ (l.foldl (fun r x => insN x r) r).Perm (r ++ l) := by
  induction l with
  | nil => intro r hr; exact ⟨hr, by rw [List.append_nil]; exact List.Perm.refl _⟩
  | cons x l ih =>
    intro r hr
    have h := ih (insN x r) (insN_rising x r hr)
    refine ⟨h.1, h.2.trans ?_⟩
    exact ((insN_perm x r).append_right l).trans List.perm_middle.symm
theorem sortN_spec (l : List Int) : Rising (sortN l) ∧ (sortN l).Perm l := by
  have := foldN l [] List.Pairwise.nil
  exact this
theorem rising_uniq : ∀ (a b : List Int), Rising a → Rising b → a.Perm b → a = b := by
  intro a
  induction a with
  | nil => intro b _ _ h; exact h.nil_eq
  | cons x a ih =>
    intro b ha hb h
    match b with
    | [] => exact absurd h.symm.nil_eq (by simp)
    | y :: b =>
      have pa := List.pairwise_cons.1 ha
      have pb := List.pairwise_cons.1 hb
      have h1 : x ≤ y := by
        rcases List.mem_cons.1 (h.symm.subset (by simp : y ∈ y :: b)) with e | hy
        · omega
        · exact pa.1 y hy
      have h2 : y ≤ x := by
        rcases List.mem_cons.1 (h.subset (by simp : x ∈ x :: a)) with e | hx
        · omega
        · exact pb.1 x hx
      obtain rfl : x = y := by omega
      rw [ih b pa.2 pb.2 (List.Perm.cons_inv h)]
theorem sortN_snoc (l : List Int) (x : Int) : sortN (l ++ [x]) = insN x (sortN l) := by unfold sortN; rw [List.foldl_append]; rfl
end Go.Proofs.Ytoljhahmmdibfaa.ForgM
