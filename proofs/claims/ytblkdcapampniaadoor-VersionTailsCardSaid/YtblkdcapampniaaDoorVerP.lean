/- The parts of a text between one sign, and that they are found by its first place. Conditions: as each says. -/
import Derived.Test.YtblkdcapampniaaDoorVerC
import Derived.Lib.SplitLaws
import Derived.Lib.IndexBytes
set_option linter.unusedVariables false
set_option linter.unusedSimpArgs false
/- Plain facts: how a text is cut, which texts are versions, and that they stand in a row. -/
namespace Go.Proofs.YtblkdcapampniaaDoor.VerN
open Go.Lib

/-- a text cut at a byte; acc: what was read of the part that is under way -/
def cutF (c : UInt8) : List UInt8 → List UInt8 → List (List UInt8)
  | acc, [] => [acc]
  | acc, x :: r => if x = c then acc :: cutF c [] r else cutF c (acc ++ [x]) r
def cutL (c : UInt8) (l : List UInt8) : List (List UInt8) := cutF c [] l
theorem cutF_cons_ne {c x : UInt8} (acc r : List UInt8) (h : x ≠ c) : cutF c acc (x :: r) = cutF c (acc ++ [x]) r := by rw [cutF, if_neg h]
theorem cutF_cons_eq (c : UInt8) (acc r : List UInt8) : cutF c acc (c :: r) = acc :: cutF c [] r := by rw [cutF, if_pos rfl]
theorem cutF_miss (c : UInt8) : ∀ (r acc : List UInt8), indexByte r c = -1 → cutF c acc r = [acc ++ r]
  | [], acc, _ => by rw [List.append_nil]; rfl
  | x :: r, acc, h => by
    unfold indexByte at h
    split at h
    · cases h
    · rename_i hx
      have hx' : x ≠ c := fun e => hx (by rw [e]; simp)
      have hr : indexByte r c = -1 := by
        split at h
        · rename_i e; exact beq_iff_eq.1 e
        · have := indexByte_ge r c; omega
      rw [cutF_cons_ne _ _ hx', cutF_miss c r _ hr, List.append_assoc]
      rfl
theorem cutF_hit (c : UInt8) : ∀ (r acc : List UInt8) (i : Nat), indexByte r c = i → cutF c acc r = (acc ++ r.take i) :: cutL c (r.drop (i + 1))
  | [], acc, i, h => by unfold indexByte at h; omega
  | x :: r, acc, i, h => by
    unfold indexByte at h
    split at h
    · rename_i hx
      have hx' : x = c := by simpa using hx
      have hi : i = 0 := by omega
      subst hi; subst hx'
      rw [cutF_cons_eq]
      simp [cutL]
    · rename_i hx
      have hx' : x ≠ c := fun e => hx (by rw [e]; simp)
      split at h
      · omega
      · rename_i hm
        obtain ⟨j, rfl⟩ : ∃ j, i = j + 1 := ⟨i - 1, by
          have := indexByte_ge r c
          have h0 : indexByte r c ≠ -1 := fun e => hm (by rw [e]; rfl)
          omega⟩
        have hr : indexByte r c = j := by omega
        rw [cutF_cons_ne _ _ hx', cutF_hit c r _ j hr, List.append_assoc]
        rfl
theorem cutF_len (c : UInt8) : ∀ (r acc : List UInt8), 1 ≤ (cutF c acc r).length ∧ (cutF c acc r).length ≤ r.length + 1
  | [], acc => ⟨Nat.le_refl _, Nat.le_refl _⟩
  | x :: r, acc => by
    by_cases h : x = c
    · subst h
      have := cutF_len x r []
      rw [cutF_cons_eq]
      simp only [List.length_cons]
      omega
    · have := cutF_len c r (acc ++ [x])
      rw [cutF_cons_ne _ _ h]
      simp only [List.length_cons]
      omega
theorem cutL_len (c : UInt8) (l : List UInt8) : 1 ≤ (cutL c l).length ∧ (cutL c l).length ≤ l.length + 1 := cutF_len c l []
theorem cutF_piece (c : UInt8) : ∀ (r acc p : List UInt8), p ∈ cutF c acc r → p.length ≤ acc.length + r.length
  | [], acc, p, h => by
    rw [show cutF c acc [] = [acc] from rfl, List.mem_singleton] at h
    subst h; omega
  | x :: r, acc, p, h => by
    by_cases hx : x = c
    · subst hx
      rw [cutF_cons_eq] at h
      rcases List.mem_cons.1 h with rfl | h
      · simp
      · have := cutF_piece x r [] p h
        simp only [List.length_cons, List.length_nil] at this ⊢
        omega
    · rw [cutF_cons_ne _ _ hx] at h
      have := cutF_piece c r _ p h
      simp only [List.length_append, List.length_cons, List.length_nil] at this ⊢
      omega
/-- two texts with the byte between are cut as each -/
theorem cutF_join (c : UInt8) : ∀ (a acc b : List UInt8), cutF c acc (a ++ c :: b) = cutF c acc a ++ cutL c b
  | [], acc, b => by rw [List.nil_append, cutF_cons_eq]; rfl
  | x :: r, acc, b => by
    rw [List.cons_append]
    by_cases hx : x = c
    · subst hx
      rw [cutF_cons_eq, cutF_cons_eq, cutF_join x r [] b]; rfl
    · rw [cutF_cons_ne _ _ hx, cutF_cons_ne _ _ hx, cutF_join c r _ b]
theorem cutL_join (c : UInt8) (a b : List UInt8) : cutL c (a ++ c :: b) = cutL c a ++ cutL c b := cutF_join c a [] b
/-- the parts put together again -/
def glue (c : UInt8) : List (List UInt8) → List UInt8
  | [] => []
  | [p] => p
  | p :: q :: r => p ++ c :: glue c (q :: r)
theorem glue_cut (c : UInt8) : ∀ (r acc : List UInt8), glue c (cutF c acc r) = acc ++ r
  | [], acc => by rw [List.append_nil]; rfl
  | x :: r, acc => by
    by_cases hx : x = c
    · subst hx
      rw [cutF_cons_eq]
      have h := glue_cut x r []
      have hl := (cutF_len x r []).1
      match hm : cutF x [] r, hl with
      | q :: t, _ =>
        rw [hm] at h
        rw [glue, h]; rfl
    · rw [cutF_cons_ne _ _ hx, glue_cut c r, List.append_assoc]; rfl
theorem cutL_inj {c : UInt8} {a b : List UInt8} (h : cutL c a = cutL c b) : a = b := by
  have h1 := glue_cut c a []
  have h2 := glue_cut c b []
  rw [show cutF c [] a = cutL c a from rfl, h] at h1
  rw [show cutF c [] b = cutL c b from rfl] at h2
  rw [h1] at h2
  simpa using h2
theorem cutF_none (c : UInt8) (r acc : List UInt8) (h : ∀ x ∈ r, x ≠ c) : cutF c acc r = [acc ++ r] := by
  induction r generalizing acc with
  | nil => rw [List.append_nil]; rfl
  | cons x r ih =>
    rw [cutF_cons_ne _ _ (h x (by simp)), ih _ fun y hy => h y (by simp [hy]), List.append_assoc]; rfl

/-- a part -/
def partL (l : List UInt8) : Bool := letOk l || digOk l
theorem part_ne {l : List UInt8} (h : partL l = true) : l ≠ [] := by
  unfold partL at h
  rcases Bool.or_eq_true _ _ ▸ h with h | h
  · exact let_ne h
  · exact (digs_of h).2.2
theorem part_of {l : List UInt8} (h : partL l = true) : Part l := by
  unfold partL at h
  rcases Bool.or_eq_true _ _ ▸ h with h | h
  · exact .inr (.inl h)
  · exact .inr (.inr h)
/-- whether a text is a version -/
def mayL (l : List UInt8) : Bool := decide (l ≠ []) && decide (l.length ≤ 40) && (cutL 46 l).all partL && decide ((cutL 46 l).length ≤ 8)
theorem may_iff (l : List UInt8) : mayL l = true ↔ l ≠ [] ∧ l.length ≤ 40 ∧ (∀ p ∈ cutL 46 l, partL p = true) ∧ (cutL 46 l).length ≤ 8 := by
  unfold mayL
  simp [and_assoc]

/-- how two rows of parts stand to each other from a place on -/
def cmpFrom (x y : List (List UInt8)) : Nat → Nat → Int
  | _, 0 => 0
  | i, n + 1 => if pcmp (x.getD i []) (y.getD i []) ≠ 0 then pcmp (x.getD i []) (y.getD i []) else cmpFrom x y (i + 1) n
def compareL (a b : List UInt8) : Int :=
  if mayL a = false ∧ mayL b = false then 0 else if mayL a = false then -1 else if mayL b = false then 1 else cmpFrom (cutL 46 a) (cutL 46 b) 0 (max (cutL 46 a).length (cutL 46 b).length)

/-- a way to stand to each other -/
structure Row {α : Type} (c : α → α → Int) : Prop where
  tri : ∀ x y, c x y = -1 ∨ c x y = 0 ∨ c x y = 1
  neg : ∀ x y, c y x = -c x y
  trans : ∀ x y z, c x y ≤ 0 → c y z ≤ 0 → c x z ≤ 0
theorem Row.lt1 {α : Type} {c : α → α → Int} (h : Row c) {x y z : α} (h1 : c x y < 0) (h2 : c y z ≤ 0) : c x z < 0 := by
  by_cases h3 : c x z < 0
  · exact h3
  · have a := h.neg x z
    have b := h.neg x y
    have := h.trans y z x h2 (by omega)
    omega
theorem Row.lt2 {α : Type} {c : α → α → Int} (h : Row c) {x y z : α} (h1 : c x y ≤ 0) (h2 : c y z < 0) : c x z < 0 := by
  by_cases h3 : c x z < 0
  · exact h3
  · have a := h.neg x z
    have b := h.neg y z
    have := h.trans z x y (by omega) h1
    omega
theorem Row.eq {α : Type} {c : α → α → Int} (h : Row c) {x y z : α} (h1 : c x y = 0) (h2 : c y z = 0) : c x z = 0 := by
  have a := h.trans x y z (by omega) (by omega)
  have b := h.trans z y x (by rw [h.neg]; omega) (by rw [h.neg]; omega)
  have d := h.neg x z
  omega
def thenBy {α : Type} (c d : α → α → Int) (x y : α) : Int := if c x y ≠ 0 then c x y else d x y
theorem Row.thenBy {α : Type} {c d : α → α → Int} (hc : Row c) (hd : Row d) : Row (thenBy c d) := by
  refine ⟨fun x y => ?_, fun x y => ?_, fun x y z h1 h2 => ?_⟩
  · unfold VerN.thenBy; split
    · exact hc.tri x y
    · exact hd.tri x y
  · unfold VerN.thenBy
    have := hc.neg x y
    by_cases h : c x y = 0
    · rw [if_neg (by omega), if_neg (by omega)]; exact hd.neg x y
    · rw [if_pos (by omega), if_pos (by omega)]; exact this
  · unfold VerN.thenBy at h1 h2 ⊢
    by_cases a : c x y = 0
    · rw [if_neg (by omega)] at h1
      by_cases b : c y z = 0
      · rw [if_neg (by omega)] at h2
        rw [if_neg (by rw [hc.eq a b]; omega)]
        exact hd.trans x y z h1 h2
      · rw [if_pos b] at h2
        have := hc.lt2 (x := x) (by omega : c x y ≤ 0) (by omega : c y z < 0)
        rw [if_pos (by omega)]; omega
    · rw [if_pos a] at h1
      have h3 : c y z ≤ 0 := by
        by_cases b : c y z = 0
        · omega
        · rw [if_pos b] at h2; exact h2
      have := hc.lt1 (z := z) (by omega : c x y < 0) h3
      rw [if_pos (by omega)]; omega
theorem Row.map {α β : Type} {c : α → α → Int} (h : Row c) (f : β → α) : Row fun x y => c (f x) (f y) :=
  ⟨fun x y => h.tri _ _, fun x y => h.neg _ _, fun x y z => h.trans _ _ _⟩
theorem row_int : Row cmpI := by
  refine ⟨fun x y => ?_, fun x y => ?_, fun x y z => ?_⟩ <;> unfold cmpI
  · split
    · exact .inl rfl
    · split
      · exact .inr (.inr rfl)
      · exact .inr (.inl rfl)
  · by_cases h1 : x < y
    · have h3 : ¬ y < x := by omega
      simp [h1, h3]
    · by_cases h2 : y < x
      · simp [h1, h2]
      · simp [h1, h2]
  · have le : ∀ x y : Int, (if x < y then (-1 : Int) else if x > y then 1 else 0) ≤ 0 ↔ x ≤ y := fun x y => by
      by_cases h1 : x < y
      · rw [if_pos h1]; exact ⟨fun _ => by omega, fun _ => by omega⟩
      · rw [if_neg h1]
        by_cases h2 : x > y
        · rw [if_pos h2]; exact ⟨fun h => by omega, fun h => by omega⟩
        · rw [if_neg h2]; exact ⟨fun _ => by omega, fun _ => by omega⟩
    rw [le, le, le]
    omega
theorem getD_lt {x : List (List UInt8)} {i : Nat} (h : i < x.length) : x.getD i [] = x[i] := by rw [List.getD, List.getElem?_eq_getElem h]; rfl
theorem getD_ge {x : List (List UInt8)} {i : Nat} (h : x.length ≤ i) : x.getD i [] = [] := by rw [List.getD, List.getElem?_eq_none h]; rfl
theorem row_words : Row cmpW := by
  have as : ∀ x y : List UInt8, x < y → ¬ y < x := fun x y h1 h2 => List.lt_irrefl x (List.lt_trans h1 h2)
  have le : ∀ x y, cmpW x y ≤ 0 ↔ x ≤ y := fun x y => by
    unfold cmpW
    by_cases h1 : x < y
    · rw [if_pos h1]; exact ⟨fun _ => List.not_lt.1 (as _ _ h1), fun _ => by omega⟩
    · rw [if_neg h1]
      by_cases h2 : y < x
      · rw [if_pos h2]; exact ⟨fun h => by omega, fun h => absurd h2 (List.not_lt.2 h)⟩
      · rw [if_neg h2]; exact ⟨fun _ => List.not_lt.1 h2, fun _ => by omega⟩
  refine ⟨fun x y => ?_, fun x y => ?_, fun x y z h1 h2 => ?_⟩
  · unfold cmpW; split
    · exact .inl rfl
    · split
      · exact .inr (.inr rfl)
      · exact .inr (.inl rfl)
  · unfold cmpW
    by_cases h1 : x < y
    · rw [if_neg (as _ _ h1), if_pos h1, if_pos h1]; rfl
    · by_cases h2 : y < x
      · rw [if_pos h2, if_neg h1, if_pos h2]
      · rw [if_neg h2, if_neg h1, if_neg h1, if_neg h2]; rfl
  · rw [le] at h1 h2 ⊢
    exact List.le_trans h1 h2
theorem pcmp_thenBy : pcmp = thenBy (fun a b => cmpI (rankOf a) (rankOf b)) (thenBy (fun a b => cmpI (numOf a) (numOf b)) (fun a b => cmpW (wordOf a) (wordOf b))) := by
  funext a b
  rfl
theorem row_parts : Row pcmp := by
  rw [pcmp_thenBy]
  exact (row_int.map rankOf).thenBy ((row_int.map numOf).thenBy (row_words.map wordOf))
theorem row_from : ∀ (n i : Nat), Row fun x y => cmpFrom x y i n
  | 0, i => ⟨fun _ _ => .inr (.inl rfl), fun _ _ => rfl, fun _ _ _ _ _ => Int.le_refl _⟩
  | n + 1, i => (row_parts.map fun x : List (List UInt8) => x.getD i []).thenBy (row_from n (i + 1))
/-- behind both there is nothing that tells -/
theorem from_more (x y : List (List UInt8)) : ∀ (n k i : Nat), x.length ≤ i + n → y.length ≤ i + n → cmpFrom x y i (n + k) = cmpFrom x y i n
  | 0, 0, _, _, _ => rfl
  | 0, k + 1, i, hx, hy => by
    have e : cmpFrom x y i (k + 1) = if pcmp (x.getD i []) (y.getD i []) ≠ 0 then pcmp (x.getD i []) (y.getD i []) else cmpFrom x y (i + 1) k := rfl
    rw [Nat.zero_add, e, getD_ge (by omega), getD_ge (by omega), if_neg (by decide)]
    have := from_more x y 0 k (i + 1) (by omega) (by omega)
    rw [Nat.zero_add] at this
    exact this
  | n + 1, k, i, hx, hy => by
    rw [show n + 1 + k = (n + k) + 1 by omega, cmpFrom, cmpFrom, from_more x y n k (i + 1) (by omega) (by omega)]
theorem from_any {x y : List (List UInt8)} {N : Nat} (hx : x.length ≤ N) (hy : y.length ≤ N) : cmpFrom x y 0 (max x.length y.length) = cmpFrom x y 0 N := by
  have := from_more x y (max x.length y.length) (N - max x.length y.length) 0 (by omega) (by omega)
  rw [show max x.length y.length + (N - max x.length y.length) = N by omega] at this
  exact this.symm
theorem compare_eight (a b : List UInt8) : compareL a b = if mayL a = false ∧ mayL b = false then 0 else if mayL a = false then -1 else if mayL b = false then 1 else cmpFrom (cutL 46 a) (cutL 46 b) 0 8 := by
  unfold compareL
  cases ha : mayL a
  · simp
  · cases hb : mayL b
    · simp
    · have h1 := ((may_iff a).1 ha).2.2.2
      have h2 := ((may_iff b).1 hb).2.2.2
      simp only [Bool.true_eq_false, and_self, if_false]
      exact from_any h1 h2
/-- all texts stand in a row -/
theorem row_compare : Row compareL := by
  have R := row_from 8 0
  refine ⟨fun x y => ?_, fun x y => ?_, fun x y z => ?_⟩
  · rw [compare_eight]
    split
    · exact .inr (.inl rfl)
    · split
      · exact .inl rfl
      · split
        · exact .inr (.inr rfl)
        · exact R.tri _ _
  · rw [compare_eight, compare_eight]
    cases mayL x <;> cases mayL y <;> simp
    exact R.neg _ _
  · rw [compare_eight, compare_eight, compare_eight]
    cases mayL x <;> cases mayL y <;> cases mayL z <;> simp
    exact R.trans _ _ _
/-- parts that are alike are the same -/
theorem pcmp_zero {a b : List UInt8} (ha : Part a) (hb : Part b) (h : pcmp a b = 0) : a = b := by
  rw [pcmp_is ha hb] at h
  by_cases hab : a = b
  · exact hab
  · exfalso
    by_cases h1 : before a b = true
    · rw [if_pos h1] at h; cases h
    · rw [if_neg h1] at h
      by_cases h2 : before b a = true
      · rw [if_pos h2] at h; cases h
      · have h3 := pcmp_is ha hb
        rw [if_neg h1, if_neg h2] at h3
        unfold pcmp at h3
        by_cases e1 : cmpI (rankOf a) (rankOf b) = 0
        · rw [if_neg (by omega)] at h3
          by_cases e2 : cmpI (numOf a) (numOf b) = 0
          · rw [if_neg (by omega)] at h3
            have r : rankOf a = rankOf b := by unfold cmpI at e1; split at e1; omega; split at e1 <;> omega
            have n : numOf a = numOf b := by unfold cmpI at e2; split at e2; omega; split at e2 <;> omega
            have w : wordOf a = wordOf b := by
              by_cases e : wordOf a = wordOf b
              · exact e
              · unfold cmpW at h3
                by_cases l1 : wordOf a < wordOf b
                · rw [if_pos l1] at h3; omega
                · rw [if_neg l1, if_pos (dec_ne e l1)] at h3; omega
            apply hab
            rcases ha with rfl | ha | ha
            · rcases hb with rfl | hb | hb
              · rfl
              · rw [rk_let hb] at r; exact absurd r (by decide)
              · rw [rk_dig hb] at r; exact absurd r (by decide)
            · rcases hb with rfl | hb | hb
              · rw [rk_let ha] at r; exact absurd r (by decide)
              · unfold wordOf at w; rwa [if_pos ha, if_pos hb] at w
              · rw [rk_let ha, rk_dig hb] at r; omega
            · rcases hb with rfl | hb | hb
              · rw [rk_dig ha] at r; exact absurd r (by decide)
              · rw [rk_dig ha, rk_let hb] at r; omega
              · have va : numOf a = (valFrom 0 a : Nat) := by unfold numOf; rw [if_neg (by rw [(digs_of ha).2.1]; simp)]
                have vb : numOf b = (valFrom 0 b : Nat) := by unfold numOf; rw [if_neg (by rw [(digs_of hb).2.1]; simp)]
                have v : valFrom 0 a = valFrom 0 b := by omega
                have ha' := ha
                have hb' := hb
                unfold digOk at ha' hb'
                simp only [Bool.and_eq_true] at ha' hb'
                have e1 := dec_val a (digs_of ha).2.2 ha'.1.1.2 ha'.2
                have e2 := dec_val b (digs_of hb).2.2 hb'.1.1.2 hb'.2
                rw [← e1, ← e2, v]
          · rw [if_pos e2] at h3; omega
        · rw [if_pos e1] at h3; omega
theorem part_getD {x : List (List UInt8)} (h : ∀ p ∈ x, partL p = true) (i : Nat) : Part (x.getD i []) := by
  by_cases hi : i < x.length
  · rw [getD_lt hi]; exact part_of (h _ (List.getElem_mem hi))
  · rw [getD_ge (by omega)]; exact .inl rfl
theorem from_zero {x y : List (List UInt8)} (hx : ∀ p ∈ x, partL p = true) (hy : ∀ p ∈ y, partL p = true) : ∀ (n i : Nat), cmpFrom x y i n = 0 → ∀ j, i ≤ j → j < i + n → x.getD j [] = y.getD j []
  | 0, i, _, j, h1, h2 => by omega
  | n + 1, i, h, j, h1, h2 => by
    unfold cmpFrom at h
    by_cases h0 : pcmp (x.getD i []) (y.getD i []) = 0
    · rw [if_neg (by omega)] at h
      rcases Nat.eq_or_lt_of_le h1 with rfl | h3
      · exact pcmp_zero (part_getD hx i) (part_getD hy i) h0
      · exact from_zero hx hy n (i + 1) h j h3 (by omega)
    · rw [if_pos h0] at h; exact absurd h h0
theorem lists_eq {x y : List (List UInt8)} (hx : ∀ p ∈ x, partL p = true) (hy : ∀ p ∈ y, partL p = true) (h : ∀ j, j < max x.length y.length → x.getD j [] = y.getD j []) : x = y := by
  have hl : x.length = y.length := by
    rcases Nat.lt_trichotomy x.length y.length with h1 | h1 | h1
    · exfalso
      have := h x.length (by omega)
      rw [getD_ge (Nat.le_refl _), getD_lt h1] at this
      exact part_ne (hy _ (List.getElem_mem h1)) this.symm
    · exact h1
    · exfalso
      have := h y.length (by omega)
      rw [getD_ge (x := y) (Nat.le_refl _), getD_lt h1] at this
      exact part_ne (hx _ (List.getElem_mem h1)) this
  refine List.ext_getElem hl fun i h1 h2 => ?_
  have := h i (by omega)
  rwa [getD_lt h1, getD_lt h2] at this
/-- versions that are alike are the same text -/
theorem compare_zero {a b : List UInt8} (h : compareL a b = 0) : a = b ∨ mayL a = false ∧ mayL b = false := by
  unfold compareL at h
  cases ha : mayL a
  · cases hb : mayL b
    · exact .inr ⟨rfl, rfl⟩
    · rw [ha, hb] at h; simp at h
  · cases hb : mayL b
    · rw [ha, hb] at h; simp at h
    · rw [ha, hb] at h
      simp only [Bool.true_eq_false, and_self, if_false] at h
      have h1 := ((may_iff a).1 ha).2.2.1
      have h2 := ((may_iff b).1 hb).2.2.1
      exact .inl (cutL_inj (lists_eq h1 h2 fun j hj => from_zero h1 h2 _ 0 h j (Nat.zero_le _) (by omega)))

/-- the document's way: does a text stand ahead of another one? -/
def lessFrom (x y : List (List UInt8)) : Nat → Nat → Bool
  | _, 0 => false
  | i, n + 1 => if before (x.getD i []) (y.getD i []) = true then true else if before (y.getD i []) (x.getD i []) = true then false else lessFrom x y (i + 1) n
def lessL (a b : List UInt8) : Bool := if mayL a = false ∨ mayL b = false then !mayL a && mayL b else lessFrom (cutL 46 a) (cutL 46 b) 0 (max (cutL 46 a).length (cutL 46 b).length)
theorem less_from {x y : List (List UInt8)} (hx : ∀ p ∈ x, partL p = true) (hy : ∀ p ∈ y, partL p = true) : ∀ (n i : Nat), lessFrom x y i n = decide (cmpFrom x y i n = -1)
  | 0, _ => rfl
  | n + 1, i => by
    unfold lessFrom cmpFrom
    rw [pcmp_is (part_getD hx i) (part_getD hy i)]
    by_cases h1 : before (x.getD i []) (y.getD i []) = true
    · rw [if_pos h1, if_pos h1]; rfl
    · rw [if_neg h1, if_neg h1]
      by_cases h2 : before (y.getD i []) (x.getD i []) = true
      · rw [if_pos h2, if_pos h2]; rfl
      · rw [if_neg h2, if_neg h2, less_from hx hy n (i + 1)]; rfl
theorem less_is (a b : List UInt8) : lessL a b = decide (compareL a b = -1) := by
  unfold lessL compareL
  cases ha : mayL a
  · cases hb : mayL b <;> simp
  · cases hb : mayL b
    · simp
    · simp only [Bool.true_eq_false, or_self, and_self, if_false]
      exact less_from ((may_iff a).1 ha).2.2.1 ((may_iff b).1 hb).2.2.1 _ _
def compareD (a b : List UInt8) : Int := if lessL a b = true then -1 else if lessL b a = true then 1 else 0
theorem compareD_is (a b : List UInt8) : compareD a b = compareL a b := by
  unfold compareD
  rw [less_is, less_is]
  have h1 := row_compare.tri a b
  have h2 := row_compare.neg a b
  simp only [decide_eq_true_eq]
  by_cases e : compareL a b = -1
  · rw [if_pos e, e]
  · rw [if_neg e]
    by_cases e2 : compareL b a = -1
    · rw [if_pos e2]; omega
    · rw [if_neg e2]; omega
end Go.Proofs.YtblkdcapampniaaDoor.VerN
