/- Plain facts: the reference's form of a clause is the same; whether clauses hold. No condition. -/
import Derived.Test.YtalliggdfoeahaaGreatDoorCnfM
set_option linter.unusedVariables false
set_option linter.unusedSimpArgs false
namespace Go.Proofs.YtalliggdfoeahaaGreatDoor.CnfM
open Go.Lib Go.Sort Go.RowKit

def InR (x : Int) : Prop := -9223372036854775808 ≤ x ∧ x ≤ 9223372036854775807
theorem neg_of {x : Int} (h : InR x) (hw : wrong x = false) : neg x = -x := by
  unfold InR at h
  unfold neg wrap64
  have : x ≠ low := by intro e; subst e; simp [wrong] at hw
  unfold low at this
  omega
theorem ab_of {x : Int} (h : InR x) (hw : wrong x = false) : ab x = max x (-x) := by unfold ab; rw [neg_of h hw]
theorem wrong_ne {x : Int} (hw : wrong x = false) : x ≠ 0 ∧ x ≠ low := by
  constructor <;> (intro e; subst e; simp [wrong] at hw)
theorem ab_pos {x : Int} (h : InR x) (hw : wrong x = false) : 1 ≤ ab x := by
  rw [ab_of h hw]
  have := (wrong_ne hw).1
  omega
theorem ab_eq {x y : Int} (hx : InR x) (hxw : wrong x = false) (hy : InR y) (hyw : wrong y = false) (e : ab x = ab y) : x = y ∨ x = neg y := by
  rw [ab_of hx hxw, ab_of hy hyw] at e
  rw [neg_of hy hyw]
  omega
theorem neg_ok {x : Int} (h : InR x) (hw : wrong x = false) : InR (neg x) ∧ wrong (neg x) = false ∧ ab (neg x) = ab x ∧ neg (neg x) = x ∧ neg x ≠ x := by
  have h0 := wrong_ne hw
  have e := neg_of h hw
  unfold InR low at *
  have h1 : InR (neg x) := by rw [e]; unfold InR; omega
  have h2 : wrong (neg x) = false := by rw [e]; unfold wrong low; simp; omega
  refine ⟨by rw [e]; omega, h2, ?_, ?_, by rw [e]; omega⟩
  · rw [ab_of h1 h2, ab_of h hw, e]; omega
  · rw [neg_of h1 h2, e]; omega

/-- where a literal comes to stand -/
def place (out : List Int) (x : Int) : Nat := (out.takeWhile fun y => decide (ab y < ab x)).length
/-- the reference's form -/
def rgo : List Int → List Int → List Int × Bool
  | out, [] => (out, true)
  | out, x :: r =>
    if wrong x then ([], false)
    else if place out x < out.length ∧ out.getD (place out x) 0 = neg x then ([], false)
    else if place out x < out.length ∧ out.getD (place out x) 0 = x then rgo out r
    else rgo (out.take (place out x) ++ x :: out.drop (place out x)) r
/-- strictly rising atoms, all of them literals -/
structure Rise (out : List Int) : Prop where
  up : out.Pairwise fun a b => ab a < ab b
  ok : ∀ x ∈ out, InR x ∧ wrong x = false
theorem Rise.toUp {out : List Int} (h : Rise out) : Up out := h.up.imp fun {a b} h => by rw [lt_iff]; exact .inl h
theorem bad_of_rise : ∀ (l : List Int), Rise l → bad l = false
  | [], _ => rfl
  | [a], _ => rfl
  | a :: b :: l, h => by
    have h1 := List.pairwise_cons.1 h.up
    have ha := h.ok a (by simp)
    have hlt := h1.1 b (by simp)
    have ih := bad_of_rise (b :: l) ⟨h1.2, fun x hx => h.ok x (by simp [hx])⟩
    unfold bad
    have hne : b ≠ neg a := by
      rintro rfl
      have := (neg_ok ha.1 ha.2).2.2.1
      omega
    rw [ih]
    simp [hne]
theorem bad_pair : ∀ (s : List Int) (i : Nat) (h : i + 1 < s.length), s[i + 1] = neg s[i] → bad s = true
  | a :: b :: l, 0, _, e => by unfold bad; simp at e; simp [e]
  | a :: b :: l, k + 1, h, e => by
    unfold bad
    have := bad_pair (b :: l) k (by simpa using h) (by simpa using e)
    simp [this]
  | [], _, h, _ => by simp at h
  | [a], _, h, _ => by simp at h
/-- opposites stand beside each other -/
theorem bad_of_up {s : List Int} (hs : Up s) (hok : ∀ x ∈ s, InR x ∧ wrong x = false) {x : Int} (h1 : x ∈ s) (h2 : neg x ∈ s) : bad s = true := by
  have hx := hok x h1
  have hn := neg_ok hx.1 hx.2
  -- the lesser one first
  have key : ∀ a, a ∈ s → neg a ∈ s → a < neg a → bad s = true := by
    intro a ha hna hlt
    have hA := hok a ha
    have hN := neg_ok hA.1 hA.2
    obtain ⟨i, hi, ei⟩ := List.mem_iff_getElem.1 ha
    obtain ⟨j, hj, ej⟩ := List.mem_iff_getElem.1 hna
    have hpw := List.pairwise_iff_getElem.1 hs
    have hij : i < j := by
      rcases Nat.lt_trichotomy i j with h | h | h
      · exact h
      · subst h; rw [ei] at ej; omega
      · have := hpw j i hj hi h
        rw [ei, ej, lt_iff] at this
        omega
    by_cases e : j = i + 1
    · subst e
      exact bad_pair s i hj (by rw [ei, ej])
    · have hm : i + 1 < s.length := by omega
      have q1 := hpw i (i + 1) hi hm (by omega)
      have q2 := hpw (i + 1) j hm hj (by omega)
      have hz := hok s[i + 1] (List.getElem_mem hm)
      rw [ei, lt_iff] at q1
      rw [ej, lt_iff] at q2
      have hab := hN.2.2.1
      have eab : ab s[i + 1] = ab a := by omega
      rcases ab_eq hz.1 hz.2 hA.1 hA.2 eab with h | h
      · omega
      · omega
  rcases Int.lt_or_lt_of_ne hn.2.2.2.2 with h | h
  · exact key (neg x) h2 (by rw [hn.2.2.2.1]; exact h1) (by rw [hn.2.2.2.1]; exact h)
  · exact key x h1 h2 h
theorem form_bad {L : List Int} (hr : ∀ x ∈ L, InR x) {x : Int} (hx : wrong x = false) (h1 : x ∈ L) (h2 : neg x ∈ L) : form L = ([], false) := by
  unfold form
  by_cases hw : L.any wrong = true
  · rw [if_pos hw]
  · rw [if_neg hw]
    have hw' : ∀ y ∈ L, wrong y = false := by
      intro y hy
      cases hq : wrong y with
      | false => rfl
      | true => exact absurd (List.any_eq_true.2 ⟨y, hy, hq⟩) hw
    have : bad (cpt (srt L)) = true := bad_of_up (row_up L) (fun y hy => ⟨hr y ((row_mem L y).1 hy), hw' y ((row_mem L y).1 hy)⟩) ((row_mem L x).2 h1) ((row_mem L _).2 h2)
    rw [if_pos this]
theorem form_wrong {L : List Int} {x : Int} (h1 : x ∈ L) (h : wrong x = true) : form L = ([], false) := by
  unfold form
  rw [if_pos (List.any_eq_true.2 ⟨x, h1, h⟩)]
theorem place_le (out : List Int) (x : Int) : place out x ≤ out.length := (List.takeWhile_sublist _).length_le
theorem place_take (out : List Int) (x : Int) : ∀ y ∈ out.take (place out x), ab y < ab x := by
  intro y hy
  have e : out.take (place out x) = out.takeWhile fun y => decide (ab y < ab x) := by
    unfold place
    conv => lhs; arg 2; rw [← List.takeWhile_append_dropWhile (p := fun y => decide (ab y < ab x)) (l := out)]
    rw [List.take_left]
  rw [e] at hy
  have := List.all_takeWhile (p := fun y => decide (ab y < ab x)) (l := out)
  have := List.all_eq_true.1 this y hy
  simpa using this
theorem place_at (out : List Int) (x : Int) (h : place out x < out.length) : ¬ ab (out[place out x]) < ab x := by
  have e : out.drop (place out x) = out.dropWhile fun y => decide (ab y < ab x) := by
    unfold place
    conv => lhs; arg 2; rw [← List.takeWhile_append_dropWhile (p := fun y => decide (ab y < ab x)) (l := out)]
    rw [List.drop_left]
  have hd : out.drop (place out x) = out[place out x]'h :: out.drop (place out x + 1) := List.drop_eq_getElem_cons h
  rw [e] at hd
  have hne : out.dropWhile (fun y => decide (ab y < ab x)) ≠ [] := by rw [hd]; exact List.cons_ne_nil _ _
  have := List.head_dropWhile_not (fun y => decide (ab y < ab x)) (w := hne)
  simp only [hd, List.head_cons] at this
  simpa using this
theorem rgo_form : ∀ (r out : List Int), Rise out → (∀ x ∈ r, InR x) → rgo out r = form (out ++ r)
  | [], out, h, _ => by
    rw [List.append_nil]
    exact (form_of_up out out h.toUp (fun _ => Iff.rfl) (by rw [List.any_eq_false]; intro x hx; simp [(h.ok x hx).2]) (bad_of_rise out h)).symm
  | x :: r, out, h, hr => by
    have hx := hr x (by simp)
    have hrr : ∀ y ∈ r, InR y := fun y hy => hr y (by simp [hy])
    have hall : ∀ y ∈ out ++ x :: r, InR y := by
      intro y hy
      rcases List.mem_append.1 hy with hy | hy
      · exact (h.ok y hy).1
      · exact hr y hy
    unfold rgo
    by_cases hw : wrong x = true
    · rw [if_pos hw]
      exact (form_wrong (by simp) hw).symm
    · have hw' : wrong x = false := by simpa using hw
      rw [if_neg hw]
      by_cases h1 : place out x < out.length ∧ out.getD (place out x) 0 = neg x
      · rw [if_pos h1]
        obtain ⟨hp, e⟩ := h1
        have e' : out[place out x] = neg x := by rw [List.getD_eq_getElem?_getD, List.getElem?_eq_getElem hp] at e; exact e
        have hm : neg x ∈ out := by rw [← e']; exact List.getElem_mem hp
        exact (form_bad hall hw' (by simp) (by simp [hm])).symm
      · rw [if_neg h1]
        by_cases h2 : place out x < out.length ∧ out.getD (place out x) 0 = x
        · rw [if_pos h2]
          obtain ⟨hp, e⟩ := h2
          have e' : out[place out x] = x := by rw [List.getD_eq_getElem?_getD, List.getElem?_eq_getElem hp] at e; exact e
          have hm : x ∈ out := by rw [← e']; exact List.getElem_mem hp
          rw [rgo_form r out h hrr]
          exact form_same _ _ fun y => by
            simp only [List.mem_append, List.mem_cons]
            constructor
            · rintro (h | h)
              · exact .inl h
              · exact .inr (.inr h)
            · rintro (h | h | h)
              · exact .inl h
              · subst h; exact .inl hm
              · exact .inr h
        · rw [if_neg h2]
          have hrise : Rise (out.take (place out x) ++ x :: out.drop (place out x)) := by
            have hpl := place_le out x
            have hsplit : (out.take (place out x) ++ out.drop (place out x)).Pairwise fun a b => ab a < ab b := by rw [List.take_append_drop]; exact h.up
            have hs := List.pairwise_append.1 hsplit
            have htk := place_take out x
            have hdr : ∀ y ∈ out.drop (place out x), ab x < ab y := by
              intro y hy
              obtain ⟨i, hi, e⟩ := List.mem_iff_getElem.1 hy
              have hp : place out x < out.length := by simp at hi; omega
              have hat := place_at out x hp
              have hq := h.ok _ (List.getElem_mem hp)
              have hgt : ab x < ab out[place out x] := by
                rcases Int.lt_or_le (ab x) (ab out[place out x]) with hh | hh
                · exact hh
                · have eab : ab out[place out x] = ab x := by omega
                  have hg : out.getD (place out x) 0 = out[place out x] := by rw [List.getD_eq_getElem?_getD, List.getElem?_eq_getElem hp]; rfl
                  rcases ab_eq hq.1 hq.2 hx hw' eab with e | e
                  · exact absurd ⟨hp, by rw [hg]; exact e⟩ h2
                  · exact absurd ⟨hp, by rw [hg]; exact e⟩ h1
              rw [List.getElem_drop] at e
              by_cases hi0 : i = 0
              · subst hi0
                simp only [Nat.add_zero] at e
                rw [← e]; exact hgt
              · have := List.pairwise_iff_getElem.1 h.up (place out x) (place out x + i) hp (by simp at hi; omega) (by omega)
                rw [e] at this
                omega
            refine ⟨List.pairwise_append.2 ⟨hs.1, List.pairwise_cons.2 ⟨hdr, hs.2.1⟩, fun a ha b hb => ?_⟩, fun y hy => ?_⟩
            · rcases List.mem_cons.1 hb with e | hb
              · rw [e]; exact htk a ha
              · exact hs.2.2 a ha b hb
            · rcases List.mem_append.1 hy with hy | hy
              · exact h.ok y (List.mem_of_mem_take hy)
              · rcases List.mem_cons.1 hy with e | hy
                · rw [e]; exact ⟨hx, hw'⟩
                · exact h.ok y (List.mem_of_mem_drop hy)
          rw [rgo_form r _ hrise hrr]
          exact form_same _ _ fun y => by
            have hm : y ∈ out ↔ y ∈ out.take (place out x) ∨ y ∈ out.drop (place out x) := by rw [← List.mem_append, List.take_append_drop]
            simp only [List.mem_append, List.mem_cons, hm]
            constructor
            · rintro ((h | h | h) | h)
              · exact .inl (.inl h)
              · exact .inr (.inl h)
              · exact .inl (.inr h)
              · exact .inr (.inr h)
            · rintro ((h | h) | h | h)
              · exact .inl (.inl h)
              · exact .inl (.inr (.inr h))
              · exact .inl (.inr (.inl h))
              · exact .inr h
theorem rgo_is (l : List Int) (h : ∀ x ∈ l, InR x) : rgo [] l = form l := by
  have := rgo_form l [] ⟨List.Pairwise.nil, fun x hx => by simp at hx⟩ h
  simpa using this

/-- whether a literal is so -/
def so (m : List Bool) (n : Int) : Bool := !wrong n && ((decide (ab n ≤ m.length) && m.getD ((ab n).toNat - 1) false) == decide (0 < n))
def holds (m : List Bool) (l : List (List Int)) : Bool := l.all fun c => c.any (so m)
theorem holds_form (m : List Bool) (c : List Int) (h : (form c).2 = true) : holds m [(form c).1] = holds m [c] := by
  have hf := form_ok c h
  unfold holds
  simp only [List.all_cons, List.all_nil, Bool.and_true]
  rw [Bool.eq_iff_iff, List.any_eq_true, List.any_eq_true, hf.1]
  exact ⟨fun ⟨x, h1, h2⟩ => ⟨x, (row_mem c x).1 h1, h2⟩, fun ⟨x, h1, h2⟩ => ⟨x, (row_mem c x).2 h1, h2⟩⟩
end Go.Proofs.YtalliggdfoeahaaGreatDoor.CnfM
