/- Plain facts of digits, letters and the numbers that digits spell. Conditions: as each says. -/
import Derived.Lib.AtoiAll
import Derived.Lib.AtoiAllCases
import Derived.Lib.ItoaNum
set_option linter.unusedVariables false
set_option linter.unusedSimpArgs false
/- Plain facts: what version.read takes for a part, by Atoi and Itoa, is what the document takes for one. -/
namespace Go.Proofs.YtblkdcapampniaaDoor.VerN
open Go.Lib

def isDig (c : UInt8) : Bool := decide (48 ≤ c.toNat) && decide (c.toNat ≤ 57)
def isLet (c : UInt8) : Bool := decide (97 ≤ c.toNat) && decide (c.toNat ≤ 122)
theorem isDig_iff (c : UInt8) : isDig c = true ↔ 48 ≤ c.toNat ∧ c.toNat ≤ 57 := by unfold isDig; simp
theorem isLet_iff (c : UInt8) : isLet c = true ↔ 97 ≤ c.toNat ∧ c.toNat ≤ 122 := by unfold isLet; simp
/-- the number that digits spell, behind acc -/
def valFrom (acc : Nat) (l : List UInt8) : Nat := l.foldl (fun a c => a * 10 + (c.toNat - 48)) acc
theorem valFrom_ge : ∀ (l : List UInt8) (acc : Nat), acc ≤ valFrom acc l
  | [], _ => Nat.le_refl _
  | c :: r, acc => by have := valFrom_ge r (acc * 10 + (c.toNat - 48)); unfold valFrom at *; simp only [List.foldl_cons]; omega
theorem parse_ok : ∀ (l : List UInt8) (acc : Nat), l.all isDig = true → valFrom acc l < 9223372036854775808 → parseUint10 acc l = .ok (valFrom acc l)
  | [], _, _, _ => rfl
  | c :: r, acc, h, hv => by
    simp only [List.all_cons, Bool.and_eq_true] at h
    have hc := (isDig_iff c).1 h.1
    have hv' : valFrom (acc * 10 + (c.toNat - 48)) r < 9223372036854775808 := hv
    have hge := valFrom_ge r (acc * 10 + (c.toNat - 48))
    unfold parseUint10
    rw [if_pos hc, if_neg (by omega), if_neg (by omega), parse_ok r _ h.2 hv']
    rfl
theorem parse_dig : ∀ (l : List UInt8) (acc u : Nat), parseUint10 acc l = .ok u → l.all isDig = true ∧ u = valFrom acc l
  | [], acc, u, h => by simp only [parseUint10] at h; injection h with h; exact ⟨rfl, h.symm⟩
  | c :: r, acc, u, h => by
    unfold parseUint10 at h
    split at h
    · rename_i hc
      split at h
      · cases h
      · split at h
        · cases h
        · have := parse_dig r _ u h
          exact ⟨by simp only [List.all_cons, Bool.and_eq_true]; exact ⟨(isDig_iff c).2 hc, this.1⟩, this.2⟩
    · cases h
theorem valFrom_snoc (l : List UInt8) (c : UInt8) (acc : Nat) : valFrom acc (l ++ [c]) = valFrom acc l * 10 + (c.toNat - 48) := by unfold valFrom; rw [List.foldl_append]; rfl
/-- no digit 0 ahead of others -/
def lead (l : List UInt8) : Bool := decide (l = [48]) || decide (l.head? ≠ some 48)
theorem ofNat_dig {c : UInt8} (h : isDig c = true) : UInt8.ofNat (48 + (c.toNat - 48)) = c := by
  have := (isDig_iff c).1 h
  rw [show 48 + (c.toNat - 48) = c.toNat by omega]
  exact UInt8.ofNat_toNat
theorem snocInd {α : Type} {P : List α → Prop} (h0 : P []) (h1 : ∀ l c, P l → P (l ++ [c])) (l : List α) : P l := by
  have key : ∀ r : List α, P r.reverse := by
    intro r
    induction r with
    | nil => exact h0
    | cons c r ih => rw [List.reverse_cons]; exact h1 _ _ ih
  have := key l.reverse
  rwa [List.reverse_reverse] at this
theorem val_bounds : ∀ (l : List UInt8), l ≠ [] → l.all isDig = true → l.head? ≠ some 48 → 10 ^ (l.length - 1) ≤ valFrom 0 l ∧ valFrom 0 l < 10 ^ l.length := by
  intro l
  induction l using snocInd with
  | h0 => intro h; exact absurd rfl h
  | h1 l c ih =>
    intro _ hd hh
    simp only [List.all_append, List.all_cons, List.all_nil, Bool.and_true, Bool.and_eq_true] at hd
    have hc := (isDig_iff c).1 hd.2
    rw [valFrom_snoc]
    by_cases hl : l = []
    · subst hl
      have : c.toNat ≠ 48 := fun e => hh (by
        have : c = 48 := UInt8.toNat_inj.1 e
        simp [this])
      simp [valFrom]; omega
    · have hh' : l.head? ≠ some 48 := by
        match l, hl with
        | a :: r, _ => simpa using hh
      have := ih hl hd.1 hh'
      have hp : 0 < l.length := List.length_pos_iff.2 hl
      obtain ⟨k, hk⟩ : ∃ k, l.length = k + 1 := ⟨l.length - 1, by omega⟩
      rw [List.length_append, List.length_singleton]
      rw [hk] at this ⊢
      simp only [Nat.add_sub_cancel] at this ⊢
      rw [Nat.pow_succ, Nat.pow_succ]
      rw [Nat.pow_succ] at this
      omega
theorem dec_val : ∀ (l : List UInt8), l ≠ [] → l.all isDig = true → lead l = true → decDigits (valFrom 0 l) = l := by
  intro l
  induction l using snocInd with
  | h0 => intro h; exact absurd rfl h
  | h1 l c ih =>
    intro _ hd hh
    simp only [List.all_append, List.all_cons, List.all_nil, Bool.and_true, Bool.and_eq_true] at hd
    have hc := (isDig_iff c).1 hd.2
    rw [valFrom_snoc]
    by_cases hl : l = []
    · subst hl
      rw [show valFrom 0 [] = 0 from rfl, Nat.zero_mul, Nat.zero_add, decDigits, dif_pos (by omega), ofNat_dig hd.2]
      rfl
    · have hh' : l.head? ≠ some 48 := by
        match l, hl with
        | a :: r, _ =>
          unfold lead at hh
          simp only [Bool.or_eq_true, decide_eq_true_eq] at hh
          rcases hh with hh | hh
          · simp at hh
          · simpa using hh
      have hb := val_bounds l hl hd.1 hh'
      have h1 : 1 ≤ valFrom 0 l := Nat.le_trans (Nat.pos_of_ne_zero (by simp)) hb.1
      rw [decDigits, dif_neg (by omega), show (valFrom 0 l * 10 + (c.toNat - 48)) / 10 = valFrom 0 l by omega, show (valFrom 0 l * 10 + (c.toNat - 48)) % 10 = c.toNat - 48 by omega, ofNat_dig hd.2, ih hl hd.1 (by unfold lead; simp only [Bool.or_eq_true, decide_eq_true_eq]; exact .inr hh')]
/-- decimal digits are digits, without a 0 ahead of others -/
theorem dec_dig : ∀ u : Nat, (decDigits u).all isDig = true ∧ decDigits u ≠ [] ∧ lead (decDigits u) = true ∧ valFrom 0 (decDigits u) = u := by
  intro u
  induction u using Nat.strongRecOn with
  | _ u ih =>
    rw [decDigits]
    have dg : ∀ d, d < 10 → (UInt8.ofNat (48 + d)).toNat = 48 + d := fun d hd => by rw [UInt8.toNat_ofNat']; omega
    split
    · rename_i h
      have e := dg u h
      refine ⟨?_, by simp, ?_, ?_⟩
      · simp only [List.all_cons, List.all_nil, Bool.and_true]
        rw [isDig_iff, e]; omega
      · unfold lead
        simp only [List.head?_cons, Bool.or_eq_true, decide_eq_true_eq]
        by_cases h0 : u = 0
        · left; subst h0; rfl
        · right
          refine decide_eq_true fun e2 => ?_
          injection e2 with e2
          rw [e2] at e
          have : (48 : UInt8).toNat = 48 := rfl
          omega
      · show 0 * 10 + ((UInt8.ofNat (48 + u)).toNat - 48) = u
        rw [e]; omega
    · rename_i h
      have hi := ih (u / 10) (by omega)
      have e := dg (u % 10) (by omega)
      refine ⟨?_, by simp, ?_, ?_⟩
      · rw [List.all_append, hi.1, Bool.true_and]
        simp only [List.all_cons, List.all_nil, Bool.and_true]
        rw [isDig_iff, e]; omega
      · have hl := hi.2.2.1
        unfold lead at hl ⊢
        simp only [Bool.or_eq_true, decide_eq_true_eq] at hl ⊢
        right
        rcases hl with hl | hl
        · exfalso
          have := hi.2.2.2
          rw [hl] at this
          have h0 : valFrom 0 [48] = 0 := rfl
          omega
        · match hm : decDigits (u / 10), hi.2.1, hl with
          | a :: r, _, hl => simpa using hl
      · rw [valFrom_snoc, hi.2.2.2, e]; omega

/-- what the program takes for a part -/
def readOk (l : List UInt8) : Bool := match atoiAll l with
  | .ok v => decide (0 ≤ v) && decide (v ≤ 999999999) && decide (itoa v = l)
  | _ => l.all isLet && !l.isEmpty
/-- what the document takes for one -/
def digOk (l : List UInt8) : Bool := !l.isEmpty && l.all isDig && decide (l.length ≤ 9) && lead l
def letOk (l : List UInt8) : Bool := !l.isEmpty && l.all isLet
theorem val_le {l : List UInt8} (h : digOk l = true) : valFrom 0 l ≤ 999999999 := by
  unfold digOk at h
  simp only [Bool.and_eq_true, Bool.not_eq_true', decide_eq_true_eq] at h
  obtain ⟨⟨⟨h1, h2⟩, h3⟩, h4⟩ := h
  have hne : l ≠ [] := fun e => by subst e; simp at h1
  unfold lead at h4
  simp only [Bool.or_eq_true, decide_eq_true_eq] at h4
  rcases h4 with h4 | h4
  · subst h4; decide
  · have hb := (val_bounds l hne h2 h4).2
    have : 10 ^ l.length ≤ 10 ^ 9 := Nat.pow_le_pow_right (by decide) h3
    omega
theorem atoi_dig {l : List UInt8} (h : digOk l = true) : atoiAll l = .ok (valFrom 0 l : Nat) := by
  have hv := val_le h
  unfold digOk at h
  simp only [Bool.and_eq_true, Bool.not_eq_true', decide_eq_true_eq] at h
  obtain ⟨⟨⟨h1, h2⟩, h3⟩, h4⟩ := h
  match l, h1, h2, hv with
  | c :: r, _, h2, hv =>
    have hc := (isDig_iff c).1 (by simp only [List.all_cons, Bool.and_eq_true] at h2; exact h2.1)
    rw [atoiAll_plain c r (by omega) (by omega)]
    have hp : parseMag (c :: r) = .ok (valFrom 0 (c :: r)) := by unfold parseMag; rw [if_neg (by simp)]; exact parse_ok _ _ h2 (by omega)
    rw [hp]
    unfold signless
    simp only
    rw [if_neg (by omega)]
theorem itoa_nat (u : Nat) : itoa (u : Int) = decDigits u := by unfold itoa; rw [if_neg (by omega)]; simp
theorem read_is (l : List UInt8) : readOk l = (letOk l || digOk l) := by
  by_cases hd : digOk l = true
  · rw [hd, Bool.or_true]
    unfold readOk
    rw [atoi_dig hd]
    have hv := val_le hd
    have hd' := hd
    unfold digOk at hd'
    simp only [Bool.and_eq_true, Bool.not_eq_true', decide_eq_true_eq] at hd'
    have hne : l ≠ [] := fun e => by subst e; simp at hd'
    have e := dec_val l hne hd'.1.1.2 hd'.2
    simp only
    rw [itoa_nat, e, decide_eq_true (by omega), decide_eq_true (by omega), decide_eq_true rfl]
    rfl
  · rw [Bool.eq_false_iff.2 hd, Bool.or_false]
    unfold readOk
    cases ha : atoiAll l with
    | ok v =>
      simp only
      have hnl : letOk l = false := by
        match l, ha with
        | [], ha => rfl
        | c :: r, ha =>
          unfold letOk
          by_cases hc : isLet c = true
          · have := (isLet_iff c).1 hc
            rw [atoiAll_plain c r (by omega) (by omega)] at ha
            have hp : parseMag (c :: r) = parseMag [] := by rw [parseMag, if_neg (by simp), parseUint10, if_neg (by omega)] <;> rfl
            rw [hp] at ha
            cases ha
          · simp [hc]
      rw [hnl]
      by_cases hv : 0 ≤ v ∧ v ≤ 999999999 ∧ itoa v = l
      · exfalso
        apply hd
        obtain ⟨u, rfl⟩ : ∃ u : Nat, v = u := ⟨v.toNat, by omega⟩
        have h2 := hv.2.2
        rw [itoa_nat] at h2
        have hk := dec_dig u
        rw [h2] at hk
        unfold digOk
        have hne : l.isEmpty = false := by cases l with | nil => exact absurd rfl hk.2.1 | cons _ _ => rfl
        rw [hne, hk.1, hk.2.2.1]
        have hlen : l.length ≤ 9 := by
          have hl := hk.2.2.1
          unfold lead at hl
          simp only [Bool.or_eq_true, decide_eq_true_eq] at hl
          rcases hl with hl | hl
          · rw [hl]; decide
          · have hb := (val_bounds l hk.2.1 hk.1 hl).1
            rw [hk.2.2.2] at hb
            by_cases h9 : l.length ≤ 9
            · exact h9
            · exfalso
              have : 10 ^ 9 ≤ 10 ^ (l.length - 1) := Nat.pow_le_pow_right (by decide) (by omega)
              omega
        rw [decide_eq_true hlen]
        rfl
      · by_cases h0 : 0 ≤ v
        · by_cases h1 : v ≤ 999999999
          · have h2 : ¬ itoa v = l := fun e => hv ⟨h0, h1, e⟩
            simp [h2]
          · simp [h1]
        · simp [h0]
    | range => unfold letOk; simp only; rw [Bool.and_comm]
    | _ => unfold letOk; simp only; rw [Bool.and_comm]
end Go.Proofs.YtblkdcapampniaaDoor.VerN
