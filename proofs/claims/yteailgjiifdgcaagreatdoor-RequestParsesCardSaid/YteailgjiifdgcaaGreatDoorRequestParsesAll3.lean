/- Walks and plain facts. Texts merged: VerN, VerO, VerC, VerP, VerQ, VerT, SpnM, SortM, SpsM, Row, RefV, RefW, CmpI. Condition: none beyond what each says. -/
import Derived.Lib.AtoiAll
import Derived.Lib.AtoiAllCases
import Derived.Lib.ItoaNum
import Derived.Lib.SplitLaws
import Derived.Lib.IndexBytes
import Derived.Lib.Split
import Derived.Test.YteailgjiifdgcaaGreatDoorRows
import Derived.Test.YteailgjiifdgcaaGreatDoorRequestParsesAll2
set_option linter.unusedVariables false
set_option linter.unusedSimpArgs false
/- Plain facts: what version.read takes for a part, by Atoi and Itoa, is what the document takes for one. -/
namespace Go.Proofs.YteailgjiifdgcaaGreatDoor.VerN
open Go.Lib

def isDig (c : UInt8) : Bool := decide (48 ≤ c.toNat) && decide (c.toNat ≤ 57)
def isLet (c : UInt8) : Bool := decide (97 ≤ c.toNat) && decide (c.toNat ≤ 122)
theorem isDig_iff (c : UInt8) : isDig c = true ↔ 48 ≤ c.toNat ∧ c.toNat ≤ 57 := by unfold isDig; simp
theorem isLet_iff (c : UInt8) : isLet c = true ↔ 97 ≤ c.toNat ∧ c.toNat ≤ 122 := by unfold isLet; simp
def valFrom (acc : Nat) (l : List UInt8) : Nat := l.foldl (fun a c => a * 10 + (c.toNat - 48)) acc
theorem valFrom_ge : ∀ (l : List UInt8) (acc : Nat), acc ≤ valFrom acc l
 | [], _ => Nat.le_refl _
 | c :: r, acc => by have := valFrom_ge r (acc * 10 + (c.toNat - 48)); unfold valFrom at *; simp only [List.foldl_cons]; omega
theorem parse_ok : ∀ (l : List UInt8) (acc : Nat), l.all isDig = true → valFrom acc l < 9223372036854775808 → parseUint10 acc l = .ok (valFrom acc l)
 | [], _, _, _ => rfl
 | c :: r, acc, h, hv => by
  simp only [List.all_cons, Bool.and_eq_true] at h
  have hc := (isDig_iff c).1 h.1
  have hv' : valFrom (acc * 10 + (c.toNat - 48)) r < 9223372036854775808 := hv
  have hge := valFrom_ge r (acc * 10 + (c.toNat - 48))
  unfold parseUint10
  rw [if_pos hc, if_neg (by omega), if_neg (by omega), parse_ok r _ h.2 hv']
  rfl
theorem parse_dig : ∀ (l : List UInt8) (acc u : Nat), parseUint10 acc l = .ok u → l.all isDig = true ∧ u = valFrom acc l
 | [], acc, u, h => by simp only [parseUint10] at h; injection h with h; exact ⟨rfl, h.symm⟩
 | c :: r, acc, u, h => by
  unfold parseUint10 at h
  split at h
  ·rename_i hc
   split at h
   ·cases h
   ·split at h
    ·cases h
    ·have := parse_dig r _ u h
     exact ⟨by simp only [List.all_cons, Bool.and_eq_true]; exact ⟨(isDig_iff c).2 hc, this.1⟩, this.2⟩
  ·cases h
theorem valFrom_snoc (l : List UInt8) (c : UInt8) (acc : Nat) : valFrom acc (l ++ [c]) = valFrom acc l * 10 + (c.toNat - 48) := by unfold valFrom; rw [List.foldl_append]; rfl
def lead (l : List UInt8) : Bool := decide (l = [48]) || decide (l.head? ≠ some 48)
theorem ofNat_dig {c : UInt8} (h : isDig c = true) : UInt8.ofNat (48 + (c.toNat - 48)) = c := by
 have := (isDig_iff c).1 h
 rw [show 48 + (c.toNat - 48) = c.toNat by omega]
 exact UInt8.ofNat_toNat
theorem snocInd {α : Type} {P : List α → Prop} (h0 : P []) (h1 : ∀ l c, P l → P (l ++ [c])) (l : List α) : P l := by
 have key : ∀ r : List α, P r.reverse := by
  intro r
  induction r with
  | nil => exact h0
  | cons c r ih => rw [List.reverse_cons]; exact h1 _ _ ih
 have := key l.reverse
 rwa [List.reverse_reverse] at this
theorem val_bounds : ∀ (l : List UInt8), l ≠ [] → l.all isDig = true → l.head? ≠ some 48 → 10 ^ (l.length - 1) ≤ valFrom 0 l ∧ valFrom 0 l < 10 ^ l.length := by
 intro l
 induction l using snocInd with
 | h0 => intro h; exact absurd rfl h
 | h1 l c ih =>
  intro _ hd hh
  simp only [List.all_append, List.all_cons, List.all_nil, Bool.and_true, Bool.and_eq_true] at hd
  have hc := (isDig_iff c).1 hd.2
  rw [valFrom_snoc]
  by_cases hl : l = []
  ·subst hl
   have : c.toNat ≠ 48 := fun e => hh (by
    have : c = 48 := UInt8.toNat_inj.1 e
    simp [this])
   simp [valFrom]; omega
  ·have hh' : l.head? ≠ some 48 := by
    match l, hl with
    | a :: r, _ => simpa using hh
   have := ih hl hd.1 hh'
   have hp : 0 < l.length := List.length_pos_iff.2 hl
   obtain ⟨k, hk⟩ : ∃ k, l.length = k + 1 := ⟨l.length - 1, by omega⟩
   rw [List.length_append, List.length_singleton]
   rw [hk] at this ⊢
   simp only [Nat.add_sub_cancel] at this ⊢
   rw [Nat.pow_succ, Nat.pow_succ]
   rw [Nat.pow_succ] at this
   omega
theorem dec_val : ∀ (l : List UInt8), l ≠ [] → l.all isDig = true → lead l = true → decDigits (valFrom 0 l) = l := by
 intro l
 induction l using snocInd with
 | h0 => intro h; exact absurd rfl h
 | h1 l c ih =>
  intro _ hd hh
  simp only [List.all_append, List.all_cons, List.all_nil, Bool.and_true, Bool.and_eq_true] at hd
  have hc := (isDig_iff c).1 hd.2
  rw [valFrom_snoc]
  by_cases hl : l = []
  ·subst hl
   rw [show valFrom 0 [] = 0 from rfl, Nat.zero_mul, Nat.zero_add, decDigits, dif_pos (by omega), ofNat_dig hd.2]
   rfl
  ·have hh' : l.head? ≠ some 48 := by
    match l, hl with
    | a :: r, _ =>
     unfold lead at hh
     simp only [Bool.or_eq_true, decide_eq_true_eq] at hh
     rcases hh with hh | hh
     ·simp at hh
     ·simpa using hh
   have hb := val_bounds l hl hd.1 hh'
   have h1 : 1 ≤ valFrom 0 l := Nat.le_trans (Nat.pos_of_ne_zero (by simp)) hb.1
   rw [decDigits, dif_neg (by omega), show (valFrom 0 l * 10 + (c.toNat - 48)) / 10 = valFrom 0 l by omega, show (valFrom 0 l * 10 + (c.toNat - 48)) % 10 = c.toNat - 48 by omega, ofNat_dig hd.2, ih hl hd.1 (by unfold lead; simp only [Bool.or_eq_true, decide_eq_true_eq]; exact .inr hh')]
theorem dec_dig : ∀ u : Nat, (decDigits u).all isDig = true ∧ decDigits u ≠ [] ∧ lead (decDigits u) = true ∧ valFrom 0 (decDigits u) = u := by
 intro u
 induction u using Nat.strongRecOn with
 | _ u ih =>
  rw [decDigits]
  have dg : ∀ d, d < 10 → (UInt8.ofNat (48 + d)).toNat = 48 + d := fun d hd => by rw [UInt8.toNat_ofNat']; omega
  split
  ·rename_i h
   have e := dg u h
   refine ⟨?_, by simp, ?_, ?_⟩
   ·simp only [List.all_cons, List.all_nil, Bool.and_true]
    rw [isDig_iff, e]; omega
   ·unfold lead
    simp only [List.head?_cons, Bool.or_eq_true, decide_eq_true_eq]
    by_cases h0 : u = 0
    ·left; subst h0; rfl
    ·right
     refine decide_eq_true fun e2 => ?_
     injection e2 with e2
     rw [e2] at e
     have : (48 : UInt8).toNat = 48 := rfl
     omega
   ·show 0 * 10 + ((UInt8.ofNat (48 + u)).toNat - 48) = u
    rw [e]; omega
  ·rename_i h
   have hi := ih (u / 10) (by omega)
   have e := dg (u % 10) (by omega)
   refine ⟨?_, by simp, ?_, ?_⟩
   ·rw [List.all_append, hi.1, Bool.true_and]
    simp only [List.all_cons, List.all_nil, Bool.and_true]
    rw [isDig_iff, e]; omega
   ·have hl := hi.2.2.1
    unfold lead at hl ⊢
    simp only [Bool.or_eq_true, decide_eq_true_eq] at hl ⊢
    right
    rcases hl with hl | hl
    ·exfalso
     have := hi.2.2.2
     rw [hl] at this
     have h0 : valFrom 0 [48] = 0 := rfl
     omega
    ·match hm : decDigits (u / 10), hi.2.1, hl with
     | a :: r, _, hl => simpa using hl
   ·rw [valFrom_snoc, hi.2.2.2, e]; omega

def readOk (l : List UInt8) : Bool := match atoiAll l with
 | .ok v => decide (0 ≤ v) && decide (v ≤ 999999999) && decide (itoa v = l)
 | _ => l.all isLet && !l.isEmpty
def digOk (l : List UInt8) : Bool := !l.isEmpty && l.all isDig && decide (l.length ≤ 9) && lead l
def letOk (l : List UInt8) : Bool := !l.isEmpty && l.all isLet
theorem val_le {l : List UInt8} (h : digOk l = true) : valFrom 0 l ≤ 999999999 := by
 unfold digOk at h
 simp only [Bool.and_eq_true, Bool.not_eq_true', decide_eq_true_eq] at h
 obtain ⟨⟨⟨h1, h2⟩, h3⟩, h4⟩ := h
 have hne : l ≠ [] := fun e => by subst e; simp at h1
 unfold lead at h4
 simp only [Bool.or_eq_true, decide_eq_true_eq] at h4
 rcases h4 with h4 | h4
 ·subst h4; decide
 ·have hb := (val_bounds l hne h2 h4).2
  have : 10 ^ l.length ≤ 10 ^ 9 := Nat.pow_le_pow_right (by decide) h3
  omega
theorem atoi_dig {l : List UInt8} (h : digOk l = true) : atoiAll l = .ok (valFrom 0 l : Nat) := by
 have hv := val_le h
 unfold digOk at h
 simp only [Bool.and_eq_true, Bool.not_eq_true', decide_eq_true_eq] at h
 obtain ⟨⟨⟨h1, h2⟩, h3⟩, h4⟩ := h
 match l, h1, h2, hv with
 | c :: r, _, h2, hv =>
  have hc := (isDig_iff c).1 (by simp only [List.all_cons, Bool.and_eq_true] at h2; exact h2.1)
  rw [atoiAll_plain c r (by omega) (by omega)]
  have hp : parseMag (c :: r) = .ok (valFrom 0 (c :: r)) := by unfold parseMag; rw [if_neg (by simp)]; exact parse_ok _ _ h2 (by omega)
  rw [hp]
  unfold signless
  simp only
  rw [if_neg (by omega)]
theorem itoa_nat (u : Nat) : itoa (u : Int) = decDigits u := by unfold itoa; rw [if_neg (by omega)]; simp
theorem read_is (l : List UInt8) : readOk l = (letOk l || digOk l) := by
 by_cases hd : digOk l = true
 ·rw [hd, Bool.or_true]
  unfold readOk
  rw [atoi_dig hd]
  have hv := val_le hd
  have hd' := hd
  unfold digOk at hd'
  simp only [Bool.and_eq_true, Bool.not_eq_true', decide_eq_true_eq] at hd'
  have hne : l ≠ [] := fun e => by subst e; simp at hd'
  have e := dec_val l hne hd'.1.1.2 hd'.2
  simp only
  rw [itoa_nat, e, decide_eq_true (by omega), decide_eq_true (by omega), decide_eq_true rfl]
  rfl
 ·rw [Bool.eq_false_iff.2 hd, Bool.or_false]
  unfold readOk
  cases ha : atoiAll l with
  | ok v =>
   simp only
   have hnl : letOk l = false := by
    match l, ha with
    | [], ha => rfl
    | c :: r, ha =>
     unfold letOk
     by_cases hc : isLet c = true
     ·have := (isLet_iff c).1 hc
      rw [atoiAll_plain c r (by omega) (by omega)] at ha
      have hp : parseMag (c :: r) = .syntax := by unfold parseMag; rw [if_neg (by simp), parseUint10, if_neg (by omega)]
      rw [hp] at ha
      cases ha
     ·simp [hc]
   rw [hnl]
   by_cases hv : 0 ≤ v ∧ v ≤ 999999999 ∧ itoa v = l
   ·exfalso
    apply hd
    obtain ⟨u, rfl⟩ : ∃ u : Nat, v = u := ⟨v.toNat, by omega⟩
    have h2 := hv.2.2
    rw [itoa_nat] at h2
    have hk := dec_dig u
    rw [h2] at hk
    unfold digOk
    have hne : l.isEmpty = false := by cases l with | nil => exact absurd rfl hk.2.1 | cons _ _ => rfl
    rw [hne, hk.1, hk.2.2.1]
    have hlen : l.length ≤ 9 := by
     have hl := hk.2.2.1
     unfold lead at hl
     simp only [Bool.or_eq_true, decide_eq_true_eq] at hl
     rcases hl with hl | hl
     ·rw [hl]; decide
     ·have hb := (val_bounds l hk.2.1 hk.1 hl).1
      rw [hk.2.2.2] at hb
      by_cases h9 : l.length ≤ 9
      ·exact h9
      ·exfalso
       have : 10 ^ 9 ≤ 10 ^ (l.length - 1) := Nat.pow_le_pow_right (by decide) (by omega)
       omega
    rw [decide_eq_true hlen]
    rfl
   ·by_cases h0 : 0 ≤ v
    ·by_cases h1 : v ≤ 999999999
     ·have h2 : ¬ itoa v = l := fun e => hv ⟨h0, h1, e⟩
      simp [h2]
     ·simp [h1]
    ·simp [h0]
  | «syntax» => unfold letOk; simp only; rw [Bool.and_comm]
  | range => unfold letOk; simp only; rw [Bool.and_comm]
end Go.Proofs.YteailgjiifdgcaaGreatDoor.VerN

/- Plain facts: how two parts that are numbers stand to each other. -/
namespace Go.Proofs.YteailgjiifdgcaaGreatDoor.VerN
open Go.Lib

theorem val_lt : ∀ (a b : List UInt8) (x y : Nat), a.length = b.length → a.all isDig = true → b.all isDig = true → (valFrom x a < valFrom y b ↔ x < y ∨ (x = y ∧ a < b))
 | [], [], x, y, _, _, _ => by
  have : ¬ (([] : List UInt8) < []) := List.lt_irrefl _
  show x < y ↔ _
  simp [this]
 | c :: a, e :: b, x, y, hl, ha, hb => by
  simp only [List.all_cons, Bool.and_eq_true] at ha hb
  have hc := (isDig_iff c).1 ha.1
  have he := (isDig_iff e).1 hb.1
  have ih := val_lt a b (x * 10 + (c.toNat - 48)) (y * 10 + (e.toNat - 48)) (by simpa using hl) ha.2 hb.2
  show valFrom (x * 10 + (c.toNat - 48)) a < valFrom (y * 10 + (e.toNat - 48)) b ↔ _
  rw [ih, List.cons_lt_cons_iff]
  have hlt : c < e ↔ c.toNat < e.toNat := UInt8.lt_iff_toNat_lt
  have heq : c = e ↔ c.toNat = e.toNat := UInt8.toNat_inj.symm
  rw [hlt, heq]
  constructor
  ·rintro (h | ⟨h, h2⟩)
   ·by_cases hxy : x < y
    ·exact .inl hxy
    ·exact .inr ⟨by omega, .inl (by omega)⟩
   ·by_cases hxy : x < y
    ·exact .inl hxy
    ·exact .inr ⟨by omega, .inr ⟨by omega, h2⟩⟩
  ·rintro (h | ⟨h, h2 | ⟨h2, h3⟩⟩)
   ·left; omega
   ·left; omega
   ·right; exact ⟨by omega, h3⟩
theorem dig_lt {a b : List UInt8} (ha : digOk a = true) (hb : digOk b = true) : valFrom 0 a < valFrom 0 b ↔ a.length < b.length ∨ (a.length = b.length ∧ a < b) := by
 have parts : ∀ {l : List UInt8}, digOk l = true → l ≠ [] ∧ l.all isDig = true ∧ (l = [48] ∨ l.head? ≠ some 48) := fun {l} h => by
  unfold digOk lead at h
  simp only [Bool.and_eq_true, Bool.not_eq_true', Bool.or_eq_true, decide_eq_true_eq] at h
  exact ⟨fun e => by subst e; simp at h, h.1.1.2, h.2⟩
 obtain ⟨a1, a2, a3⟩ := parts ha
 obtain ⟨b1, b2, b3⟩ := parts hb
 have bnd : ∀ {l : List UInt8}, l ≠ [] → l.all isDig = true → (l = [48] ∨ l.head? ≠ some 48) → valFrom 0 l < 10 ^ l.length ∧ (2 ≤ l.length → 10 ^ (l.length - 1) ≤ valFrom 0 l) := fun {l} h1 h2 h3 => by
  rcases h3 with h3 | h3
  ·subst h3; exact ⟨by decide, fun h => by simp at h⟩
  ·have := val_bounds l h1 h2 h3
   exact ⟨this.2, fun _ => this.1⟩
 have ba := bnd a1 a2 a3
 have bb := bnd b1 b2 b3
 have la : 0 < a.length := List.length_pos_iff.2 a1
 have lb : 0 < b.length := List.length_pos_iff.2 b1
 rcases Nat.lt_trichotomy a.length b.length with h | h | h
 ·have := bb.2 (by omega)
  have hp : 10 ^ a.length ≤ 10 ^ (b.length - 1) := Nat.pow_le_pow_right (by decide) (by omega)
  exact ⟨fun _ => .inl h, fun _ => by omega⟩
 ·rw [val_lt a b 0 0 h a2 b2]
  simp [h]
 ·have := ba.2 (by omega)
  have hp : 10 ^ b.length ≤ 10 ^ (a.length - 1) := Nat.pow_le_pow_right (by decide) (by omega)
  exact ⟨fun _ => by omega, fun hh => by omega⟩
end Go.Proofs.YteailgjiifdgcaaGreatDoor.VerN

/- Plain facts: how two parts stand to each other, by ranks, numbers and words, is the document's. -/
namespace Go.Proofs.YteailgjiifdgcaaGreatDoor.VerN
open Go.Lib

def Part (l : List UInt8) : Prop := l = [] ∨ letOk l = true ∨ digOk l = true
def rankOf (l : List UInt8) : Int := if l = [] then 1 else if letOk l = true then 0 else 2
def numOf (l : List UInt8) : Int := if letOk l = true then 0 else (valFrom 0 l : Nat)
def wordOf (l : List UInt8) : List UInt8 := if letOk l = true then l else []
def cmpI (x y : Int) : Int := if x < y then -1 else if x > y then 1 else 0
def cmpW (x y : List UInt8) : Int := if x < y then -1 else if y < x then 1 else 0
def pcmp (a b : List UInt8) : Int := if cmpI (rankOf a) (rankOf b) ≠ 0 then cmpI (rankOf a) (rankOf b) else if cmpI (numOf a) (numOf b) ≠ 0 then cmpI (numOf a) (numOf b) else cmpW (wordOf a) (wordOf b)
def digs (l : List UInt8) : Bool := l.all isDig && !l.isEmpty
def before (a b : List UInt8) : Bool :=
 if a = b then false else if a = [] then digs b else if b = [] then letOk a else if letOk a ≠ letOk b then letOk a else if digs a && decide (a.length ≠ b.length) then decide (a.length < b.length) else decide (a < b)
theorem not_both {l : List UInt8} (h : letOk l = true) : digs l = false ∧ digOk l = false := by
 match l with
 | [] => exact ⟨rfl, rfl⟩
 | c :: r =>
  unfold letOk at h
  simp only [List.all_cons, Bool.and_eq_true] at h
  have hc := (isLet_iff c).1 h.2.1
  have hd : isDig c = false := by unfold isDig; rw [decide_eq_true (by omega), decide_eq_false (by omega)]; rfl
  unfold digs digOk
  simp [hd]
theorem digs_of {l : List UInt8} (h : digOk l = true) : digs l = true ∧ letOk l = false ∧ l ≠ [] := by
 have hl : letOk l = false := by
  cases e : letOk l
  ·rfl
  ·rw [(not_both e).2] at h; cases h
 unfold digOk at h
 simp only [Bool.and_eq_true] at h
 refine ⟨by unfold digs; rw [h.1.1.2, h.1.1.1]; rfl, hl, fun e => by subst e; simp at h⟩
theorem let_ne {l : List UInt8} (h : letOk l = true) : l ≠ [] := fun e => by subst e; simp [letOk] at h
theorem cmpI_self (x : Int) : cmpI x x = 0 := by unfold cmpI; rw [if_neg (by omega), if_neg (by omega)]
theorem cmpW_self (x : List UInt8) : cmpW x x = 0 := by unfold cmpW; rw [if_neg (List.lt_irrefl _), if_neg (List.lt_irrefl _)]
theorem dec_ne {a b : List UInt8} (h : a ≠ b) (h1 : ¬ a < b) : b < a := by
 rcases List.le_total a b with h2 | h2
 ·by_cases h3 : b < a
  ·exact h3
  ·exact absurd (List.le_antisymm h2 (List.not_lt.1 h1)) h
 ·by_cases h3 : b < a
  ·exact h3
  ·exact absurd (List.le_antisymm (List.not_lt.1 h3) (List.not_lt.1 h1)) h
theorem rk_end : rankOf [] = 1 := rfl
theorem rk_let {l : List UInt8} (h : letOk l = true) : rankOf l = 0 := by unfold rankOf; rw [if_neg (let_ne h), if_pos h]
theorem rk_dig {l : List UInt8} (h : digOk l = true) : rankOf l = 2 := by unfold rankOf; rw [if_neg (digs_of h).2.2, if_neg (by rw [(digs_of h).2.1]; simp)]
theorem pcmp_rank {a b : List UInt8} {x y : Int} (ha : rankOf a = x) (hb : rankOf b = y) (h : cmpI x y ≠ 0) : pcmp a b = cmpI x y := by unfold pcmp; rw [ha, hb, if_pos h]
theorem pcmp_is {a b : List UInt8} (ha : Part a) (hb : Part b) : pcmp a b = if before a b = true then -1 else if before b a = true then 1 else 0 := by
 by_cases hab : a = b
 ·subst hab
  unfold pcmp before
  rw [cmpI_self, cmpI_self, cmpW_self]
  simp
 ·have hba : ¬ b = a := fun e => hab e.symm
  rcases ha with ha | ha | ha
  ·subst ha
   rcases hb with hb | hb | hb
   ·subst hb; exact absurd rfl hab
   ·have hn := let_ne hb
    have hd := (not_both hb).1
    have e1 : before [] b = false := by unfold before; rw [if_neg hab, if_pos rfl]; exact hd
    have e2 : before b [] = true := by unfold before; rw [if_neg hba, if_neg hn, if_pos rfl]; exact hb
    rw [e1, e2, pcmp_rank rk_end (rk_let hb) (by decide)]
    rfl
   ·obtain ⟨h1, h2, h3⟩ := digs_of hb
    have e1 : before [] b = true := by unfold before; rw [if_neg hab, if_pos rfl]; exact h1
    rw [e1, pcmp_rank rk_end (rk_dig hb) (by decide)]
    rfl
  ·have hna := let_ne ha
   rcases hb with hb | hb | hb
   ·subst hb
    have e1 : before a [] = true := by unfold before; rw [if_neg hab, if_neg hna, if_pos rfl]; exact ha
    rw [e1, pcmp_rank (rk_let ha) rk_end (by decide)]
    rfl
   ·have hnb := let_ne hb
    have hda := (not_both ha).1
    have hdb := (not_both hb).1
    have e1 : before a b = decide (a < b) := by unfold before; rw [if_neg hab, if_neg hna, if_neg hnb, if_neg (by rw [ha, hb]; simp), hda]; rfl
    have e2 : before b a = decide (b < a) := by unfold before; rw [if_neg hba, if_neg hnb, if_neg hna, if_neg (by rw [ha, hb]; simp), hdb]; rfl
    rw [e1, e2]
    unfold pcmp rankOf numOf wordOf cmpW
    simp only [if_neg hna, if_neg hnb, if_pos ha, if_pos hb, cmpI_self, ne_eq, not_true_eq_false, if_false, decide_eq_true_eq]
   ·obtain ⟨h1, h2, h3⟩ := digs_of hb
    have e1 : before a b = true := by unfold before; rw [if_neg hab, if_neg hna, if_neg h3, if_pos (by rw [ha, h2]; simp)]; exact ha
    rw [e1, pcmp_rank (rk_let ha) (rk_dig hb) (by decide)]
    rfl
  ·obtain ⟨g1, g2, g3⟩ := digs_of ha
   rcases hb with hb | hb | hb
   ·subst hb
    have e1 : before a [] = false := by unfold before; rw [if_neg hab, if_neg g3, if_pos rfl]; exact g2
    have e2 : before [] a = true := by unfold before; rw [if_neg hba, if_pos rfl]; exact g1
    rw [e1, e2, pcmp_rank (rk_dig ha) rk_end (by decide)]
    rfl
   ·have hnb := let_ne hb
    have e1 : before a b = false := by unfold before; rw [if_neg hab, if_neg g3, if_neg hnb, if_pos (by rw [g2, hb]; simp)]; exact g2
    have e2 : before b a = true := by unfold before; rw [if_neg hba, if_neg hnb, if_neg g3, if_pos (by rw [g2, hb]; simp)]; exact hb
    rw [e1, e2, pcmp_rank (rk_dig ha) (rk_let hb) (by decide)]
    rfl
   ·obtain ⟨h1, h2, h3⟩ := digs_of hb
    have l1 := dig_lt ha hb
    have l2 := dig_lt hb ha
    have e1 : before a b = true ↔ valFrom 0 a < valFrom 0 b := by
     unfold before
     rw [if_neg hab, if_neg g3, if_neg h3, if_neg (by rw [g2, h2]; simp), g1, l1]
     by_cases hl : a.length = b.length
     ·simp [hl]
     ·simp [hl]
    have e2 : before b a = true ↔ valFrom 0 b < valFrom 0 a := by
     unfold before
     rw [if_neg hba, if_neg h3, if_neg g3, if_neg (by rw [g2, h2]; simp), h1, l2]
     by_cases hl : b.length = a.length
     ·simp [hl]
     ·simp [hl]
    have hne : valFrom 0 a ≠ valFrom 0 b := fun e => by
     have n1 : ¬ (a.length < b.length ∨ (a.length = b.length ∧ a < b)) := fun h => by have := l1.2 h; omega
     have n2 : ¬ (b.length < a.length ∨ (b.length = a.length ∧ b < a)) := fun h => by have := l2.2 h; omega
     have hl : a.length = b.length := by omega
     exact n2 (.inr ⟨hl.symm, dec_ne hab fun h => n1 (.inr ⟨hl, h⟩)⟩)
    have na : numOf a = (valFrom 0 a : Int) := by unfold numOf; rw [if_neg (by rw [g2]; simp)]
    have nb : numOf b = (valFrom 0 b : Int) := by unfold numOf; rw [if_neg (by rw [h2]; simp)]
    have hp : ∀ z, cmpI (valFrom 0 a : Int) (valFrom 0 b : Int) = z → z ≠ 0 → pcmp a b = z := fun z hz h0 => by
     unfold pcmp
     rw [rk_dig ha, rk_dig hb, cmpI_self, if_neg (by simp), na, nb, hz, if_pos h0]
    rcases Nat.lt_or_gt_of_ne hne with h | h
    ·rw [if_pos (e1.2 h)]
     exact hp (-1) (by unfold cmpI; rw [if_pos (by omega)]) (by decide)
    ·rw [if_neg (fun h' => by have := e1.1 h'; omega), if_pos (e2.2 h)]
     exact hp 1 (by unfold cmpI; rw [if_neg (by omega), if_pos (by omega)]) (by decide)
end Go.Proofs.YteailgjiifdgcaaGreatDoor.VerN

/- Plain facts: how a text is cut, which texts are versions, and that they stand in a row. -/
namespace Go.Proofs.YteailgjiifdgcaaGreatDoor.VerN
open Go.Lib

def cutF (c : UInt8) : List UInt8 → List UInt8 → List (List UInt8)
 | acc, [] => [acc]
 | acc, x :: r => if x = c then acc :: cutF c [] r else cutF c (acc ++ [x]) r
def cutL (c : UInt8) (l : List UInt8) : List (List UInt8) := cutF c [] l
theorem cutF_cons_ne {c x : UInt8} (acc r : List UInt8) (h : x ≠ c) : cutF c acc (x :: r) = cutF c (acc ++ [x]) r := by rw [cutF, if_neg h]
theorem cutF_cons_eq (c : UInt8) (acc r : List UInt8) : cutF c acc (c :: r) = acc :: cutF c [] r := by rw [cutF, if_pos rfl]
theorem cutF_miss (c : UInt8) : ∀ (r acc : List UInt8), indexByte r c = -1 → cutF c acc r = [acc ++ r]
 | [], acc, _ => by rw [List.append_nil]; rfl
 | x :: r, acc, h => by
  unfold indexByte at h
  split at h
  ·cases h
  ·rename_i hx
   have hx' : x ≠ c := fun e => hx (by rw [e]; simp)
   have hr : indexByte r c = -1 := by
    split at h
    ·rename_i e; exact beq_iff_eq.1 e
    ·have := indexByte_ge r c; omega
   rw [cutF_cons_ne _ _ hx', cutF_miss c r _ hr, List.append_assoc]
   rfl
theorem cutF_hit (c : UInt8) : ∀ (r acc : List UInt8) (i : Nat), indexByte r c = i → cutF c acc r = (acc ++ r.take i) :: cutL c (r.drop (i + 1))
 | [], acc, i, h => by unfold indexByte at h; omega
 | x :: r, acc, i, h => by
  unfold indexByte at h
  split at h
  ·rename_i hx
   have hx' : x = c := by simpa using hx
   have hi : i = 0 := by omega
   subst hi; subst hx'
   rw [cutF_cons_eq]
   simp [cutL]
  ·rename_i hx
   have hx' : x ≠ c := fun e => hx (by rw [e]; simp)
   split at h
   ·omega
   ·rename_i hm
    obtain ⟨j, rfl⟩ : ∃ j, i = j + 1 := ⟨i - 1, by
     have := indexByte_ge r c
     have h0 : indexByte r c ≠ -1 := fun e => hm (by rw [e]; rfl)
     omega⟩
    have hr : indexByte r c = j := by omega
    rw [cutF_cons_ne _ _ hx', cutF_hit c r _ j hr, List.append_assoc]
    rfl
theorem cutF_len (c : UInt8) : ∀ (r acc : List UInt8), 1 ≤ (cutF c acc r).length ∧ (cutF c acc r).length ≤ r.length + 1
 | [], acc => ⟨Nat.le_refl _, Nat.le_refl _⟩
 | x :: r, acc => by
  by_cases h : x = c
  ·subst h
   have := cutF_len x r []
   rw [cutF_cons_eq]
   simp only [List.length_cons]
   omega
  ·have := cutF_len c r (acc ++ [x])
   rw [cutF_cons_ne _ _ h]
   simp only [List.length_cons]
   omega
theorem cutL_len (c : UInt8) (l : List UInt8) : 1 ≤ (cutL c l).length ∧ (cutL c l).length ≤ l.length + 1 := cutF_len c l []
theorem cutF_piece (c : UInt8) : ∀ (r acc p : List UInt8), p ∈ cutF c acc r → p.length ≤ acc.length + r.length
 | [], acc, p, h => by
  rw [show cutF c acc [] = [acc] from rfl, List.mem_singleton] at h
  subst h; omega
 | x :: r, acc, p, h => by
  by_cases hx : x = c
  ·subst hx
   rw [cutF_cons_eq] at h
   rcases List.mem_cons.1 h with rfl | h
   ·simp
   ·have := cutF_piece x r [] p h
    simp only [List.length_cons, List.length_nil] at this ⊢
    omega
  ·rw [cutF_cons_ne _ _ hx] at h
   have := cutF_piece c r _ p h
   simp only [List.length_append, List.length_cons, List.length_nil] at this ⊢
   omega
theorem cutF_join (c : UInt8) : ∀ (a acc b : List UInt8), cutF c acc (a ++ c :: b) = cutF c acc a ++ cutL c b
 | [], acc, b => by rw [List.nil_append, cutF_cons_eq]; rfl
 | x :: r, acc, b => by
  rw [List.cons_append]
  by_cases hx : x = c
  ·subst hx
   rw [cutF_cons_eq, cutF_cons_eq, cutF_join x r [] b]; rfl
  ·rw [cutF_cons_ne _ _ hx, cutF_cons_ne _ _ hx, cutF_join c r _ b]
theorem cutL_join (c : UInt8) (a b : List UInt8) : cutL c (a ++ c :: b) = cutL c a ++ cutL c b := cutF_join c a [] b
def glue (c : UInt8) : List (List UInt8) → List UInt8
 | [] => []
 | [p] => p
 | p :: q :: r => p ++ c :: glue c (q :: r)
theorem glue_cut (c : UInt8) : ∀ (r acc : List UInt8), glue c (cutF c acc r) = acc ++ r
 | [], acc => by rw [List.append_nil]; rfl
 | x :: r, acc => by
  by_cases hx : x = c
  ·subst hx
   rw [cutF_cons_eq]
   have h := glue_cut x r []
   have hl := (cutF_len x r []).1
   match hm : cutF x [] r, hl with
   | q :: t, _ =>
    rw [hm] at h
    rw [glue, h]; rfl
  ·rw [cutF_cons_ne _ _ hx, glue_cut c r, List.append_assoc]; rfl
theorem cutL_inj {c : UInt8} {a b : List UInt8} (h : cutL c a = cutL c b) : a = b := by
 have h1 := glue_cut c a []
 have h2 := glue_cut c b []
 rw [show cutF c [] a = cutL c a from rfl, h] at h1
 rw [show cutF c [] b = cutL c b from rfl] at h2
 rw [h1] at h2
 simpa using h2
theorem cutF_none (c : UInt8) (r acc : List UInt8) (h : ∀ x ∈ r, x ≠ c) : cutF c acc r = [acc ++ r] := by
 induction r generalizing acc with
 | nil => rw [List.append_nil]; rfl
 | cons x r ih =>
  rw [cutF_cons_ne _ _ (h x (by simp)), ih _ fun y hy => h y (by simp [hy]), List.append_assoc]; rfl

def partL (l : List UInt8) : Bool := letOk l || digOk l
theorem part_ne {l : List UInt8} (h : partL l = true) : l ≠ [] := by
 unfold partL at h
 rcases Bool.or_eq_true _ _ ▸ h with h | h
 ·exact let_ne h
 ·exact (digs_of h).2.2
theorem part_of {l : List UInt8} (h : partL l = true) : Part l := by
 unfold partL at h
 rcases Bool.or_eq_true _ _ ▸ h with h | h
 ·exact .inr (.inl h)
 ·exact .inr (.inr h)
def mayL (l : List UInt8) : Bool := decide (l ≠ []) && decide (l.length ≤ 40) && (cutL 46 l).all partL && decide ((cutL 46 l).length ≤ 8)
theorem may_iff (l : List UInt8) : mayL l = true ↔ l ≠ [] ∧ l.length ≤ 40 ∧ (∀ p ∈ cutL 46 l, partL p = true) ∧ (cutL 46 l).length ≤ 8 := by
 unfold mayL
 simp [and_assoc]

def cmpFrom (x y : List (List UInt8)) : Nat → Nat → Int
 | _, 0 => 0
 | i, n + 1 => if pcmp (x.getD i []) (y.getD i []) ≠ 0 then pcmp (x.getD i []) (y.getD i []) else cmpFrom x y (i + 1) n
def compareL (a b : List UInt8) : Int :=
 if mayL a = false ∧ mayL b = false then 0 else if mayL a = false then -1 else if mayL b = false then 1 else cmpFrom (cutL 46 a) (cutL 46 b) 0 (max (cutL 46 a).length (cutL 46 b).length)

structure Row {α : Type} (c : α → α → Int) : Prop where
 tri : ∀ x y, c x y = -1 ∨ c x y = 0 ∨ c x y = 1
 neg : ∀ x y, c y x = -c x y
 trans : ∀ x y z, c x y ≤ 0 → c y z ≤ 0 → c x z ≤ 0
theorem Row.lt1 {α : Type} {c : α → α → Int} (h : Row c) {x y z : α} (h1 : c x y < 0) (h2 : c y z ≤ 0) : c x z < 0 := by
 by_cases h3 : c x z < 0
 ·exact h3
 ·have a := h.neg x z
  have b := h.neg x y
  have := h.trans y z x h2 (by omega)
  omega
theorem Row.lt2 {α : Type} {c : α → α → Int} (h : Row c) {x y z : α} (h1 : c x y ≤ 0) (h2 : c y z < 0) : c x z < 0 := by
 by_cases h3 : c x z < 0
 ·exact h3
 ·have a := h.neg x z
  have b := h.neg y z
  have := h.trans z x y (by omega) h1
  omega
theorem Row.eq {α : Type} {c : α → α → Int} (h : Row c) {x y z : α} (h1 : c x y = 0) (h2 : c y z = 0) : c x z = 0 := by
 have a := h.trans x y z (by omega) (by omega)
 have b := h.trans z y x (by rw [h.neg]; omega) (by rw [h.neg]; omega)
 have d := h.neg x z
 omega
def thenBy {α : Type} (c d : α → α → Int) (x y : α) : Int := if c x y ≠ 0 then c x y else d x y
theorem Row.thenBy {α : Type} {c d : α → α → Int} (hc : Row c) (hd : Row d) : Row (thenBy c d) := by
 refine ⟨fun x y => ?_, fun x y => ?_, fun x y z h1 h2 => ?_⟩
 ·unfold VerN.thenBy; split
  ·exact hc.tri x y
  ·exact hd.tri x y
 ·unfold VerN.thenBy
  have := hc.neg x y
  by_cases h : c x y = 0
  ·rw [if_neg (by omega), if_neg (by omega)]; exact hd.neg x y
  ·rw [if_pos (by omega), if_pos (by omega)]; exact this
 ·unfold VerN.thenBy at h1 h2 ⊢
  by_cases a : c x y = 0
  ·rw [if_neg (by omega)] at h1
   by_cases b : c y z = 0
   ·rw [if_neg (by omega)] at h2
    rw [if_neg (by rw [hc.eq a b]; omega)]
    exact hd.trans x y z h1 h2
   ·rw [if_pos b] at h2
    have := hc.lt2 (x := x) (by omega : c x y ≤ 0) (by omega : c y z < 0)
    rw [if_pos (by omega)]; omega
  ·rw [if_pos a] at h1
   have h3 : c y z ≤ 0 := by
    by_cases b : c y z = 0
    ·omega
    ·rw [if_pos b] at h2; exact h2
   have := hc.lt1 (z := z) (by omega : c x y < 0) h3
   rw [if_pos (by omega)]; omega
theorem Row.map {α β : Type} {c : α → α → Int} (h : Row c) (f : β → α) : Row fun x y => c (f x) (f y) :=
 ⟨fun x y => h.tri _ _, fun x y => h.neg _ _, fun x y z => h.trans _ _ _⟩
theorem row_int : Row cmpI := by
 refine ⟨fun x y => ?_, fun x y => ?_, fun x y z => ?_⟩ <;> unfold cmpI
 ·split
  ·exact .inl rfl
  ·split
   ·exact .inr (.inr rfl)
   ·exact .inr (.inl rfl)
 ·by_cases h1 : x < y
  ·have h3 : ¬ y < x := by omega
   simp [h1, h3]
  ·by_cases h2 : y < x
   ·simp [h1, h2]
   ·simp [h1, h2]
 ·have le : ∀ x y : Int, (if x < y then (-1 : Int) else if x > y then 1 else 0) ≤ 0 ↔ x ≤ y := fun x y => by
   by_cases h1 : x < y
   ·rw [if_pos h1]; exact ⟨fun _ => by omega, fun _ => by omega⟩
   ·rw [if_neg h1]
    by_cases h2 : x > y
    ·rw [if_pos h2]; exact ⟨fun h => by omega, fun h => by omega⟩
    ·rw [if_neg h2]; exact ⟨fun _ => by omega, fun _ => by omega⟩
  rw [le, le, le]
  omega
theorem getD_lt {x : List (List UInt8)} {i : Nat} (h : i < x.length) : x.getD i [] = x[i] := by rw [List.getD, List.getElem?_eq_getElem h]; rfl
theorem getD_ge {x : List (List UInt8)} {i : Nat} (h : x.length ≤ i) : x.getD i [] = [] := by rw [List.getD, List.getElem?_eq_none h]; rfl
theorem row_words : Row cmpW := by
 have asy : ∀ x y : List UInt8, x < y → ¬ y < x := fun x y h1 h2 => List.lt_irrefl x (List.lt_trans h1 h2)
 have le : ∀ x y, cmpW x y ≤ 0 ↔ x ≤ y := fun x y => by
  unfold cmpW
  by_cases h1 : x < y
  ·rw [if_pos h1]; exact ⟨fun _ => List.not_lt.1 (asy _ _ h1), fun _ => by omega⟩
  ·rw [if_neg h1]
   by_cases h2 : y < x
   ·rw [if_pos h2]; exact ⟨fun h => by omega, fun h => absurd h2 (List.not_lt.2 h)⟩
   ·rw [if_neg h2]; exact ⟨fun _ => List.not_lt.1 h2, fun _ => by omega⟩
 refine ⟨fun x y => ?_, fun x y => ?_, fun x y z h1 h2 => ?_⟩
 ·unfold cmpW; split
  ·exact .inl rfl
  ·split
   ·exact .inr (.inr rfl)
   ·exact .inr (.inl rfl)
 ·unfold cmpW
  by_cases h1 : x < y
  ·rw [if_neg (asy _ _ h1), if_pos h1, if_pos h1]; rfl
  ·by_cases h2 : y < x
   ·rw [if_pos h2, if_neg h1, if_pos h2]
   ·rw [if_neg h2, if_neg h1, if_neg h1, if_neg h2]; rfl
 ·rw [le] at h1 h2 ⊢
  exact List.le_trans h1 h2
theorem pcmp_thenBy : pcmp = thenBy (fun a b => cmpI (rankOf a) (rankOf b)) (thenBy (fun a b => cmpI (numOf a) (numOf b)) (fun a b => cmpW (wordOf a) (wordOf b))) := by
 funext a b
 rfl
theorem row_parts : Row pcmp := by
 rw [pcmp_thenBy]
 exact (row_int.map rankOf).thenBy ((row_int.map numOf).thenBy (row_words.map wordOf))
theorem row_from : ∀ (n i : Nat), Row fun x y => cmpFrom x y i n
 | 0, i => ⟨fun _ _ => .inr (.inl rfl), fun _ _ => rfl, fun _ _ _ _ _ => Int.le_refl _⟩
 | n + 1, i => (row_parts.map fun x : List (List UInt8) => x.getD i []).thenBy (row_from n (i + 1))
theorem from_more (x y : List (List UInt8)) : ∀ (n k i : Nat), x.length ≤ i + n → y.length ≤ i + n → cmpFrom x y i (n + k) = cmpFrom x y i n
 | 0, 0, _, _, _ => rfl
 | 0, k + 1, i, hx, hy => by
  have e : cmpFrom x y i (k + 1) = if pcmp (x.getD i []) (y.getD i []) ≠ 0 then pcmp (x.getD i []) (y.getD i []) else cmpFrom x y (i + 1) k := rfl
  rw [Nat.zero_add, e, getD_ge (by omega), getD_ge (by omega), if_neg (by decide)]
  have := from_more x y 0 k (i + 1) (by omega) (by omega)
  rw [Nat.zero_add] at this
  exact this
 | n + 1, k, i, hx, hy => by
  rw [show n + 1 + k = (n + k) + 1 by omega, cmpFrom, cmpFrom, from_more x y n k (i + 1) (by omega) (by omega)]
theorem from_any {x y : List (List UInt8)} {N : Nat} (hx : x.length ≤ N) (hy : y.length ≤ N) : cmpFrom x y 0 (max x.length y.length) = cmpFrom x y 0 N := by
 have := from_more x y (max x.length y.length) (N - max x.length y.length) 0 (by omega) (by omega)
 rw [show max x.length y.length + (N - max x.length y.length) = N by omega] at this
 exact this.symm
theorem compare_eight (a b : List UInt8) : compareL a b = if mayL a = false ∧ mayL b = false then 0 else if mayL a = false then -1 else if mayL b = false then 1 else cmpFrom (cutL 46 a) (cutL 46 b) 0 8 := by
 unfold compareL
 cases ha : mayL a
 ·simp
 ·cases hb : mayL b
  ·simp
  ·have h1 := ((may_iff a).1 ha).2.2.2
   have h2 := ((may_iff b).1 hb).2.2.2
   simp only [Bool.true_eq_false, and_self, if_false]
   exact from_any h1 h2
theorem row_compare : Row compareL := by
 have R := row_from 8 0
 refine ⟨fun x y => ?_, fun x y => ?_, fun x y z => ?_⟩
 ·rw [compare_eight]
  split
  ·exact .inr (.inl rfl)
  ·split
   ·exact .inl rfl
   ·split
    ·exact .inr (.inr rfl)
    ·exact R.tri _ _
 ·rw [compare_eight, compare_eight]
  cases mayL x <;> cases mayL y <;> simp
  exact R.neg _ _
 ·rw [compare_eight, compare_eight, compare_eight]
  cases mayL x <;> cases mayL y <;> cases mayL z <;> simp
  exact R.trans _ _ _
theorem pcmp_zero {a b : List UInt8} (ha : Part a) (hb : Part b) (h : pcmp a b = 0) : a = b := by
 rw [pcmp_is ha hb] at h
 by_cases hab : a = b
 ·exact hab
 ·exfalso
  by_cases h1 : before a b = true
  ·rw [if_pos h1] at h; cases h
  ·rw [if_neg h1] at h
   by_cases h2 : before b a = true
   ·rw [if_pos h2] at h; cases h
   ·have h3 := pcmp_is ha hb
    rw [if_neg h1, if_neg h2] at h3
    unfold pcmp at h3
    by_cases e1 : cmpI (rankOf a) (rankOf b) = 0
    ·rw [if_neg (by omega)] at h3
     by_cases e2 : cmpI (numOf a) (numOf b) = 0
     ·rw [if_neg (by omega)] at h3
      have r : rankOf a = rankOf b := by unfold cmpI at e1; split at e1; omega; split at e1 <;> omega
      have n : numOf a = numOf b := by unfold cmpI at e2; split at e2; omega; split at e2 <;> omega
      have w : wordOf a = wordOf b := by
       by_cases e : wordOf a = wordOf b
       ·exact e
       ·unfold cmpW at h3
        by_cases l1 : wordOf a < wordOf b
        ·rw [if_pos l1] at h3; omega
        ·rw [if_neg l1, if_pos (dec_ne e l1)] at h3; omega
      apply hab
      rcases ha with rfl | ha | ha
      ·rcases hb with rfl | hb | hb
       ·rfl
       ·rw [rk_let hb] at r; exact absurd r (by decide)
       ·rw [rk_dig hb] at r; exact absurd r (by decide)
      ·rcases hb with rfl | hb | hb
       ·rw [rk_let ha] at r; exact absurd r (by decide)
       ·unfold wordOf at w; rwa [if_pos ha, if_pos hb] at w
       ·rw [rk_let ha, rk_dig hb] at r; omega
      ·rcases hb with rfl | hb | hb
       ·rw [rk_dig ha] at r; exact absurd r (by decide)
       ·rw [rk_dig ha, rk_let hb] at r; omega
       ·have va : numOf a = (valFrom 0 a : Nat) := by unfold numOf; rw [if_neg (by rw [(digs_of ha).2.1]; simp)]
        have vb : numOf b = (valFrom 0 b : Nat) := by unfold numOf; rw [if_neg (by rw [(digs_of hb).2.1]; simp)]
        have v : valFrom 0 a = valFrom 0 b := by omega
        have ha' := ha
        have hb' := hb
        unfold digOk at ha' hb'
        simp only [Bool.and_eq_true] at ha' hb'
        have e1 := dec_val a (digs_of ha).2.2 ha'.1.1.2 ha'.2
        have e2 := dec_val b (digs_of hb).2.2 hb'.1.1.2 hb'.2
        rw [← e1, ← e2, v]
     ·rw [if_pos e2] at h3; omega
    ·rw [if_pos e1] at h3; omega
theorem part_getD {x : List (List UInt8)} (h : ∀ p ∈ x, partL p = true) (i : Nat) : Part (x.getD i []) := by
 by_cases hi : i < x.length
 ·rw [getD_lt hi]; exact part_of (h _ (List.getElem_mem hi))
 ·rw [getD_ge (by omega)]; exact .inl rfl
theorem from_zero {x y : List (List UInt8)} (hx : ∀ p ∈ x, partL p = true) (hy : ∀ p ∈ y, partL p = true) : ∀ (n i : Nat), cmpFrom x y i n = 0 → ∀ j, i ≤ j → j < i + n → x.getD j [] = y.getD j []
 | 0, i, _, j, h1, h2 => by omega
 | n + 1, i, h, j, h1, h2 => by
  unfold cmpFrom at h
  by_cases h0 : pcmp (x.getD i []) (y.getD i []) = 0
  ·rw [if_neg (by omega)] at h
   rcases Nat.eq_or_lt_of_le h1 with rfl | h3
   ·exact pcmp_zero (part_getD hx i) (part_getD hy i) h0
   ·exact from_zero hx hy n (i + 1) h j h3 (by omega)
  ·rw [if_pos h0] at h; exact absurd h h0
theorem lists_eq {x y : List (List UInt8)} (hx : ∀ p ∈ x, partL p = true) (hy : ∀ p ∈ y, partL p = true) (h : ∀ j, j < max x.length y.length → x.getD j [] = y.getD j []) : x = y := by
 have hl : x.length = y.length := by
  rcases Nat.lt_trichotomy x.length y.length with h1 | h1 | h1
  ·exfalso
   have := h x.length (by omega)
   rw [getD_ge (Nat.le_refl _), getD_lt h1] at this
   exact part_ne (hy _ (List.getElem_mem h1)) this.symm
  ·exact h1
  ·exfalso
   have := h y.length (by omega)
   rw [getD_ge (x := y) (Nat.le_refl _), getD_lt h1] at this
   exact part_ne (hx _ (List.getElem_mem h1)) this
 refine List.ext_getElem hl fun i h1 h2 => ?_
 have := h i (by omega)
 rwa [getD_lt h1, getD_lt h2] at this
theorem compare_zero {a b : List UInt8} (h : compareL a b = 0) : a = b ∨ mayL a = false ∧ mayL b = false := by
 unfold compareL at h
 cases ha : mayL a
 ·cases hb : mayL b
  ·exact .inr ⟨rfl, rfl⟩
  ·rw [ha, hb] at h; simp at h
 ·cases hb : mayL b
  ·rw [ha, hb] at h; simp at h
  ·rw [ha, hb] at h
   simp only [Bool.true_eq_false, and_self, if_false] at h
   have h1 := ((may_iff a).1 ha).2.2.1
   have h2 := ((may_iff b).1 hb).2.2.1
   exact .inl (cutL_inj (lists_eq h1 h2 fun j hj => from_zero h1 h2 _ 0 h j (Nat.zero_le _) (by omega)))

def lessFrom (x y : List (List UInt8)) : Nat → Nat → Bool
 | _, 0 => false
 | i, n + 1 => if before (x.getD i []) (y.getD i []) = true then true else if before (y.getD i []) (x.getD i []) = true then false else lessFrom x y (i + 1) n
def lessL (a b : List UInt8) : Bool := if mayL a = false ∨ mayL b = false then !mayL a && mayL b else lessFrom (cutL 46 a) (cutL 46 b) 0 (max (cutL 46 a).length (cutL 46 b).length)
theorem less_from {x y : List (List UInt8)} (hx : ∀ p ∈ x, partL p = true) (hy : ∀ p ∈ y, partL p = true) : ∀ (n i : Nat), lessFrom x y i n = decide (cmpFrom x y i n = -1)
 | 0, _ => rfl
 | n + 1, i => by
  unfold lessFrom cmpFrom
  rw [pcmp_is (part_getD hx i) (part_getD hy i)]
  by_cases h1 : before (x.getD i []) (y.getD i []) = true
  ·rw [if_pos h1, if_pos h1]; rfl
  ·rw [if_neg h1, if_neg h1]
   by_cases h2 : before (y.getD i []) (x.getD i []) = true
   ·rw [if_pos h2, if_pos h2]; rfl
   ·rw [if_neg h2, if_neg h2, less_from hx hy n (i + 1)]; rfl
theorem less_is (a b : List UInt8) : lessL a b = decide (compareL a b = -1) := by
 unfold lessL compareL
 cases ha : mayL a
 ·cases hb : mayL b <;> simp
 ·cases hb : mayL b
  ·simp
  ·simp only [Bool.true_eq_false, or_self, and_self, if_false]
   exact less_from ((may_iff a).1 ha).2.2.1 ((may_iff b).1 hb).2.2.1 _ _
def compareD (a b : List UInt8) : Int := if lessL a b = true then -1 else if lessL b a = true then 1 else 0
theorem compareD_is (a b : List UInt8) : compareD a b = compareL a b := by
 unfold compareD
 rw [less_is, less_is]
 have h1 := row_compare.tri a b
 have h2 := row_compare.neg a b
 simp only [decide_eq_true_eq]
 by_cases e : compareL a b = -1
 ·rw [if_pos e, e]
 ·rw [if_neg e]
  by_cases e2 : compareL b a = -1
  ·rw [if_pos e2]; omega
  ·rw [if_neg e2]; omega
end Go.Proofs.YteailgjiifdgcaaGreatDoor.VerN

/- Plain facts: a text cut into texts. -/
namespace Go.Proofs.YteailgjiifdgcaaGreatDoor.VerN
open Go.Lib

theorem ba_ext {x y : ByteArray} (h : x.data.toList = y.data.toList) : x = y := by
 obtain ⟨⟨a⟩⟩ := x
 obtain ⟨⟨b⟩⟩ := y
 simp at h
 rw [h]
def cutS (c : UInt8) (s : ByteArray) : List ByteArray := (cutL c s.data.toList).map fun l => ⟨l.toArray⟩
theorem cutS_data (c : UInt8) (s : ByteArray) : (cutS c s).map (·.data.toList) = cutL c s.data.toList := by
 unfold cutS
 rw [List.map_map]
 have : ((fun x : ByteArray => x.data.toList) ∘ fun l : List UInt8 => (⟨l.toArray⟩ : ByteArray)) = id := by funext l; simp
 rw [this, List.map_id]
theorem cutS_len (c : UInt8) (s : ByteArray) : (cutS c s).length = (cutL c s.data.toList).length := by unfold cutS; rw [List.length_map]
theorem cutS_miss {c : UInt8} {s : ByteArray} (h : indexByte s.data.toList c = -1) : cutS c s = [s] := by
 unfold cutS cutL
 rw [cutF_miss c _ _ h, List.nil_append]
 simp
theorem cutS_hit {c : UInt8} {s : ByteArray} {i : Nat} (h : indexByte s.data.toList c = i) : cutS c s = s.extract 0 i :: cutS c (s.extract (i + 1) s.size) := by
 have e1 : (⟨(s.data.toList.take i).toArray⟩ : ByteArray) = s.extract 0 i := ba_ext (by rw [extract_from_zero])
 have e2 : s.data.toList.drop (i + 1) = (s.extract (i + 1) s.size).data.toList := (extract_to_end s (i + 1)).symm
 unfold cutS
 rw [show cutL c s.data.toList = cutF c [] s.data.toList from rfl, cutF_hit c _ _ i h, List.nil_append, List.map_cons, e1, e2]
theorem index_lt {l : List UInt8} {c : UInt8} {i : Nat} (h : indexByte l c = i) : i < l.length := by
 induction l generalizing i with
 | nil => unfold indexByte at h; omega
 | cons x r ih =>
  unfold indexByte at h
  split at h
  ·simp; omega
  ·split at h
   ·omega
   ·rename_i hm
    have := indexByte_ge r c
    have h0 : indexByte r c ≠ -1 := fun e => hm (by rw [e]; rfl)
    have := ih (i := i - 1) (by omega)
    simp; omega
theorem dlen (s : ByteArray) : s.data.toList.length = s.size := by rw [Array.length_toList]; rfl
theorem cutS_piece {c : UInt8} {s p : ByteArray} (h : p ∈ cutS c s) : p.size ≤ s.size := by
 unfold cutS at h
 obtain ⟨l, h1, rfl⟩ := List.mem_map.1 h
 have := cutF_piece c _ _ _ h1
 rw [dlen] at this
 have e : (⟨l.toArray⟩ : ByteArray).size = l.length := rfl
 rw [e]
 simp only [List.length_nil] at this
 omega
theorem splitB_cut (c : UInt8) : ∀ (k : Nat) (s : ByteArray), (cutL c s.data.toList).length ≤ k + 1 → splitB ⟨#[c]⟩ 0 k s = cutS c s
 | 0, s, h => by
  have : indexByte s.data.toList c = -1 := by
   by_cases h1 : indexByte s.data.toList c = -1
   ·exact h1
   ·exfalso
    obtain ⟨i, hi⟩ : ∃ i : Nat, indexByte s.data.toList c = i := ⟨(indexByte s.data.toList c).toNat, by have := indexByte_ge s.data.toList c; omega⟩
    rw [show cutL c s.data.toList = cutF c [] s.data.toList from rfl, cutF_hit c _ _ i hi, List.length_cons] at h
    have := (cutL_len c (s.data.toList.drop (i + 1))).1
    omega
  rw [cutS_miss this]; rfl
 | k + 1, s, h => by
  have e : indexB s ⟨#[c]⟩ = indexByte s.data.toList c := index_one _ c
  by_cases h1 : indexByte s.data.toList c = -1
  ·rw [cutS_miss h1, splitB_miss _ _ _ _ (by rw [e, h1])]
  ·obtain ⟨i, hi⟩ : ∃ i : Nat, indexByte s.data.toList c = i := ⟨(indexByte s.data.toList c).toNat, by have := indexByte_ge s.data.toList c; omega⟩
   rw [cutS_hit hi, splitB_hit _ _ _ _ i (by rw [e, hi]), Nat.add_zero]
   have hs : (⟨#[c]⟩ : ByteArray).size = 1 := rfl
   rw [hs, splitB_cut c k]
   rw [extract_to_end]
   rw [show cutL c s.data.toList = cutF c [] s.data.toList from rfl, cutF_hit c _ _ i hi, List.length_cons] at h
   omega
theorem count_cut (c : UInt8) : ∀ (l acc : List UInt8), (cutF c acc l).length = l.count c + 1
 | [], _ => rfl
 | x :: r, acc => by
  by_cases h : x = c
  ·subst h
   rw [cutF_cons_eq, List.length_cons, count_cut x r [], List.count_cons_self]
  ·rw [cutF_cons_ne _ _ h, count_cut c r, List.count_cons_of_ne h]
theorem countB_cut (c : UInt8) (s : ByteArray) : countB s ⟨#[c]⟩ + 1 = (cutS c s).length := by
 rw [cutS_len, show cutL c s.data.toList = cutF c [] s.data.toList from rfl, count_cut]
 have : countB s ⟨#[c]⟩ = s.data.toList.count c := count_one c _
 rw [this]
theorem split_all (c : UInt8) (s : ByteArray) : splitB ⟨#[c]⟩ 0 (countB s ⟨#[c]⟩) s = cutS c s := splitB_cut c _ s (by have := countB_cut c s; rw [cutS_len] at this; omega)
end Go.Proofs.YteailgjiifdgcaaGreatDoor.VerN

/- Plain facts: how versions with the same parts ahead stand to each other, and a version to what is longer. -/
namespace Go.Proofs.YteailgjiifdgcaaGreatDoor.VerN
open Go.Lib

theorem pcmp_self (a : List UInt8) : pcmp a a = 0 := by
 unfold pcmp
 rw [cmpI_self, cmpI_self, cmpW_self]
 rfl
theorem getD_app_lt {H A : List (List UInt8)} {i : Nat} (h : i < H.length) : (H ++ A).getD i [] = H.getD i [] := by
 rw [List.getD, List.getD, List.getElem?_append_left h]
theorem getD_app_ge {H A : List (List UInt8)} (i : Nat) : (H ++ A).getD (H.length + i) [] = A.getD i [] := by
 rw [List.getD, List.getD, List.getElem?_append_right (by omega), Nat.add_sub_cancel_left]
theorem from_behind (H A B : List (List UInt8)) : ∀ (n i : Nat), cmpFrom (H ++ A) (H ++ B) (H.length + i) n = cmpFrom A B i n
 | 0, _ => rfl
 | n + 1, i => by
  have e1 : cmpFrom (H ++ A) (H ++ B) (H.length + i) (n + 1) = if pcmp ((H ++ A).getD (H.length + i) []) ((H ++ B).getD (H.length + i) []) ≠ 0 then pcmp ((H ++ A).getD (H.length + i) []) ((H ++ B).getD (H.length + i) []) else cmpFrom (H ++ A) (H ++ B) (H.length + (i + 1)) n := rfl
  rw [e1, getD_app_ge, getD_app_ge, from_behind H A B n (i + 1)]
  rfl
theorem from_ahead (H A B : List (List UInt8)) (n : Nat) : ∀ (m i : Nat), i + m = H.length → cmpFrom (H ++ A) (H ++ B) i (m + n) = cmpFrom A B 0 n
 | 0, i, h => by
  have := from_behind H A B n 0
  rw [Nat.zero_add, show i = H.length + 0 by omega]
  exact this
 | m + 1, i, h => by
  rw [show m + 1 + n = (m + n) + 1 by omega]
  have e1 : cmpFrom (H ++ A) (H ++ B) i (m + n + 1) = if pcmp ((H ++ A).getD i []) ((H ++ B).getD i []) ≠ 0 then pcmp ((H ++ A).getD i []) ((H ++ B).getD i []) else cmpFrom (H ++ A) (H ++ B) (i + 1) (m + n) := rfl
  rw [e1, getD_app_lt (by omega), getD_app_lt (by omega), pcmp_self, if_neg (by simp), from_ahead H A B n m (i + 1) (by omega)]
theorem from_prefix (H A B : List (List UInt8)) (n : Nat) : cmpFrom (H ++ A) (H ++ B) 0 (H.length + n) = cmpFrom A B 0 n := from_ahead H A B n H.length 0 (by omega)
theorem cut_nil (c : UInt8) : cutL c [] = [[]] := rfl
theorem tail_may {h a : List UInt8} (hm : mayL (h ++ 46 :: a) = true) : mayL a = true := by
 obtain ⟨_, h2, h3, h4⟩ := (may_iff _).1 hm
 rw [cutL_join] at h3 h4
 refine (may_iff _).2 ⟨?_, ?_, fun p hp => h3 p (List.mem_append.2 (.inr hp)), ?_⟩
 ·rintro rfl
  exact part_ne (h3 [] (List.mem_append.2 (.inr (by rw [cut_nil]; simp)))) rfl
 ·rw [List.length_append, List.length_cons] at h2; omega
 ·rw [List.length_append] at h4; omega
theorem compare_may {a b : List UInt8} (ha : mayL a = true) (hb : mayL b = true) {N : Nat} (h1 : (cutL 46 a).length ≤ N) (h2 : (cutL 46 b).length ≤ N) : compareL a b = cmpFrom (cutL 46 a) (cutL 46 b) 0 N := by
 unfold compareL
 rw [ha, hb]
 simp only [Bool.true_eq_false, and_self, if_false]
 exact from_any h1 h2
theorem compare_tail {h a b : List UInt8} (ha : mayL (h ++ 46 :: a) = true) (hb : mayL (h ++ 46 :: b) = true) : compareL (h ++ 46 :: a) (h ++ 46 :: b) = compareL a b := by
 have l1 := ((may_iff _).1 (tail_may ha)).2.2.2
 have l2 := ((may_iff _).1 (tail_may hb)).2.2.2
 rw [compare_may (tail_may ha) (tail_may hb) l1 l2, compare_may ha hb (N := (cutL 46 h).length + 8) (by rw [cutL_join, List.length_append]; omega) (by rw [cutL_join, List.length_append]; omega), cutL_join, cutL_join, from_prefix]
def first (l : List UInt8) : List UInt8 := (cutL 46 l).getD 0 []
theorem first_part {a wd : List UInt8} (h : mayL (a ++ 46 :: wd) = true) : partL (first wd) = true := by
 have hl := (cutL_len 46 wd).1
 unfold first
 rw [getD_lt (by omega)]
 obtain ⟨_, _, h3, _⟩ := (may_iff _).1 h
 rw [cutL_join] at h3
 exact h3 _ (List.mem_append.2 (.inr (List.getElem_mem _)))
theorem compare_longer {a wd : List UInt8} (ha : mayL a = true) (hw : mayL (a ++ 46 :: wd) = true) : compareL (a ++ 46 :: wd) a = if letOk (first wd) = true then -1 else 1 := by
 have hl := (cutL_len 46 wd).1
 have l1 := ((may_iff _).1 hw).2.2.2
 rw [cutL_join, List.length_append] at l1
 have hp := first_part hw
 have hpf : pcmp (first wd) [] = if letOk (first wd) = true then -1 else 1 := by
  rcases Bool.or_eq_true _ _ ▸ (show (letOk (first wd) || digOk (first wd)) = true from hp) with h | h
  ·rw [if_pos h, pcmp_rank (rk_let h) rk_end (by decide)]; rfl
  ·rw [if_neg (by rw [(digs_of h).2.1]; simp), pcmp_rank (rk_dig h) rk_end (by decide)]; rfl
 rw [compare_may hw ha (N := (cutL 46 a).length + 8) (by rw [cutL_join, List.length_append]; omega) (by omega), cutL_join]
 have e : cmpFrom (cutL 46 a ++ cutL 46 wd) (cutL 46 a) 0 ((cutL 46 a).length + 8) = cmpFrom (cutL 46 wd) [] 0 8 := by
  have := from_prefix (cutL 46 a) (cutL 46 wd) [] 8
  rwa [List.append_nil] at this
 rw [e]
 have e2 : cmpFrom (cutL 46 wd) [] 0 8 = if pcmp (first wd) [] ≠ 0 then pcmp (first wd) [] else cmpFrom (cutL 46 wd) [] 1 7 := rfl
 rw [e2, hpf]
 split <;> rfl
theorem first_dec (u : Nat) : first (decDigits u) = decDigits u := by
 unfold first cutL
 rw [cutF_none 46 (decDigits u) [] (fun x hx e => by
  have := List.all_eq_true.1 (dec_dig u).1 x hx
  rw [e] at this
  exact absurd this (by decide))]
 rfl
theorem dec_no_let (u : Nat) : letOk (decDigits u) = false := by
 rw [Bool.eq_false_iff]
 intro h
 have := (not_both h).1
 unfold digs at this
 rw [(dec_dig u).1, Bool.true_and] at this
 have h2 := (dec_dig u).2.1
 cases hd : decDigits u with
 | nil => exact h2 hd
 | cons x r => rw [hd] at this; simp at this
theorem not_let_digs {l : List UInt8} (hp : partL l = true) (h : letOk l = false) : digs l = true := by
 unfold partL at hp
 rw [h, Bool.false_or] at hp
 exact (digs_of hp).1
end Go.Proofs.YteailgjiifdgcaaGreatDoor.VerN

/- Plain facts on spans: bounds, what is in one, what two have in common, the least of two; the program's way and the document's. -/
namespace Go.Proofs.YteailgjiifdgcaaGreatDoor.VerN
open Go.Lib

abbrev Sp := List UInt8 × List UInt8
def boundB (l : List UInt8) : Bool := decide (l = []) || mayL l
def aheadB (a b : List UInt8) : Bool := decide (a ≠ []) && decide (b ≠ []) && decide (compareL a b < 0)
def mayS (s : Sp) : Bool := boundB s.1 && boundB s.2 && !aheadB s.2 s.1
def hasS (s : Sp) (v : List UInt8) : Bool := mayS s && mayL v && !aheadB v s.1 && !aheadB s.2 v
def laterB (a b : List UInt8) : List UInt8 := if a = [] ∨ aheadB a b = true then b else a
def soonerB (a b : List UInt8) : List UInt8 := if a = [] ∨ aheadB b a = true then b else a
def meetO (a b : Sp) : Sp := (laterB a.1 b.1, soonerB a.2 b.2)
def meetOk (a b : Sp) : Bool := mayS a && mayS b && mayS (meetO a b)
def meetS (a b : Sp) : Sp := if meetOk a b = true then meetO a b else ([], [])
def joinS (a b : Sp) : Sp := if mayS a = true ∧ mayS b = true then (if a.1 ≠ [] ∧ b.1 ≠ [] then soonerB a.1 b.1 else [], if a.2 ≠ [] ∧ b.2 ≠ [] then laterB a.2 b.2 else []) else ([], [])
def textR (s : Sp) : List UInt8 := if s.1 = s.2 ∧ s.1 ≠ [] then s.1 else s.1 ++ 58 :: s.2
def textS (s : Sp) : List UInt8 := if mayS s = true then textR s else []
def withinB (a b : Sp) : Bool := mayS a && mayS b && (decide (b.1 = []) || (decide (a.1 ≠ []) && !aheadB a.1 b.1)) && (decide (b.2 = []) || (decide (a.2 ≠ []) && !aheadB b.2 a.2))

/-! the row of all texts, by ≤ -/
def le (a b : List UInt8) : Prop := compareL a b ≤ 0
theorem le_refl (a : List UInt8) : le a a := by
 have := row_compare.neg a a
 unfold le; omega
theorem le_trans {a b c : List UInt8} (h1 : le a b) (h2 : le b c) : le a c := row_compare.trans a b c h1 h2
theorem not_le {a b : List UInt8} : ¬ le a b ↔ compareL b a < 0 := by
 have := row_compare.neg a b
 unfold le; omega
theorem le_total (a b : List UInt8) : le a b ∨ le b a := by
 have := row_compare.neg a b
 unfold le; omega
theorem ahead_no {a b : List UInt8} : aheadB a b = false ↔ a = [] ∨ b = [] ∨ le b a := by
 have h : ¬ compareL a b < 0 ↔ le b a := by
  have := row_compare.neg a b
  unfold le
  omega
 unfold aheadB
 simp only [Bool.and_eq_false_iff, decide_eq_false_iff_not, ne_eq, Decidable.not_not, h]
 exact or_assoc
theorem ahead_yes {a b : List UInt8} : aheadB a b = true ↔ a ≠ [] ∧ b ≠ [] ∧ ¬ le b a := by
 unfold aheadB
 simp only [Bool.and_eq_true, decide_eq_true_eq, not_le, and_assoc]
theorem ahead_less (a b : List UInt8) : aheadB a b = (decide (a ≠ []) && decide (b ≠ []) && lessL a b) := by
 have ht := row_compare.tri a b
 unfold aheadB
 rw [less_is]
 congr 1
 exact decide_eq_decide.2 ⟨fun h => by omega, fun h => by omega⟩
theorem bound_iff {l : List UInt8} : boundB l = true ↔ l = [] ∨ mayL l = true := by unfold boundB; simp
theorem may_ne {l : List UInt8} (h : mayL l = true) : l ≠ [] := ((may_iff l).1 h).1
theorem mayS_iff {s : Sp} : mayS s = true ↔ boundB s.1 = true ∧ boundB s.2 = true ∧ (s.1 = [] ∨ s.2 = [] ∨ le s.1 s.2) := by
 unfold mayS
 simp only [Bool.and_eq_true, Bool.not_eq_true', and_assoc, ahead_no]
 constructor
 ·rintro ⟨h1, h2, h3⟩
  refine ⟨h1, h2, ?_⟩
  rcases h3 with h | h | h
  ·exact .inr (.inl h)
  ·exact .inl h
  ·exact .inr (.inr h)
 ·rintro ⟨h1, h2, h3⟩
  refine ⟨h1, h2, ?_⟩
  rcases h3 with h | h | h
  ·exact .inr (.inl h)
  ·exact .inl h
  ·exact .inr (.inr h)
def lower (lo v : List UInt8) : Prop := lo = [] ∨ le lo v
def upper (hi v : List UInt8) : Prop := hi = [] ∨ le v hi
theorem hasS_iff {s : Sp} {v : List UInt8} : hasS s v = true ↔ mayS s = true ∧ mayL v = true ∧ lower s.1 v ∧ upper s.2 v := by
 unfold hasS lower upper
 simp only [Bool.and_eq_true, Bool.not_eq_true', and_assoc, ahead_no]
 constructor
 ·rintro ⟨h1, h2, h3, h4⟩
  have hv := may_ne h2
  refine ⟨h1, h2, ?_, ?_⟩
  ·rcases h3 with h | h | h
   ·exact absurd h hv
   ·exact .inl h
   ·exact .inr h
  ·rcases h4 with h | h | h
   ·exact .inl h
   ·exact absurd h hv
   ·exact .inr h
 ·rintro ⟨h1, h2, h3, h4⟩
  refine ⟨h1, h2, ?_, ?_⟩
  ·rcases h3 with h | h
   ·exact .inr (.inl h)
   ·exact .inr (.inr h)
  ·rcases h4 with h | h
   ·exact .inl h
   ·exact .inr (.inr h)
theorem later_cases (a b : List UInt8) : laterB a b = a ∨ laterB a b = b := by unfold laterB; split; exact .inr rfl; exact .inl rfl
theorem sooner_cases (a b : List UInt8) : soonerB a b = a ∨ soonerB a b = b := by unfold soonerB; split; exact .inr rfl; exact .inl rfl
theorem bound_of {x a b : List UInt8} (h : x = a ∨ x = b) (ha : boundB a = true) (hb : boundB b = true) : boundB x = true := by rcases h with rfl | rfl <;> assumption
theorem lower_later {a b v : List UInt8} : lower (laterB a b) v ↔ lower a v ∧ lower b v := by
 unfold laterB
 by_cases h : a = [] ∨ aheadB a b = true
 ·rw [if_pos h]
  refine ⟨fun hb => ⟨?_, hb⟩, fun h => h.2⟩
  rcases h with h | h
  ·exact .inl h
  ·obtain ⟨h1, h2, h3⟩ := ahead_yes.1 h
   rcases hb with hb | hb
   ·exact absurd hb h2
   ·exact .inr (le_trans ((le_total a b).resolve_right h3) hb)
 ·rw [if_neg h]
  refine ⟨fun ha => ⟨ha, ?_⟩, fun h => h.1⟩
  have h1 : a ≠ [] := fun e => h (.inl e)
  have h2 : aheadB a b = false := Bool.eq_false_iff.2 fun e => h (.inr e)
  rcases ahead_no.1 h2 with h2 | h2 | h2
  ·exact absurd h2 h1
  ·exact .inl h2
  ·rcases ha with ha | ha
   ·exact absurd ha h1
   ·exact .inr (le_trans h2 ha)
theorem upper_sooner {a b v : List UInt8} : upper (soonerB a b) v ↔ upper a v ∧ upper b v := by
 unfold soonerB
 by_cases h : a = [] ∨ aheadB b a = true
 ·rw [if_pos h]
  refine ⟨fun hb => ⟨?_, hb⟩, fun h => h.2⟩
  rcases h with h | h
  ·exact .inl h
  ·obtain ⟨h1, h2, h3⟩ := ahead_yes.1 h
   rcases hb with hb | hb
   ·exact absurd hb h1
   ·exact .inr (le_trans hb ((le_total b a).resolve_right h3))
 ·rw [if_neg h]
  refine ⟨fun ha => ⟨ha, ?_⟩, fun h => h.1⟩
  have h1 : a ≠ [] := fun e => h (.inl e)
  have h2 : aheadB b a = false := Bool.eq_false_iff.2 fun e => h (.inr e)
  rcases ahead_no.1 h2 with h2 | h2 | h2
  ·exact .inl h2
  ·exact absurd h2 h1
  ·rcases ha with ha | ha
   ·exact absurd ha h1
   ·exact .inr (le_trans ha h2)
theorem meet_bounds {a b : Sp} (ha : mayS a = true) (hb : mayS b = true) : boundB (meetO a b).1 = true ∧ boundB (meetO a b).2 = true :=
 ⟨bound_of (later_cases _ _) (mayS_iff.1 ha).1 (mayS_iff.1 hb).1, bound_of (sooner_cases _ _) (mayS_iff.1 ha).2.1 (mayS_iff.1 hb).2.1⟩
theorem meet_has (a b : Sp) (v : List UInt8) : (meetOk a b && hasS (meetS a b) v) = (hasS a v && hasS b v) := by
 refine Bool.eq_iff_iff.2 ?_
 rw [Bool.and_eq_true, Bool.and_eq_true]
 constructor
 ·rintro ⟨h1, h2⟩
  unfold meetS at h2
  rw [if_pos h1] at h2
  unfold meetOk at h1
  simp only [Bool.and_eq_true] at h1
  obtain ⟨_, hv, hl, hu⟩ := hasS_iff.1 h2
  have l := lower_later.1 hl
  have u := upper_sooner.1 hu
  exact ⟨hasS_iff.2 ⟨h1.1.1, hv, l.1, u.1⟩, hasS_iff.2 ⟨h1.1.2, hv, l.2, u.2⟩⟩
 ·rintro ⟨h1, h2⟩
  obtain ⟨ha, hv, la, ua⟩ := hasS_iff.1 h1
  obtain ⟨hb, _, lb, ub⟩ := hasS_iff.1 h2
  have l : lower (meetO a b).1 v := lower_later.2 ⟨la, lb⟩
  have u : upper (meetO a b).2 v := upper_sooner.2 ⟨ua, ub⟩
  have hm : mayS (meetO a b) = true := by
   have hB := meet_bounds ha hb
   refine mayS_iff.2 ⟨hB.1, hB.2, ?_⟩
   rcases l with l | l
   ·exact .inl l
   ·rcases u with u | u
    ·exact .inr (.inl u)
    ·exact .inr (.inr (le_trans l u))
  have hok : meetOk a b = true := by unfold meetOk; rw [ha, hb, hm]; rfl
  refine ⟨hok, ?_⟩
  unfold meetS
  rw [if_pos hok]
  exact hasS_iff.2 ⟨hm, hv, l, u⟩

/-! the document's way -/
def refMayS (s : Sp) : Bool := boundB s.1 && boundB s.2 && (decide (s.1 = []) || decide (s.2 = []) || !lessL s.2 s.1)
theorem refMay_is (s : Sp) : refMayS s = mayS s := by
 unfold refMayS mayS
 rw [ahead_less]
 by_cases h1 : s.1 = [] <;> by_cases h2 : s.2 = [] <;> simp [h1, h2]
def refHasS (s : Sp) (v : List UInt8) : Bool := if refMayS s = false ∨ mayL v = false then false else (decide (s.1 = []) || !lessL v s.1) && (decide (s.2 = []) || !lessL s.2 v)
theorem refHas_is (s : Sp) (v : List UInt8) : refHasS s v = hasS s v := by
 unfold refHasS hasS
 rw [refMay_is, ahead_less, ahead_less]
 cases hm : mayS s
 ·simp
 ·cases hv : mayL v
  ·simp
  ·have := may_ne hv
   by_cases h1 : s.1 = [] <;> by_cases h2 : s.2 = [] <;> simp [h1, h2, this]
def refMeetO (a b : Sp) : Sp := (if b.1 ≠ [] ∧ (a.1 = [] ∨ lessL a.1 b.1 = true) then b.1 else a.1, if b.2 ≠ [] ∧ (a.2 = [] ∨ lessL b.2 a.2 = true) then b.2 else a.2)
theorem refMeet_is (a b : Sp) : refMeetO a b = meetO a b := by
 unfold refMeetO meetO laterB soonerB
 rw [ahead_less, ahead_less]
 refine Prod.ext ?_ ?_
 ·by_cases h1 : b.1 = [] <;> by_cases h2 : a.1 = [] <;> simp [h1, h2]
 ·by_cases h1 : b.2 = [] <;> by_cases h2 : a.2 = [] <;> simp [h1, h2]
/-! the least span of two -/
theorem join_bounds {a b : Sp} (ha : mayS a = true) (hb : mayS b = true) : boundB (joinS a b).1 = true ∧ boundB (joinS a b).2 = true := by
 unfold joinS
 rw [if_pos ⟨ha, hb⟩]
 refine ⟨?_, ?_⟩
 ·show boundB (if a.1 ≠ [] ∧ b.1 ≠ [] then soonerB a.1 b.1 else []) = true
  split
  ·exact bound_of (sooner_cases _ _) (mayS_iff.1 ha).1 (mayS_iff.1 hb).1
  ·rfl
 ·show boundB (if a.2 ≠ [] ∧ b.2 ≠ [] then laterB a.2 b.2 else []) = true
  split
  ·exact bound_of (later_cases _ _) (mayS_iff.1 ha).2.1 (mayS_iff.1 hb).2.1
  ·rfl
theorem sooner_le {a b : List UInt8} (ha : a ≠ []) (hb : b ≠ []) : le (soonerB a b) a ∧ le (soonerB a b) b ∧ soonerB a b ≠ [] := by
 unfold soonerB
 by_cases h : aheadB b a = true
 ·rw [if_pos (.inr h)]
  obtain ⟨_, _, h3⟩ := ahead_yes.1 h
  exact ⟨(le_total b a).resolve_right h3, le_refl b, hb⟩
 ·rw [if_neg (by rintro (e | e); exact ha e; exact h e)]
  rcases ahead_no.1 (Bool.eq_false_iff.2 h) with h2 | h2 | h2
  ·exact absurd h2 hb
  ·exact absurd h2 ha
  ·exact ⟨le_refl a, h2, ha⟩
theorem later_ge {a b : List UInt8} (ha : a ≠ []) (hb : b ≠ []) : le a (laterB a b) ∧ le b (laterB a b) ∧ laterB a b ≠ [] := by
 unfold laterB
 by_cases h : aheadB a b = true
 ·rw [if_pos (.inr h)]
  obtain ⟨_, _, h3⟩ := ahead_yes.1 h
  exact ⟨(le_total a b).resolve_right h3, le_refl b, hb⟩
 ·rw [if_neg (by rintro (e | e); exact ha e; exact h e)]
  rcases ahead_no.1 (Bool.eq_false_iff.2 h) with h2 | h2 | h2
  ·exact absurd h2 ha
  ·exact absurd h2 hb
  ·exact ⟨le_refl a, h2, ha⟩
theorem join_lo {a b : Sp} (ha : mayS a = true) (hb : mayS b = true) : (joinS a b).1 = [] ∨ (a.1 ≠ [] ∧ b.1 ≠ [] ∧ (joinS a b).1 = soonerB a.1 b.1) := by
 unfold joinS
 rw [if_pos ⟨ha, hb⟩]
 by_cases h : a.1 ≠ [] ∧ b.1 ≠ []
 ·exact .inr ⟨h.1, h.2, if_pos h⟩
 ·exact .inl (if_neg h)
theorem join_hi {a b : Sp} (ha : mayS a = true) (hb : mayS b = true) : (joinS a b).2 = [] ∨ (a.2 ≠ [] ∧ b.2 ≠ [] ∧ (joinS a b).2 = laterB a.2 b.2) := by
 unfold joinS
 rw [if_pos ⟨ha, hb⟩]
 by_cases h : a.2 ≠ [] ∧ b.2 ≠ []
 ·exact .inr ⟨h.1, h.2, if_pos h⟩
 ·exact .inl (if_neg h)
theorem join_may {a b : Sp} (ha : mayS a = true) (hb : mayS b = true) : mayS (joinS a b) = true := by
 have hB := join_bounds ha hb
 refine mayS_iff.2 ⟨hB.1, hB.2, ?_⟩
 rcases join_lo ha hb with h | ⟨h1, h2, h3⟩
 ·exact .inl h
 ·rcases join_hi ha hb with h | ⟨g1, g2, g3⟩
  ·exact .inr (.inl h)
  ·refine .inr (.inr ?_)
   rw [h3, g3]
   have hm := (mayS_iff.1 ha).2.2.resolve_left h1 |>.resolve_left g1
   exact le_trans (sooner_le h1 h2).1 (le_trans hm (later_ge g1 g2).1)
theorem within_iff {a b : Sp} : withinB a b = true ↔ mayS a = true ∧ mayS b = true ∧ (b.1 = [] ∨ a.1 ≠ [] ∧ le b.1 a.1) ∧ (b.2 = [] ∨ a.2 ≠ [] ∧ le a.2 b.2) := by
 unfold withinB
 simp only [Bool.and_eq_true, Bool.or_eq_true, Bool.not_eq_true', decide_eq_true_eq, and_assoc, ahead_no]
 constructor
 ·rintro ⟨h1, h2, h3, h4⟩
  refine ⟨h1, h2, ?_, ?_⟩
  ·rcases h3 with h | ⟨h, k⟩
   ·exact .inl h
   ·rcases k with k | k | k
    ·exact absurd k h
    ·exact .inl k
    ·exact .inr ⟨h, k⟩
  ·rcases h4 with h | ⟨h, k⟩
   ·exact .inl h
   ·rcases k with k | k | k
    ·exact .inl k
    ·exact absurd k h
    ·exact .inr ⟨h, k⟩
 ·rintro ⟨h1, h2, h3, h4⟩
  refine ⟨h1, h2, ?_, ?_⟩
  ·rcases h3 with h | ⟨h, k⟩
   ·exact .inl h
   ·exact .inr ⟨h, .inr (.inr k)⟩
  ·rcases h4 with h | ⟨h, k⟩
   ·exact .inl h
   ·exact .inr ⟨h, .inr (.inr k)⟩
theorem within_left {a b : Sp} (ha : mayS a = true) (hb : mayS b = true) : withinB a (joinS a b) = true ∧ withinB b (joinS a b) = true := by
 have hj := join_may ha hb
 refine ⟨within_iff.2 ⟨ha, hj, ?_, ?_⟩, within_iff.2 ⟨hb, hj, ?_, ?_⟩⟩
 ·rcases join_lo ha hb with h | ⟨h1, h2, h3⟩
  ·exact .inl h
  ·exact .inr ⟨h1, by rw [h3]; exact (sooner_le h1 h2).1⟩
 ·rcases join_hi ha hb with h | ⟨h1, h2, h3⟩
  ·exact .inl h
  ·exact .inr ⟨h1, by rw [h3]; exact (later_ge h1 h2).1⟩
 ·rcases join_lo ha hb with h | ⟨h1, h2, h3⟩
  ·exact .inl h
  ·exact .inr ⟨h2, by rw [h3]; exact (sooner_le h1 h2).2.1⟩
 ·rcases join_hi ha hb with h | ⟨h1, h2, h3⟩
  ·exact .inl h
  ·exact .inr ⟨h2, by rw [h3]; exact (later_ge h1 h2).2.1⟩
theorem within_has {a b : Sp} {v : List UInt8} (h : withinB a b = true) (hv : hasS a v = true) : hasS b v = true := by
 obtain ⟨_, hb, hl, hu⟩ := within_iff.1 h
 obtain ⟨_, h2, h3, h4⟩ := hasS_iff.1 hv
 refine hasS_iff.2 ⟨hb, h2, ?_, ?_⟩
 ·rcases hl with hl | ⟨g, hl⟩
  ·exact .inl hl
  ·rcases h3 with h3 | h3
   ·exact absurd h3 g
   ·exact .inr (le_trans hl h3)
 ·rcases hu with hu | ⟨g, hu⟩
  ·exact .inl hu
  ·rcases h4 with h4 | h4
   ·exact absurd h4 g
   ·exact .inr (le_trans h4 hu)
theorem join_least {a b c : Sp} (h1 : withinB a c = true) (h2 : withinB b c = true) : withinB (joinS a b) c = true := by
 obtain ⟨ha, hc, la, ua⟩ := within_iff.1 h1
 obtain ⟨hb, _, lb, ub⟩ := within_iff.1 h2
 refine within_iff.2 ⟨join_may ha hb, hc, ?_, ?_⟩
 ·rcases la with la | ⟨g1, la⟩
  ·exact .inl la
  ·rcases lb with lb | ⟨g2, lb⟩
   ·exact .inl lb
   ·rcases join_lo ha hb with h | ⟨_, _, h3⟩
    ·unfold joinS at h
     rw [if_pos ⟨ha, hb⟩] at h
     have h' : (if a.1 ≠ [] ∧ b.1 ≠ [] then soonerB a.1 b.1 else []) = [] := h
     rw [if_pos ⟨g1, g2⟩] at h'
     exact absurd h' (sooner_le g1 g2).2.2
    ·refine .inr ⟨by rw [h3]; exact (sooner_le g1 g2).2.2, ?_⟩
     rw [h3]
     rcases sooner_cases a.1 b.1 with e | e <;> rw [e] <;> assumption
 ·rcases ua with ua | ⟨g1, ua⟩
  ·exact .inl ua
  ·rcases ub with ub | ⟨g2, ub⟩
   ·exact .inl ub
   ·rcases join_hi ha hb with h | ⟨_, _, h3⟩
    ·unfold joinS at h
     rw [if_pos ⟨ha, hb⟩] at h
     have h' : (if a.2 ≠ [] ∧ b.2 ≠ [] then laterB a.2 b.2 else []) = [] := h
     rw [if_pos ⟨g1, g2⟩] at h'
     exact absurd h' (later_ge g1 g2).2.2
    ·refine .inr ⟨by rw [h3]; exact (later_ge g1 g2).2.2, ?_⟩
     rw [h3]
     rcases later_cases a.2 b.2 with e | e <;> rw [e] <;> assumption
/-! spans of one version, and without bounds -/
theorem one_has {v w : List UInt8} (hm : mayS (v, v) = true) (hv : v ≠ []) : hasS (v, v) w = decide (v = w) := by
 have hb : mayL v = true := by
  rcases bound_iff.1 (mayS_iff.1 hm).1 with h | h
  ·exact absurd h hv
  ·exact h
 refine Bool.eq_iff_iff.2 ?_
 rw [hasS_iff, decide_eq_true_eq]
 constructor
 ·rintro ⟨_, h2, h3, h4⟩
  have h3 := h3.resolve_left hv
  have h4 := h4.resolve_left hv
  have hn := row_compare.neg v w
  have e : compareL v w = 0 := by unfold le at h3 h4; show compareL v w = 0; have : compareL v w ≤ 0 := h3; have : compareL w v ≤ 0 := h4; omega
  rcases compare_zero e with e | ⟨e, _⟩
  ·exact e
  ·rw [hb] at e; cases e
 ·rintro rfl
  exact ⟨hm, hb, .inr (le_refl _), .inr (le_refl _)⟩
theorem may_none : mayS ([], []) = true := rfl
theorem within_all {a : Sp} (h : mayS a = true) : withinB a ([], []) = true := within_iff.2 ⟨h, may_none, .inl rfl, .inl rfl⟩
theorem within_self {a : Sp} (h : mayS a = true) : withinB a a = true := within_iff.2 ⟨h, h, by
 by_cases e : a.1 = []
 ·exact .inl e
 ·exact .inr ⟨e, le_refl _⟩, by
 by_cases e : a.2 = []
 ·exact .inl e
 ·exact .inr ⟨e, le_refl _⟩⟩
end Go.Proofs.YteailgjiifdgcaaGreatDoor.VerN

/- Plain facts on stable sorting: swaps of neighbours that stand the wrong way lead to one sorted row alone; parts that are sorted may be put together. Condition: a strict weak order. -/
namespace Go.Proofs.YteailgjiifdgcaaGreatDoor.SortM
variable {α : Type}

structure Swo (lt : α → α → Bool) : Prop where
 asymm : ∀ a b, lt a b = true → lt b a = false
 ntrans : ∀ a b c, lt b a = false → lt c b = false → lt c a = false

inductive Sw (lt : α → α → Bool) (l : List α) : List α → Prop
 | refl : Sw lt l l
 | step (p : List α) (x y : α) (q : List α) : Sw lt l (p ++ x :: y :: q) → lt y x = true → Sw lt l (p ++ y :: x :: q)

def Sorted (lt : α → α → Bool) (l : List α) : Prop := l.Pairwise fun a b => lt b a = false

variable {lt : α → α → Bool}
theorem Sw.trans {a b c : List α} (h : Sw lt a b) (k : Sw lt b c) : Sw lt a c := by
 induction k with
 | refl => exact h
 | step p x y q _ hlt ih => exact .step p x y q ih hlt
theorem Sw.perm {a b : List α} (h : Sw lt a b) : a.Perm b := by
 induction h with
 | refl => exact List.Perm.refl _
 | step p x y q _ _ ih => exact ih.trans (List.Perm.append_left _ (List.Perm.swap _ _ _))
theorem Sw.ctx {a b : List α} (h : Sw lt a b) (u v : List α) : Sw lt (u ++ a ++ v) (u ++ b ++ v) := by
 induction h with
 | refl => exact .refl
 | step p x y q _ hlt ih =>
  have h1 : u ++ (p ++ x :: y :: q) ++ v = (u ++ p) ++ x :: y :: (q ++ v) := by simp
  have h2 : u ++ (p ++ y :: x :: q) ++ v = (u ++ p) ++ y :: x :: (q ++ v) := by simp
  rw [h1] at ih
  rw [h2]
  exact .step _ x y _ ih hlt
theorem Sw.app {a b c d : List α} (h : Sw lt a b) (k : Sw lt c d) : Sw lt (a ++ c) (b ++ d) := by
 have h1 := h.ctx [] c
 have h2 := k.ctx b []
 simp only [List.nil_append, List.append_nil] at h1 h2
 exact h1.trans h2
theorem Sw.over (x : α) : ∀ (b : List α), (∀ y ∈ b, lt y x = true) → Sw lt (x :: b) (b ++ [x]) := by
 intro b
 induction b with
 | nil => intro _; exact .refl
 | cons y b ih =>
  intro h
  have h1 : Sw lt (x :: y :: b) (y :: x :: b) := .step [] x y b .refl (h y (by simp))
  have h2 := (ih (fun z hz => h z (by simp [hz]))).ctx [y] []
  simp only [List.append_nil] at h2
  exact h1.trans h2
theorem Sw.blocks : ∀ (a b : List α), (∀ x ∈ a, ∀ y ∈ b, lt y x = true) → Sw lt (a ++ b) (b ++ a) := by
 intro a
 induction a with
 | nil => intro b _; rw [List.append_nil]; exact .refl
 | cons x a ih =>
  intro b h
  have h1 := (ih b (fun z hz => h z (by simp [hz]))).ctx [x] []
  have h2 := (Sw.over x b (h x (by simp))).ctx [] a
  simp only [List.append_nil, List.nil_append] at h1 h2
  have e : x :: b ++ a = [x] ++ (b ++ a) := rfl
  rw [e] at h2
  refine h1.trans (h2.trans ?_)
  rw [List.append_assoc]
  exact .refl

def eqv (lt : α → α → Bool) (a x : α) : Bool := !lt a x && !lt x a
theorem eqv_of (h : Swo lt) {a x y : α} (hx : eqv lt a x = true) (hy : eqv lt a y = true) : lt y x = false := by
 unfold eqv at hx hy
 simp only [Bool.and_eq_true, Bool.not_eq_true'] at hx hy
 exact h.ntrans x a y hx.1 hy.2
theorem Sw.filter (h : Swo lt) {l m : List α} (k : Sw lt l m) (a : α) : l.filter (eqv lt a) = m.filter (eqv lt a) := by
 induction k with
 | refl => rfl
 | step p x y q _ hlt ih =>
  rw [ih]
  simp only [List.filter_append, List.filter_cons]
  cases hx : eqv lt a x <;> cases hy : eqv lt a y <;> simp
  rw [eqv_of h hx hy] at hlt
  cases hlt
theorem irrefl (h : Swo lt) (a : α) : lt a a = false := by
 cases e : lt a a
 ·rfl
 ·have := h.asymm a a e; rw [e] at this; exact this
theorem eqv_self (h : Swo lt) (a : α) : eqv lt a a = true := by unfold eqv; rw [irrefl h a]; rfl
theorem uniq (h : Swo lt) : ∀ (a b : List α), a.Perm b → (∀ x, a.filter (eqv lt x) = b.filter (eqv lt x)) → Sorted lt a → Sorted lt b → a = b := by
 intro a
 induction a with
 | nil => intro b hp _ _ _; exact hp.nil_eq
 | cons x a ih =>
  intro b hp hf ha hb
  match b with
  | [] => exact absurd hp.symm.nil_eq (by simp)
  | y :: b =>
   have h1 : lt y x = false := by
    have hy : y ∈ x :: a := hp.symm.subset (by simp)
    rcases List.mem_cons.1 hy with e | hy
    ·rw [e]; exact irrefl h x
    ·exact (List.pairwise_cons.1 ha).1 y hy
   have h2 : lt x y = false := by
    have hx : x ∈ y :: b := hp.subset (by simp)
    rcases List.mem_cons.1 hx with e | hx
    ·rw [e]; exact irrefl h y
    ·exact (List.pairwise_cons.1 hb).1 x hx
   have h3 : eqv lt x y = true := by unfold eqv; rw [h1, h2]; rfl
   have hx := hf x
   rw [List.filter_cons, List.filter_cons, if_pos (eqv_self h x), if_pos h3] at hx
   injection hx with hxy _
   subst hxy
   congr 1
   refine ih b (List.Perm.cons_inv hp) (fun z => ?_) (List.pairwise_cons.1 ha).2 (List.pairwise_cons.1 hb).2
   have := hf z
   rw [List.filter_cons, List.filter_cons] at this
   split at this
   ·injection this
   ·exact this
def ins (lt : α → α → Bool) (x : α) : List α → List α
 | [] => [x]
 | y :: l => if lt x y = true then x :: y :: l else y :: ins lt x l
def ssort (lt : α → α → Bool) (l : List α) : List α := l.foldl (fun r x => ins lt x r) []
theorem mem_ins (x z : α) (l : List α) : z ∈ ins lt x l ↔ z = x ∨ z ∈ l := by
 induction l with
 | nil => simp [ins]
 | cons y l ih =>
  unfold ins
  split
  ·simp
  ·simp only [List.mem_cons, ih]
   constructor
   ·rintro (h | h | h)
    ·exact .inr (.inl h)
    ·exact .inl h
    ·exact .inr (.inr h)
   ·rintro (h | h | h)
    ·exact .inr (.inl h)
    ·exact .inl h
    ·exact .inr (.inr h)
theorem ins_sorted (h : Swo lt) (x : α) (l : List α) (hl : Sorted lt l) : Sorted lt (ins lt x l) := by
 induction l with
 | nil => simp [ins, Sorted]
 | cons y l ih =>
  have hl' := List.pairwise_cons.1 hl
  unfold ins
  split
  ·rename_i hxy
   refine List.pairwise_cons.2 ⟨fun z hz => ?_, hl⟩
   rcases List.mem_cons.1 hz with e | hz
   ·rw [e]; exact h.asymm _ _ hxy
   ·exact h.ntrans x y z (h.asymm _ _ hxy) (hl'.1 z hz)
  ·rename_i hxy
   refine List.pairwise_cons.2 ⟨fun z hz => ?_, ih hl'.2⟩
   rcases (mem_ins x z l).1 hz with e | hz
   ·rw [e]; simpa using hxy
   ·exact hl'.1 z hz
theorem ins_sw (h : Swo lt) (x : α) (l : List α) (hl : Sorted lt l) : Sw lt (l ++ [x]) (ins lt x l) := by
 induction l with
 | nil => exact .refl
 | cons y l ih =>
  have hl' := List.pairwise_cons.1 hl
  unfold ins
  split
  ·rename_i hxy
   have : ∀ z ∈ y :: l, lt x z = true := by
    intro z hz
    cases e : lt x z
    ·have h1 : lt x y = false := by
      rcases List.mem_cons.1 hz with e2 | hz
      ·rw [← e2]; exact e
      ·exact h.ntrans y z x (hl'.1 z hz) e
     rw [hxy] at h1; cases h1
    ·rfl
   have h2 := Sw.blocks (lt := lt) (y :: l) [x] (fun a ha b hb => by simp at hb; subst hb; exact this a ha)
   exact h2
  ·have h2 := (ih hl'.2).ctx [y] []
   simp only [List.append_nil] at h2
   exact h2
theorem fold_sorted (h : Swo lt) : ∀ (l r : List α), Sorted lt r → Sorted lt (l.foldl (fun r x => ins lt x r) r) ∧ Sw lt (r ++ l) (l.foldl (fun r x => ins lt x r) r) := by
 intro l
 induction l with
 | nil => intro r hr; exact ⟨hr, by rw [List.append_nil]; exact .refl⟩
 | cons x l ih =>
  intro r hr
  obtain ⟨h1, h2⟩ := ih (ins lt x r) (ins_sorted h x r hr)
  refine ⟨h1, ?_⟩
  have h3 := (ins_sw h x r hr).ctx [] l
  simp only [List.nil_append] at h3
  have e : r ++ [x] ++ l = r ++ x :: l := by simp
  rw [e] at h3
  exact h3.trans h2
theorem ssort_sorted (h : Swo lt) (l : List α) : Sorted lt (ssort lt l) := (fold_sorted h l [] List.Pairwise.nil).1
theorem ssort_sw (h : Swo lt) (l : List α) : Sw lt l (ssort lt l) := by
 have := (fold_sorted h l [] List.Pairwise.nil).2
 rw [List.nil_append] at this
 exact this
theorem ssort_eq (h : Swo lt) {l a : List α} (hs : Sw lt l a) (ha : Sorted lt a) : a = ssort lt l := by
 have h1 := ssort_sw h l
 exact uniq h a (ssort lt l) (hs.perm.symm.trans h1.perm) (fun x => (hs.filter h x).symm.trans (h1.filter h x)) ha (ssort_sorted h l)
theorem ssort_of_sw (h : Swo lt) {l a : List α} (hs : Sw lt l a) : ssort lt a = ssort lt l := ssort_eq h (hs.trans (ssort_sw h a)) (ssort_sorted h a)
theorem ssort_id (h : Swo lt) {l : List α} (hl : Sorted lt l) : ssort lt l = l := (ssort_eq h .refl hl).symm
theorem ssort_len (h : Swo lt) (l : List α) : (ssort lt l).length = l.length := (ssort_sw h l).perm.length_eq.symm
theorem mem_ssort (h : Swo lt) (l : List α) (x : α) : x ∈ ssort lt l ↔ x ∈ l := (ssort_sw h l).perm.symm.mem_iff
theorem ssort_app (h : Swo lt) (a b : List α) : ssort lt (ssort lt a ++ ssort lt b) = ssort lt (a ++ b) := ssort_of_sw h ((ssort_sw h a).app (ssort_sw h b))
theorem ssort_snoc (l : List α) (x : α) : ssort lt (l ++ [x]) = ins lt x (ssort lt l) := by unfold ssort; rw [List.foldl_append]; rfl
theorem ssort_cut (h : Swo lt) (l1 l2 r1 r2 : List α) (hx : ∀ x ∈ l2, ∀ y ∈ r1, lt y x = true) (h12 : ∀ a ∈ l1, ∀ b ∈ l2, lt b a = false) (hr : ∀ a ∈ r1, ∀ b ∈ r2, lt b a = false) (hlr : ∀ a ∈ l1, ∀ b ∈ r2, lt b a = false) :
  ssort lt (l1 ++ l2 ++ (r1 ++ r2)) = ssort lt (l1 ++ r1) ++ ssort lt (l2 ++ r2) := by
 symm
 apply ssort_eq h
 ·have h1 := (Sw.blocks l2 r1 hx).ctx l1 r2
  have e1 : l1 ++ (l2 ++ r1) ++ r2 = l1 ++ l2 ++ (r1 ++ r2) := by simp
  have e2 : l1 ++ (r1 ++ l2) ++ r2 = (l1 ++ r1) ++ (l2 ++ r2) := by simp
  rw [e1, e2] at h1
  exact h1.trans ((ssort_sw h _).app (ssort_sw h _))
 ·refine List.pairwise_append.2 ⟨ssort_sorted h _, ssort_sorted h _, fun a ha b hb => ?_⟩
  rw [mem_ssort h] at ha hb
  rcases List.mem_append.1 ha with ha | ha <;> rcases List.mem_append.1 hb with hb | hb
  ·exact h12 a ha b hb
  ·exact hlr a ha b hb
  ·exact h.asymm _ _ (hx b hb a ha)
  ·exact hr a ha b hb
theorem ins_at (h : Swo lt) (x : α) : ∀ (S : List α), Sorted lt S → ∀ m, m ≤ S.length → (∀ y ∈ S.drop m, lt x y = true) → (∀ y, S[m - 1]? = some y → 0 < m → lt x y = false) → S.take m ++ x :: S.drop m = ins lt x S := by
 intro S
 induction S with
 | nil => intro _ m hm _ _; simp [ins]
 | cons y S ih =>
  intro hS m hm h1 h2
  have hS' := List.pairwise_cons.1 hS
  match m with
  | 0 =>
   have := h1 y (by simp)
   simp [ins, this]
  | m + 1 =>
   have hxy : lt x y = false := by
    have hl : m < (y :: S).length := by simp at hm ⊢; omega
    have hlast := h2 (y :: S)[m] (by simp [List.getElem?_eq_getElem hl]) (by omega)
    by_cases h0 : m = 0
    ·subst h0; simpa using hlast
    ·have hmem : (y :: S)[m] ∈ S := by
      obtain ⟨j, rfl⟩ : ∃ j, m = j + 1 := ⟨m - 1, by omega⟩
      simp
     exact h.ntrans y _ x (hS'.1 _ hmem) hlast
   unfold ins
   rw [if_neg (by rw [hxy]; simp)]
   simp only [List.take_succ_cons, List.drop_succ_cons, List.cons_append]
   congr 1
   refine ih hS'.2 m (by simpa using hm) h1 (fun z hz hm0 => ?_)
   refine h2 z ?_ (by omega)
   obtain ⟨j, rfl⟩ : ∃ j, m = j + 1 := ⟨m - 1, by omega⟩
   simpa using hz
end Go.Proofs.YteailgjiifdgcaaGreatDoor.SortM

/- Plain facts on sets of spans: points, what spans cover; sets whose spans stand apart are known by what they cover; the form. -/
namespace Go.Proofs.YteailgjiifdgcaaGreatDoor.VerN
open Go.Lib SortM

abbrev Pt := Option (Bool × List UInt8)
def covS (s : Sp) : Pt → Prop
 | none => s.1 = []
 | some (false, p) => lower s.1 p ∧ upper s.2 p
 | some (true, p) => lower s.1 p ∧ (s.2 = [] ∨ ¬ le s.2 p)
def cov (l : List Sp) (x : Pt) : Prop := ∃ s ∈ l, covS s x
def bef (a b : Sp) : Prop := a.2 ≠ [] ∧ b.1 ≠ [] ∧ ¬ le b.1 a.2
def Sep (l : List Sp) : Prop := (∀ s ∈ l, mayS s = true) ∧ l.Pairwise bef
theorem le_anti {a b : List UInt8} (ha : mayL a = true) (h1 : le a b) (h2 : le b a) : a = b := by
 have h3 := row_compare.neg a b
 have h4 : compareL a b = 0 := by unfold le at h1 h2; omega
 rcases compare_zero h4 with h | ⟨h, _⟩
 ·exact h
 ·rw [ha] at h; cases h
theorem not_le_le {a b : List UInt8} (h : ¬ le a b) : le b a := (le_total a b).resolve_left h
theorem may_lo {s : Sp} (h : mayS s = true) (h1 : s.1 ≠ []) : mayL s.1 = true := (bound_iff.1 (mayS_iff.1 h).1).resolve_left h1
theorem may_hi {s : Sp} (h : mayS s = true) (h1 : s.2 ≠ []) : mayL s.2 = true := (bound_iff.1 (mayS_iff.1 h).2.1).resolve_left h1
theorem bef_apart {a b : Sp} (h : bef a b) (x : Pt) (ha : covS a x) (hb : covS b x) : False := by
 obtain ⟨h1, h2, h3⟩ := h
 match x, ha, hb with
 | none, _, hb => exact h2 hb
 | some (false, p), ha, hb =>
  rcases ha.2 with h | h
  ·exact h1 h
  ·rcases hb.1 with k | k
   ·exact h2 k
   ·exact h3 (le_trans k h)
 | some (true, p), ha, hb =>
  rcases ha.2 with h | h
  ·exact h1 h
  ·rcases hb.1 with k | k
   ·exact h2 k
   ·exact h3 (le_trans k (not_le_le h))
theorem cov_some {s : Sp} (h : mayS s = true) : ∃ x, covS s x := by
 by_cases h1 : s.1 = []
 ·exact ⟨none, h1⟩
 ·refine ⟨some (false, s.1), .inr (le_refl _), ?_⟩
  rcases (mayS_iff.1 h).2.2 with k | k | k
  ·exact absurd k h1
  ·exact .inl k
  ·exact .inr k
theorem cov_lo {g : Sp} {G : List Sp} (h : Sep (g :: G)) {p : List UInt8} (hx : cov (g :: G) (some (false, p))) : lower g.1 p := by
 obtain ⟨s, hs, hc⟩ := hx
 rcases List.mem_cons.1 hs with rfl | hs
 ·exact hc.1
 ·obtain ⟨b1, b2, b3⟩ := (List.pairwise_cons.1 h.2).1 s hs
  rcases (mayS_iff.1 (h.1 g (by simp))).2.2 with k | k | k
  ·exact .inl k
  ·exact absurd k b1
  ·rcases hc.1 with m | m
   ·exact absurd m b2
   ·exact .inr (le_trans (le_trans k (not_le_le b3)) m)
theorem cov_bot {g : Sp} {G : List Sp} (h : Sep (g :: G)) (hx : cov (g :: G) none) : g.1 = [] := by
 obtain ⟨s, hs, hc⟩ := hx
 rcases List.mem_cons.1 hs with rfl | hs
 ·exact hc
 ·exact absurd hc ((List.pairwise_cons.1 h.2).1 s hs).2.1
theorem lo_half {f g : Sp} {F G : List Sp} (hf : Sep (f :: F)) (hg : Sep (g :: G)) (h : ∀ x, cov (f :: F) x → cov (g :: G) x) : (f.1 = [] → g.1 = []) ∧ (f.1 ≠ [] → lower g.1 f.1) := by
 constructor
 ·intro e
  exact cov_bot hg (h none ⟨f, by simp, e⟩)
 ·intro e
  refine cov_lo hg (h _ ⟨f, by simp, .inr (le_refl _), ?_⟩)
  rcases (mayS_iff.1 (hf.1 f (by simp))).2.2 with k | k | k
  ·exact absurd k e
  ·exact .inl k
  ·exact .inr k
theorem lo_eq {f g : Sp} {F G : List Sp} (hf : Sep (f :: F)) (hg : Sep (g :: G)) (h : ∀ x, cov (f :: F) x ↔ cov (g :: G) x) : f.1 = g.1 := by
 obtain ⟨a1, a2⟩ := lo_half hf hg fun x => (h x).1
 obtain ⟨b1, b2⟩ := lo_half hg hf fun x => (h x).2
 by_cases e : f.1 = []
 ·rw [e, a1 e]
 ·have e2 : g.1 ≠ [] := fun k => e (b1 k)
  rcases a2 e with k | k
  ·exact absurd k e2
  ·rcases b2 e2 with m | m
   ·exact absurd m e
   ·exact le_anti (may_lo (hf.1 f (by simp)) e) m k
theorem hi_half {f g : Sp} {F G : List Sp} (hg : Sep (g :: G)) (e : f.1 = g.1) (h : ∀ x, cov (f :: F) x → cov (g :: G) x) (hg2 : g.2 ≠ []) : f.2 ≠ [] ∧ le f.2 g.2 := by
 by_cases hc : f.2 = [] ∨ ¬ le f.2 g.2
 ·exfalso
  have hlo : lower f.1 g.2 := by
   rw [e]
   rcases (mayS_iff.1 (hg.1 g (by simp))).2.2 with k | k | k
   ·exact .inl k
   ·exact absurd k hg2
   ·exact .inr k
  obtain ⟨s, hs, hk⟩ := h (some (true, g.2)) ⟨f, by simp, hlo, hc⟩
  rcases List.mem_cons.1 hs with rfl | hs
  ·rcases hk.2 with k | k
   ·exact hg2 k
   ·exact k (le_refl _)
  ·obtain ⟨_, b2, b3⟩ := (List.pairwise_cons.1 hg.2).1 s hs
   rcases hk.1 with k | k
   ·exact b2 k
   ·exact b3 k
 ·exact ⟨fun k => hc (.inl k), Classical.not_not.1 fun k => hc (.inr k)⟩
theorem hi_eq {f g : Sp} {F G : List Sp} (hf : Sep (f :: F)) (hg : Sep (g :: G)) (e : f.1 = g.1) (h : ∀ x, cov (f :: F) x ↔ cov (g :: G) x) : f.2 = g.2 := by
 by_cases e2 : g.2 = []
 ·rw [e2]
  refine Classical.not_not.1 fun k => ?_
  exact (hi_half hf e.symm (fun x => (h x).2) k).1 e2
 ·obtain ⟨a1, a2⟩ := hi_half hg e (fun x => (h x).1) e2
  obtain ⟨_, b2⟩ := hi_half hf e.symm (fun x => (h x).2) a1
  exact le_anti (may_hi (hf.1 f (by simp)) a1) a2 b2
theorem cov_tail {f : Sp} {F : List Sp} (h : Sep (f :: F)) (x : Pt) : cov F x ↔ cov (f :: F) x ∧ ¬ covS f x := by
 constructor
 ·rintro ⟨s, hs, hc⟩
  exact ⟨⟨s, by simp [hs], hc⟩, fun k => bef_apart ((List.pairwise_cons.1 h.2).1 s hs) x k hc⟩
 ·rintro ⟨⟨s, hs, hc⟩, hn⟩
  rcases List.mem_cons.1 hs with rfl | hs
  ·exact absurd hc hn
  ·exact ⟨s, hs, hc⟩
theorem Sep.tail {f : Sp} {F : List Sp} (h : Sep (f :: F)) : Sep F := ⟨fun s hs => h.1 s (by simp [hs]), (List.pairwise_cons.1 h.2).2⟩
theorem sep_one : ∀ (F G : List Sp), Sep F → Sep G → (∀ x, cov F x ↔ cov G x) → F = G
 | [], [], _, _, _ => rfl
 | [], g :: G, _, hg, h => by
  obtain ⟨x, hx⟩ := cov_some (hg.1 g (by simp))
  obtain ⟨s, hs, _⟩ := (h x).2 ⟨g, by simp, hx⟩
  simp at hs
 | f :: F, [], hf, _, h => by
  obtain ⟨x, hx⟩ := cov_some (hf.1 f (by simp))
  obtain ⟨s, hs, _⟩ := (h x).1 ⟨f, by simp, hx⟩
  simp at hs
 | f :: F, g :: G, hf, hg, h => by
  have e1 := lo_eq hf hg h
  have e2 := hi_eq hf hg e1 h
  obtain rfl : f = g := Prod.ext e1 e2
  rw [sep_one F G hf.tail hg.tail fun x => by rw [cov_tail hf, cov_tail hg, h x]]

/-! what meets, and the least span of two -/
theorem bef_iff {a b : Sp} : bef a b ↔ aheadB a.2 b.1 = true := by unfold bef; rw [ahead_yes]
def okb (lo hi : List UInt8) : Prop := lo = [] ∨ hi = [] ∨ le lo hi
theorem okb_bef {a b : Sp} : okb b.1 a.2 ↔ ¬ bef a b := by
 unfold okb bef
 constructor
 ·rintro (h | h | h) ⟨h1, h2, h3⟩
  ·exact h2 h
  ·exact h1 h
  ·exact h3 h
 ·intro h
  by_cases h2 : b.1 = []
  ·exact .inl h2
  ·by_cases h1 : a.2 = []
   ·exact .inr (.inl h1)
   ·exact .inr (.inr (Classical.not_not.1 fun k => h ⟨h1, h2, k⟩))
theorem okb_sooner {lo h k : List UInt8} : okb lo (soonerB h k) ↔ okb lo h ∧ okb lo k := by
 by_cases e : lo = []
 ·unfold okb; simp [e]
 ·have hh : ∀ x, okb lo x ↔ upper x lo := fun x => ⟨fun h => h.resolve_left e, fun h => .inr h⟩
  rw [hh, hh, hh]
  exact upper_sooner
theorem okb_later {x y hi : List UInt8} : okb (laterB x y) hi ↔ okb x hi ∧ okb y hi := by
 by_cases e : hi = []
 ·unfold okb; simp [e]
 ·have hh : ∀ x, okb x hi ↔ lower x hi := fun x => ⟨fun h => h.elim .inl fun h => .inr (h.resolve_left e), fun h => h.elim .inl fun h => .inr (.inr h)⟩
  rw [hh, hh, hh]
  exact lower_later
theorem may_okb {s : Sp} (h : mayS s = true) : okb s.1 s.2 := (mayS_iff.1 h).2.2
theorem meet_iff {a b : Sp} (ha : mayS a = true) (hb : mayS b = true) : meetOk a b = true ↔ ¬ bef a b ∧ ¬ bef b a := by
 unfold meetOk
 rw [ha, hb, Bool.true_and, Bool.true_and, mayS_iff]
 obtain ⟨h1, h2⟩ := meet_bounds ha hb
 rw [← okb_bef, ← okb_bef]
 constructor
 ·rintro ⟨_, _, h⟩
  have h : okb (laterB a.1 b.1) (soonerB a.2 b.2) := h
  rw [okb_later, okb_sooner, okb_sooner] at h
  exact ⟨h.2.1, h.1.2⟩
 ·rintro ⟨k1, k2⟩
  refine ⟨h1, h2, ?_⟩
  show okb (laterB a.1 b.1) (soonerB a.2 b.2)
  rw [okb_later, okb_sooner, okb_sooner]
  exact ⟨⟨may_okb ha, k2⟩, k1, may_okb hb⟩
theorem sooner_or {a b : List UInt8} (ha : a ≠ []) (hb : b ≠ []) (p : List UInt8) : le (soonerB a b) p ↔ le a p ∨ le b p := by
 obtain ⟨h1, h2, _⟩ := sooner_le ha hb
 constructor
 ·intro h
  rcases sooner_cases a b with e | e
  ·rw [e] at h; exact .inl h
  ·rw [e] at h; exact .inr h
 ·rintro (h | h)
  ·exact le_trans h1 h
  ·exact le_trans h2 h
theorem later_or {a b : List UInt8} (ha : a ≠ []) (hb : b ≠ []) (p : List UInt8) : le p (laterB a b) ↔ le p a ∨ le p b := by
 obtain ⟨h1, h2, _⟩ := later_ge ha hb
 constructor
 ·intro h
  rcases later_cases a b with e | e
  ·rw [e] at h; exact .inl h
  ·rw [e] at h; exact .inr h
 ·rintro (h | h)
  ·exact le_trans h h1
  ·exact le_trans h h2
theorem later_nle {a b : List UInt8} (ha : a ≠ []) (hb : b ≠ []) (p : List UInt8) : ¬ le (laterB a b) p ↔ ¬ le a p ∨ ¬ le b p := by
 obtain ⟨h1, h2, _⟩ := later_ge ha hb
 constructor
 ·intro h
  rcases later_cases a b with e | e
  ·rw [e] at h; exact .inl h
  ·rw [e] at h; exact .inr h
 ·rintro (h | h) k
  ·exact h (le_trans h1 k)
  ·exact h (le_trans h2 k)
theorem join_parts {a b : Sp} (ha : mayS a = true) (hb : mayS b = true) : joinS a b = (if a.1 ≠ [] ∧ b.1 ≠ [] then soonerB a.1 b.1 else [], if a.2 ≠ [] ∧ b.2 ≠ [] then laterB a.2 b.2 else []) := by
 unfold joinS; rw [if_pos ⟨ha, hb⟩]
theorem join_lower {a b : Sp} (ha : mayS a = true) (hb : mayS b = true) (p : List UInt8) : lower (joinS a b).1 p ↔ lower a.1 p ∨ lower b.1 p := by
 rw [join_parts ha hb]
 by_cases h : a.1 ≠ [] ∧ b.1 ≠ []
 ·have e := sooner_or h.1 h.2 p
  have n := (sooner_le h.1 h.2).2.2
  simp only [if_pos h]
  unfold lower
  simp only [h.1, h.2, n, false_or, e]
 ·simp only [if_neg h]
  refine ⟨fun _ => ?_, fun _ => .inl rfl⟩
  by_cases h1 : a.1 = []
  ·exact .inl (.inl h1)
  ·by_cases h2 : b.1 = []
   ·exact .inr (.inl h2)
   ·exact absurd ⟨h1, h2⟩ h
theorem join_nil {a b : Sp} (ha : mayS a = true) (hb : mayS b = true) : (joinS a b).1 = [] ↔ a.1 = [] ∨ b.1 = [] := by
 rw [join_parts ha hb]
 by_cases h : a.1 ≠ [] ∧ b.1 ≠ []
 ·have n := (sooner_le h.1 h.2).2.2
  simp only [if_pos h, n, h.1, h.2, or_self]
 ·simp only [if_neg h, true_iff]
  by_cases h1 : a.1 = []
  ·exact .inl h1
  ·by_cases h2 : b.1 = []
   ·exact .inr h2
   ·exact absurd ⟨h1, h2⟩ h
theorem join_upper {a b : Sp} (ha : mayS a = true) (hb : mayS b = true) (p : List UInt8) : upper (joinS a b).2 p ↔ upper a.2 p ∨ upper b.2 p := by
 rw [join_parts ha hb]
 by_cases h : a.2 ≠ [] ∧ b.2 ≠ []
 ·have e := later_or h.1 h.2 p
  have n := (later_ge h.1 h.2).2.2
  simp only [if_pos h]
  unfold upper
  simp only [h.1, h.2, n, false_or, e]
 ·simp only [if_neg h]
  refine ⟨fun _ => ?_, fun _ => .inl rfl⟩
  by_cases h1 : a.2 = []
  ·exact .inl (.inl h1)
  ·by_cases h2 : b.2 = []
   ·exact .inr (.inl h2)
   ·exact absurd ⟨h1, h2⟩ h
theorem join_gap {a b : Sp} (ha : mayS a = true) (hb : mayS b = true) (p : List UInt8) : ((joinS a b).2 = [] ∨ ¬ le (joinS a b).2 p) ↔ (a.2 = [] ∨ ¬ le a.2 p) ∨ (b.2 = [] ∨ ¬ le b.2 p) := by
 rw [join_parts ha hb]
 by_cases h : a.2 ≠ [] ∧ b.2 ≠ []
 ·have e := later_nle h.1 h.2 p
  have n := (later_ge h.1 h.2).2.2
  simp only [if_pos h, h.1, h.2, n, false_or, e]
 ·simp only [if_neg h, true_or, true_iff]
  by_cases h1 : a.2 = []
  ·exact .inl (.inl h1)
  ·by_cases h2 : b.2 = []
   ·exact .inr (.inl h2)
   ·exact absurd ⟨h1, h2⟩ h
theorem cross {a b : Sp} (h : ¬ bef a b) {p : List UInt8} (hlo : lower a.1 p) (hhi : upper b.2 p) : upper a.2 p ∨ lower b.1 p := by
 by_cases h1 : upper a.2 p
 ·exact .inl h1
 ·by_cases h2 : lower b.1 p
  ·exact .inr h2
  ·exfalso
   have a1 : a.2 ≠ [] := fun e => h1 (.inl e)
   have b1 : b.1 ≠ [] := fun e => h2 (.inl e)
   have a2 : ¬ le p a.2 := fun e => h1 (.inr e)
   have b2 : ¬ le b.1 p := fun e => h2 (.inr e)
   exact h ⟨a1, b1, fun k => b2 (le_trans k (not_le_le a2))⟩
theorem cross_gap {a b : Sp} (h : ¬ bef a b) {p : List UInt8} (hlo : lower a.1 p) (hhi : b.2 = [] ∨ ¬ le b.2 p) : (a.2 = [] ∨ ¬ le a.2 p) ∨ lower b.1 p := by
 by_cases h1 : a.2 = [] ∨ ¬ le a.2 p
 ·exact .inl h1
 ·by_cases h2 : lower b.1 p
  ·exact .inr h2
  ·exfalso
   have a1 : a.2 ≠ [] := fun e => h1 (.inl e)
   have b1 : b.1 ≠ [] := fun e => h2 (.inl e)
   have a2 : le a.2 p := Classical.not_not.1 fun e => h1 (.inr e)
   have b2 : ¬ le b.1 p := fun e => h2 (.inr e)
   exact h ⟨a1, b1, fun k => b2 (le_trans k a2)⟩
theorem join_cov {a b : Sp} (ha : mayS a = true) (hb : mayS b = true) (hm : meetOk a b = true) (x : Pt) : covS (joinS a b) x ↔ covS a x ∨ covS b x := by
 obtain ⟨h1, h2⟩ := (meet_iff ha hb).1 hm
 match x with
 | none => exact join_nil ha hb
 | some (false, p) =>
  show lower _ p ∧ upper _ p ↔ (lower _ p ∧ upper _ p) ∨ (lower _ p ∧ upper _ p)
  rw [join_lower ha hb, join_upper ha hb]
  constructor
  ·rintro ⟨l | l, u | u⟩
   ·exact .inl ⟨l, u⟩
   ·rcases cross h1 l u with k | k
    ·exact .inl ⟨l, k⟩
    ·exact .inr ⟨k, u⟩
   ·rcases cross h2 l u with k | k
    ·exact .inr ⟨l, k⟩
    ·exact .inl ⟨k, u⟩
   ·exact .inr ⟨l, u⟩
  ·rintro (⟨l, u⟩ | ⟨l, u⟩)
   ·exact ⟨.inl l, .inl u⟩
   ·exact ⟨.inr l, .inr u⟩
 | some (true, p) =>
  show lower _ p ∧ (_ ∨ _) ↔ (lower _ p ∧ (_ ∨ _)) ∨ (lower _ p ∧ (_ ∨ _))
  rw [join_lower ha hb, join_gap ha hb]
  constructor
  ·rintro ⟨l | l, u | u⟩
   ·exact .inl ⟨l, u⟩
   ·rcases cross_gap h1 l u with k | k
    ·exact .inl ⟨l, k⟩
    ·exact .inr ⟨k, u⟩
   ·rcases cross_gap h2 l u with k | k
    ·exact .inr ⟨l, k⟩
    ·exact .inl ⟨k, u⟩
   ·exact .inr ⟨l, u⟩
  ·rintro (⟨l, u⟩ | ⟨l, u⟩)
   ·exact ⟨.inl l, .inl u⟩
   ·exact ⟨.inr l, .inr u⟩

/-! the row by bounds below, and what is put together of it -/
def ltLo (a b : List UInt8) : Bool := decide (b ≠ []) && (decide (a = []) || decide (compareL a b < 0))
def loLe (a b : List UInt8) : Prop := a = [] ∨ (b ≠ [] ∧ le a b)
theorem ltLo_no {a b : List UInt8} : ltLo b a = false ↔ loLe a b := by
 have h : ¬ compareL b a < 0 ↔ le a b := by
  have := row_compare.neg a b
  unfold le; omega
 unfold ltLo loLe
 simp only [Bool.and_eq_false_iff, Bool.or_eq_false_iff, decide_eq_false_iff_not, ne_eq, Decidable.not_not, h]
def addS (out : List Sp) (x : Sp) : List Sp := match out.getLast? with
 | some z => if meetOk z x = true then out.dropLast ++ [joinS z x] else out ++ [x]
 | none => [x]
def mergeS (l : List Sp) : List Sp := l.foldl addS []
theorem addS_nil (x : Sp) : addS [] x = [x] := rfl
theorem addS_snoc (O : List Sp) (z x : Sp) : addS (O ++ [z]) x = if meetOk z x = true then O ++ [joinS z x] else O ++ [z, x] := by
 unfold addS
 simp
theorem join_first {z x : Sp} (hz : mayS z = true) (hx : mayS x = true) (h : loLe z.1 x.1) : (joinS z x).1 = z.1 := by
 rw [join_parts hz hx]
 by_cases h1 : z.1 ≠ [] ∧ x.1 ≠ []
 ·simp only [if_pos h1]
  unfold soonerB
  rcases h with h | h
  ·exact absurd h h1.1
  ·rw [if_neg]
   rintro (k | k)
   ·exact h1.1 k
   ·exact (ahead_yes.1 k).2.2 h.2
 ·simp only [if_neg h1]
  rcases h with h | h
  ·exact h.symm
  ·by_cases e : z.1 = []
   ·exact e.symm
   ·exact absurd ⟨e, h.1⟩ h1
theorem apart_of {z x : Sp} (hz : mayS z = true) (hx : mayS x = true) (h : loLe z.1 x.1) (hm : meetOk z x = false) : bef z x := by
 refine Classical.not_not.1 fun hn => ?_
 have : ¬ (¬ bef z x ∧ ¬ bef x z) := fun k => by rw [(meet_iff hz hx).2 k] at hm; cases hm
 refine this ⟨hn, ?_⟩
 rintro ⟨b1, b2, b3⟩
 rcases h with h | ⟨h1, h⟩
 ·exact b2 h
 ·rcases may_okb hx with k | k | k
  ·exact h1 k
  ·exact b1 k
  ·exact b3 (le_trans h k)
theorem bef_lo {o z x : Sp} (h : bef o z) (hl : loLe z.1 x.1) : bef o x := by
 obtain ⟨h1, h2, h3⟩ := h
 rcases hl with k | ⟨k1, k⟩
 ·exact absurd k h2
 ·exact ⟨h1, k1, fun m => h3 (le_trans k m)⟩
def Lo (a b : Sp) : Prop := loLe a.1 b.1
theorem add_sep {O : List Sp} {x : Sp} {r : List Sp} (ho : Sep O) (hx : mayS x = true) (hl : ∀ z, O.getLast? = some z → ∀ y ∈ x :: r, Lo z y) (hr : (x :: r).Pairwise Lo) :
  Sep (addS O x) ∧ (∀ z, (addS O x).getLast? = some z → ∀ y ∈ r, Lo z y) ∧ ∀ p, cov (addS O x) p ↔ cov O p ∨ covS x p := by
 rcases List.eq_nil_or_concat O with rfl | ⟨Q, z, rfl⟩
 ·rw [addS_nil]
  refine ⟨⟨fun s hs => by rw [List.mem_singleton.1 hs]; exact hx, by simp⟩, fun z hz y hy => ?_, fun p => ?_⟩
  ·simp at hz; subst hz
   exact (List.pairwise_cons.1 hr).1 y hy
  ·unfold cov; simp
 ·rw [List.concat_eq_append] at *
  rw [addS_snoc]
  have hzx : Lo z x := hl z (by simp) x (by simp)
  have hzm : mayS z = true := ho.1 z (by simp)
  obtain ⟨p1, p2, p3⟩ := List.pairwise_append.1 ho.2
  cases hm : meetOk z x with
  | true =>
   rw [if_pos rfl]
   have hj := join_first hzm hx hzx
   refine ⟨⟨fun s hs => ?_, ?_⟩, fun s hs y hy => ?_, fun p => ?_⟩
   ·rcases List.mem_append.1 hs with h | h
    ·exact ho.1 s (by simp [h])
    ·rw [List.mem_singleton.1 h]; exact join_may hzm hx
   ·refine List.pairwise_append.2 ⟨p1, by simp, fun o hO s hs => ?_⟩
    rw [List.mem_singleton.1 hs]
    obtain ⟨b1, b2, b3⟩ := p3 o hO z (by simp)
    exact ⟨b1, by rw [hj]; exact b2, by rw [hj]; exact b3⟩
   ·simp at hs; subst hs
    show loLe _ _
    rw [hj]
    exact hl z (by simp) y (by simp [hy])
   ·have hc := join_cov hzm hx hm p
    unfold cov
    simp only [List.mem_append, List.mem_singleton, or_and_right, exists_or, exists_eq_left, hc, or_assoc]
  | false =>
   rw [if_neg (by simp)]
   have hb := apart_of hzm hx hzx hm
   refine ⟨⟨fun s hs => ?_, ?_⟩, fun s hs y hy => ?_, fun p => ?_⟩
   ·rcases List.mem_append.1 hs with h | h
    ·exact ho.1 s (by simp [h])
    ·rcases List.mem_cons.1 h with rfl | h
     ·exact hzm
     ·rw [List.mem_singleton.1 h]; exact hx
   ·refine List.pairwise_append.2 ⟨p1, by simpa using hb, fun o hO s hs => ?_⟩
    have b := p3 o hO z (by simp)
    rcases List.mem_cons.1 hs with rfl | h
    ·exact b
    ·rw [List.mem_singleton.1 h]; exact bef_lo b hzx
   ·simp at hs; subst hs
    exact (List.pairwise_cons.1 hr).1 y hy
   ·unfold cov
    simp only [List.mem_append, List.mem_singleton, List.mem_cons, List.not_mem_nil, or_false, or_and_right, exists_or, exists_eq_left, or_assoc]
theorem fold_sep : ∀ (r O : List Sp), Sep O → (∀ s ∈ r, mayS s = true) → (∀ z, O.getLast? = some z → ∀ y ∈ r, Lo z y) → r.Pairwise Lo → Sep (r.foldl addS O) ∧ ∀ p, cov (r.foldl addS O) p ↔ cov O p ∨ cov r p
 | [], O, ho, _, _, _ => ⟨ho, fun p => by simp [cov]⟩
 | x :: r, O, ho, hm, hl, hr => by
  obtain ⟨h1, h2, h3⟩ := add_sep ho (hm x (by simp)) hl hr
  obtain ⟨k1, k2⟩ := fold_sep r (addS O x) h1 (fun s hs => hm s (by simp [hs])) h2 (List.pairwise_cons.1 hr).2
  refine ⟨k1, fun p => ?_⟩
  rw [List.foldl_cons, k2 p, h3 p]
  unfold cov
  simp only [List.mem_cons, or_and_right, exists_or, exists_eq_left, or_assoc]
theorem merge_sep {r : List Sp} (hm : ∀ s ∈ r, mayS s = true) (hr : r.Pairwise Lo) : Sep (mergeS r) ∧ ∀ p, cov (mergeS r) p ↔ cov r p := by
 obtain ⟨h1, h2⟩ := fold_sep r [] ⟨fun s hs => by simp at hs, List.Pairwise.nil⟩ hm (fun z hz => by simp at hz) hr
 exact ⟨h1, fun p => by rw [mergeS, h2 p]; simp [cov]⟩
theorem sep_of {r : List Sp} (hm : ∀ s ∈ r, mayS s = true) (hr : r.Pairwise Lo) (hn : r.Pairwise fun a b => meetOk a b = false) : Sep r := by
 refine ⟨hm, ?_⟩
 refine (List.pairwise_and_iff.2 ⟨hr, hn⟩).imp_of_mem ?_
 intro a b ha hb h
 exact apart_of (hm a ha) (hm b hb) h.1 h.2
theorem cov_perm {a b : List Sp} (h : a.Perm b) (p : Pt) : cov a p ↔ cov b p := by
 unfold cov
 simp only [h.mem_iff]
theorem cov_append (a b : List Sp) (p : Pt) : cov (a ++ b) p ↔ cov a p ∨ cov b p := by
 unfold cov
 simp only [List.mem_append, or_and_right, exists_or]
end Go.Proofs.YteailgjiifdgcaaGreatDoor.VerN

/- A slice's elements as values, and a row that a call owns read as a slice. No condition. -/
namespace Go.Proofs.YteailgjiifdgcaaGreatDoor
open Go.RowKit

theorem slice_vals {α : Type} {R : Rd α} {w : World} {v : Value} {l : List α} (h : RSlice 1 R w [v] l) : ∃ (a : Option Addr) (cap : Nat) (vs : List Value), v = .slice a l.length cap ∧ l.length ≤ cap ∧ cap ≤ maxLen ∧ vs.length = l.length ∧ (∀ (i : Nat) u, vs[i]? = some u → ∃ b off, a = some ⟨b, off, none⟩ ∧ w.cell? ⟨b, off + i, none⟩ = some u) ∧ ∀ (i : Nat) u x, vs[i]? = some u → l[i]? = some x → R w [u] x := by
 obtain ⟨a, cap, hv, hcap, hmax, hel⟩ := h
 simp only [List.cons.injEq, and_true] at hv
 have hex : ∀ i (hi : i < l.length), ∃ u, (∃ b off, a = some ⟨b, off, none⟩ ∧ w.cell? ⟨b, off + i, none⟩ = some u) ∧ R w [u] l[i] := by
  intro i hi
  obtain ⟨b, off, ecs, h1, h2, h3, h4⟩ := hel i l[i] (List.getElem?_eq_getElem hi)
  match ecs, h2 with
  | [u], _ => exact ⟨u, ⟨b, off, h1, by simpa using h3 0 u rfl⟩, h4⟩
 have build : ∀ k, k ≤ l.length → ∃ vs : List Value, vs.length = k ∧ (∀ (i : Nat) u, vs[i]? = some u → ∃ b off, a = some ⟨b, off, none⟩ ∧ w.cell? ⟨b, off + i, none⟩ = some u) ∧ ∀ (i : Nat) u x, vs[i]? = some u → l[i]? = some x → R w [u] x := by
  intro k
  induction k with
  | zero => exact fun _ => ⟨[], rfl, fun i u h => by simp at h, fun i u x h => by simp at h⟩
  | succ k ih =>
   intro hk
   obtain ⟨vs, h1, h2, h3⟩ := ih (by omega)
   obtain ⟨u, h4, h5⟩ := hex k (by omega)
   refine ⟨vs ++ [u], by simp [h1], fun i x hx => ?_, fun i x y hx hy => ?_⟩
   ·by_cases hi : i < vs.length
    ·rw [List.getElem?_append_left hi] at hx; exact h2 i x hx
    ·have hlt := (List.getElem?_eq_some_iff.1 hx).1
     have e : i = vs.length := by simp at hlt; omega
     rw [List.getElem?_append_right (by omega), e, Nat.sub_self] at hx
     simp at hx; subst hx
     rw [e, h1]; exact h4
   ·by_cases hi : i < vs.length
    ·rw [List.getElem?_append_left hi] at hx; exact h3 i x y hx hy
    ·have hlt := (List.getElem?_eq_some_iff.1 hx).1
     have e : i = vs.length := by simp at hlt; omega
     rw [List.getElem?_append_right (by omega), e, Nat.sub_self] at hx
     simp at hx; subst hx
     rw [e, h1, List.getElem?_eq_getElem (by omega)] at hy
     simp at hy; subst hy
     exact h5
 obtain ⟨vs, h1, h2, h3⟩ := build l.length (Nat.le_refl _)
 exact ⟨a, cap, vs, hv, hcap, hmax, h1, h2, h3⟩
theorem slice_of_owns {α : Type} {R : Rd α} {w : World} {B : Nat} {e : TypeId} {v : Value} {vs : List Value} {l : List α} (hlen : vs.length = l.length) (h : w.ownsRow B e 1 v l.length vs) (hr : ∀ (i : Nat) u x, vs[i]? = some u → l[i]? = some x → R w [u] x) : RSlice 1 R w [v] l := by
 obtain ⟨a, cap, rfl, h1, h2, h3⟩ := Sl.of_owns h
 refine ⟨a, cap, rfl, h1, h2, fun i f hi => ?_⟩
 have hil := (List.getElem?_eq_some_iff.1 hi).1
 have hiv : i < vs.length := by omega
 obtain ⟨b, off, ha, hc⟩ := h3 i vs[i] (List.getElem?_eq_getElem hiv)
 refine ⟨b, off, [vs[i]], ha, rfl, fun j u hu => ?_, hr i _ f (List.getElem?_eq_getElem hiv) hi⟩
 have hj : j = 0 := by have := (List.getElem?_eq_some_iff.1 hu).1; simp at this; omega
 subst hj
 simp at hu
 subst hu
 simpa using hc
end Go.Proofs.YteailgjiifdgcaaGreatDoor

/- The walks of the document's letters, Digits, part, Cut and May of versions. Condition: the text's reach. -/
namespace Go.Proofs.YteailgjiifdgcaaGreatDoor
open Go.RowKit Go.Lib VerN

theorem letOk_all {l : List UInt8} (h : letOk l = true) : ∀ x ∈ l, isLet x = true := by unfold letOk at h; rw [Bool.and_eq_true] at h; exact List.all_eq_true.1 h.2
theorem digs_all {l : List UInt8} (h : digs l = true) : ∀ x ∈ l, isDig x = true := by unfold digs at h; rw [Bool.and_eq_true] at h; exact List.all_eq_true.1 h.1
set_option maxRecDepth 10000 in
set_option maxHeartbeats 1000000 in
theorem letters1_any (s : ByteArray) (hs : s.size ≤ 9223372036854775807) (w : World) : Calls Tryz.prog 203 #[.string s] w fun e w' => e = .returned (.bool (letOk s.data.toList)) ∧ w = w' := by
 obtain ⟨l, hl⟩ : ∃ l, l = s.data.toList := ⟨_, rfl⟩
 have hln : l.length = s.size := by rw [hl]; exact Txt.len s
 obtain ⟨r, hr⟩ : ∃ r, r = letOk l := ⟨_, rfl⟩
 rw [← hl, ← hr]
 obtain ⟨Hl, Hln, Hr⟩ := hd3 hl hln hr; clear hl hln hr
 go_enter Tryz.func203, Tryz.ntmps203
 go_wp2_with fail
 go_loop [3] (fun i => ∃ k : Nat, k ≤ s.size ∧ i = .int .i64 k ∧ (l.take k).all isLet = true) (fun i => s.size - (RowKit.intOf i).toNat)
 case atStart => exact ⟨0, Nat.zero_le _, rfl, by simp⟩
 case round =>
  obtain ⟨k, hk, rfl, hall⟩ := hrel
  by_cases hlt : k < s.size
  ·have hkl : k < l.length := by have := Hln.out; omega
   obtain ⟨n, hn⟩ : ∃ n, n = s[k].toNat := ⟨_, rfl⟩
   have hn256 : n < 256 := by rw [hn]; exact s[k].toNat_lt
   have hsk : s[k].toNat = n := hn.symm
   have e : l[k] = s[k] := by simp only [Hl.out]; rfl
   have hyes : 97 ≤ n → n ≤ 122 → (l.take (k + 1)).all isLet = true := fun h1 h2 => by
    rw [List.take_succ_eq_append_getElem hkl, List.all_append, hall]
    simp only [List.all_cons, List.all_nil, Bool.and_true, Bool.true_and]
    rw [isLet_iff, e, hsk]; exact ⟨h1, h2⟩
   have hno : ¬ (97 ≤ n ∧ n ≤ 122) → r = false := fun h => by
    rw [Hr.out, Bool.eq_false_iff]
    intro h2
    have := (letOk_all h2) l[k] (List.getElem_mem hkl)
    rw [isLet_iff, e, hsk] at this
    exact h this
   clear hn e hkl
   rcases Nat.lt_or_ge n 97 with h1 | h1
   ·have hf := hno (by omega)
    have k1 : decide ((n : Int) < 97) = true := decide_eq_true (by omega)
    obtain ⟨Hall, Hyes, Hno, Hf⟩ := hd4 hall hyes hno hf; clear hall hyes hno hf
    go_wp2_with fail
    go_ret
    exact ⟨ret_bool Hf.out.symm, rfl⟩
   ·have k1 : decide ((n : Int) < 97) = false := decide_eq_false (by omega)
    rcases Nat.lt_or_ge 122 n with h2 | h2
    ·have hf := hno (by omega)
     have k2 : decide (122 < (n : Int)) = true := decide_eq_true (by omega)
     obtain ⟨Hall, Hyes, Hno, Hf⟩ := hd4 hall hyes hno hf; clear hall hyes hno hf
     go_wp2_with fail
     go_ret
     exact ⟨ret_bool Hf.out.symm, rfl⟩
    ·have k2 : decide (122 < (n : Int)) = false := decide_eq_false (by omega)
     have hnext := hyes h1 h2
     obtain ⟨Hall, Hyes, Hno, Hnext⟩ := hd4 hall hyes hno hnext; clear hall hyes hno hnext
     go_wp2_with fail
     go_round
     case rel => exact ⟨k + 1, by omega, by go_num, Hnext.out⟩
     case measure => simp [RowKit.intOf]; omega
  ·obtain rfl : k = s.size := by omega
   have hall2 : l.all isLet = true := by rw [List.take_of_length_le (by have := Hln.out; omega)] at hall; exact hall
   have hf : (!s.toList.isEmpty) = r := by
    rw [Hr.out, Txt.no_dec]
    have h0 := Hln.out
    unfold letOk
    rw [hall2]
    cases l with
    | nil => simp at h0; rw [decide_eq_true (by omega)]; rfl
    | cons x t => simp at h0; rw [decide_eq_false (by omega)]; rfl
   obtain ⟨Hall, Hall2, Hf⟩ := hd3 hall hall2 hf; clear hall hall2 hf
   go_wp2_with fail
   go_ret
   exact ⟨ret_bool Hf.out, rfl⟩
set_option maxRecDepth 10000 in
set_option maxHeartbeats 1000000 in
theorem digits1_any (s : ByteArray) (hs : s.size ≤ 9223372036854775807) (w : World) : Calls Tryz.prog 204 #[.string s] w fun e w' => e = .returned (.bool (digs s.data.toList)) ∧ w = w' := by
 obtain ⟨l, hl⟩ : ∃ l, l = s.data.toList := ⟨_, rfl⟩
 have hln : l.length = s.size := by rw [hl]; exact Txt.len s
 obtain ⟨r, hr⟩ : ∃ r, r = digs l := ⟨_, rfl⟩
 rw [← hl, ← hr]
 obtain ⟨Hl, Hln, Hr⟩ := hd3 hl hln hr; clear hl hln hr
 go_enter Tryz.func204, Tryz.ntmps204
 go_wp2_with fail
 go_loop [3] (fun i => ∃ k : Nat, k ≤ s.size ∧ i = .int .i64 k ∧ (l.take k).all isDig = true) (fun i => s.size - (RowKit.intOf i).toNat)
 case atStart => exact ⟨0, Nat.zero_le _, rfl, by simp⟩
 case round =>
  obtain ⟨k, hk, rfl, hall⟩ := hrel
  by_cases hlt : k < s.size
  ·have hkl : k < l.length := by have := Hln.out; omega
   obtain ⟨n, hn⟩ : ∃ n, n = s[k].toNat := ⟨_, rfl⟩
   have hn256 : n < 256 := by rw [hn]; exact s[k].toNat_lt
   have hsk : s[k].toNat = n := hn.symm
   have e : l[k] = s[k] := by simp only [Hl.out]; rfl
   have hyes : 48 ≤ n → n ≤ 57 → (l.take (k + 1)).all isDig = true := fun h1 h2 => by
    rw [List.take_succ_eq_append_getElem hkl, List.all_append, hall]
    simp only [List.all_cons, List.all_nil, Bool.and_true, Bool.true_and]
    rw [isDig_iff, e, hsk]; exact ⟨h1, h2⟩
   have hno : ¬ (48 ≤ n ∧ n ≤ 57) → r = false := fun h => by
    rw [Hr.out, Bool.eq_false_iff]
    intro h2
    have := (digs_all h2) l[k] (List.getElem_mem hkl)
    rw [isDig_iff, e, hsk] at this
    exact h this
   clear hn e hkl
   rcases Nat.lt_or_ge n 48 with h1 | h1
   ·have hf := hno (by omega)
    have k1 : decide ((n : Int) < 48) = true := decide_eq_true (by omega)
    obtain ⟨Hall, Hyes, Hno, Hf⟩ := hd4 hall hyes hno hf; clear hall hyes hno hf
    go_wp2_with fail
    go_ret
    exact ⟨ret_bool Hf.out.symm, rfl⟩
   ·have k1 : decide ((n : Int) < 48) = false := decide_eq_false (by omega)
    rcases Nat.lt_or_ge 57 n with h2 | h2
    ·have hf := hno (by omega)
     have k2 : decide (57 < (n : Int)) = true := decide_eq_true (by omega)
     obtain ⟨Hall, Hyes, Hno, Hf⟩ := hd4 hall hyes hno hf; clear hall hyes hno hf
     go_wp2_with fail
     go_ret
     exact ⟨ret_bool Hf.out.symm, rfl⟩
    ·have k2 : decide (57 < (n : Int)) = false := decide_eq_false (by omega)
     have hnext := hyes h1 h2
     obtain ⟨Hall, Hyes, Hno, Hnext⟩ := hd4 hall hyes hno hnext; clear hall hyes hno hnext
     go_wp2_with fail
     go_round
     case rel => exact ⟨k + 1, by omega, by go_num, Hnext.out⟩
     case measure => simp [RowKit.intOf]; omega
  ·obtain rfl : k = s.size := by omega
   have hall2 : l.all isDig = true := by rw [List.take_of_length_le (by have := Hln.out; omega)] at hall; exact hall
   have hf : (!s.toList.isEmpty) = r := by
    rw [Hr.out, Txt.no_dec]
    have h0 := Hln.out
    unfold digs
    rw [hall2]
    cases l with
    | nil => simp at h0; rw [decide_eq_true (by omega)]; rfl
    | cons x t => simp at h0; rw [decide_eq_false (by omega)]; rfl
   obtain ⟨Hall, Hall2, Hf⟩ := hd3 hall hall2 hf; clear hall hall2 hf
   go_wp2_with fail
   go_ret
   exact ⟨ret_bool Hf.out, rfl⟩
end Go.Proofs.YteailgjiifdgcaaGreatDoor

/- The walks of the document's part and before of versions. Condition: the text's reach. -/
namespace Go.Proofs.YteailgjiifdgcaaGreatDoor
open Go.RowKit Go.Lib VerN

theorem lead_is {l : List UInt8} (hne : l ≠ []) : lead l = (decide (l = [48]) || decide (l[0]'(List.length_pos_iff.2 hne) ≠ 48)) := by
 match l, hne with
 | x :: r, _ =>
  unfold lead
  simp
theorem part_split (l : List UInt8) : partL l = (letOk l || (digs l && (decide (l.length ≤ 9) && lead l))) := by
 unfold partL digOk digs
 cases l.isEmpty <;> cases l.all isDig <;> cases decide (l.length ≤ 9) <;> rfl
set_option maxRecDepth 10000 in
set_option maxHeartbeats 1000000 in
theorem part1_any (s : ByteArray) (hs : s.size ≤ 9223372036854775807) (w : World) : Calls Tryz.prog 171 #[.string s] w fun e w' => e = .returned (.bool (partL s.data.toList)) ∧ w = w' := by
 have hL := fun W => letters1_any s hs W
 have hD := fun W => digits1_any s hs W
 have hp := part_split s.data.toList
 have hlen := Txt.len s
 have hlead := fun h => lead_is (l := s.data.toList) h
 obtain ⟨r, hr⟩ : ∃ r, r = partL s.data.toList := ⟨_, rfl⟩
 obtain ⟨x, hx⟩ : ∃ r, r = letOk s.data.toList := ⟨_, rfl⟩
 obtain ⟨y, hy⟩ : ∃ r, r = digs s.data.toList := ⟨_, rfl⟩
 rw [← hr] at hp ⊢
 rw [← hx] at hL hp
 rw [← hy] at hD hp
 cases x with
 | true =>
  have h0 : r = true := by rw [hp]; rfl
  obtain ⟨HL, HD, Hp, Hlen, Hlead, Hr, Hx, Hy, H0⟩ := hd9 hL hD hp hlen hlead hr hx hy h0; clear hL hD hp hlen hlead hr hx hy h0
  go_enter Tryz.func171, Tryz.ntmps171
  go_wp2_with fail
  refine (HL.out _).mono ?_
  rintro e w1 ⟨rfl, rfl⟩
  go_wp2_with fail
  go_ret
  exact ⟨ret_bool H0.out.symm, rfl⟩
 | false =>
  cases y with
  | false =>
   have h0 : r = false := by rw [hp]; rfl
   obtain ⟨HL, HD, Hp, Hlen, Hlead, Hr, Hx, Hy, H0⟩ := hd9 hL hD hp hlen hlead hr hx hy h0; clear hL hD hp hlen hlead hr hx hy h0
   go_enter Tryz.func171, Tryz.ntmps171
   go_wp2_with fail
   refine (HL.out _).mono ?_
   rintro e w1 ⟨rfl, rfl⟩
   go_wp2_with fail
   refine (HD.out _).mono ?_
   rintro e w1 ⟨rfl, rfl⟩
   go_wp2_with fail
   go_ret
   exact ⟨ret_bool H0.out.symm, rfl⟩
  | true =>
   have hne : s.data.toList ≠ [] := fun e => by rw [e] at hy; cases hy
   have h1 : 0 < s.size := by rw [← hlen]; exact List.length_pos_iff.2 hne
   have hq : r = (decide (s.size ≤ 9) && (decide (s.data.toList = [48]) || decide (s[0] ≠ 48))) := by
    rw [hp, hlead hne, show decide (s.size ≤ 9) = decide (s.data.toList.length ≤ 9) by rw [hlen]]; rfl
   obtain ⟨n, hn⟩ : ∃ n, n = s[0].toNat := ⟨_, rfl⟩
   have hn256 : n < 256 := by rw [hn]; exact s[0].toNat_lt
   have hsk : s[0].toNat = n := hn.symm
   have hn48 : decide (s[0] ≠ 48) = decide (n ≠ 48) := by
    by_cases h : s[0] = 48
    ·rw [decide_eq_false (by simpa using h), decide_eq_false]
     rw [hn, h]; decide
    ·rw [decide_eq_true h, decide_eq_true]
     intro e
     exact h (UInt8.toNat_inj.1 (by rw [hsk, e]; rfl))
   have hone : (s.toList == [48]) = decide (s.data.toList = [48]) := by
    rw [toList_data]
    by_cases h : s.data.toList = [48]
    ·rw [h]; rfl
    ·rw [decide_eq_false h]; exact beq_eq_false_iff_ne.2 h
   rw [hn48] at hq
   by_cases h9 : s.size ≤ 9
   ·have k1 : decide ((s.size : Int) ≤ 9) = true := decide_eq_true (by omega)
    obtain ⟨b, hb⟩ : ∃ b, b = decide (s.data.toList = [48]) := ⟨_, rfl⟩
    rw [← hb] at hone hq
    rw [decide_eq_true h9] at hq
    clear hn hn48 hb
    cases b with
    | true =>
     have h0 : r = true := by rw [hq]; rfl
     obtain ⟨HL, HD, Hp, Hlen, Hlead, Hr, Hx, Hy, H0, Hq⟩ := hd10 hL hD hp hlen hlead hr hx hy h0 hq; clear hL hD hp hlen hlead hr hx hy h0 hq
     go_enter Tryz.func171, Tryz.ntmps171
     go_wp2_with fail
     refine (HL.out _).mono ?_
     rintro e w1 ⟨rfl, rfl⟩
     go_wp2_with fail
     refine (HD.out _).mono ?_
     rintro e w1 ⟨rfl, rfl⟩
     go_wp2_with fail
     go_ret
     exact ⟨ret_bool H0.out.symm, rfl⟩
    | false =>
     have h0 : ((n : Int) != 48) = r := by
      rw [hq]
      by_cases h : n = 48
      ·subst h; rfl
      ·rw [decide_eq_true h]; simp; omega
     obtain ⟨HL, HD, Hp, Hlen, Hlead, Hr, Hx, Hy, H0, Hq⟩ := hd10 hL hD hp hlen hlead hr hx hy h0 hq; clear hL hD hp hlen hlead hr hx hy h0 hq
     go_enter Tryz.func171, Tryz.ntmps171
     go_wp2_with fail
     refine (HL.out _).mono ?_
     rintro e w1 ⟨rfl, rfl⟩
     go_wp2_with fail
     refine (HD.out _).mono ?_
     rintro e w1 ⟨rfl, rfl⟩
     go_wp2_with fail
     go_ret
     exact ⟨ret_bool H0.out, rfl⟩
   ·have k1 : decide ((s.size : Int) ≤ 9) = false := decide_eq_false (by omega)
    have h0 : r = false := by rw [hq, decide_eq_false h9]; rfl
    clear hn hn48
    obtain ⟨HL, HD, Hp, Hlen, Hlead, Hr, Hx, Hy, H0, Hq, Hone⟩ := hd11 hL hD hp hlen hlead hr hx hy h0 hq hone; clear hL hD hp hlen hlead hr hx hy h0 hq hone
    go_enter Tryz.func171, Tryz.ntmps171
    go_wp2_with fail
    refine (HL.out _).mono ?_
    rintro e w1 ⟨rfl, rfl⟩
    go_wp2_with fail
    refine (HD.out _).mono ?_
    rintro e w1 ⟨rfl, rfl⟩
    go_wp2_with fail
    go_ret
    exact ⟨ret_bool H0.out.symm, rfl⟩
end Go.Proofs.YteailgjiifdgcaaGreatDoor

/- The walks of cmp.Compare and cmp.Or at numbers. No condition. -/
namespace Go.Proofs.YteailgjiifdgcaaGreatDoor
open Go.RowKit Go.Lib Go.Sort

def compareInt (x y : Int) : Int := if x < y then -1 else if y < x then 1 else 0
set_option maxRecDepth 10000 in
theorem compare_any (x y : Int) (w : World) : Calls Tryz.prog 199 #[.int .i64 x, .int .i64 y] w fun e w' => e = .returned (.int .i64 (compareInt x y)) ∧ w = w' := by
 by_cases h1 : x < y
 ·have e : compareInt x y = -1 := by unfold compareInt; rw [if_pos h1]
  rw [e]
  clear e
  go_enter Tryz.func199, Tryz.ntmps199
  go_wp2
  go_ret
  exact ⟨rfl, rfl⟩
 ·have h1' : y ≤ x := by omega
  by_cases h2 : y < x
  ·have e : compareInt x y = 1 := by unfold compareInt; rw [if_neg h1, if_pos h2]
   rw [e]
   clear e h1
   go_enter Tryz.func199, Tryz.ntmps199
   go_wp2
   go_ret
   exact ⟨rfl, rfl⟩
  ·have e : compareInt x y = 0 := by unfold compareInt; rw [if_neg h1, if_neg h2]
   obtain rfl : x = y := by omega
   rw [e]
   clear e h1 h2 h1'
   go_enter Tryz.func199, Tryz.ntmps199
   go_wp2
   go_ret
   exact ⟨rfl, rfl⟩
def orOf (l : List Int) : Int := match l with
 | [] => 0
 | x :: r => if x ≠ 0 then x else orOf r
theorem orOf_snoc (l : List Int) (k : Nat) (h : k < l.length) (h0 : orOf (l.take k) = 0) : orOf (l.take (k + 1)) = l[k] := by
 induction l generalizing k with
 | nil => simp at h
 | cons x r ih =>
  match k with
  | 0 => simp [orOf]; intro h; simp [h]
  | k + 1 =>
   have h1 : x = 0 := by
    rw [List.take_succ_cons, orOf] at h0
    split at h0
    ·rename_i hx; exact absurd h0 hx
    ·rename_i hx; simpa using hx
   subst h1
   have := ih k (by simpa using h) (by simpa [orOf] using h0)
   simpa [orOf] using this
theorem orOf_all (l : List Int) (k : Nat) (h : orOf (l.take k) ≠ 0) : orOf l = orOf (l.take k) := by
 induction l generalizing k with
 | nil => simp
 | cons x r ih =>
  match k with
  | 0 => simp [orOf] at h
  | k + 1 =>
   rw [List.take_succ_cons, orOf] at h ⊢
   rw [orOf]
   split
   ·rfl
   ·rename_i hx
    rw [if_neg hx] at h
    exact ih k h
set_option maxRecDepth 10000 in
set_option maxHeartbeats 400000 in
theorem or_any (b off cap : Nat) (l : List Int) (w : World) (hl : l.length ≤ 1000) (hc : ∀ i x, l[i]? = some x → w.cell? ⟨b, off + i, none⟩ = some (.int .i64 x)) :
  Calls Tryz.prog 198 #[.slice (some ⟨b, off, none⟩) l.length cap] w fun e w' => e = .returned (.int .i64 (orOf l)) ∧ w = w' := by
 obtain ⟨n, hn⟩ : ∃ n, n = l.length := ⟨_, rfl⟩
 rw [← hn] at hl ⊢
 obtain ⟨Hn, Hc⟩ := hd2 hn hc; clear hn hc
 go_enter Tryz.func198, Tryz.ntmps198
 go_wp2_with fail
 go_loop [8] (fun i => ∃ k : Nat, k ≤ n ∧ i = .int .i64 k ∧ orOf (l.take k) = 0) (fun i => n - (RowKit.intOf i).toNat)
 case atStart => exact ⟨0, Nat.zero_le _, rfl, by simp [orOf]⟩
 case round =>
  obtain ⟨k, hk, rfl, h0⟩ := hrel
  by_cases hlt : k < n
  ·have hkl : k < l.length := by have := Hn.out; omega
   obtain ⟨x, hx⟩ : ∃ x, x = l[k]'hkl := ⟨_, rfl⟩
   have c := Hc.out k x (by rw [hx]; exact List.getElem?_eq_getElem hkl)
   have hs := orOf_snoc l k hkl h0
   rw [← hx] at hs
   by_cases hz : x = 0
   ·have e1 : (x != 0) = false := by rw [hz]; rfl
    have h1 : orOf (l.take (k + 1)) = 0 := by rw [hs, hz]
    obtain ⟨Hx, Hs, H0, Hz, H1⟩ := hd5 hx hs h0 hz h1; clear hx hs h0 hz h1
    go_wp2_with fail
    go_round
    case rel => exact ⟨k + 1, by omega, by go_num, H1.out⟩
    case measure => simp [RowKit.intOf]; omega
   ·have e1 : (x != 0) = true := by simpa using hz
    have h1 : orOf l = x := by rw [orOf_all l (k + 1) (by rw [hs]; exact hz), hs]
    obtain ⟨Hx, Hs, H0, Hz, H1⟩ := hd5 hx hs h0 hz h1; clear hx hs h0 hz h1
    go_wp2_with fail
    go_ret
    exact ⟨ret_int (by rw [H1.out]), rfl⟩
  ·have h1 : orOf l = 0 := by
    rw [← h0, List.take_of_length_le (by have := Hn.out; omega)]
   obtain ⟨H0, H1⟩ := hd2 h0 h1; clear h0 h1
   go_wp2_with fail
   go_ret
   exact ⟨ret_int (by rw [H1.out]), rfl⟩
end Go.Proofs.YteailgjiifdgcaaGreatDoor
