/- Walks and plain facts. Texts merged: VerN, VerO, VerC, VerP, VerQ, VerT, SpnM, SortM, SpsM, Row, RefV, RefW, CmpI, CmpS, RefX, RefC, RefM, RefLs, VerR, ItOwn, Split, ResTwo, Parts. Condition: none beyond what each says. -/
import Derived.Lib.AtoiAll
import Derived.Lib.AtoiAllCases
import Derived.Lib.ItoaNum
import Derived.Lib.SplitLaws
import Derived.Lib.IndexBytes
import Derived.Lib.Split
import Derived.Test.YteailgjiifdgcaaGreatDoorRows
import Derived.Sort.Walk0
import Derived.Laws.Rows
import Derived.Laws.ResultCell
import Derived.RangeFuncNested
import Derived.RangeFuncBox
import Derived.RangeFuncCalls
import Derived.RangeFuncLeaves
import Derived.Shelf.Abstract
import Derived.OwnWalkIn
import Derived.TacticsInMore
import Derived.LoopNIn
import Derived.LoopIn
import Derived.Test.YteailgjiifdgcaaGreatDoorRequestJoinsAll2
set_option linter.unusedVariables false
set_option linter.unusedSimpArgs false
/- Plain facts: what version.read takes for a part, by Atoi and Itoa, is what the document takes for one. -/
namespace Go.Proofs.YteailgjiifdgcaaGreatDoor.VerN
open Go.Lib

def isDig (c : UInt8) : Bool := decide (48 ≤ c.toNat) && decide (c.toNat ≤ 57)
def isLet (c : UInt8) : Bool := decide (97 ≤ c.toNat) && decide (c.toNat ≤ 122)
theorem isDig_iff (c : UInt8) : isDig c = true ↔ 48 ≤ c.toNat ∧ c.toNat ≤ 57 := by unfold isDig; simp
theorem isLet_iff (c : UInt8) : isLet c = true ↔ 97 ≤ c.toNat ∧ c.toNat ≤ 122 := by unfold isLet; simp
def valFrom (acc : Nat) (l : List UInt8) : Nat := l.foldl (fun a c => a * 10 + (c.toNat - 48)) acc
theorem valFrom_ge : ∀ (l : List UInt8) (acc : Nat), acc ≤ valFrom acc l
 | [], _ => Nat.le_refl _
 | c :: r, acc => by have := valFrom_ge r (acc * 10 + (c.toNat - 48)); unfold valFrom at *; simp only [List.foldl_cons]; omega
theorem parse_ok : ∀ (l : List UInt8) (acc : Nat), l.all isDig = true → valFrom acc l < 9223372036854775808 → parseUint10 acc l = .ok (valFrom acc l)
 | [], _, _, _ => rfl
 | c :: r, acc, h, hv => by
  simp only [List.all_cons, Bool.and_eq_true] at h
  have hc := (isDig_iff c).1 h.1
  have hv' : valFrom (acc * 10 + (c.toNat - 48)) r < 9223372036854775808 := hv
  have hge := valFrom_ge r (acc * 10 + (c.toNat - 48))
  unfold parseUint10
  rw [if_pos hc, if_neg (by omega), if_neg (by omega), parse_ok r _ h.2 hv']
  rfl
theorem valFrom_snoc (l : List UInt8) (c : UInt8) (acc : Nat) : valFrom acc (l ++ [c]) = valFrom acc l * 10 + (c.toNat - 48) := by unfold valFrom; rw [List.foldl_append]; rfl
def lead (l : List UInt8) : Bool := decide (l = [48]) || decide (l.head? ≠ some 48)
theorem ofNat_dig {c : UInt8} (h : isDig c = true) : UInt8.ofNat (48 + (c.toNat - 48)) = c := by
 have := (isDig_iff c).1 h
 rw [show 48 + (c.toNat - 48) = c.toNat by omega]
 exact UInt8.ofNat_toNat
theorem snocInd {α : Type} {P : List α → Prop} (h0 : P []) (h1 : ∀ l c, P l → P (l ++ [c])) (l : List α) : P l := by
 have key : ∀ r : List α, P r.reverse := by
  intro r
  induction r with
  | nil => exact h0
  | cons c r ih => rw [List.reverse_cons]; exact h1 _ _ ih
 have := key l.reverse
 rwa [List.reverse_reverse] at this
theorem val_bounds : ∀ (l : List UInt8), l ≠ [] → l.all isDig = true → l.head? ≠ some 48 → 10 ^ (l.length - 1) ≤ valFrom 0 l ∧ valFrom 0 l < 10 ^ l.length := by
 intro l
 induction l using snocInd with
 | h0 => intro h; exact absurd rfl h
 | h1 l c ih =>
  intro _ hd hh
  simp only [List.all_append, List.all_cons, List.all_nil, Bool.and_true, Bool.and_eq_true] at hd
  have hc := (isDig_iff c).1 hd.2
  rw [valFrom_snoc]
  by_cases hl : l = []
  ·subst hl
   have : c.toNat ≠ 48 := fun e => hh (by
    have : c = 48 := UInt8.toNat_inj.1 e
    simp [this])
   simp [valFrom]; omega
  ·have hh' : l.head? ≠ some 48 := by
    match l, hl with
    | a :: r, _ => simpa using hh
   have := ih hl hd.1 hh'
   have hp : 0 < l.length := List.length_pos_iff.2 hl
   obtain ⟨k, hk⟩ : ∃ k, l.length = k + 1 := ⟨l.length - 1, by omega⟩
   rw [List.length_append, List.length_singleton]
   rw [hk] at this ⊢
   simp only [Nat.add_sub_cancel] at this ⊢
   rw [Nat.pow_succ, Nat.pow_succ]
   rw [Nat.pow_succ] at this
   omega
theorem dec_val : ∀ (l : List UInt8), l ≠ [] → l.all isDig = true → lead l = true → decDigits (valFrom 0 l) = l := by
 intro l
 induction l using snocInd with
 | h0 => intro h; exact absurd rfl h
 | h1 l c ih =>
  intro _ hd hh
  simp only [List.all_append, List.all_cons, List.all_nil, Bool.and_true, Bool.and_eq_true] at hd
  have hc := (isDig_iff c).1 hd.2
  rw [valFrom_snoc]
  by_cases hl : l = []
  ·subst hl
   rw [show valFrom 0 [] = 0 from rfl, Nat.zero_mul, Nat.zero_add, decDigits, dif_pos (by omega), ofNat_dig hd.2]
   rfl
  ·have hh' : l.head? ≠ some 48 := by
    match l, hl with
    | a :: r, _ =>
     unfold lead at hh
     simp only [Bool.or_eq_true, decide_eq_true_eq] at hh
     rcases hh with hh | hh
     ·simp at hh
     ·simpa using hh
   have hb := val_bounds l hl hd.1 hh'
   have h1 : 1 ≤ valFrom 0 l := Nat.le_trans (Nat.pos_of_ne_zero (by simp)) hb.1
   rw [decDigits, dif_neg (by omega), show (valFrom 0 l * 10 + (c.toNat - 48)) / 10 = valFrom 0 l by omega, show (valFrom 0 l * 10 + (c.toNat - 48)) % 10 = c.toNat - 48 by omega, ofNat_dig hd.2, ih hl hd.1 (by unfold lead; simp only [Bool.or_eq_true, decide_eq_true_eq]; exact .inr hh')]
theorem dec_dig : ∀ u : Nat, (decDigits u).all isDig = true ∧ decDigits u ≠ [] ∧ lead (decDigits u) = true ∧ valFrom 0 (decDigits u) = u := by
 intro u
 induction u using Nat.strongRecOn with
 | _ u ih =>
  rw [decDigits]
  have dg : ∀ d, d < 10 → (UInt8.ofNat (48 + d)).toNat = 48 + d := fun d hd => by rw [UInt8.toNat_ofNat']; omega
  split
  ·rename_i h
   have e := dg u h
   refine ⟨?_, by simp, ?_, ?_⟩
   ·simp only [List.all_cons, List.all_nil, Bool.and_true]
    rw [isDig_iff, e]; omega
   ·unfold lead
    simp only [List.head?_cons, Bool.or_eq_true, decide_eq_true_eq]
    by_cases h0 : u = 0
    ·left; subst h0; rfl
    ·right
     refine decide_eq_true fun e2 => ?_
     injection e2 with e2
     rw [e2] at e
     have : (48 : UInt8).toNat = 48 := rfl
     omega
   ·show 0 * 10 + ((UInt8.ofNat (48 + u)).toNat - 48) = u
    rw [e]; omega
  ·rename_i h
   have hi := ih (u / 10) (by omega)
   have e := dg (u % 10) (by omega)
   refine ⟨?_, by simp, ?_, ?_⟩
   ·rw [List.all_append, hi.1, Bool.true_and]
    simp only [List.all_cons, List.all_nil, Bool.and_true]
    rw [isDig_iff, e]; omega
   ·have hl := hi.2.2.1
    unfold lead at hl ⊢
    simp only [Bool.or_eq_true, decide_eq_true_eq] at hl ⊢
    right
    rcases hl with hl | hl
    ·exfalso
     have := hi.2.2.2
     rw [hl] at this
     have h0 : valFrom 0 [48] = 0 := rfl
     omega
    ·match hm : decDigits (u / 10), hi.2.1, hl with
     | a :: r, _, hl => simpa using hl
   ·rw [valFrom_snoc, hi.2.2.2, e]; omega

def readOk (l : List UInt8) : Bool := match atoiAll l with
 | .ok v => decide (0 ≤ v) && decide (v ≤ 999999999) && decide (itoa v = l)
 | _ => l.all isLet && !l.isEmpty
def digOk (l : List UInt8) : Bool := !l.isEmpty && l.all isDig && decide (l.length ≤ 9) && lead l
def letOk (l : List UInt8) : Bool := !l.isEmpty && l.all isLet
theorem val_le {l : List UInt8} (h : digOk l = true) : valFrom 0 l ≤ 999999999 := by
 unfold digOk at h
 simp only [Bool.and_eq_true, Bool.not_eq_true', decide_eq_true_eq] at h
 obtain ⟨⟨⟨h1, h2⟩, h3⟩, h4⟩ := h
 have hne : l ≠ [] := fun e => by subst e; simp at h1
 unfold lead at h4
 simp only [Bool.or_eq_true, decide_eq_true_eq] at h4
 rcases h4 with h4 | h4
 ·subst h4; decide
 ·have hb := (val_bounds l hne h2 h4).2
  have : 10 ^ l.length ≤ 10 ^ 9 := Nat.pow_le_pow_right (by decide) h3
  omega
theorem atoi_dig {l : List UInt8} (h : digOk l = true) : atoiAll l = .ok (valFrom 0 l : Nat) := by
 have hv := val_le h
 unfold digOk at h
 simp only [Bool.and_eq_true, Bool.not_eq_true', decide_eq_true_eq] at h
 obtain ⟨⟨⟨h1, h2⟩, h3⟩, h4⟩ := h
 match l, h1, h2, hv with
 | c :: r, _, h2, hv =>
  have hc := (isDig_iff c).1 (by simp only [List.all_cons, Bool.and_eq_true] at h2; exact h2.1)
  rw [atoiAll_plain c r (by omega) (by omega)]
  have hp : parseMag (c :: r) = .ok (valFrom 0 (c :: r)) := by unfold parseMag; rw [if_neg (by simp)]; exact parse_ok _ _ h2 (by omega)
  rw [hp]
  unfold signless
  simp only
  rw [if_neg (by omega)]
theorem itoa_nat (u : Nat) : itoa (u : Int) = decDigits u := by unfold itoa; rw [if_neg (by omega)]; simp
theorem read_is (l : List UInt8) : readOk l = (letOk l || digOk l) := by
 by_cases hd : digOk l = true
 ·rw [hd, Bool.or_true]
  unfold readOk
  rw [atoi_dig hd]
  have hv := val_le hd
  have hd' := hd
  unfold digOk at hd'
  simp only [Bool.and_eq_true, Bool.not_eq_true', decide_eq_true_eq] at hd'
  have hne : l ≠ [] := fun e => by subst e; simp at hd'
  have e := dec_val l hne hd'.1.1.2 hd'.2
  simp only
  rw [itoa_nat, e, decide_eq_true (by omega), decide_eq_true (by omega), decide_eq_true rfl]
  rfl
 ·rw [Bool.eq_false_iff.2 hd, Bool.or_false]
  unfold readOk
  cases ha : atoiAll l with
  | ok v =>
   simp only
   have hnl : letOk l = false := by
    match l, ha with
    | [], ha => rfl
    | c :: r, ha =>
     unfold letOk
     by_cases hc : isLet c = true
     ·have := (isLet_iff c).1 hc
      rw [atoiAll_plain c r (by omega) (by omega)] at ha
      have hp : parseMag (c :: r) = parseMag [] := by rw [parseMag, if_neg (by simp), parseUint10, if_neg (by omega)] <;> rfl
      rw [hp] at ha
      cases ha
     ·simp [hc]
   rw [hnl]
   by_cases hv : 0 ≤ v ∧ v ≤ 999999999 ∧ itoa v = l
   ·exfalso
    apply hd
    obtain ⟨u, rfl⟩ : ∃ u : Nat, v = u := ⟨v.toNat, by omega⟩
    have h2 := hv.2.2
    rw [itoa_nat] at h2
    have hk := dec_dig u
    rw [h2] at hk
    unfold digOk
    have hne : l.isEmpty = false := by cases l with | nil => exact absurd rfl hk.2.1 | cons _ _ => rfl
    rw [hne, hk.1, hk.2.2.1]
    have hlen : l.length ≤ 9 := by
     have hl := hk.2.2.1
     unfold lead at hl
     simp only [Bool.or_eq_true, decide_eq_true_eq] at hl
     rcases hl with hl | hl
     ·rw [hl]; decide
     ·have hb := (val_bounds l hk.2.1 hk.1 hl).1
      rw [hk.2.2.2] at hb
      by_cases h9 : l.length ≤ 9
      ·exact h9
      ·exfalso
       have : 10 ^ 9 ≤ 10 ^ (l.length - 1) := Nat.pow_le_pow_right (by decide) (by omega)
       omega
    rw [decide_eq_true hlen]
    rfl
   ·by_cases h0 : 0 ≤ v
    ·by_cases h1 : v ≤ 999999999
     ·have h2 : ¬ itoa v = l := fun e => hv ⟨h0, h1, e⟩
      simp [h2]
     ·simp [h1]
    ·simp [h0]
  | range => unfold letOk; simp only; rw [Bool.and_comm]
  | _ => unfold letOk; simp only; rw [Bool.and_comm]
end Go.Proofs.YteailgjiifdgcaaGreatDoor.VerN

/- Plain facts: how two parts that are numbers stand to each other. -/
namespace Go.Proofs.YteailgjiifdgcaaGreatDoor.VerN
open Go.Lib

end Go.Proofs.YteailgjiifdgcaaGreatDoor.VerN

/- Plain facts: how two parts stand to each other, by ranks, numbers and words, is the document's. -/
namespace Go.Proofs.YteailgjiifdgcaaGreatDoor.VerN
open Go.Lib

def rankOf (l : List UInt8) : Int := if l = [] then 1 else if letOk l = true then 0 else 2
def numOf (l : List UInt8) : Int := if letOk l = true then 0 else (valFrom 0 l : Nat)
def wordOf (l : List UInt8) : List UInt8 := if letOk l = true then l else []
def cmpI (x y : Int) : Int := if x < y then -1 else if x > y then 1 else 0
def cmpW (x y : List UInt8) : Int := if x < y then -1 else if y < x then 1 else 0
def pcmp (a b : List UInt8) : Int := if cmpI (rankOf a) (rankOf b) ≠ 0 then cmpI (rankOf a) (rankOf b) else if cmpI (numOf a) (numOf b) ≠ 0 then cmpI (numOf a) (numOf b) else cmpW (wordOf a) (wordOf b)
def digs (l : List UInt8) : Bool := l.all isDig && !l.isEmpty
def before (a b : List UInt8) : Bool :=
 if a = b then false else if a = [] then digs b else if b = [] then letOk a else if letOk a ≠ letOk b then letOk a else if digs a && decide (a.length ≠ b.length) then decide (a.length < b.length) else decide (a < b)
theorem not_both {l : List UInt8} (h : letOk l = true) : digs l = false ∧ digOk l = false := by
 match l with
 | [] => exact ⟨rfl, rfl⟩
 | c :: r =>
  unfold letOk at h
  simp only [List.all_cons, Bool.and_eq_true] at h
  have hc := (isLet_iff c).1 h.2.1
  have hd : isDig c = false := by unfold isDig; rw [decide_eq_true (by omega), decide_eq_false (by omega)]; rfl
  unfold digs digOk
  simp [hd]
theorem digs_of {l : List UInt8} (h : digOk l = true) : digs l = true ∧ letOk l = false ∧ l ≠ [] := by
 have hl : letOk l = false := by
  cases e : letOk l
  ·rfl
  ·rw [(not_both e).2] at h; cases h
 unfold digOk at h
 simp only [Bool.and_eq_true] at h
 refine ⟨by unfold digs; rw [h.1.1.2, h.1.1.1]; rfl, hl, fun e => by subst e; simp at h⟩
theorem let_ne {l : List UInt8} (h : letOk l = true) : l ≠ [] := fun e => by subst e; simp [letOk] at h
theorem dec_ne {a b : List UInt8} (h : a ≠ b) (h1 : ¬ a < b) : b < a := by
 rcases List.le_total a b with h2 | h2
 ·by_cases h3 : b < a
  ·exact h3
  ·exact absurd (List.le_antisymm h2 (List.not_lt.1 h1)) h
 ·by_cases h3 : b < a
  ·exact h3
  ·exact absurd (List.le_antisymm (List.not_lt.1 h3) (List.not_lt.1 h1)) h
theorem rk_let {l : List UInt8} (h : letOk l = true) : rankOf l = 0 := by unfold rankOf; rw [if_neg (let_ne h), if_pos h]
theorem rk_dig {l : List UInt8} (h : digOk l = true) : rankOf l = 2 := by unfold rankOf; rw [if_neg (digs_of h).2.2, if_neg (by rw [(digs_of h).2.1]; simp)]
end Go.Proofs.YteailgjiifdgcaaGreatDoor.VerN

/- Plain facts: how a text is cut, which texts are versions, and that they stand in a row. -/
namespace Go.Proofs.YteailgjiifdgcaaGreatDoor.VerN
open Go.Lib

def cutF (c : UInt8) : List UInt8 → List UInt8 → List (List UInt8)
 | acc, [] => [acc]
 | acc, x :: r => if x = c then acc :: cutF c [] r else cutF c (acc ++ [x]) r
def cutL (c : UInt8) (l : List UInt8) : List (List UInt8) := cutF c [] l
theorem cutF_cons_ne {c x : UInt8} (acc r : List UInt8) (h : x ≠ c) : cutF c acc (x :: r) = cutF c (acc ++ [x]) r := by rw [cutF, if_neg h]
theorem cutF_cons_eq (c : UInt8) (acc r : List UInt8) : cutF c acc (c :: r) = acc :: cutF c [] r := by rw [cutF, if_pos rfl]
theorem cutF_miss (c : UInt8) : ∀ (r acc : List UInt8), indexByte r c = -1 → cutF c acc r = [acc ++ r]
 | [], acc, _ => by rw [List.append_nil]; rfl
 | x :: r, acc, h => by
  unfold indexByte at h
  split at h
  ·cases h
  ·rename_i hx
   have hx' : x ≠ c := fun e => hx (by rw [e]; simp)
   have hr : indexByte r c = -1 := by
    split at h
    ·rename_i e; exact beq_iff_eq.1 e
    ·have := indexByte_ge r c; omega
   rw [cutF_cons_ne _ _ hx', cutF_miss c r _ hr, List.append_assoc]
   rfl
theorem cutF_hit (c : UInt8) : ∀ (r acc : List UInt8) (i : Nat), indexByte r c = i → cutF c acc r = (acc ++ r.take i) :: cutL c (r.drop (i + 1))
 | [], acc, i, h => by unfold indexByte at h; omega
 | x :: r, acc, i, h => by
  unfold indexByte at h
  split at h
  ·rename_i hx
   have hx' : x = c := by simpa using hx
   have hi : i = 0 := by omega
   subst hi; subst hx'
   rw [cutF_cons_eq]
   simp [cutL]
  ·rename_i hx
   have hx' : x ≠ c := fun e => hx (by rw [e]; simp)
   split at h
   ·omega
   ·rename_i hm
    obtain ⟨j, rfl⟩ : ∃ j, i = j + 1 := ⟨i - 1, by
     have := indexByte_ge r c
     have h0 : indexByte r c ≠ -1 := fun e => hm (by rw [e]; rfl)
     omega⟩
    have hr : indexByte r c = j := by omega
    rw [cutF_cons_ne _ _ hx', cutF_hit c r _ j hr, List.append_assoc]
    rfl
theorem cutF_len (c : UInt8) : ∀ (r acc : List UInt8), 1 ≤ (cutF c acc r).length ∧ (cutF c acc r).length ≤ r.length + 1
 | [], acc => ⟨Nat.le_refl _, Nat.le_refl _⟩
 | x :: r, acc => by
  by_cases h : x = c
  ·subst h
   have := cutF_len x r []
   rw [cutF_cons_eq]
   simp only [List.length_cons]
   omega
  ·have := cutF_len c r (acc ++ [x])
   rw [cutF_cons_ne _ _ h]
   simp only [List.length_cons]
   omega
theorem cutL_len (c : UInt8) (l : List UInt8) : 1 ≤ (cutL c l).length ∧ (cutL c l).length ≤ l.length + 1 := cutF_len c l []
theorem cutF_piece (c : UInt8) : ∀ (r acc p : List UInt8), p ∈ cutF c acc r → p.length ≤ acc.length + r.length
 | [], acc, p, h => by
  rw [show cutF c acc [] = [acc] from rfl, List.mem_singleton] at h
  subst h; omega
 | x :: r, acc, p, h => by
  by_cases hx : x = c
  ·subst hx
   rw [cutF_cons_eq] at h
   rcases List.mem_cons.1 h with rfl | h
   ·simp
   ·have := cutF_piece x r [] p h
    simp only [List.length_cons, List.length_nil] at this ⊢
    omega
  ·rw [cutF_cons_ne _ _ hx] at h
   have := cutF_piece c r _ p h
   simp only [List.length_append, List.length_cons, List.length_nil] at this ⊢
   omega
def partL (l : List UInt8) : Bool := letOk l || digOk l
def mayL (l : List UInt8) : Bool := decide (l ≠ []) && decide (l.length ≤ 40) && (cutL 46 l).all partL && decide ((cutL 46 l).length ≤ 8)
theorem may_iff (l : List UInt8) : mayL l = true ↔ l ≠ [] ∧ l.length ≤ 40 ∧ (∀ p ∈ cutL 46 l, partL p = true) ∧ (cutL 46 l).length ≤ 8 := by
 unfold mayL
 simp [and_assoc]

def cmpFrom (x y : List (List UInt8)) : Nat → Nat → Int
 | _, 0 => 0
 | i, n + 1 => if pcmp (x.getD i []) (y.getD i []) ≠ 0 then pcmp (x.getD i []) (y.getD i []) else cmpFrom x y (i + 1) n
def compareL (a b : List UInt8) : Int :=
 if mayL a = false ∧ mayL b = false then 0 else if mayL a = false then -1 else if mayL b = false then 1 else cmpFrom (cutL 46 a) (cutL 46 b) 0 (max (cutL 46 a).length (cutL 46 b).length)

structure Row {α : Type} (c : α → α → Int) : Prop where
 tri : ∀ x y, c x y = -1 ∨ c x y = 0 ∨ c x y = 1
 neg : ∀ x y, c y x = -c x y
 trans : ∀ x y z, c x y ≤ 0 → c y z ≤ 0 → c x z ≤ 0
theorem Row.lt1 {α : Type} {c : α → α → Int} (h : Row c) {x y z : α} (h1 : c x y < 0) (h2 : c y z ≤ 0) : c x z < 0 := by
 by_cases h3 : c x z < 0
 ·exact h3
 ·have a := h.neg x z
  have b := h.neg x y
  have := h.trans y z x h2 (by omega)
  omega
theorem Row.lt2 {α : Type} {c : α → α → Int} (h : Row c) {x y z : α} (h1 : c x y ≤ 0) (h2 : c y z < 0) : c x z < 0 := by
 by_cases h3 : c x z < 0
 ·exact h3
 ·have a := h.neg x z
  have b := h.neg y z
  have := h.trans z x y (by omega) h1
  omega
theorem Row.eq {α : Type} {c : α → α → Int} (h : Row c) {x y z : α} (h1 : c x y = 0) (h2 : c y z = 0) : c x z = 0 := by
 have a := h.trans x y z (by omega) (by omega)
 have b := h.trans z y x (by rw [h.neg]; omega) (by rw [h.neg]; omega)
 have d := h.neg x z
 omega
def thenBy {α : Type} (c d : α → α → Int) (x y : α) : Int := if c x y ≠ 0 then c x y else d x y
theorem Row.thenBy {α : Type} {c d : α → α → Int} (hc : Row c) (hd : Row d) : Row (thenBy c d) := by
 refine ⟨fun x y => ?_, fun x y => ?_, fun x y z h1 h2 => ?_⟩
 ·unfold VerN.thenBy; split
  ·exact hc.tri x y
  ·exact hd.tri x y
 ·unfold VerN.thenBy
  have := hc.neg x y
  by_cases h : c x y = 0
  ·rw [if_neg (by omega), if_neg (by omega)]; exact hd.neg x y
  ·rw [if_pos (by omega), if_pos (by omega)]; exact this
 ·unfold VerN.thenBy at h1 h2 ⊢
  by_cases a : c x y = 0
  ·rw [if_neg (by omega)] at h1
   by_cases b : c y z = 0
   ·rw [if_neg (by omega)] at h2
    rw [if_neg (by rw [hc.eq a b]; omega)]
    exact hd.trans x y z h1 h2
   ·rw [if_pos b] at h2
    have := hc.lt2 (x := x) (by omega : c x y ≤ 0) (by omega : c y z < 0)
    rw [if_pos (by omega)]; omega
  ·rw [if_pos a] at h1
   have h3 : c y z ≤ 0 := by
    by_cases b : c y z = 0
    ·omega
    ·rw [if_pos b] at h2; exact h2
   have := hc.lt1 (z := z) (by omega : c x y < 0) h3
   rw [if_pos (by omega)]; omega
theorem Row.map {α β : Type} {c : α → α → Int} (h : Row c) (f : β → α) : Row fun x y => c (f x) (f y) :=
 ⟨fun x y => h.tri _ _, fun x y => h.neg _ _, fun x y z => h.trans _ _ _⟩
theorem row_int : Row cmpI := by
 refine ⟨fun x y => ?_, fun x y => ?_, fun x y z => ?_⟩ <;> unfold cmpI
 ·split
  ·exact .inl rfl
  ·split
   ·exact .inr (.inr rfl)
   ·exact .inr (.inl rfl)
 ·by_cases h1 : x < y
  ·have h3 : ¬ y < x := by omega
   simp [h1, h3]
  ·by_cases h2 : y < x
   ·simp [h1, h2]
   ·simp [h1, h2]
 ·have le : ∀ x y : Int, (if x < y then (-1 : Int) else if x > y then 1 else 0) ≤ 0 ↔ x ≤ y := fun x y => by
   by_cases h1 : x < y
   ·rw [if_pos h1]; exact ⟨fun _ => by omega, fun _ => by omega⟩
   ·rw [if_neg h1]
    by_cases h2 : x > y
    ·rw [if_pos h2]; exact ⟨fun h => by omega, fun h => by omega⟩
    ·rw [if_neg h2]; exact ⟨fun _ => by omega, fun _ => by omega⟩
  rw [le, le, le]
  omega
theorem getD_lt {x : List (List UInt8)} {i : Nat} (h : i < x.length) : x.getD i [] = x[i] := by rw [List.getD, List.getElem?_eq_getElem h]; rfl
theorem getD_ge {x : List (List UInt8)} {i : Nat} (h : x.length ≤ i) : x.getD i [] = [] := by rw [List.getD, List.getElem?_eq_none h]; rfl
theorem row_words : Row cmpW := by
 have asy : ∀ x y : List UInt8, x < y → ¬ y < x := fun x y h1 h2 => List.lt_irrefl x (List.lt_trans h1 h2)
 have le : ∀ x y, cmpW x y ≤ 0 ↔ x ≤ y := fun x y => by
  unfold cmpW
  by_cases h1 : x < y
  ·rw [if_pos h1]; exact ⟨fun _ => List.not_lt.1 (asy _ _ h1), fun _ => by omega⟩
  ·rw [if_neg h1]
   by_cases h2 : y < x
   ·rw [if_pos h2]; exact ⟨fun h => by omega, fun h => absurd h2 (List.not_lt.2 h)⟩
   ·rw [if_neg h2]; exact ⟨fun _ => List.not_lt.1 h2, fun _ => by omega⟩
 refine ⟨fun x y => ?_, fun x y => ?_, fun x y z h1 h2 => ?_⟩
 ·unfold cmpW; split
  ·exact .inl rfl
  ·split
   ·exact .inr (.inr rfl)
   ·exact .inr (.inl rfl)
 ·unfold cmpW
  by_cases h1 : x < y
  ·rw [if_neg (asy _ _ h1), if_pos h1, if_pos h1]; rfl
  ·by_cases h2 : y < x
   ·rw [if_pos h2, if_neg h1, if_pos h2]
   ·rw [if_neg h2, if_neg h1, if_neg h1, if_neg h2]; rfl
 ·rw [le] at h1 h2 ⊢
  exact List.le_trans h1 h2
theorem pcmp_thenBy : pcmp = thenBy (fun a b => cmpI (rankOf a) (rankOf b)) (thenBy (fun a b => cmpI (numOf a) (numOf b)) (fun a b => cmpW (wordOf a) (wordOf b))) := by
 funext a b
 rfl
theorem row_parts : Row pcmp := by
 rw [pcmp_thenBy]
 exact (row_int.map rankOf).thenBy ((row_int.map numOf).thenBy (row_words.map wordOf))
theorem row_from : ∀ (n i : Nat), Row fun x y => cmpFrom x y i n
 | 0, i => ⟨fun _ _ => .inr (.inl rfl), fun _ _ => rfl, fun _ _ _ _ _ => Int.le_refl _⟩
 | n + 1, i => (row_parts.map fun x : List (List UInt8) => x.getD i []).thenBy (row_from n (i + 1))
theorem from_more (x y : List (List UInt8)) : ∀ (n k i : Nat), x.length ≤ i + n → y.length ≤ i + n → cmpFrom x y i (n + k) = cmpFrom x y i n
 | 0, 0, _, _, _ => rfl
 | 0, k + 1, i, hx, hy => by
  have e : cmpFrom x y i (k + 1) = if pcmp (x.getD i []) (y.getD i []) ≠ 0 then pcmp (x.getD i []) (y.getD i []) else cmpFrom x y (i + 1) k := rfl
  rw [Nat.zero_add, e, getD_ge (by omega), getD_ge (by omega), if_neg (by decide)]
  have := from_more x y 0 k (i + 1) (by omega) (by omega)
  rw [Nat.zero_add] at this
  exact this
 | n + 1, k, i, hx, hy => by
  rw [show n + 1 + k = (n + k) + 1 by omega, cmpFrom, cmpFrom, from_more x y n k (i + 1) (by omega) (by omega)]
theorem from_any {x y : List (List UInt8)} {N : Nat} (hx : x.length ≤ N) (hy : y.length ≤ N) : cmpFrom x y 0 (max x.length y.length) = cmpFrom x y 0 N := by
 have := from_more x y (max x.length y.length) (N - max x.length y.length) 0 (by omega) (by omega)
 rw [show max x.length y.length + (N - max x.length y.length) = N by omega] at this
 exact this.symm
theorem compare_eight (a b : List UInt8) : compareL a b = if mayL a = false ∧ mayL b = false then 0 else if mayL a = false then -1 else if mayL b = false then 1 else cmpFrom (cutL 46 a) (cutL 46 b) 0 8 := by
 unfold compareL
 cases ha : mayL a
 ·simp
 ·cases hb : mayL b
  ·simp
  ·have h1 := ((may_iff a).1 ha).2.2.2
   have h2 := ((may_iff b).1 hb).2.2.2
   simp only [Bool.true_eq_false, and_self, if_false]
   exact from_any h1 h2
theorem row_compare : Row compareL := by
 have R := row_from 8 0
 refine ⟨fun x y => ?_, fun x y => ?_, fun x y z => ?_⟩
 ·rw [compare_eight]
  split
  ·exact .inr (.inl rfl)
  ·split
   ·exact .inl rfl
   ·split
    ·exact .inr (.inr rfl)
    ·exact R.tri _ _
 ·rw [compare_eight, compare_eight]
  cases mayL x <;> cases mayL y <;> simp
  exact R.neg _ _
 ·rw [compare_eight, compare_eight, compare_eight]
  cases mayL x <;> cases mayL y <;> cases mayL z <;> simp
  exact R.trans _ _ _
end Go.Proofs.YteailgjiifdgcaaGreatDoor.VerN

/- Plain facts: a text cut into texts. -/
namespace Go.Proofs.YteailgjiifdgcaaGreatDoor.VerN
open Go.Lib

theorem ba_ext {x y : ByteArray} (h : x.data.toList = y.data.toList) : x = y := by
 obtain ⟨⟨a⟩⟩ := x
 obtain ⟨⟨b⟩⟩ := y
 simp at h
 rw [h]
def cutS (c : UInt8) (s : ByteArray) : List ByteArray := (cutL c s.data.toList).map fun l => ⟨l.toArray⟩
theorem cutS_data (c : UInt8) (s : ByteArray) : (cutS c s).map (·.data.toList) = cutL c s.data.toList := by
 unfold cutS
 rw [List.map_map]
 have : ((fun x : ByteArray => x.data.toList) ∘ fun l : List UInt8 => (⟨l.toArray⟩ : ByteArray)) = id := by funext l; simp
 rw [this, List.map_id]
theorem cutS_len (c : UInt8) (s : ByteArray) : (cutS c s).length = (cutL c s.data.toList).length := by unfold cutS; rw [List.length_map]
theorem cutS_miss {c : UInt8} {s : ByteArray} (h : indexByte s.data.toList c = -1) : cutS c s = [s] := by
 unfold cutS cutL
 rw [cutF_miss c _ _ h, List.nil_append]
 simp
theorem cutS_hit {c : UInt8} {s : ByteArray} {i : Nat} (h : indexByte s.data.toList c = i) : cutS c s = s.extract 0 i :: cutS c (s.extract (i + 1) s.size) := by
 have e1 : (⟨(s.data.toList.take i).toArray⟩ : ByteArray) = s.extract 0 i := ba_ext (by rw [extract_from_zero])
 have e2 : s.data.toList.drop (i + 1) = (s.extract (i + 1) s.size).data.toList := (extract_to_end s (i + 1)).symm
 unfold cutS
 rw [show cutL c s.data.toList = cutF c [] s.data.toList from rfl, cutF_hit c _ _ i h, List.nil_append, List.map_cons, e1, e2]
theorem index_lt {l : List UInt8} {c : UInt8} {i : Nat} (h : indexByte l c = i) : i < l.length := by
 induction l generalizing i with
 | nil => unfold indexByte at h; omega
 | cons x r ih =>
  unfold indexByte at h
  split at h
  ·simp; omega
  ·split at h
   ·omega
   ·rename_i hm
    have := indexByte_ge r c
    have h0 : indexByte r c ≠ -1 := fun e => hm (by rw [e]; rfl)
    have := ih (i := i - 1) (by omega)
    simp; omega
theorem dlen (s : ByteArray) : s.data.toList.length = s.size := by rw [Array.length_toList]; rfl
theorem cutS_piece {c : UInt8} {s p : ByteArray} (h : p ∈ cutS c s) : p.size ≤ s.size := by
 unfold cutS at h
 obtain ⟨l, h1, rfl⟩ := List.mem_map.1 h
 have := cutF_piece c _ _ _ h1
 rw [dlen] at this
 have e : (⟨l.toArray⟩ : ByteArray).size = l.length := rfl
 rw [e]
 simp only [List.length_nil] at this
 omega
end Go.Proofs.YteailgjiifdgcaaGreatDoor.VerN

/- Plain facts: how versions with the same parts ahead stand to each other, and a version to what is longer. -/
namespace Go.Proofs.YteailgjiifdgcaaGreatDoor.VerN
open Go.Lib

def first (l : List UInt8) : List UInt8 := (cutL 46 l).getD 0 []
end Go.Proofs.YteailgjiifdgcaaGreatDoor.VerN

/- Plain facts on spans: bounds, what is in one, what two have in common, the least of two; the program's way and the document's. -/
namespace Go.Proofs.YteailgjiifdgcaaGreatDoor.VerN
open Go.Lib

abbrev Sp := List UInt8 × List UInt8
def boundB (l : List UInt8) : Bool := decide (l = []) || mayL l
def aheadB (a b : List UInt8) : Bool := decide (a ≠ []) && decide (b ≠ []) && decide (compareL a b < 0)
def mayS (s : Sp) : Bool := boundB s.1 && boundB s.2 && !aheadB s.2 s.1
def laterB (a b : List UInt8) : List UInt8 := if a = [] ∨ aheadB a b = true then b else a
def soonerB (a b : List UInt8) : List UInt8 := if a = [] ∨ aheadB b a = true then b else a
def meetO (a b : Sp) : Sp := (laterB a.1 b.1, soonerB a.2 b.2)
def meetOk (a b : Sp) : Bool := mayS a && mayS b && mayS (meetO a b)
def joinS (a b : Sp) : Sp := if mayS a = true ∧ mayS b = true then (if a.1 ≠ [] ∧ b.1 ≠ [] then soonerB a.1 b.1 else [], if a.2 ≠ [] ∧ b.2 ≠ [] then laterB a.2 b.2 else []) else ([], [])
def textR (s : Sp) : List UInt8 := if s.1 = s.2 ∧ s.1 ≠ [] then s.1 else s.1 ++ 58 :: s.2
def textS (s : Sp) : List UInt8 := if mayS s = true then textR s else []
/-! the row of all texts, by ≤ -/
def le (a b : List UInt8) : Prop := compareL a b ≤ 0
theorem le_refl (a : List UInt8) : le a a := by
 have := row_compare.neg a a
 unfold le; omega
theorem le_trans {a b c : List UInt8} (h1 : le a b) (h2 : le b c) : le a c := row_compare.trans a b c h1 h2
theorem not_le {a b : List UInt8} : ¬ le a b ↔ compareL b a < 0 := by
 have := row_compare.neg a b
 unfold le; omega
theorem le_total (a b : List UInt8) : le a b ∨ le b a := by
 have := row_compare.neg a b
 unfold le; omega
theorem ahead_no {a b : List UInt8} : aheadB a b = false ↔ a = [] ∨ b = [] ∨ le b a := by
 have h : ¬ compareL a b < 0 ↔ le b a := by
  have := row_compare.neg a b
  unfold le
  omega
 unfold aheadB
 simp only [Bool.and_eq_false_iff, decide_eq_false_iff_not, ne_eq, Decidable.not_not, h]
 exact or_assoc
theorem ahead_yes {a b : List UInt8} : aheadB a b = true ↔ a ≠ [] ∧ b ≠ [] ∧ ¬ le b a := by
 unfold aheadB
 simp only [Bool.and_eq_true, decide_eq_true_eq, not_le, and_assoc]
theorem bound_iff {l : List UInt8} : boundB l = true ↔ l = [] ∨ mayL l = true := by unfold boundB; simp
theorem mayS_iff {s : Sp} : mayS s = true ↔ boundB s.1 = true ∧ boundB s.2 = true ∧ (s.1 = [] ∨ s.2 = [] ∨ le s.1 s.2) := by
 unfold mayS
 simp only [Bool.and_eq_true, Bool.not_eq_true', and_assoc, ahead_no]
 constructor
 ·rintro ⟨h1, h2, h3⟩
  refine ⟨h1, h2, ?_⟩
  rcases h3 with h | h | h
  ·exact .inr (.inl h)
  ·exact .inl h
  ·exact .inr (.inr h)
 ·rintro ⟨h1, h2, h3⟩
  refine ⟨h1, h2, ?_⟩
  rcases h3 with h | h | h
  ·exact .inr (.inl h)
  ·exact .inl h
  ·exact .inr (.inr h)
def lower (lo v : List UInt8) : Prop := lo = [] ∨ le lo v
def upper (hi v : List UInt8) : Prop := hi = [] ∨ le v hi
theorem later_cases (a b : List UInt8) : laterB a b = a ∨ laterB a b = b := by unfold laterB; split; exact .inr rfl; exact .inl rfl
theorem sooner_cases (a b : List UInt8) : soonerB a b = a ∨ soonerB a b = b := by unfold soonerB; split; exact .inr rfl; exact .inl rfl
theorem bound_of {x a b : List UInt8} (h : x = a ∨ x = b) (ha : boundB a = true) (hb : boundB b = true) : boundB x = true := by rcases h with rfl | rfl <;> assumption
theorem lower_later {a b v : List UInt8} : lower (laterB a b) v ↔ lower a v ∧ lower b v := by
 unfold laterB
 by_cases h : a = [] ∨ aheadB a b = true
 ·rw [if_pos h]
  refine ⟨fun hb => ⟨?_, hb⟩, fun h => h.2⟩
  rcases h with h | h
  ·exact .inl h
  ·obtain ⟨h1, h2, h3⟩ := ahead_yes.1 h
   rcases hb with hb | hb
   ·exact absurd hb h2
   ·exact .inr (le_trans ((le_total a b).resolve_right h3) hb)
 ·rw [if_neg h]
  refine ⟨fun ha => ⟨ha, ?_⟩, fun h => h.1⟩
  have h1 : a ≠ [] := fun e => h (.inl e)
  have h2 : aheadB a b = false := Bool.eq_false_iff.2 fun e => h (.inr e)
  rcases ahead_no.1 h2 with h2 | h2 | h2
  ·exact absurd h2 h1
  ·exact .inl h2
  ·rcases ha with ha | ha
   ·exact absurd ha h1
   ·exact .inr (le_trans h2 ha)
theorem upper_sooner {a b v : List UInt8} : upper (soonerB a b) v ↔ upper a v ∧ upper b v := by
 unfold soonerB
 by_cases h : a = [] ∨ aheadB b a = true
 ·rw [if_pos h]
  refine ⟨fun hb => ⟨?_, hb⟩, fun h => h.2⟩
  rcases h with h | h
  ·exact .inl h
  ·obtain ⟨h1, h2, h3⟩ := ahead_yes.1 h
   rcases hb with hb | hb
   ·exact absurd hb h1
   ·exact .inr (le_trans hb ((le_total b a).resolve_right h3))
 ·rw [if_neg h]
  refine ⟨fun ha => ⟨ha, ?_⟩, fun h => h.1⟩
  have h1 : a ≠ [] := fun e => h (.inl e)
  have h2 : aheadB b a = false := Bool.eq_false_iff.2 fun e => h (.inr e)
  rcases ahead_no.1 h2 with h2 | h2 | h2
  ·exact .inl h2
  ·exact absurd h2 h1
  ·rcases ha with ha | ha
   ·exact absurd ha h1
   ·exact .inr (le_trans ha h2)
theorem meet_bounds {a b : Sp} (ha : mayS a = true) (hb : mayS b = true) : boundB (meetO a b).1 = true ∧ boundB (meetO a b).2 = true :=
 ⟨bound_of (later_cases _ _) (mayS_iff.1 ha).1 (mayS_iff.1 hb).1, bound_of (sooner_cases _ _) (mayS_iff.1 ha).2.1 (mayS_iff.1 hb).2.1⟩
/-! the document's way -/
/-! the least span of two -/
theorem join_bounds {a b : Sp} (ha : mayS a = true) (hb : mayS b = true) : boundB (joinS a b).1 = true ∧ boundB (joinS a b).2 = true := by
 unfold joinS
 rw [if_pos ⟨ha, hb⟩]
 refine ⟨?_, ?_⟩
 ·show boundB (if a.1 ≠ [] ∧ b.1 ≠ [] then soonerB a.1 b.1 else []) = true
  split
  ·exact bound_of (sooner_cases _ _) (mayS_iff.1 ha).1 (mayS_iff.1 hb).1
  ·rfl
 ·show boundB (if a.2 ≠ [] ∧ b.2 ≠ [] then laterB a.2 b.2 else []) = true
  split
  ·exact bound_of (later_cases _ _) (mayS_iff.1 ha).2.1 (mayS_iff.1 hb).2.1
  ·rfl
theorem sooner_le {a b : List UInt8} (ha : a ≠ []) (hb : b ≠ []) : le (soonerB a b) a ∧ le (soonerB a b) b ∧ soonerB a b ≠ [] := by
 unfold soonerB
 by_cases h : aheadB b a = true
 ·rw [if_pos (.inr h)]
  obtain ⟨_, _, h3⟩ := ahead_yes.1 h
  exact ⟨(le_total b a).resolve_right h3, le_refl b, hb⟩
 ·rw [if_neg (by rintro (e | e); exact ha e; exact h e)]
  rcases ahead_no.1 (Bool.eq_false_iff.2 h) with h2 | h2 | h2
  ·exact absurd h2 hb
  ·exact absurd h2 ha
  ·exact ⟨le_refl a, h2, ha⟩
theorem later_ge {a b : List UInt8} (ha : a ≠ []) (hb : b ≠ []) : le a (laterB a b) ∧ le b (laterB a b) ∧ laterB a b ≠ [] := by
 unfold laterB
 by_cases h : aheadB a b = true
 ·rw [if_pos (.inr h)]
  obtain ⟨_, _, h3⟩ := ahead_yes.1 h
  exact ⟨(le_total a b).resolve_right h3, le_refl b, hb⟩
 ·rw [if_neg (by rintro (e | e); exact ha e; exact h e)]
  rcases ahead_no.1 (Bool.eq_false_iff.2 h) with h2 | h2 | h2
  ·exact absurd h2 ha
  ·exact absurd h2 hb
  ·exact ⟨le_refl a, h2, ha⟩
theorem join_lo {a b : Sp} (ha : mayS a = true) (hb : mayS b = true) : (joinS a b).1 = [] ∨ (a.1 ≠ [] ∧ b.1 ≠ [] ∧ (joinS a b).1 = soonerB a.1 b.1) := by
 unfold joinS
 rw [if_pos ⟨ha, hb⟩]
 by_cases h : a.1 ≠ [] ∧ b.1 ≠ []
 ·exact .inr ⟨h.1, h.2, if_pos h⟩
 ·exact .inl (if_neg h)
theorem join_hi {a b : Sp} (ha : mayS a = true) (hb : mayS b = true) : (joinS a b).2 = [] ∨ (a.2 ≠ [] ∧ b.2 ≠ [] ∧ (joinS a b).2 = laterB a.2 b.2) := by
 unfold joinS
 rw [if_pos ⟨ha, hb⟩]
 by_cases h : a.2 ≠ [] ∧ b.2 ≠ []
 ·exact .inr ⟨h.1, h.2, if_pos h⟩
 ·exact .inl (if_neg h)
theorem join_may {a b : Sp} (ha : mayS a = true) (hb : mayS b = true) : mayS (joinS a b) = true := by
 have hB := join_bounds ha hb
 refine mayS_iff.2 ⟨hB.1, hB.2, ?_⟩
 rcases join_lo ha hb with h | ⟨h1, h2, h3⟩
 ·exact .inl h
 ·rcases join_hi ha hb with h | ⟨g1, g2, g3⟩
  ·exact .inr (.inl h)
  ·refine .inr (.inr ?_)
   rw [h3, g3]
   have hm := (mayS_iff.1 ha).2.2.resolve_left h1 |>.resolve_left g1
   exact le_trans (sooner_le h1 h2).1 (le_trans hm (later_ge g1 g2).1)
/-! spans of one version, and without bounds -/
end Go.Proofs.YteailgjiifdgcaaGreatDoor.VerN

/- Plain facts on stable sorting: swaps of neighbours that stand the wrong way lead to one sorted row alone; parts that are sorted may be put together. Condition: a strict weak order. -/
namespace Go.Proofs.YteailgjiifdgcaaGreatDoor.SortM
variable {α : Type}

structure Swo (lt : α → α → Bool) : Prop where
 asymm : ∀ a b, lt a b = true → lt b a = false
 ntrans : ∀ a b c, lt b a = false → lt c b = false → lt c a = false

inductive Sw (lt : α → α → Bool) (l : List α) : List α → Prop
 | refl : Sw lt l l
 | step (p : List α) (x y : α) (q : List α) : Sw lt l (p ++ x :: y :: q) → lt y x = true → Sw lt l (p ++ y :: x :: q)

def Sorted (lt : α → α → Bool) (l : List α) : Prop := l.Pairwise fun a b => lt b a = false

variable {lt : α → α → Bool}
theorem Sw.trans {a b c : List α} (h : Sw lt a b) (k : Sw lt b c) : Sw lt a c := by
 induction k with
 | refl => exact h
 | step p x y q _ hlt ih => exact .step p x y q ih hlt
theorem Sw.perm {a b : List α} (h : Sw lt a b) : a.Perm b := by
 induction h with
 | refl => exact List.Perm.refl _
 | step p x y q _ _ ih => exact ih.trans (List.Perm.append_left _ (List.Perm.swap _ _ _))
theorem Sw.ctx {a b : List α} (h : Sw lt a b) (u v : List α) : Sw lt (u ++ a ++ v) (u ++ b ++ v) := by
 induction h with
 | refl => exact .refl
 | step p x y q _ hlt ih =>
  have h1 : u ++ (p ++ x :: y :: q) ++ v = (u ++ p) ++ x :: y :: (q ++ v) := by simp
  have h2 : u ++ (p ++ y :: x :: q) ++ v = (u ++ p) ++ y :: x :: (q ++ v) := by simp
  rw [h1] at ih
  rw [h2]
  exact .step _ x y _ ih hlt
theorem Sw.app {a b c d : List α} (h : Sw lt a b) (k : Sw lt c d) : Sw lt (a ++ c) (b ++ d) := by
 have h1 := h.ctx [] c
 have h2 := k.ctx b []
 simp only [List.nil_append, List.append_nil] at h1 h2
 exact h1.trans h2
theorem Sw.over (x : α) : ∀ (b : List α), (∀ y ∈ b, lt y x = true) → Sw lt (x :: b) (b ++ [x]) := by
 intro b
 induction b with
 | nil => intro _; exact .refl
 | cons y b ih =>
  intro h
  have h1 : Sw lt (x :: y :: b) (y :: x :: b) := .step [] x y b .refl (h y (by simp))
  have h2 := (ih (fun z hz => h z (by simp [hz]))).ctx [y] []
  simp only [List.append_nil] at h2
  exact h1.trans h2
theorem Sw.blocks : ∀ (a b : List α), (∀ x ∈ a, ∀ y ∈ b, lt y x = true) → Sw lt (a ++ b) (b ++ a) := by
 intro a
 induction a with
 | nil => intro b _; rw [List.append_nil]; exact .refl
 | cons x a ih =>
  intro b h
  have h1 := (ih b (fun z hz => h z (by simp [hz]))).ctx [x] []
  have h2 := (Sw.over x b (h x (by simp))).ctx [] a
  simp only [List.append_nil, List.nil_append] at h1 h2
  have e : x :: b ++ a = [x] ++ (b ++ a) := rfl
  rw [e] at h2
  refine h1.trans (h2.trans ?_)
  rw [List.append_assoc]
  exact .refl

def eqv (lt : α → α → Bool) (a x : α) : Bool := !lt a x && !lt x a
theorem eqv_of (h : Swo lt) {a x y : α} (hx : eqv lt a x = true) (hy : eqv lt a y = true) : lt y x = false := by
 unfold eqv at hx hy
 simp only [Bool.and_eq_true, Bool.not_eq_true'] at hx hy
 exact h.ntrans x a y hx.1 hy.2
theorem Sw.filter (h : Swo lt) {l m : List α} (k : Sw lt l m) (a : α) : l.filter (eqv lt a) = m.filter (eqv lt a) := by
 induction k with
 | refl => rfl
 | step p x y q _ hlt ih =>
  rw [ih]
  simp only [List.filter_append, List.filter_cons]
  cases hx : eqv lt a x <;> cases hy : eqv lt a y <;> simp
  rw [eqv_of h hx hy] at hlt
  cases hlt
theorem irrefl (h : Swo lt) (a : α) : lt a a = false := by
 cases e : lt a a
 ·rfl
 ·have := h.asymm a a e; rw [e] at this; exact this
theorem eqv_self (h : Swo lt) (a : α) : eqv lt a a = true := by unfold eqv; rw [irrefl h a]; rfl
theorem uniq (h : Swo lt) : ∀ (a b : List α), a.Perm b → (∀ x, a.filter (eqv lt x) = b.filter (eqv lt x)) → Sorted lt a → Sorted lt b → a = b := by
 intro a
 induction a with
 | nil => intro b hp _ _ _; exact hp.nil_eq
 | cons x a ih =>
  intro b hp hf ha hb
  match b with
  | [] => exact absurd hp.symm.nil_eq (by simp)
  | y :: b =>
   have h1 : lt y x = false := by
    have hy : y ∈ x :: a := hp.symm.subset (by simp)
    rcases List.mem_cons.1 hy with e | hy
    ·rw [e]; exact irrefl h x
    ·exact (List.pairwise_cons.1 ha).1 y hy
   have h2 : lt x y = false := by
    have hx : x ∈ y :: b := hp.subset (by simp)
    rcases List.mem_cons.1 hx with e | hx
    ·rw [e]; exact irrefl h y
    ·exact (List.pairwise_cons.1 hb).1 x hx
   have h3 : eqv lt x y = true := by unfold eqv; rw [h1, h2]; rfl
   have hx := hf x
   rw [List.filter_cons, List.filter_cons, if_pos (eqv_self h x), if_pos h3] at hx
   injection hx with hxy _
   subst hxy
   congr 1
   refine ih b (List.Perm.cons_inv hp) (fun z => ?_) (List.pairwise_cons.1 ha).2 (List.pairwise_cons.1 hb).2
   have := hf z
   rw [List.filter_cons, List.filter_cons] at this
   split at this
   ·injection this
   ·exact this
def ins (lt : α → α → Bool) (x : α) : List α → List α
 | [] => [x]
 | y :: l => if lt x y = true then x :: y :: l else y :: ins lt x l
def ssort (lt : α → α → Bool) (l : List α) : List α := l.foldl (fun r x => ins lt x r) []
theorem mem_ins (x z : α) (l : List α) : z ∈ ins lt x l ↔ z = x ∨ z ∈ l := by
 induction l with
 | nil => simp [ins]
 | cons y l ih =>
  unfold ins
  split
  ·simp
  ·simp only [List.mem_cons, ih]
   constructor
   ·rintro (h | h | h)
    ·exact .inr (.inl h)
    ·exact .inl h
    ·exact .inr (.inr h)
   ·rintro (h | h | h)
    ·exact .inr (.inl h)
    ·exact .inl h
    ·exact .inr (.inr h)
theorem ins_sorted (h : Swo lt) (x : α) (l : List α) (hl : Sorted lt l) : Sorted lt (ins lt x l) := by
 induction l with
 | nil => simp [ins, Sorted]
 | cons y l ih =>
  have hl' := List.pairwise_cons.1 hl
  unfold ins
  split
  ·rename_i hxy
   refine List.pairwise_cons.2 ⟨fun z hz => ?_, hl⟩
   rcases List.mem_cons.1 hz with e | hz
   ·rw [e]; exact h.asymm _ _ hxy
   ·exact h.ntrans x y z (h.asymm _ _ hxy) (hl'.1 z hz)
  ·rename_i hxy
   refine List.pairwise_cons.2 ⟨fun z hz => ?_, ih hl'.2⟩
   rcases (mem_ins x z l).1 hz with e | hz
   ·rw [e]; simpa using hxy
   ·exact hl'.1 z hz
theorem ins_sw (h : Swo lt) (x : α) (l : List α) (hl : Sorted lt l) : Sw lt (l ++ [x]) (ins lt x l) := by
 induction l with
 | nil => exact .refl
 | cons y l ih =>
  have hl' := List.pairwise_cons.1 hl
  unfold ins
  split
  ·rename_i hxy
   have : ∀ z ∈ y :: l, lt x z = true := by
    intro z hz
    cases e : lt x z
    ·have h1 : lt x y = false := by
      rcases List.mem_cons.1 hz with e2 | hz
      ·rw [← e2]; exact e
      ·exact h.ntrans y z x (hl'.1 z hz) e
     rw [hxy] at h1; cases h1
    ·rfl
   have h2 := Sw.blocks (lt := lt) (y :: l) [x] (fun a ha b hb => by simp at hb; subst hb; exact this a ha)
   exact h2
  ·have h2 := (ih hl'.2).ctx [y] []
   simp only [List.append_nil] at h2
   exact h2
theorem fold_sorted (h : Swo lt) : ∀ (l r : List α), Sorted lt r → Sorted lt (l.foldl (fun r x => ins lt x r) r) ∧ Sw lt (r ++ l) (l.foldl (fun r x => ins lt x r) r) := by
 intro l
 induction l with
 | nil => intro r hr; exact ⟨hr, by rw [List.append_nil]; exact .refl⟩
 | cons x l ih =>
  intro r hr
  obtain ⟨h1, h2⟩ := ih (ins lt x r) (ins_sorted h x r hr)
  refine ⟨h1, ?_⟩
  have h3 := (ins_sw h x r hr).ctx [] l
  simp only [List.nil_append] at h3
  have e : r ++ [x] ++ l = r ++ x :: l := by simp
  rw [e] at h3
  exact h3.trans h2
theorem ssort_sorted (h : Swo lt) (l : List α) : Sorted lt (ssort lt l) := (fold_sorted h l [] List.Pairwise.nil).1
theorem ssort_sw (h : Swo lt) (l : List α) : Sw lt l (ssort lt l) := by
 have := (fold_sorted h l [] List.Pairwise.nil).2
 rw [List.nil_append] at this
 exact this
theorem ssort_eq (h : Swo lt) {l a : List α} (hs : Sw lt l a) (ha : Sorted lt a) : a = ssort lt l := by
 have h1 := ssort_sw h l
 exact uniq h a (ssort lt l) (hs.perm.symm.trans h1.perm) (fun x => (hs.filter h x).symm.trans (h1.filter h x)) ha (ssort_sorted h l)
theorem ssort_of_sw (h : Swo lt) {l a : List α} (hs : Sw lt l a) : ssort lt a = ssort lt l := ssort_eq h (hs.trans (ssort_sw h a)) (ssort_sorted h a)
theorem ssort_id (h : Swo lt) {l : List α} (hl : Sorted lt l) : ssort lt l = l := (ssort_eq h .refl hl).symm
theorem ssort_len (h : Swo lt) (l : List α) : (ssort lt l).length = l.length := (ssort_sw h l).perm.length_eq.symm
theorem mem_ssort (h : Swo lt) (l : List α) (x : α) : x ∈ ssort lt l ↔ x ∈ l := (ssort_sw h l).perm.symm.mem_iff
theorem ssort_app (h : Swo lt) (a b : List α) : ssort lt (ssort lt a ++ ssort lt b) = ssort lt (a ++ b) := ssort_of_sw h ((ssort_sw h a).app (ssort_sw h b))
theorem ssort_cut (h : Swo lt) (l1 l2 r1 r2 : List α) (hx : ∀ x ∈ l2, ∀ y ∈ r1, lt y x = true) (h12 : ∀ a ∈ l1, ∀ b ∈ l2, lt b a = false) (hr : ∀ a ∈ r1, ∀ b ∈ r2, lt b a = false) (hlr : ∀ a ∈ l1, ∀ b ∈ r2, lt b a = false) :
  ssort lt (l1 ++ l2 ++ (r1 ++ r2)) = ssort lt (l1 ++ r1) ++ ssort lt (l2 ++ r2) := by
 symm
 apply ssort_eq h
 ·have h1 := (Sw.blocks l2 r1 hx).ctx l1 r2
  have e1 : l1 ++ (l2 ++ r1) ++ r2 = l1 ++ l2 ++ (r1 ++ r2) := by simp
  have e2 : l1 ++ (r1 ++ l2) ++ r2 = (l1 ++ r1) ++ (l2 ++ r2) := by simp
  rw [e1, e2] at h1
  exact h1.trans ((ssort_sw h _).app (ssort_sw h _))
 ·refine List.pairwise_append.2 ⟨ssort_sorted h _, ssort_sorted h _, fun a ha b hb => ?_⟩
  rw [mem_ssort h] at ha hb
  rcases List.mem_append.1 ha with ha | ha <;> rcases List.mem_append.1 hb with hb | hb
  ·exact h12 a ha b hb
  ·exact hlr a ha b hb
  ·exact h.asymm _ _ (hx b hb a ha)
  ·exact hr a ha b hb
end Go.Proofs.YteailgjiifdgcaaGreatDoor.SortM

/- Plain facts on sets of spans: points, what spans cover; sets whose spans stand apart are known by what they cover; the form. -/
namespace Go.Proofs.YteailgjiifdgcaaGreatDoor.VerN
open Go.Lib SortM

abbrev Pt := Option (Bool × List UInt8)
def covS (s : Sp) : Pt → Prop
 | none => s.1 = []
 | some (false, p) => lower s.1 p ∧ upper s.2 p
 | some (true, p) => lower s.1 p ∧ (s.2 = [] ∨ ¬ le s.2 p)
def cov (l : List Sp) (x : Pt) : Prop := ∃ s ∈ l, covS s x
def bef (a b : Sp) : Prop := a.2 ≠ [] ∧ b.1 ≠ [] ∧ ¬ le b.1 a.2
def Sep (l : List Sp) : Prop := (∀ s ∈ l, mayS s = true) ∧ l.Pairwise bef
theorem not_le_le {a b : List UInt8} (h : ¬ le a b) : le b a := (le_total a b).resolve_left h
theorem Sep.tail {f : Sp} {F : List Sp} (h : Sep (f :: F)) : Sep F := ⟨fun s hs => h.1 s (by simp [hs]), (List.pairwise_cons.1 h.2).2⟩
/-! what meets, and the least span of two -/
def okb (lo hi : List UInt8) : Prop := lo = [] ∨ hi = [] ∨ le lo hi
theorem okb_bef {a b : Sp} : okb b.1 a.2 ↔ ¬ bef a b := by
 unfold okb bef
 constructor
 ·rintro (h | h | h) ⟨h1, h2, h3⟩
  ·exact h2 h
  ·exact h1 h
  ·exact h3 h
 ·intro h
  by_cases h2 : b.1 = []
  ·exact .inl h2
  ·by_cases h1 : a.2 = []
   ·exact .inr (.inl h1)
   ·exact .inr (.inr (Classical.not_not.1 fun k => h ⟨h1, h2, k⟩))
theorem okb_sooner {lo h k : List UInt8} : okb lo (soonerB h k) ↔ okb lo h ∧ okb lo k := by
 by_cases e : lo = []
 ·unfold okb; simp [e]
 ·have hh : ∀ x, okb lo x ↔ upper x lo := fun x => ⟨fun h => h.resolve_left e, fun h => .inr h⟩
  rw [hh, hh, hh]
  exact upper_sooner
theorem okb_later {x y hi : List UInt8} : okb (laterB x y) hi ↔ okb x hi ∧ okb y hi := by
 by_cases e : hi = []
 ·unfold okb; simp [e]
 ·have hh : ∀ x, okb x hi ↔ lower x hi := fun x => ⟨fun h => h.elim .inl fun h => .inr (h.resolve_left e), fun h => h.elim .inl fun h => .inr (.inr h)⟩
  rw [hh, hh, hh]
  exact lower_later
theorem may_okb {s : Sp} (h : mayS s = true) : okb s.1 s.2 := (mayS_iff.1 h).2.2
theorem meet_iff {a b : Sp} (ha : mayS a = true) (hb : mayS b = true) : meetOk a b = true ↔ ¬ bef a b ∧ ¬ bef b a := by
 unfold meetOk
 rw [ha, hb, Bool.true_and, Bool.true_and, mayS_iff]
 obtain ⟨h1, h2⟩ := meet_bounds ha hb
 rw [← okb_bef, ← okb_bef]
 constructor
 ·rintro ⟨_, _, h⟩
  have h : okb (laterB a.1 b.1) (soonerB a.2 b.2) := h
  rw [okb_later, okb_sooner, okb_sooner] at h
  exact ⟨h.2.1, h.1.2⟩
 ·rintro ⟨k1, k2⟩
  refine ⟨h1, h2, ?_⟩
  show okb (laterB a.1 b.1) (soonerB a.2 b.2)
  rw [okb_later, okb_sooner, okb_sooner]
  exact ⟨⟨may_okb ha, k2⟩, k1, may_okb hb⟩
theorem sooner_or {a b : List UInt8} (ha : a ≠ []) (hb : b ≠ []) (p : List UInt8) : le (soonerB a b) p ↔ le a p ∨ le b p := by
 obtain ⟨h1, h2, _⟩ := sooner_le ha hb
 constructor
 ·intro h
  rcases sooner_cases a b with e | e
  ·rw [e] at h; exact .inl h
  ·rw [e] at h; exact .inr h
 ·rintro (h | h)
  ·exact le_trans h1 h
  ·exact le_trans h2 h
theorem later_or {a b : List UInt8} (ha : a ≠ []) (hb : b ≠ []) (p : List UInt8) : le p (laterB a b) ↔ le p a ∨ le p b := by
 obtain ⟨h1, h2, _⟩ := later_ge ha hb
 constructor
 ·intro h
  rcases later_cases a b with e | e
  ·rw [e] at h; exact .inl h
  ·rw [e] at h; exact .inr h
 ·rintro (h | h)
  ·exact le_trans h h1
  ·exact le_trans h h2
theorem later_nle {a b : List UInt8} (ha : a ≠ []) (hb : b ≠ []) (p : List UInt8) : ¬ le (laterB a b) p ↔ ¬ le a p ∨ ¬ le b p := by
 obtain ⟨h1, h2, _⟩ := later_ge ha hb
 constructor
 ·intro h
  rcases later_cases a b with e | e
  ·rw [e] at h; exact .inl h
  ·rw [e] at h; exact .inr h
 ·rintro (h | h) k
  ·exact h (le_trans h1 k)
  ·exact h (le_trans h2 k)
theorem join_parts {a b : Sp} (ha : mayS a = true) (hb : mayS b = true) : joinS a b = (if a.1 ≠ [] ∧ b.1 ≠ [] then soonerB a.1 b.1 else [], if a.2 ≠ [] ∧ b.2 ≠ [] then laterB a.2 b.2 else []) := by
 unfold joinS; rw [if_pos ⟨ha, hb⟩]
theorem join_lower {a b : Sp} (ha : mayS a = true) (hb : mayS b = true) (p : List UInt8) : lower (joinS a b).1 p ↔ lower a.1 p ∨ lower b.1 p := by
 rw [join_parts ha hb]
 by_cases h : a.1 ≠ [] ∧ b.1 ≠ []
 ·have e := sooner_or h.1 h.2 p
  have n := (sooner_le h.1 h.2).2.2
  simp only [if_pos h]
  unfold lower
  simp only [h.1, h.2, n, false_or, e]
 ·simp only [if_neg h]
  refine ⟨fun _ => ?_, fun _ => .inl rfl⟩
  by_cases h1 : a.1 = []
  ·exact .inl (.inl h1)
  ·by_cases h2 : b.1 = []
   ·exact .inr (.inl h2)
   ·exact absurd ⟨h1, h2⟩ h
theorem join_nil {a b : Sp} (ha : mayS a = true) (hb : mayS b = true) : (joinS a b).1 = [] ↔ a.1 = [] ∨ b.1 = [] := by
 rw [join_parts ha hb]
 by_cases h : a.1 ≠ [] ∧ b.1 ≠ []
 ·have n := (sooner_le h.1 h.2).2.2
  simp only [if_pos h, n, h.1, h.2, or_self]
 ·simp only [if_neg h, true_iff]
  by_cases h1 : a.1 = []
  ·exact .inl h1
  ·by_cases h2 : b.1 = []
   ·exact .inr h2
   ·exact absurd ⟨h1, h2⟩ h
theorem join_upper {a b : Sp} (ha : mayS a = true) (hb : mayS b = true) (p : List UInt8) : upper (joinS a b).2 p ↔ upper a.2 p ∨ upper b.2 p := by
 rw [join_parts ha hb]
 by_cases h : a.2 ≠ [] ∧ b.2 ≠ []
 ·have e := later_or h.1 h.2 p
  have n := (later_ge h.1 h.2).2.2
  simp only [if_pos h]
  unfold upper
  simp only [h.1, h.2, n, false_or, e]
 ·simp only [if_neg h]
  refine ⟨fun _ => ?_, fun _ => .inl rfl⟩
  by_cases h1 : a.2 = []
  ·exact .inl (.inl h1)
  ·by_cases h2 : b.2 = []
   ·exact .inr (.inl h2)
   ·exact absurd ⟨h1, h2⟩ h
theorem join_gap {a b : Sp} (ha : mayS a = true) (hb : mayS b = true) (p : List UInt8) : ((joinS a b).2 = [] ∨ ¬ le (joinS a b).2 p) ↔ (a.2 = [] ∨ ¬ le a.2 p) ∨ (b.2 = [] ∨ ¬ le b.2 p) := by
 rw [join_parts ha hb]
 by_cases h : a.2 ≠ [] ∧ b.2 ≠ []
 ·have e := later_nle h.1 h.2 p
  have n := (later_ge h.1 h.2).2.2
  simp only [if_pos h, h.1, h.2, n, false_or, e]
 ·simp only [if_neg h, true_or, true_iff]
  by_cases h1 : a.2 = []
  ·exact .inl (.inl h1)
  ·by_cases h2 : b.2 = []
   ·exact .inr (.inl h2)
   ·exact absurd ⟨h1, h2⟩ h
theorem cross {a b : Sp} (h : ¬ bef a b) {p : List UInt8} (hlo : lower a.1 p) (hhi : upper b.2 p) : upper a.2 p ∨ lower b.1 p := by
 by_cases h1 : upper a.2 p
 ·exact .inl h1
 ·by_cases h2 : lower b.1 p
  ·exact .inr h2
  ·exfalso
   have a1 : a.2 ≠ [] := fun e => h1 (.inl e)
   have b1 : b.1 ≠ [] := fun e => h2 (.inl e)
   have a2 : ¬ le p a.2 := fun e => h1 (.inr e)
   have b2 : ¬ le b.1 p := fun e => h2 (.inr e)
   exact h ⟨a1, b1, fun k => b2 (le_trans k (not_le_le a2))⟩
theorem cross_gap {a b : Sp} (h : ¬ bef a b) {p : List UInt8} (hlo : lower a.1 p) (hhi : b.2 = [] ∨ ¬ le b.2 p) : (a.2 = [] ∨ ¬ le a.2 p) ∨ lower b.1 p := by
 by_cases h1 : a.2 = [] ∨ ¬ le a.2 p
 ·exact .inl h1
 ·by_cases h2 : lower b.1 p
  ·exact .inr h2
  ·exfalso
   have a1 : a.2 ≠ [] := fun e => h1 (.inl e)
   have b1 : b.1 ≠ [] := fun e => h2 (.inl e)
   have a2 : le a.2 p := Classical.not_not.1 fun e => h1 (.inr e)
   have b2 : ¬ le b.1 p := fun e => h2 (.inr e)
   exact h ⟨a1, b1, fun k => b2 (le_trans k a2)⟩
theorem join_cov {a b : Sp} (ha : mayS a = true) (hb : mayS b = true) (hm : meetOk a b = true) (x : Pt) : covS (joinS a b) x ↔ covS a x ∨ covS b x := by
 obtain ⟨h1, h2⟩ := (meet_iff ha hb).1 hm
 match x with
 | none => exact join_nil ha hb
 | some (false, p) =>
  show lower _ p ∧ upper _ p ↔ (lower _ p ∧ upper _ p) ∨ (lower _ p ∧ upper _ p)
  rw [join_lower ha hb, join_upper ha hb]
  constructor
  ·rintro ⟨l | l, u | u⟩
   ·exact .inl ⟨l, u⟩
   ·rcases cross h1 l u with k | k
    ·exact .inl ⟨l, k⟩
    ·exact .inr ⟨k, u⟩
   ·rcases cross h2 l u with k | k
    ·exact .inr ⟨l, k⟩
    ·exact .inl ⟨k, u⟩
   ·exact .inr ⟨l, u⟩
  ·rintro (⟨l, u⟩ | ⟨l, u⟩)
   ·exact ⟨.inl l, .inl u⟩
   ·exact ⟨.inr l, .inr u⟩
 | some (true, p) =>
  show lower _ p ∧ (_ ∨ _) ↔ (lower _ p ∧ (_ ∨ _)) ∨ (lower _ p ∧ (_ ∨ _))
  rw [join_lower ha hb, join_gap ha hb]
  constructor
  ·rintro ⟨l | l, u | u⟩
   ·exact .inl ⟨l, u⟩
   ·rcases cross_gap h1 l u with k | k
    ·exact .inl ⟨l, k⟩
    ·exact .inr ⟨k, u⟩
   ·rcases cross_gap h2 l u with k | k
    ·exact .inr ⟨l, k⟩
    ·exact .inl ⟨k, u⟩
   ·exact .inr ⟨l, u⟩
  ·rintro (⟨l, u⟩ | ⟨l, u⟩)
   ·exact ⟨.inl l, .inl u⟩
   ·exact ⟨.inr l, .inr u⟩

/-! the row by bounds below, and what is put together of it -/
def ltLo (a b : List UInt8) : Bool := decide (b ≠ []) && (decide (a = []) || decide (compareL a b < 0))
def loLe (a b : List UInt8) : Prop := a = [] ∨ (b ≠ [] ∧ le a b)
theorem ltLo_no {a b : List UInt8} : ltLo b a = false ↔ loLe a b := by
 have h : ¬ compareL b a < 0 ↔ le a b := by
  have := row_compare.neg a b
  unfold le; omega
 unfold ltLo loLe
 simp only [Bool.and_eq_false_iff, Bool.or_eq_false_iff, decide_eq_false_iff_not, ne_eq, Decidable.not_not, h]
theorem cov_perm {a b : List Sp} (h : a.Perm b) (p : Pt) : cov a p ↔ cov b p := by
 unfold cov
 simp only [h.mem_iff]
end Go.Proofs.YteailgjiifdgcaaGreatDoor.VerN

/- A slice's elements as values, and a row that a call owns read as a slice. No condition. -/
namespace Go.Proofs.YteailgjiifdgcaaGreatDoor
open Go.RowKit

end Go.Proofs.YteailgjiifdgcaaGreatDoor

/- The walks of the document's letters, Digits, part, Cut and May of versions. Condition: the text's reach. -/
namespace Go.Proofs.YteailgjiifdgcaaGreatDoor
open Go.RowKit Go.Lib VerN

end Go.Proofs.YteailgjiifdgcaaGreatDoor

/- The walks of the document's part and before of versions. Condition: the text's reach. -/
namespace Go.Proofs.YteailgjiifdgcaaGreatDoor
open Go.RowKit Go.Lib VerN

end Go.Proofs.YteailgjiifdgcaaGreatDoor

/- The walks of cmp.Compare and cmp.Or at numbers. No condition. -/
namespace Go.Proofs.YteailgjiifdgcaaGreatDoor
open Go.RowKit Go.Lib Go.Sort

def compareInt (x y : Int) : Int := if x < y then -1 else if y < x then 1 else 0
set_option maxRecDepth 10000 in
theorem compare_any (x y : Int) (w : World) : Calls Tryz.prog 199 #[.int .i64 x, .int .i64 y] w fun e w' => e = .returned (.int .i64 (compareInt x y)) ∧ w = w' := by
 by_cases h1 : x < y
 ·have e : compareInt x y = -1 := by unfold compareInt; rw [if_pos h1]
  rw [e]
  clear e
  go_enter Tryz.func199, Tryz.ntmps199
  go_wp2
  go_ret
  exact ⟨rfl, rfl⟩
 ·have h1' : y ≤ x := by omega
  by_cases h2 : y < x
  ·have e : compareInt x y = 1 := by unfold compareInt; rw [if_neg h1, if_pos h2]
   rw [e]
   clear e h1
   go_enter Tryz.func199, Tryz.ntmps199
   go_wp2
   go_ret
   exact ⟨rfl, rfl⟩
  ·have e : compareInt x y = 0 := by unfold compareInt; rw [if_neg h1, if_neg h2]
   obtain rfl : x = y := by omega
   rw [e]
   clear e h1 h2 h1'
   go_enter Tryz.func199, Tryz.ntmps199
   go_wp2
   go_ret
   exact ⟨rfl, rfl⟩
def orOf (l : List Int) : Int := match l with
 | [] => 0
 | x :: r => if x ≠ 0 then x else orOf r
theorem orOf_snoc (l : List Int) (k : Nat) (h : k < l.length) (h0 : orOf (l.take k) = 0) : orOf (l.take (k + 1)) = l[k] := by
 induction l generalizing k with
 | nil => simp at h
 | cons x r ih =>
  match k with
  | 0 => simp [orOf]; intro h; simp [h]
  | k + 1 =>
   have h1 : x = 0 := by
    rw [List.take_succ_cons, orOf] at h0
    split at h0
    ·rename_i hx; exact absurd h0 hx
    ·rename_i hx; simpa using hx
   subst h1
   have := ih k (by simpa using h) (by simpa [orOf] using h0)
   simpa [orOf] using this
theorem orOf_all (l : List Int) (k : Nat) (h : orOf (l.take k) ≠ 0) : orOf l = orOf (l.take k) := by
 induction l generalizing k with
 | nil => simp
 | cons x r ih =>
  match k with
  | 0 => simp [orOf] at h
  | k + 1 =>
   rw [List.take_succ_cons, orOf] at h ⊢
   rw [orOf]
   split
   ·rfl
   ·rename_i hx
    rw [if_neg hx] at h
    exact ih k h
set_option maxRecDepth 10000 in
set_option maxHeartbeats 400000 in
theorem or_any (b off cap : Nat) (l : List Int) (w : World) (hl : l.length ≤ 1000) (hc : ∀ i x, l[i]? = some x → w.cell? ⟨b, off + i, none⟩ = some (.int .i64 x)) :
  Calls Tryz.prog 198 #[.slice (some ⟨b, off, none⟩) l.length cap] w fun e w' => e = .returned (.int .i64 (orOf l)) ∧ w = w' := by
 obtain ⟨n, hn⟩ : ∃ n, n = l.length := ⟨_, rfl⟩
 rw [← hn] at hl ⊢
 obtain ⟨Hn, Hc⟩ := hd2 hn hc; clear hn hc
 go_enter Tryz.func198, Tryz.ntmps198
 go_wp2_with fail
 go_loop [8] (fun i => ∃ k : Nat, k ≤ n ∧ i = .int .i64 k ∧ orOf (l.take k) = 0) (fun i => n - (RowKit.intOf i).toNat)
 case atStart => exact ⟨0, Nat.zero_le _, rfl, by simp [orOf]⟩
 case round =>
  obtain ⟨k, hk, rfl, h0⟩ := hrel
  by_cases hlt : k < n
  ·have hkl : k < l.length := by have := Hn.out; omega
   obtain ⟨x, hx⟩ : ∃ x, x = l[k]'hkl := ⟨_, rfl⟩
   have c := Hc.out k x (by rw [hx]; exact List.getElem?_eq_getElem hkl)
   have hs := orOf_snoc l k hkl h0
   rw [← hx] at hs
   by_cases hz : x = 0
   ·have e1 : (x != 0) = false := by rw [hz]; rfl
    have h1 : orOf (l.take (k + 1)) = 0 := by rw [hs, hz]
    obtain ⟨Hx, Hs, H0, Hz, H1⟩ := hd5 hx hs h0 hz h1; clear hx hs h0 hz h1
    go_wp2_with fail
    go_round
    case rel => exact ⟨k + 1, by omega, by go_num, H1.out⟩
    case measure => simp [RowKit.intOf]; omega
   ·have e1 : (x != 0) = true := by simpa using hz
    have h1 : orOf l = x := by rw [orOf_all l (k + 1) (by rw [hs]; exact hz), hs]
    obtain ⟨Hx, Hs, H0, Hz, H1⟩ := hd5 hx hs h0 hz h1; clear hx hs h0 hz h1
    go_wp2_with fail
    go_ret
    exact ⟨ret_int (by rw [H1.out]), rfl⟩
  ·have h1 : orOf l = 0 := by
    rw [← h0, List.take_of_length_le (by have := Hn.out; omega)]
   obtain ⟨H0, H1⟩ := hd2 h0 h1; clear h0 h1
   go_wp2_with fail
   go_ret
   exact ⟨ret_int (by rw [H1.out]), rfl⟩
end Go.Proofs.YteailgjiifdgcaaGreatDoor

/- The walk of cmp.Compare at texts, by their bytes. No condition. -/
namespace Go.Proofs.YteailgjiifdgcaaGreatDoor
open Go.RowKit Go.Lib VerN

theorem less_dec (x y : ByteArray) : Op.bytesLess x.toList y.toList = decide (x.data.toList < y.data.toList) := by
 rw [Go.Proofs.bytesLess_eq, toList_data, toList_data]
set_option maxRecDepth 10000 in
theorem compareW_any (x y : ByteArray) (w : World) : Calls Tryz.prog 200 #[.string x, .string y] w fun e w' => e = .returned (.int .i64 (cmpW x.data.toList y.data.toList)) ∧ w = w' := by
 obtain ⟨p, hp⟩ : ∃ p, p = Op.bytesLess x.toList y.toList := ⟨_, rfl⟩
 obtain ⟨q, hq⟩ : ∃ q, q = (x.toList == y.toList) := ⟨_, rfl⟩
 have e : cmpW x.data.toList y.data.toList = if p = true then -1 else if q = true then 0 else 1 := by
  unfold cmpW
  rw [hp, hq, less_dec, Txt.eq_dec]
  by_cases h1 : x.data.toList < y.data.toList
  ·rw [if_pos h1, decide_eq_true h1]; rfl
  ·rw [if_neg h1, decide_eq_false h1]
   by_cases h2 : x = y
   ·rw [decide_eq_true h2, if_neg (by rw [h2]; exact List.lt_irrefl _)]; rfl
   ·rw [decide_eq_false h2, if_pos (dec_ne (fun e => h2 (Txt.ext e)) h1)]; rfl
 rw [e]
 have hpe := hp.symm
 have hqe := hq.symm
 clear e
 cases p with
 | true =>
  obtain ⟨Hp, Hq⟩ := hd2 hp hq; clear hp hq
  go_enter Tryz.func200, Tryz.ntmps200
  go_wp2
  go_ret
  exact ⟨rfl, rfl⟩
 | false =>
  cases q with
  | true =>
   obtain ⟨Hp, Hq⟩ := hd2 hp hq; clear hp hq
   go_enter Tryz.func200, Tryz.ntmps200
   go_wp2
   go_ret
   exact ⟨rfl, rfl⟩
  | false =>
   obtain ⟨Hp, Hq⟩ := hd2 hp hq; clear hp hq
   go_enter Tryz.func200, Tryz.ntmps200
   go_wp2
   go_ret
   exact ⟨rfl, rfl⟩
end Go.Proofs.YteailgjiifdgcaaGreatDoor

/- The walks of the document's before and at of versions. Condition: the texts' reach. -/
namespace Go.Proofs.YteailgjiifdgcaaGreatDoor
open Go.RowKit Go.Lib VerN

theorem nil_size (s : ByteArray) : s.data.toList = [] ↔ s.size = 0 := by rw [← Txt.len]; exact List.length_eq_zero_iff.symm
end Go.Proofs.YteailgjiifdgcaaGreatDoor

/- The walk of the document's Cut: a text at a byte. Condition: a text of at most a million bytes. -/
namespace Go.Proofs.YteailgjiifdgcaaGreatDoor
open Go.RowKit Go.Lib VerN

def CutAt (c : UInt8) (l : List UInt8) (k f : Nat) (done : List (List UInt8)) : Prop := f ≤ k ∧ ((k ≤ l.length ∧ cutL c l = done ++ cutF c ((l.take k).drop f) (l.drop k)) ∨ (k = l.length + 1 ∧ cutL c l = done))
theorem CutAt.start (c : UInt8) (l : List UInt8) : CutAt c l 0 0 [] := ⟨Nat.le_refl _, .inl ⟨Nat.zero_le _, rfl⟩⟩
theorem CutAt.last {c : UInt8} {l : List UInt8} {k f : Nat} {done : List (List UInt8)} (h : CutAt c l k f done) (hk : k = l.length) : CutAt c l (k + 1) (k + 1) (done ++ [(l.take k).drop f]) := by
 obtain ⟨hf, ⟨_, h⟩ | ⟨h, _⟩⟩ := h
 ·refine ⟨Nat.le_refl _, .inr ⟨by omega, ?_⟩⟩
  rw [h, hk, List.drop_eq_nil_of_le (Nat.le_refl _)]
  rfl
 ·omega
theorem CutAt.len {c : UInt8} {l : List UInt8} {k f : Nat} {done : List (List UInt8)} (h : CutAt c l k f done) : done.length ≤ l.length + 1 := by
 have h1 := (cutL_len c l).2
 obtain ⟨hf, ⟨_, h⟩ | ⟨_, h⟩⟩ := h
 ·rw [h, List.length_append] at h1; omega
 ·rw [h] at h1; exact h1
end Go.Proofs.YteailgjiifdgcaaGreatDoor

/- The walks of the document's May, Less and Compare of versions. Condition: texts of at most a million bytes. -/
namespace Go.Proofs.YteailgjiifdgcaaGreatDoor
open Go.RowKit Go.Lib VerN

end Go.Proofs.YteailgjiifdgcaaGreatDoor

/- The walks of the document's Less and Compare of versions. Condition: texts of at most a million bytes. -/
namespace Go.Proofs.YteailgjiifdgcaaGreatDoor
open Go.RowKit Go.Lib VerN

end Go.Proofs.YteailgjiifdgcaaGreatDoor

/- The walk of version.read: whether a text is a part, and which one. Condition: the library's variables as they were laid, and a text of at most a million bytes. -/
namespace Go.Proofs.YteailgjiifdgcaaGreatDoor
open Go.RowKit Go.Lib VerN

def IsPart (l : List UInt8) (r m : Int) (x : ByteArray) : Prop := r = rankOf l ∧ m = numOf l ∧ x.data.toList = wordOf l
theorem bodyPost_part {fn : Func} {p u : Tmp} (hres : fn.results = #[.cell p 241, .tmp u]) {R : Ending → World → Prop} {a : Act} {w : World} {g : Nat} {x y z b : Value} (hp : a.tmps.getD p undef = .pointer (some ⟨g, 0, none⟩)) (hu : a.tmps.getD u undef = b)
  (hg : w.heap[g]? = some (.cells #[x, y, z] 241 (0, 0))) (hd : a.defers = []) (hR : R (.returned (.tuple #[.agg #[x, y, z], b])) w) : bodyPost Tryz.prog fn R .ret a w := by
 refine bodyPost_ret (v := .tuple #[.agg #[x, y, z], b]) ?_ hd hR
 rw [results_cell_tmp hres, hp, hu]
 simp only [asAddr, Sem.run_pure, Result.andThen, run_loadVar_row w g 241 241 _ _ _ hg Tryz.underlying241 rfl (by kernel_rfl)]
theorem ret_two {v : Value} {a b : Bool} (h : a = b) : Ending.returned (.tuple #[v, .bool a]) = .returned (.tuple #[v, .bool b]) := by rw [h]
theorem trip_cells {w : World} {g : Nat} {t : TypeId} {x y z : Value} (h : w.heap[g]? = some (.cells #[x, y, z] t (0, 0))) : w.cell? ⟨g, 0, none⟩ = some x ∧ w.cell? ⟨g, 1, none⟩ = some y ∧ w.cell? ⟨g, 2, none⟩ = some z ∧ w.frozen? ⟨g, 0, none⟩ = false ∧ w.frozen? ⟨g, 1, none⟩ = false ∧ w.frozen? ⟨g, 2, none⟩ = false := by
 have b0 := cells_at h 0
 have b1 := cells_at h 1
 have b2 := cells_at h 2
 simp only [List.getElem?_toArray, List.getElem?_cons_zero, List.getElem?_cons_succ] at b0 b1 b2
 exact ⟨b0, b1, b2, frozen_at h 0, frozen_at h 1, frozen_at h 2⟩
theorem trip_set {w : World} {g : Nat} {t : TypeId} {x y z : Value} (u v q : Value) (h : w.heap[g]? = some (.cells #[x, y, z] t (0, 0))) : (((w.setCell ⟨g, 0, none⟩ u).setCell ⟨g, 1, none⟩ v).setCell ⟨g, 2, none⟩ q).heap[g]? = some (.cells #[u, v, q] t (0, 0)) := by
 have k0 := heap_setCell_same _ g 0 _ _ u h
 have k1 := heap_setCell_same _ g 1 _ _ v k0
 have k2 := heap_setCell_same _ g 2 _ _ q k1
 exact k2
theorem trip_bel {B : Nat} {a w : World} {g : Nat} (u v q : Value) (h : Below B a w) (hg : B ≤ g) : Below B a (((w.setCell ⟨g, 0, none⟩ u).setCell ⟨g, 1, none⟩ v).setCell ⟨g, 2, none⟩ q) :=
 ((h.setCell (p := ⟨g, 0, none⟩) hg _).setCell (p := ⟨g, 1, none⟩) hg _).setCell (p := ⟨g, 2, none⟩) hg _
def readPost (l : List UInt8) (w : World) (e : Ending) (w' : World) : Prop :=
 (∃ r m x, e = .returned (.tuple #[.agg #[.int .i64 r, .int .i64 m, .string x], .bool (partL l)]) ∧ (partL l = true → IsPart l r m x)) ∧ Below w.heap.size w w'
theorem read_part {l : List UInt8} (h : ∀ v, atoiAll l ≠ .ok v) : partL l = letOk l := by
 have h1 := read_is l
 unfold readOk at h1
 unfold partL
 rw [← h1]
 cases ha : atoiAll l with
 | ok v => exact absurd ha (h v)
 | range => unfold letOk; rw [Bool.and_comm]
 | _ => unfold letOk; rw [Bool.and_comm]
theorem read_num {l : List UInt8} {v : Int} (h : atoiAll l = .ok v) : partL l = (decide (0 ≤ v) && decide (v ≤ 999999999) && decide (itoa v = l)) := by
 have h1 := read_is l
 unfold readOk at h1
 rw [h] at h1
 unfold partL
 rw [← h1]
theorem num_part {l : List UInt8} {v : Int} (h : atoiAll l = .ok v) (hp : partL l = true) : IsPart l 2 v ⟨#[]⟩ := by
 have hd : digOk l = true := by
  unfold partL at hp
  cases hl : letOk l
  ·rw [hl] at hp; simpa using hp
  ·exfalso
   have h0 := read_num h
   rw [show partL l = true from hp] at h0
   have h1 := h0.symm
   simp only [Bool.and_eq_true, decide_eq_true_eq] at h1
   obtain ⟨u, rfl⟩ : ∃ u : Nat, v = u := ⟨v.toNat, by omega⟩
   have h2 := h1.2
   rw [itoa_nat] at h2
   have hk := dec_dig u
   rw [h2] at hk
   have := (not_both hl).1
   unfold digs at this
   rw [hk.1] at this
   have hne := hk.2.1
   cases l with
   | nil => exact hne rfl
   | cons _ _ => simp at this
 have e := atoi_dig hd
 rw [h] at e
 injection e with e
 refine ⟨(rk_dig hd).symm, ?_, ?_⟩
 ·rw [e]; unfold numOf; rw [if_neg (by rw [(digs_of hd).2.1]; simp)]
 ·unfold wordOf; rw [if_neg (by rw [(digs_of hd).2.1]; simp)]
theorem let_part {l : List UInt8} (hp : letOk l = true) {x : ByteArray} (hx : x.data.toList = l) : IsPart l 0 0 x :=
 ⟨(rk_let hp).symm, by unfold numOf; rw [if_pos hp], by unfold wordOf; rw [if_pos hp, hx]⟩
set_option maxRecDepth 10000 in
set_option maxHeartbeats 1000000 in
theorem read_any (s : ByteArray) (hs : s.size ≤ 1000000) {w : World} (hD : Doors w) : Calls Tryz.prog 206 #[.string s] w (readPost s.data.toList w) := by
 obtain ⟨l, hl⟩ : ∃ l, l = s.data.toList := ⟨_, rfl⟩
 have hb1 : Below w.heap.size w (w.alloc (.cells #[.int .i64 0, .int .i64 0, .string ⟨#[]⟩] 241)) := below_alloc1 _ _
 have hr1 : (w.alloc (.cells #[.int .i64 0, .int .i64 0, .string ⟨#[]⟩] 241)).heap[w.heap.size]? = some (.cells #[.int .i64 0, .int .i64 0, .string ⟨#[]⟩] 241 (0, 0)) := heap_new_at rfl
 have hA := atoi_any s (by omega) (hD.below hb1)
 have hln : l.length = s.size := by rw [hl]; exact Txt.len s
 rw [← hl] at hA ⊢
 obtain ⟨Hl, Hb1, Hr1, HA, Hln⟩ := hd5 hl hb1 hr1 hA hln; clear hl hb1 hr1 hA hln
 go_enter Tryz.func206, Tryz.ntmps206
 go_wp2_with fail
 refine HA.out.mono ?_
 rintro e w2 ⟨⟨v, hv, rfl⟩ | ⟨hv, v, N, rfl⟩, hb2⟩
 ·have hp := read_num hv
  have hrow := heap_below hb2 Hr1.out
  have hb := Hb1.out.trans (hb2.mono Hb1.out.size)
  have hbd := atoiAll_bounds hv
  obtain ⟨c0, c1, c2, f0, f1, f2⟩ := trip_cells hrow
  have hnum := num_part hv
  by_cases h0 : 0 ≤ v
  ·by_cases h9 : v ≤ 999999999
   ·have k1 : decide (0 ≤ v) = true := decide_eq_true h0
    have k2 : decide (v ≤ 999999999) = true := decide_eq_true h9
    have hI := itoa_any v (by omega) (by omega) (hD.below hb)
    have hpb : (itoa v == s.toList) = partL l := by
     rw [hp, decide_eq_true h0, decide_eq_true h9, toList_data, ← Hl.out]
     simp only [Bool.and_self, Bool.true_and]
     by_cases h : itoa v = l
     ·rw [h]; simp
     ·rw [decide_eq_false h]; exact beq_eq_false_iff_ne.2 h
    obtain ⟨Hp, Hv, Hrow, Hb, Hbd, Hnum, HI, Hpb, H0, H9, HD, Hs⟩ := hd12 hp hv hrow hb hbd hnum hI hpb h0 h9 hD hs; clear hp hv hrow hb hbd hnum hI hpb h0 h9 hD hs
    clear c0 c1 c2 f0 f1 f2 hb2
    go_wp2_with fail
    refine HI.out.mono ?_
    rintro e w3 ⟨rfl, hb3⟩
    have hrow3 := heap_below hb3 Hrow.out
    obtain ⟨c0, c1, c2, f0, f1, f2⟩ := trip_cells hrow3
    have hbw := Hb.out.trans (hb3.mono Hb.out.size)
    obtain ⟨Hrow3, Hbw, Hb3⟩ := hd3 hrow3 hbw hb3; clear hrow3 hbw hb3
    go_wp2_with fail
    refine bodyPost_part rfl rfl rfl (trip_set _ _ _ Hrow3.out) rfl ?_
    exact ⟨⟨_, _, _, ret_two Hpb.out, Hnum.out⟩, trip_bel _ _ _ Hbw.out (Nat.le_refl _)⟩
   ·have k1 : decide (0 ≤ v) = true := decide_eq_true h0
    have k2 : decide (v ≤ 999999999) = false := decide_eq_false h9
    have hpb : partL l = false := by rw [hp, decide_eq_false h9]; simp
    obtain ⟨Hp, Hv, Hrow, Hb, Hbd, Hnum, Hpb, H0, H9, HD, Hs⟩ := hd11 hp hv hrow hb hbd hnum hpb h0 h9 hD hs; clear hp hv hrow hb hbd hnum hpb h0 h9 hD hs
    go_wp2_with fail
    refine bodyPost_part rfl rfl rfl (trip_set _ _ _ Hrow.out) rfl ?_
    exact ⟨⟨_, _, _, ret_two Hpb.out.symm, Hnum.out⟩, trip_bel _ _ _ Hb.out (Nat.le_refl _)⟩
  ·have k1 : decide (0 ≤ v) = false := decide_eq_false h0
   have hpb : partL l = false := by rw [hp, decide_eq_false h0]; simp
   obtain ⟨Hp, Hv, Hrow, Hb, Hbd, Hnum, Hpb, H0, HD, Hs⟩ := hd10 hp hv hrow hb hbd hnum hpb h0 hD hs; clear hp hv hrow hb hbd hnum hpb h0 hD hs
   go_wp2_with fail
   refine bodyPost_part rfl rfl rfl (trip_set _ _ _ Hrow.out) rfl ?_
   exact ⟨⟨_, _, _, ret_two Hpb.out.symm, Hnum.out⟩, trip_bel _ _ _ Hb.out (Nat.le_refl _)⟩
 ·have hp := read_part hv
  have hrow := heap_below hb2 Hr1.out
  have hb := Hb1.out.trans (hb2.mono Hb1.out.size)
  obtain ⟨c0, c1, c2, f0, f1, f2⟩ := trip_cells hrow
  obtain ⟨sz, hsz⟩ : ∃ sz, sz = s.size := ⟨_, rfl⟩
  obtain ⟨Hp, Hv, Hrow, Hb, HD⟩ := hd5 hp hv hrow hb hD; clear hp hv hrow hb hD
  clear hb2
  go_wp2_with fail
  go_loop [6, 30] (fun _ i => ∃ k : Nat, k ≤ s.size ∧ i = .int .i64 k ∧ (l.take k).all isLet = true) (fun _ i => s.size - (RowKit.intOf i).toNat)
  case atStart => exact ⟨0, Nat.zero_le _, rfl, by simp⟩
  case round =>
   obtain ⟨k, hk, rfl, hall⟩ := hrel
   by_cases hlt : k < s.size
   ·have hkl : k < l.length := by have := Hln.out; omega
    obtain ⟨n, hn⟩ : ∃ n, n = s[k].toNat := ⟨_, rfl⟩
    have hn256 : n < 256 := by rw [hn]; exact s[k].toNat_lt
    have hsk : s[k].toNat = n := hn.symm
    have e : l[k] = s[k] := by simp only [Hl.out]; rfl
    have hyes : 97 ≤ n → n ≤ 122 → (l.take (k + 1)).all isLet = true := fun h1 h2 => by
     rw [List.take_succ_eq_append_getElem hkl, List.all_append, hall]
     simp only [List.all_cons, List.all_nil, Bool.and_true, Bool.true_and]
     rw [isLet_iff, e, hsk]; exact ⟨h1, h2⟩
    have hno : ¬ (97 ≤ n ∧ n ≤ 122) → partL l = false := fun h => by
     rw [Hp.out, Bool.eq_false_iff]
     intro h2
     unfold letOk at h2
     rw [Bool.and_eq_true] at h2
     have := List.all_eq_true.1 h2.2 l[k] (List.getElem_mem hkl)
     rw [isLet_iff, e, hsk] at this
     exact h this
    clear hn e hkl
    rcases Nat.lt_or_ge n 97 with h1 | h1
    ·have hf := hno (by omega)
     have k1 : decide ((n : Int) < 97) = true := decide_eq_true (by omega)
     obtain ⟨Hall, Hyes, Hno, Hf⟩ := hd4 hall hyes hno hf; clear hall hyes hno hf
     go_wp2_with fail
     refine bodyPost_part rfl rfl rfl (trip_set _ _ _ Hrow.out) rfl ?_
     exact ⟨⟨_, _, _, ret_two Hf.out.symm, fun h => by rw [Hf.out] at h; cases h⟩, trip_bel _ _ _ Hb.out (Nat.le_refl _)⟩
    ·have k1 : decide ((n : Int) < 97) = false := decide_eq_false (by omega)
     rcases Nat.lt_or_ge 122 n with h2 | h2
     ·have hf := hno (by omega)
      have k2 : decide (122 < (n : Int)) = true := decide_eq_true (by omega)
      obtain ⟨Hall, Hyes, Hno, Hf⟩ := hd4 hall hyes hno hf; clear hall hyes hno hf
      go_wp2_with fail
      refine bodyPost_part rfl rfl rfl (trip_set _ _ _ Hrow.out) rfl ?_
      exact ⟨⟨_, _, _, ret_two Hf.out.symm, fun h => by rw [Hf.out] at h; cases h⟩, trip_bel _ _ _ Hb.out (Nat.le_refl _)⟩
     ·have k2 : decide (122 < (n : Int)) = false := decide_eq_false (by omega)
      have hnext := hyes h1 h2
      obtain ⟨Hall, Hyes, Hno, Hnext⟩ := hd4 hall hyes hno hnext; clear hall hyes hno hnext
      go_wp2_with fail
      go_round
      case rel => exact ⟨k + 1, by omega, by go_num, Hnext.out⟩
      case measure => simp [RowKit.intOf]; omega
   ·obtain rfl : k = s.size := by omega
    have hall2 : l.all isLet = true := by rw [List.take_of_length_le (by have := Hln.out; omega)] at hall; exact hall
    have hf : partL l = !s.toList.isEmpty := by
     rw [Hp.out]
     unfold letOk
     rw [hall2, Bool.and_true, Txt.no_dec]
     have := Hln.out
     cases l with
     | nil => simp at this; rw [decide_eq_true (by omega)]; rfl
     | cons x r => simp at this; rw [decide_eq_false (by omega)]; rfl
    have hlp : partL l = true → IsPart l 0 0 s := fun h => let_part (by rw [← Hp.out]; exact h) Hl.out.symm
    obtain ⟨Hall, Hall2, Hf, Hlp⟩ := hd4 hall hall2 hf hlp; clear hall hall2 hf hlp
    go_wp2_with fail
    refine bodyPost_part rfl rfl rfl (trip_set _ _ _ Hrow.out) rfl ?_
    exact ⟨⟨_, _, _, ret_two Hf.out.symm, Hlp.out⟩, trip_bel _ _ _ Hb.out (Nat.le_refl _)⟩
end Go.Proofs.YteailgjiifdgcaaGreatDoor

/- A range over a function whose iterator turns a block of cells of its own between two rounds: its contract, and the law for the loop. No condition. -/
namespace Go.Proofs.YteailgjiifdgcaaGreatDoor
open Go.RowKit Go.Shelf

def Lets {β : Type} (b : Nat) (J : β → World → Prop) : Prop := ∀ s W (i : Nat) u, J s W → J s (W.setCell ⟨b, i, none⟩ u)
def KeepS (S : Nat → Prop) (W W' : World) : Prop := ∀ k, S k → W'.heap[k]? = W.heap[k]?
theorem KeepS.refl (S : Nat → Prop) (W : World) : KeepS S W W := fun _ _ => rfl
theorem KeepS.trans {S : Nat → Prop} {A B C : World} (h : KeepS S A B) (k : KeepS S B C) : KeepS S A C := fun i hi => (k i hi).trans (h i hi)
theorem KeepS.below {S : Nat → Prop} {W W' : World} (hS : ∀ k, S k → k < W.heap.size) (h : Below W.heap.size W W') : KeepS S W W' := fun k hk => h.block k (hS k hk)
theorem KeepS.put {S : Nat → Prop} {W : World} {l : Nat} (h : ¬ S l) (o : Obj) : KeepS S W (W.putObj l o) := fun k hk => World.putObj_heap_other (fun e => h (by rw [← e]; exact hk))
theorem KeepS.set {S : Nat → Prop} {W : World} {p : Addr} (h : ¬ S p.block) (u : Value) : KeepS S W (W.setCell p u) := fun k hk => Below.heap_setCell _ _ _ _ (fun e => h (by rw [← e]; exact hk))
def SeqOwn {α : Type} (F : Fence) (n : Nat) (P : Program) (g : Nat) (lb : Array Value) (enc : α → Value) (K : Nat → Prop) (b : Nat) (Px : List α → α → Prop) (S Sp : List α → Prop) (w : World) : Prop :=
 ∀ (l : Nat) (J Jx : List α → World → Prop) (W : World), Below w.heap.size w W → AbidesFrom W.heap.size J → AbidesFrom W.heap.size Jx → Lets b J → Lets b Jx →
  (∀ pre x W1, J pre W1 → Px pre x → YieldAt F (n - 1) P l #[enc x] W1 fun e W' =>
   (e = .returned (.bool true) ∧ J (pre ++ [x]) W' ∧ KeepS K W1 W') ∨ (e = .returned (.bool false) ∧ Jx (pre ++ [x]) W')) →
  J [] W →
  CallsIn F n P g (#[.func (.yield l) #[] #[]] ++ lb) W fun e W' => (∃ v, e = .returned v) ∧ ((∃ xs, S xs ∧ J xs W') ∨ (∃ pre, Sp pre ∧ Jx pre W'))
def ownEnd {α : Type} (B : Nat) (K : Nat → Prop) (I Ix : List α → World → Prop) (xs : List α) (W : World) : Exit → Act → World → Prop
 | .normal, _, W' => KeepsFrom B W W' ∧ KeepS K W W' ∧ I xs W'
 | .ret, _, W' => KeepsFrom B W W' ∧ Ix xs W'
 | _, _, _ => False
theorem heap_other {W : World} {k b i : Nat} {u : Value} {o : Obj} (h : W.heap[k]? = some o) (hne : k ≠ b) : (W.setCell ⟨b, i, none⟩ u).heap[k]? = some o :=
 (Below.heap_setCell _ _ _ _ hne).trans h
variable {F : Fence} {n : Nat} {P : Program}
theorem wpIn_range_own {α : Type} {g : Operand} {ps : Array Tmp} {assign body : Code} {Q : Exit → Act → World → Prop} {a : Act} {w : World}
  (hro : F.round = none) (h1 : 1 ≤ n) {gf : Nat} {lb : Array Value} (hg : a.eval g = .func (.func gf) #[] lb) (hFg : F.fn gf) (eg : ∀ args w, (callFunc gf args).run P w = .ok (.enter gf args) w)
  {enc : α → Value} {Kb : Nat → Prop} {b : Nat} {Px : List α → α → Prop} {S Sp : List α → Prop} {w0 : World} (hseq : SeqOwn F (n - 1) P gf lb enc Kb b Px S Sp w0)
  (hKb : ∀ k, Kb k → k < w.heap.size) (hb : b < w.heap.size) (hb0 : Below w0.heap.size w0 w) (hps : ps.size = 1)
  (I Ix : List α → World → Prop) (hI : OwnFrom w.heap.size I) (hIx : OwnFrom w.heap.size Ix) (hIb : Lets b I) (hIxb : Lets b Ix) (h0 : I [] w) (a₁ : α → Act)
  (hassign : ∀ (l : Nat) (x : α) (W : World) (K : Act → World → Prop), K (a₁ x) W →
   assign.wpIn (F.inRound l) (n - 1 - 1) P (Exit.then K (fun _ _ _ => False)) { tmps := (ps.zip #[enc x]).foldl (fun t (p, v) => t.setIfInBounds p v) a.tmps, defers := [] } W)
  (hbody : ∀ (l : Nat) (pre : List α) (x : α) (W : World), I pre W → Px pre x → body.wpIn (F.inRound l) (n - 1 - 1) P (ownEnd w.heap.size Kb I Ix (pre ++ [x]) W) (a₁ x) W)
  (hdone : ∀ (D : Nat) (xs : List α) (W : World), w.heap.size ≤ D → S xs → I xs W → W.heap[D]? = some (.deferred (some [])) → Q .normal { a with defers := { target := .collected D, args := #[] } :: a.defers } W)
  (hstop : ∀ (D : Nat) (pre : List α) (W : World), w.heap.size ≤ D → Sp pre → Ix pre W → W.heap[D]? = some (.deferred (some [])) → Code.ret.wpIn F n P Q { a with defers := { target := .collected D, args := #[] } :: a.defers } W) :
  (Code.rangeFunc g ps assign body).wpIn F n P Q a w := by
 refine wpIn_rangeFunc fun fn hfn => ?_
 rw [hro]
 obtain ⟨rec, hrec⟩ : ∃ rec : LoopState → Option Code → Loop, rec = fun st pe => { state := st, pending := pe, fn, tmps := a.tmps, params := ps, assign, body, defers := w.heap.size } := ⟨_, rfl⟩
 obtain ⟨W1, hW1⟩ : ∃ W1, (w.alloc (.deferred (some []))).alloc (.loop (rec .ready none)) = W1 := ⟨_, rfl⟩
 have hL1 : W1.heap[w.heap.size + 1]? = some (.loop (rec .ready none)) := by
  rw [← hW1]
  have := World.alloc_heap_new (w.alloc (.deferred (some []))) (.loop (rec .ready none))
  rwa [World.size_alloc] at this
 have hK1 : W1.heap[w.heap.size]? = some (.deferred (some [])) := by
  rw [← hW1]
  exact (Below.heap_alloc _ _ _ (by simp)).trans (World.alloc_heap_new w _)
 have hI1 : I [] W1 := by rw [← hW1]; exact hI.alloc _ (hI.alloc _ h0)
 have hs1 : W1.heap.size = w.heap.size + 2 := by rw [← hW1]; simp
 have hb1 : Below w0.heap.size w0 W1 := by
  rw [← hW1]
  exact hb0.trans ((((Below.refl _ w).alloc (Nat.le_refl _) _).alloc (by simp) _).mono hb0.size)
 refine ⟨w.heap.size + 1, [{ target := .collected w.heap.size, args := #[] }], W1, { target := .fn (.func gf) lb, args := #[.func (.yield (w.heap.size + 1)) #[] #[]] }, W1, gf,
  #[.func (.yield (w.heap.size + 1)) #[] #[]] ++ lb, W1, ?_, ?_, ?_, ?_, fun _ => h1, ?_⟩
 ·rw [← hW1, hrec]; exact run_enterLoop_outer _ _ _ _ _
 ·simp only [resolve, hg]
  simp [go_sem]
 ·intro f' hf'
  simp [Target.leads] at hf'
  subst hf'
  exact hFg
 ·simp [invoke, go_sem, eg]
 · -- the record and the block of what is put off lie as they lay, whatever the iterator does
  have kp : ∀ {A B : World} {row : Option Nat} {k : Nat} {o : Obj}, A.grownBy B row → (∀ r, row = some r → W1.heap.size ≤ r ∧ ∃ o : Obj, A.heap[r]? = some o ∧ o.isWalk = true) → k < W1.heap.size → A.heap[k]? = some o → B.heap[k]? = some o := fun hg' hr hk ho =>
   (hg'.block _ (Array.getElem?_eq_some_iff.1 ho).1 (fun e => by have := (hr _ e.symm).1; omega)).trans ho
  have nw : ∀ {A : World} {row : Option Nat}, (∀ r, row = some r → W1.heap.size ≤ r ∧ ∃ o : Obj, A.heap[r]? = some o ∧ o.isWalk = true) → (∀ r, row = some r → w.heap.size ≤ r ∧ ∃ o : Obj, A.heap[r]? = some o ∧ o.isCells = false) := fun hr r e => by
   obtain ⟨h2, o, h3, h4⟩ := hr r e
   exact ⟨by omega, o, h3, Obj.not_cells_of_walk h4⟩
  refine (hseq (w.heap.size + 1)
   (fun pre W => I pre W ∧ W.heap[w.heap.size + 1]? = some (.loop (rec .ready none)) ∧ W.heap[w.heap.size]? = some (.deferred (some [])))
   (fun pre W => Ix pre W ∧ W.heap[w.heap.size + 1]? = some (.loop (rec .done (some .ret))) ∧ W.heap[w.heap.size]? = some (.deferred (some [])))
   W1 hb1
   (fun s A B row hs hg' hr => ⟨hI s A B row hs.1 hg' (nw hr), kp hg' hr (by omega) hs.2.1, kp hg' hr (by omega) hs.2.2⟩)
   (fun s A B row hs hg' hr => ⟨hIx s A B row hs.1 hg' (nw hr), kp hg' hr (by omega) hs.2.1, kp hg' hr (by omega) hs.2.2⟩)
   (fun s W i u hs => ⟨hIb s W i u hs.1, heap_other hs.2.1 (by omega), heap_other hs.2.2 (by omega)⟩)
   (fun s W i u hs => ⟨hIxb s W i u hs.1, heap_other hs.2.1 (by omega), heap_other hs.2.2 (by omega)⟩)
   ?_ ⟨hI1, hL1, hK1⟩).mono ?_
  · -- one round
   rintro pre x W ⟨hi, hl, hk⟩ hpx
   have hlt : w.heap.size + 1 < W.heap.size := (Array.getElem?_eq_some_iff.1 hl).1
   have hy := run_yield (P := P) (args := #[enc x]) hl (by rw [hrec]; exact hps.symm)
   rw [hrec] at hy
   refine ⟨fn, _, assign, body, hy, roundIn_of_wpIn hfn (hassign _ x W _ ?_)⟩
   clear hy
   refine ⟨_, run_beginRound hl (by rw [hrec]), ?_⟩
   obtain ⟨W2, hW2⟩ : ∃ W2, W2 = W.putObj (w.heap.size + 1) (.loop { rec .ready none with state := .busy }) := ⟨_, rfl⟩
   rw [← hW2]
   have hl2 : W2.heap[w.heap.size + 1]? = some (.loop { rec .ready none with state := .busy }) := by rw [hW2]; exact World.putObj_heap_same hlt
   have hk2 : W2.heap[w.heap.size]? = some (.deferred (some [])) := by rw [hW2]; exact (World.putObj_heap_other (by omega)).trans hk
   have hne : ¬ Kb (w.heap.size + 1) := fun h => by have := hKb _ h; omega
   have hw2 : KeepS Kb W W2 := by rw [hW2]; exact KeepS.put hne _
   have hi2 : I pre W2 := by rw [hW2]; exact hI.putObj _ hi (by omega) hl rfl
   refine wpIn_mono (hbody _ pre x W2 hi2 hpx) ?_
   have fin : ∀ (jump : Option Code) (W3 : World), KeepsFrom w.heap.size W2 W3 →
     ∃ W4, W4 = W3.putObj (w.heap.size + 1) (.loop (rec (if jump.isNone then .ready else .done) jump)) ∧ (Instr.endRound (w.heap.size + 1) jump).run P W3 = .ok (.bool jump.isNone) W4 ∧
     W3.heap[w.heap.size + 1]? = some (.loop { rec .ready none with state := .busy }) ∧
     W4.heap[w.heap.size + 1]? = some (.loop (rec (if jump.isNone then .ready else .done) jump)) ∧ W4.heap[w.heap.size]? = some (.deferred (some [])) := fun jump W3 hk3 => by
    have hl3 := hk3.same _ _ (by omega) hl2 rfl
    have hr := run_endRound (P := P) jump hl3
    refine ⟨_, rfl, ?_, hl3, World.putObj_heap_same (Array.getElem?_eq_some_iff.1 hl3).1, (World.putObj_heap_other (by omega)).trans (hk3.same _ _ (Nat.le_refl _) hk2 rfl)⟩
    rw [hrec] at hr ⊢
    exact hr
   rintro e a3 W3 hp
   cases e with
   | normal =>
    obtain ⟨hk3, hkp3, hi3⟩ := hp
    obtain ⟨W4, e4, hr, hl3, hl4, hk4⟩ := fin none W3 hk3
    refine ⟨_, _, hr, .inl ⟨rfl, ⟨?_, hl4, hk4⟩, ?_⟩⟩
    ·rw [e4]; exact hI.putObj _ hi3 (by omega) hl3 rfl
    ·rw [e4]; exact (hw2.trans hkp3).trans (KeepS.put hne _)
   | ret =>
    obtain ⟨hk3, hi3⟩ := hp
    obtain ⟨W4, e4, hr, hl3, hl4, hk4⟩ := fin (some .ret) W3 hk3
    refine ⟨_, _, hr, .inr ⟨rfl, ?_, hl4, hk4⟩⟩
    rw [e4]; exact hIx.putObj _ hi3 (by omega) hl3 rfl
   | exit id => exact hp.elim
   | goto t => exact hp.elim
   | panic ch => exact hp.elim
   | outgrown => exact hp.elim
  · -- behind the iterator
   rintro e W2 ⟨⟨v, rfl⟩, (⟨xs, hS, hi, hl, hk⟩ | ⟨pre, hSp, hi, hl, hk⟩)⟩
   ·have hr := run_endLoop (P := P) hl (by rw [hrec]; simp)
    rw [hrec] at hr
    exact ⟨none, _, hr, hdone _ xs _ (Nat.le_refl _) hS (hI.putObj _ hi (by omega) hl rfl) ((World.putObj_heap_other (by omega)).trans hk)⟩
   ·have hr := run_endLoop (P := P) hl (by rw [hrec]; simp)
    rw [hrec] at hr
    exact ⟨some .ret, _, hr, hstop _ pre _ (Nat.le_refl _) hSp (hIx.putObj _ hi (by omega) hl rfl) ((World.putObj_heap_other (by omega)).trans hk)⟩
end Go.Proofs.YteailgjiifdgcaaGreatDoor

/- The walk of strings.SplitSeq at a separator of one byte: what the iterator hands over. Condition: a text of at most a million bytes. -/
namespace Go.Proofs.YteailgjiifdgcaaGreatDoor
open Go.RowKit Go.Shelf Go.Lib VerN

attribute [local go_sem] Oper.semAt_some

structure SBox (Bs Bp Bv : Nat) (c : UInt8) (r : ByteArray) (W : World) : Prop where
 s : W.heap[Bs]? = some (.cells #[.string r] 9 (0, 0))
 p : W.heap[Bp]? = some (.cells #[.string ⟨#[c]⟩] 9 (0, 0))
 v : W.heap[Bv]? = some (.cells #[.int .i64 0] 3 (0, 0))
theorem SBox.below {Bs Bp Bv n₀ : Nat} {c : UInt8} {r : ByteArray} {W W' : World} (h : SBox Bs Bp Bv c r W) (hb : Below n₀ W W') (h1 : Bs < n₀) (h2 : Bp < n₀) (h3 : Bv < n₀) : SBox Bs Bp Bv c r W' :=
 ⟨(hb.block _ h1).trans h.s, (hb.block _ h2).trans h.p, (hb.block _ h3).trans h.v⟩
abbrev Three (Bs Bp Bv : Nat) (k : Nat) : Prop := k = Bs ∨ k = Bp ∨ k = Bv
theorem SBox.keeps {Bs Bp Bv : Nat} {c : UInt8} {r : ByteArray} {W W' : World} (h : SBox Bs Bp Bv c r W) (hk : KeepS (Three Bs Bp Bv) W W') : SBox Bs Bp Bv c r W' :=
 ⟨(hk _ (.inl rfl)).trans h.s, (hk _ (.inr (.inl rfl))).trans h.p, (hk _ (.inr (.inr rfl))).trans h.v⟩
theorem SBox.set {Bs Bp Bv : Nat} {c : UInt8} {r : ByteArray} {W : World} (h : SBox Bs Bp Bv c r W) (hp : Bp ≠ Bs) (hv : Bv ≠ Bs) (r' : ByteArray) : SBox Bs Bp Bv c r' (W.setCell ⟨Bs, 0, none⟩ (.string r')) :=
 ⟨heap_setCell_same _ Bs 0 _ _ _ h.s, heap_other h.p hp, heap_other h.v hv⟩
theorem SBox.cells {Bs Bp Bv : Nat} {c : UInt8} {r : ByteArray} {W : World} (h : SBox Bs Bp Bv c r W) :
  W.cell? ⟨Bs, 0, none⟩ = some (.string r) ∧ W.cell? ⟨Bp, 0, none⟩ = some (.string ⟨#[c]⟩) ∧ W.cell? ⟨Bv, 0, none⟩ = some (.int .i64 0) ∧ W.frozen? ⟨Bs, 0, none⟩ = false :=
 ⟨cells_at h.s 0, cells_at h.p 0, cells_at h.v 0, frozen_at h.s 0⟩
def left (Bs : Nat) (W : World) : Nat := match W.cell? ⟨Bs, 0, none⟩ with
 | some (.string r) => r.size
 | _ => 0
theorem left_is {Bs Bp Bv : Nat} {c : UInt8} {r : ByteArray} {W : World} (h : SBox Bs Bp Bv c r W) : left Bs W = r.size := by unfold left; rw [h.cells.1]
theorem pre_snoc {pre zs rest : List ByteArray} {x : ByteArray} (h : zs = pre ++ x :: rest) : pre ++ [x] <+: zs := ⟨rest, by rw [h]; simp⟩
set_option maxRecDepth 100000 in
set_option maxHeartbeats 2000000 in
theorem split_stops (n : Nat) (hn : 1 ≤ n) (Bs Bp Bv : Nat) (c : UInt8) (s : ByteArray) (hs : s.size ≤ 1000000) (w : World) (h1 : Bs < w.heap.size) (h2 : Bp < w.heap.size) (h3 : Bv < w.heap.size) (hp : Bp ≠ Bs) (hv : Bv ≠ Bs) (hb : SBox Bs Bp Bv c s w) :
  SeqOwn Fence.wide n Tryz.prog 167 #[.pointer (some ⟨Bp, 0, none⟩), .pointer (some ⟨Bs, 0, none⟩), .pointer (some ⟨Bv, 0, none⟩)] (fun x : ByteArray => Value.string x) (Three Bs Bp Bv) Bs (fun pre x => x.size ≤ s.size ∧ pre ++ [x] <+: cutS c s) (fun ys => ys = cutS c s) (fun pre => pre <+: cutS c s) w := by
 intro l J Jx W hW hJ hJx hL hLx hY h0
 obtain ⟨zs, hzs⟩ : ∃ zs, zs = cutS c s := ⟨_, rfl⟩
 rw [← hzs]
 have hb0 : SBox Bs Bp Bv c s W := hb.below hW h1 h2 h3
 obtain ⟨d1, d2, d3, d4⟩ := hb0.cells
 have hc1 : ((1 : Int) == 0) = false := rfl
 obtain ⟨Hzs, Hb, Hb0, HW, HJ, HJx, HL, HLx⟩ := hd8 hzs hb hb0 hW hJ hJx hL hLx; clear hzs hb hb0 hW hJ hJx hL hLx
 refine callsIn_of_wp Tryz.func167 rfl trivial ?_ rfl
 simp only [Tryz.ntmps167, List.size_toArray, List.length_cons, List.length_nil, Nat.reduceAdd, Nat.reduceSub, Array.replicate_succ, Array.replicate_zero, List.push_toArray, List.append_toArray, List.nil_append, List.cons_append]
 gi_wp2
 gi_loopw [7, 8] (fun _ _ wr => ∃ (pre : List ByteArray) (r : ByteArray), zs = pre ++ cutS c r ∧ SBox Bs Bp Bv c r wr ∧ J pre wr ∧ r.size ≤ s.size) (fun _ _ wr => left Bs wr)
 case atStart => exact ⟨[], s, Hzs.out, Hb0.out, h0, Nat.le_refl _⟩
 case round =>
  obtain ⟨pre, r, hz, hbx, hJs, hr⟩ := hrel
  obtain ⟨d1, d2, d3, d4⟩ := hbx.cells
  have hl := left_is hbx
  have hI := Tryz.strings_Index_one r c wr
  obtain ⟨v, hvd⟩ : ∃ v, v = indexByte r.data.toList c := ⟨_, rfl⟩
  rw [← hvd] at hI
  by_cases hm : v = -1
  ·have hzz : zs = pre ++ [r] := by rw [hz, cutS_miss (by rw [← hvd, hm])]
   obtain ⟨fn, tmps, assign, body, hy, hR⟩ := hY pre r wr hJs ⟨hr, by rw [← Hzs.out, hzz]; exact List.prefix_refl _⟩
   have k1 : decide (v < 0) = true := decide_eq_true (by omega)
   obtain ⟨Hz, Hzz, Hbx, HJs, Hr, Hl, Hvd, HI, Hm⟩ := hd9 hz hzz hbx hJs hr hl hvd hI hm; clear hz hzz hbx hJs hr hl hvd hI hm
   gi_wp2
   refine ⟨trivial, (callsIn_wide.2 HI.out).mono ?_⟩
   rintro e w2 ⟨rfl, rfl⟩
   gi_wp2
   refine hR.mono ?_
   rintro e W3 (⟨rfl, hJ3, hk3⟩ | ⟨rfl, hJx3⟩)
   ·gi_wp2
    go_end0
    exact ⟨⟨_, rfl⟩, .inl ⟨_, Hzz.out.symm, hJ3⟩⟩
   ·gi_wp2
    go_end0
    exact ⟨⟨_, rfl⟩, .inr ⟨_, by rw [Hzz.out]; exact List.prefix_refl _, hJx3⟩⟩
  ·obtain ⟨i, hi⟩ : ∃ i : Nat, v = i := ⟨v.toNat, by have := indexByte_ge r.data.toList c; omega⟩
   subst hi
   have hlt := index_lt hvd.symm
   rw [Txt.len] at hlt
   have hz2 : zs = pre ++ r.extract 0 i :: cutS c (r.extract (i + 1) r.size) := by rw [hz, cutS_hit hvd.symm]
   obtain ⟨fn, tmps, assign, body, hy, hR⟩ := hY pre (r.extract 0 i) wr hJs ⟨by simp; omega, by rw [← Hzs.out]; exact pre_snoc hz2⟩
   have k1 : decide ((i : Int) < 0) = false := decide_eq_false (by omega)
   have k2 : (i : Int) ≤ (r.size : Int) := by omega
   have hsz : (r.extract (i + 1) r.size).size = r.size - (i + 1) := by simp
   obtain ⟨Hz, Hz2, Hbx, HJs, Hl, Hvd, HI, Hm, Hsz⟩ := hd9 hz hz2 hbx hJs hl hvd hI hm hsz; clear hz hz2 hbx hJs hl hvd hI hm hsz
   gi_wp2
   refine ⟨trivial, (callsIn_wide.2 HI.out).mono ?_⟩
   rintro e w2 ⟨rfl, rfl⟩
   gi_wp2
   refine hR.mono ?_
   rintro e W3 (⟨rfl, hJ3, hk3⟩ | ⟨rfl, hJx3⟩)
   ·have hb3 := Hbx.out.keeps hk3
    obtain ⟨d1, d2, d3, d4⟩ := hb3.cells
    obtain ⟨Hb3, HJ3, Hk3⟩ := hd3 hb3 hJ3 hk3; clear hb3 hJ3 hk3
    gi_wp2
    go_roundw
    case rel => exact ⟨pre ++ [r.extract 0 i], r.extract (i + 1) r.size, by rw [Hz2.out]; simp, Hb3.out.set hp hv _, HL.out _ _ 0 _ HJ3.out, by rw [Hsz.out]; omega⟩
    case measure => rw [left_is (Hb3.out.set hp hv _), Hl.out, Hsz.out]; omega
   ·gi_wp2
    refine bodyPost_ret (results_none rfl _ _ _) rfl ?_
    exact ⟨⟨_, rfl⟩, .inr ⟨_, pre_snoc Hz2.out, hJx3⟩⟩
end Go.Proofs.YteailgjiifdgcaaGreatDoor

/- A return whose two results lie in boxes of one cell each. No condition. -/
namespace Go.Proofs.YteailgjiifdgcaaGreatDoor
open Go.RowKit

theorem results_cells {P : Program} {fn : Func} {p q : Tmp} {ty tz : TypeId} (h : fn.results = #[.cell p ty, .cell q tz]) {tmps : Array Value} {w : World} {a b : Nat} {x y : Value} {ex ey : TypeId}
  (hp : tmps.getD p undef = .pointer (some ⟨a, 0, none⟩)) (hq : tmps.getD q undef = .pointer (some ⟨b, 0, none⟩))
  (hx : w.heap[a]? = some (.cells #[x] ex (0, 0))) (hy : w.heap[b]? = some (.cells #[y] ey (0, 0)))
  (ax : (isAgg ty).run P w = .ok false w) (ay : (isAgg tz).run P w = .ok false w) :
  (results fn tmps).run P w = .ok (.tuple #[x, y]) w := by
 have cx : w.cell? ⟨a, 0, none⟩ = some x := cells_at hx 0
 have cy : w.cell? ⟨b, 0, none⟩ = some y := cells_at hy 0
 have hp' : tmps[p]?.getD undef = .pointer (some ⟨a, 0, none⟩) := by simpa using hp
 have hq' : tmps[q]?.getD undef = .pointer (some ⟨b, 0, none⟩) := by simpa using hq
 simp only [results, h]
 simp [Sem.run_bind, Result.andThen, go_sem, hp', hq', ax, ay, cx, cy]
end Go.Proofs.YteailgjiifdgcaaGreatDoor

/- The walk of version.parts: a version's parts, or that it is none. Condition: the library's variables as they were laid. -/
namespace Go.Proofs.YteailgjiifdgcaaGreatDoor
open Go.RowKit Go.Shelf Go.Lib VerN

attribute [local go_sem] Oper.semAt_some

abbrev fSplit : Nat := 167
def partCells (l : List UInt8) : List Value := [.int .i64 (rankOf l), .int .i64 (numOf l), .string ⟨(wordOf l).toArray⟩]
def partsCells (ps : List (List UInt8)) : List Value := ps.flatMap partCells
theorem partsCells_snoc (ps : List (List UInt8)) (l : List UInt8) : partsCells (ps ++ [l]) = partsCells ps ++ partCells l := by simp [partsCells]
theorem part_cells {l : List UInt8} {r m : Int} {x : ByteArray} (h : IsPart l r m x) : partCells l = [.int .i64 r, .int .i64 m, .string x] := by
 obtain ⟨rfl, rfl, h⟩ := h
 unfold partCells
 rw [← h]
set_option maxRecDepth 10000 in
theorem splitSeq_any (s : ByteArray) (c : UInt8) (w : World) : Calls Tryz.prog 52 #[.string s, .string ⟨#[c]⟩] w fun e w' =>
  e = .returned (.func (.func fSplit) #[] #[.pointer (some ⟨w.heap.size + 1, 0, none⟩), .pointer (some ⟨w.heap.size, 0, none⟩), .pointer (some ⟨w.heap.size + 1 + 1, 0, none⟩)]) ∧
  w' = ((w.alloc (.cells #[.string s] 9)).alloc (.cells #[.string ⟨#[c]⟩] 9)).alloc (.cells #[.int .i64 0] 3) := by
 go_enter Tryz.func52, Tryz.ntmps52
 go_wp2
 go_ret
 exact ⟨rfl, rfl⟩
structure PI (w W : World) (pre : List ByteArray) : Prop where
 bel : Below w.heap.size w W
 r2 : W.heap[w.heap.size]? = some (.cells #[.slice none 0 0] 224 (0, 0))
 r3 : W.heap[w.heap.size + 1]? = some (.cells #[.bool false] 4 (0, 0))
 out : ∃ v, W.heap[w.heap.size + 1 + 1]? = some (.cells #[v] 224 (0, 0)) ∧ W.ownsRow (w.heap.size + 6) 241 3 v pre.length (partsCells (pre.map (·.data.toList)))
 ok : ∀ p ∈ pre, partL p.data.toList = true
 len : pre.length ≤ 8
structure PX (w W : World) (pre : List ByteArray) : Prop where
 bel : Below w.heap.size w W
 r2 : W.heap[w.heap.size]? = some (.cells #[.slice none 0 0] 224 (0, 0))
 r3 : W.heap[w.heap.size + 1]? = some (.cells #[.bool false] 4 (0, 0))
 bad : (∃ p ∈ pre, partL p.data.toList = false) ∨ 8 < pre.length
theorem heap_kept {W W' : World} {row : Option Nat} {k : Nat} {o : Obj} {B : Nat} (hg : W.grownBy W' row) (hr : ∀ r, row = some r → B ≤ r) (hk : k < B) (h : W.heap[k]? = some o) : W'.heap[k]? = some o :=
 (hg.block k (Array.getElem?_eq_some_iff.1 h).1 (fun e => by have := hr k e.symm; omega)).trans h
theorem ownFrom_size {B : Nat} (m : Nat) : OwnFrom B (fun (_ : List ByteArray) W => m ≤ W.heap.size) := fun _ _ _ _ h hg _ => Nat.le_trans h hg.size
theorem PI.own {w : World} {B : Nat} (hB : w.heap.size + 6 ≤ B) : OwnFrom B (fun (pre : List ByteArray) W => PI w W pre) := by
 rintro pre W W' row h hg hr
 have hr' : ∀ r, row = some r → B ≤ r := fun r e => (hr r e).1
 obtain ⟨v, hv, hrow⟩ := h.out
 refine ⟨h.bel.grown hg h.bel.size (fun k e => by have := hr' k e; omega), heap_kept hg hr' (by omega) h.r2, heap_kept hg hr' (by omega) h.r3, ⟨v, heap_kept hg hr' (by omega) hv, hrow.kept hg ?_⟩, h.ok, h.len⟩
 rcases hrow.2 with ⟨rfl, _⟩ | ⟨g, cap, cur, rfl, _, hgb, _⟩
 ·exact .inl rfl
 ·refine .inr fun e' => ?_
  obtain ⟨_, o, ho, hc⟩ := hr g (by simpa [Value.ownBlock] using e'.symm)
  rw [hgb] at ho
  cases ho
  cases hc
theorem PX.own {w : World} {B : Nat} (hB : w.heap.size + 6 ≤ B) : OwnFrom B (fun (pre : List ByteArray) W => PX w W pre) := by
 rintro pre W W' row h hg hr
 have hr' : ∀ r, row = some r → B ≤ r := fun r e => (hr r e).1
 exact ⟨h.bel.grown hg h.bel.size (fun k e => by have := hr' k e; omega), heap_kept hg hr' (by omega) h.r2, heap_kept hg hr' (by omega) h.r3, h.bad⟩
theorem own_set {W : World} {B : Nat} {e : TypeId} {size : Nat} {v : Value} {n : Nat} {xs : List Value} (h : W.ownsRow B e size v n xs) {p : Nat} (hp : p < B) (i : Nat) (u : Value) : (W.setCell ⟨p, i, none⟩ u).ownsRow B e size v n xs := by
 refine h.kept (row := some p) ⟨rfl, rfl, rfl, by simp [World.setCell], fun k _ hk => Below.heap_setCell _ _ _ _ (fun e => hk (by rw [e]))⟩ ?_
 rcases h.2 with ⟨rfl, _⟩ | ⟨g, cap, cur, rfl, hg, _⟩
 ·exact .inl rfl
 ·exact .inr fun e' => by simp [Value.ownBlock] at e'; omega
theorem PI.lets (w : World) : Lets (w.heap.size + 1 + 1 + 1) (fun (pre : List ByteArray) W => PI w W pre) := by
 rintro pre W i u h
 obtain ⟨v, hv, hrow⟩ := h.out
 exact ⟨h.bel.setCell (p := ⟨w.heap.size + 1 + 1 + 1, i, none⟩) (by show w.heap.size ≤ w.heap.size + 1 + 1 + 1; omega) _, heap_other h.r2 (by omega), heap_other h.r3 (by omega), ⟨v, heap_other hv (by omega), own_set hrow (by omega) i u⟩, h.ok, h.len⟩
theorem PX.lets (w : World) : Lets (w.heap.size + 1 + 1 + 1) (fun (pre : List ByteArray) W => PX w W pre) := by
 rintro pre W i u h
 exact ⟨h.bel.setCell (p := ⟨w.heap.size + 1 + 1 + 1, i, none⟩) (by show w.heap.size ≤ w.heap.size + 1 + 1 + 1; omega) _, heap_other h.r2 (by omega), heap_other h.r3 (by omega), h.bad⟩
abbrev sb (w : World) : Nat → Prop := Three (w.heap.size + 1 + 1 + 1) (w.heap.size + 1 + 1 + 1 + 1) (w.heap.size + 1 + 1 + 1 + 1 + 1)
theorem keepsFrom_below {B : Nat} {W W' : World} (h : Below W.heap.size W W') : KeepsFrom B W W' := ⟨h.size, fun k o _ hk _ => heap_below h hk⟩
theorem PI.size {w W : World} {pre : List ByteArray} (h : PI w W pre) (hs : w.heap.size + 6 ≤ W.heap.size) : ∀ k, sb w k → k < W.heap.size := by
 rintro k (rfl | rfl | rfl) <;> omega
theorem lit3 (w : World) (x y z : Value) (t : TypeId) {n : Nat} (hn : w.heap.size = n) : ∀ j u, [x, y, z][j]? = some u → (w.alloc (.cells #[x, y, z] t)).cell? ((⟨n, 0, none⟩ : Addr).add j) = some u := by
 intro j u hu
 subst hn
 rw [Addr.add_lit, Nat.zero_add, World.cell?_alloc_new]
 simpa using hu
theorem PI.add {w W W3 w1 : World} {pre : List ByteArray} {x : ByteArray} {tmp : Obj} {B : Nat} (h : PI w W pre) (hs : w.heap.size + 6 ≤ W.heap.size) (hb : Below W.heap.size W W3) {v v' : Value}
  (hv : W.heap[w.heap.size + 1 + 1]? = some (.cells #[v] 224 (0, 0))) (hrow : W.ownsRow (w.heap.size + 6) 241 3 v pre.length (partsCells (pre.map (·.data.toList))))
  (hown : w1.ownsRow (w.heap.size + 6) 241 3 v' (pre.length + 1) (partsCells (pre.map (·.data.toList)) ++ partCells x.data.toList)) (hg : (W3.alloc tmp).grownBy w1 v.ownBlock) (hx : partL x.data.toList = true) (h8 : pre.length ≠ 8) :
  KeepsFrom B W (w1.setCell ⟨w.heap.size + 1 + 1, 0, none⟩ v') ∧ KeepS (sb w) W (w1.setCell ⟨w.heap.size + 1 + 1, 0, none⟩ v') ∧ PI w (w1.setCell ⟨w.heap.size + 1 + 1, 0, none⟩ v') (pre ++ [x]) ∧ w1.heap[w.heap.size + 1 + 1]? = some (.cells #[v] 224 (0, 0)) ∧ w.heap.size + 6 ≤ (w1.setCell ⟨w.heap.size + 1 + 1, 0, none⟩ v').heap.size := by
 have hb3 : Below W.heap.size W (W3.alloc tmp) := hb.alloc hb.size _
 have hrow3 : (W3.alloc tmp).ownsRow (w.heap.size + 6) 241 3 v pre.length (partsCells (pre.map (·.data.toList))) := ownsRow_below hrow hb3
 have old : ∀ {k : Nat} {o : Obj}, k < w.heap.size + 6 → W.heap[k]? = some o → w1.heap[k]? = some o := fun {k o} hk ho =>
  (hg.block k (by have := hb3.size; have := (Array.getElem?_eq_some_iff.1 ho).1; omega) (fun e => by have := (hrow3.lt k e.symm).1; omega)).trans (heap_below hb3 ho)
 refine ⟨?_, ?_, ⟨?_, heap_other (old (by omega) h.r2) (by omega), heap_other (old (by omega) h.r3) (by omega), ⟨v', heap_setCell_same _ _ 0 _ _ _ (old (by omega) hv), ?_⟩, ?_, ?_⟩, old (by omega) hv, by have := hg.size; have := hb3.size; simp [World.setCell]; omega⟩
 ·have k1 : KeepsFrom B W (W3.alloc tmp) := keepsFrom_below hb3
  have k2 : KeepsFrom B (W3.alloc tmp) w1 := ⟨hg.size, fun k o _ hk hc => (hg.block k (Array.getElem?_eq_some_iff.1 hk).1 (fun e => by
   obtain ⟨cs, hcs⟩ := own_type hrow3 k e.symm
   rw [hcs] at hk
   cases hk
   cases hc)).trans hk⟩
  exact (k1.trans k2).trans ((KeepsOthers.setCell _ _ _).from B)
 ·intro k hk
  have hlt := h.size hs k hk
  have hlt6 : k < w.heap.size + 6 := by rcases hk with rfl | rfl | rfl <;> omega
  have hne : k ≠ w.heap.size + 1 + 1 := by rcases hk with h | h | h <;> omega
  rw [Below.heap_setCell _ _ _ _ hne]
  cases ho : W.heap[k]? with
  | none => exact absurd ho (by rw [Array.getElem?_eq_getElem hlt]; simp)
  | some o => exact old hlt6 ho
 ·exact ((h.bel.trans (hb3.mono h.bel.size)).grown hg (by have := hb3.size; have := h.bel.size; omega) (fun k e => by have := (hrow3.lt k e).1; omega)).setCell (p := ⟨w.heap.size + 1 + 1, 0, none⟩) (by show w.heap.size ≤ w.heap.size + 1 + 1; omega) _
 ·rw [List.map_append, List.map_singleton, partsCells_snoc, List.length_append]
  exact own_set hown (by omega) 0 v'
 ·intro p hp
  rcases List.mem_append.1 hp with hp | hp
  ·exact h.ok p hp
  ·rw [List.mem_singleton] at hp; subst hp; exact hx
 ·have := h.len; rw [List.length_append, List.length_singleton]; omega
theorem PI.no {w W W3 : World} {pre : List ByteArray} {x : ByteArray} {B : Nat} (h : PI w W pre) (hs : w.heap.size + 6 ≤ W.heap.size) (hb : Below W.heap.size W W3) (hx : partL x.data.toList = false ∨ pre.length = 8) :
  KeepsFrom B W ((W3.setCell ⟨w.heap.size, 0, none⟩ (.slice none 0 0)).setCell ⟨w.heap.size + 1, 0, none⟩ (.bool false)) ∧ PX w ((W3.setCell ⟨w.heap.size, 0, none⟩ (.slice none 0 0)).setCell ⟨w.heap.size + 1, 0, none⟩ (.bool false)) (pre ++ [x]) := by
 refine ⟨((keepsFrom_below hb).trans ((KeepsOthers.setCell _ _ _).from B)).trans ((KeepsOthers.setCell _ _ _).from B), ?_, ?_, ?_, ?_⟩
 ·exact (((h.bel.trans (hb.mono h.bel.size)).setCell (p := ⟨w.heap.size, 0, none⟩) (Nat.le_refl _) _).setCell (p := ⟨w.heap.size + 1, 0, none⟩) (by show w.heap.size ≤ w.heap.size + 1; omega) _)
 ·exact heap_other (heap_setCell_same _ _ 0 _ _ _ (heap_below hb h.r2)) (by omega)
 ·exact heap_setCell_same _ _ 0 _ _ _ (heap_other (heap_below hb h.r3) (by omega))
 ·rcases hx with hx | hx
  ·exact .inl ⟨x, by simp, hx⟩
  ·right; rw [List.length_append, List.length_singleton]; omega
theorem info_part : (Tryz.prog.info? 241).map (fun i => (i.zero, i.size, i.bytes)) = some (some (.agg #[.int .i64 0, .int .i64 0, .string ⟨#[]⟩]), 3, 32) := by kernel_rfl
def partsPost (l : List UInt8) (w : World) (e : Ending) (w' : World) : Prop :=
 ∃ v, e = .returned (.tuple #[v, .bool (mayL l)]) ∧ (mayL l = true → w'.ownsRow w.heap.size 241 3 v (cutL 46 l).length (partsCells (cutL 46 l))) ∧ (mayL l = false → v = .slice none 0 0) ∧ Below w.heap.size w w'
theorem may_no {s : ByteArray} {pre : List ByteArray} (h : pre <+: cutS 46 s) (hb : (∃ p ∈ pre, partL p.data.toList = false) ∨ 8 < pre.length) : mayL s.data.toList = false := by
 rw [Bool.eq_false_iff]
 intro hm
 obtain ⟨_, _, h1, h2⟩ := (may_iff _).1 hm
 rcases hb with ⟨p, hp, hf⟩ | hb
 ·have := h1 p.data.toList (by rw [← cutS_data]; exact List.mem_map.2 ⟨p, h.subset hp, rfl⟩)
  rw [hf] at this; cases this
 ·have := h.length_le
  rw [cutS_len] at this
  omega
theorem may_yes {s : ByteArray} (h0 : s.size ≠ 0) (h40 : s.size ≤ 40) (hok : ∀ p ∈ cutS 46 s, partL p.data.toList = true) (hl : (cutS 46 s).length ≤ 8) : mayL s.data.toList = true := by
 rw [may_iff]
 refine ⟨fun e => h0 (by rw [← Txt.len, e]; rfl), by rw [Txt.len]; exact h40, fun p hp => ?_, by rw [← cutS_len]; exact hl⟩
 rw [← cutS_data] at hp
 obtain ⟨x, hx, rfl⟩ := List.mem_map.1 hp
 exact hok x hx
set_option maxRecDepth 100000 in
set_option maxHeartbeats 2000000 in
theorem parts_any (s : ByteArray) (hs : s.size ≤ 1000000) {w : World} (hD : Doors w) : Calls Tryz.prog 175 #[.string s] w (partsPost s.data.toList w) := by
 refine (callsIn_wide (n := 8)).1 ?_
 refine callsIn_of_wp_marks Tryz.func175 rfl trivial ?_ rfl
 simp only [Tryz.ntmps175, List.size_toArray, List.length_cons, List.length_nil, Nat.reduceAdd, Nat.reduceSub, Array.replicate_succ, Array.replicate_zero, List.push_toArray, List.append_toArray, List.nil_append, List.cons_append]
 by_cases h0 : s.size = 0
 ·have k1 : s.toList.isEmpty = true := by rw [Txt.no_dec, decide_eq_true h0]
  have hm : mayL s.data.toList = false := by
   rw [Bool.eq_false_iff]
   intro h
   exact ((may_iff _).1 h).1 (List.length_eq_zero_iff.1 (by rw [Txt.len]; exact h0))
  obtain ⟨Hm, HD⟩ := hd2 hm hD; clear hm hD
  gi_wp2
  refine ⟨_, results_cells rfl rfl rfl (heap_below (below_alloc1 _ _) (heap_new_at rfl)) (heap_new_at (by simp)) (Tryz.isAgg224 _) (Tryz.isAgg4 _), ?_⟩
  refine ⟨_, by rw [Hm.out], fun h => (by rw [Hm.out] at h; cases h), fun _ => rfl, ((Below.refl _ w).alloc (Nat.le_refl _) _).alloc (by simp) _⟩
 ·by_cases h40 : 40 < s.size
  ·have k1 : s.toList.isEmpty = false := by rw [Txt.no_dec, decide_eq_false h0]
   have k2 : decide ((40 : Int) < (s.size : Int)) = true := decide_eq_true (by omega)
   have hm : mayL s.data.toList = false := by
    rw [Bool.eq_false_iff]
    intro h
    have := ((may_iff _).1 h).2.1
    rw [Txt.len] at this
    omega
   obtain ⟨Hm, HD⟩ := hd2 hm hD; clear hm hD
   gi_wp2
   refine ⟨_, results_cells rfl rfl rfl (heap_below (below_alloc1 _ _) (heap_new_at rfl)) (heap_new_at (by simp)) (Tryz.isAgg224 _) (Tryz.isAgg4 _), ?_⟩
   refine ⟨_, by rw [Hm.out], fun h => (by rw [Hm.out] at h; cases h), fun _ => rfl, ((Below.refl _ w).alloc (Nat.le_refl _) _).alloc (by simp) _⟩
  ·have k1 : s.toList.isEmpty = false := by rw [Txt.no_dec, decide_eq_false h0]
   have k2 : decide ((40 : Int) < (s.size : Int)) = false := decide_eq_false (by omega)
   have hq := splitSeq_any s 46 (((w.alloc (.cells #[.slice none 0 0] 224)).alloc (.cells #[.bool false] 4)).alloc (.cells #[.slice none 0 0] 224))
   obtain ⟨Hq, HD⟩ := hd2 hq hD; clear hq hD
   gi_wp2
   refine ⟨trivial, (callsIn_wide.2 Hq.out).mono ?_⟩
   rintro e w2 ⟨rfl, rfl⟩
   gi_wp2
   have hsb : SBox (w.heap.size + 1 + 1 + 1) (w.heap.size + 1 + 1 + 1 + 1) (w.heap.size + 1 + 1 + 1 + 1 + 1) 46 s ((((((w.alloc (.cells #[.slice none 0 0] 224)).alloc (.cells #[.bool false] 4)).alloc (.cells #[.slice none 0 0] 224)).alloc (.cells #[.string s] 9)).alloc (.cells #[.string ⟨#[46]⟩] 9)).alloc (.cells #[.int .i64 0] 3)) := by
    have a1 := heap_new_at (w := (((w.alloc (.cells #[.slice none 0 0] 224)).alloc (.cells #[.bool false] 4)).alloc (.cells #[.slice none 0 0] 224))) (o := .cells #[.string s] 9) (n := w.heap.size + 1 + 1 + 1) (by simp)
    have a2 := heap_new_at (w := ((((w.alloc (.cells #[.slice none 0 0] 224)).alloc (.cells #[.bool false] 4)).alloc (.cells #[.slice none 0 0] 224)).alloc (.cells #[.string s] 9))) (o := .cells #[.string ⟨#[46]⟩] 9) (n := w.heap.size + 1 + 1 + 1 + 1) (by simp)
    have a3 := heap_new_at (w := (((((w.alloc (.cells #[.slice none 0 0] 224)).alloc (.cells #[.bool false] 4)).alloc (.cells #[.slice none 0 0] 224)).alloc (.cells #[.string s] 9)).alloc (.cells #[.string ⟨#[46]⟩] 9))) (o := .cells #[.int .i64 0] 3) (n := w.heap.size + 1 + 1 + 1 + 1 + 1) (by simp)
    exact ⟨heap_below (below_alloc1 _ _) (heap_below (below_alloc1 _ _) a1), heap_below (below_alloc1 _ _) a2, a3⟩
   obtain ⟨W0, hW0⟩ : ∃ W0, W0 = ((((((w.alloc (.cells #[.slice none 0 0] 224)).alloc (.cells #[.bool false] 4)).alloc (.cells #[.slice none 0 0] 224)).alloc (.cells #[.string s] 9)).alloc (.cells #[.string ⟨#[46]⟩] 9)).alloc (.cells #[.int .i64 0] 3)) := ⟨_, rfl⟩
   have hs0 : W0.heap.size = w.heap.size + 6 := by rw [hW0]; simp
   rw [← hW0] at hsb ⊢
   have hPI : PI w W0 [] := by
    rw [hW0]
    have k1 : ∀ {w' : World} {o : Obj} {k : Nat} {o' : Obj}, w'.heap[k]? = some o → (w'.alloc o').heap[k]? = some o := fun h => heap_below (below_alloc1 _ _) h
    refine ⟨(((((((Below.refl _ w).alloc (Nat.le_refl _) _).alloc (by simp) _).alloc (by simp; omega) _).alloc (by simp; omega) _).alloc (by simp; omega) _).alloc (by simp; omega) _), k1 (k1 (k1 (k1 (k1 (heap_new_at rfl))))), k1 (k1 (k1 (k1 (heap_new_at (by simp))))), ⟨_, k1 (k1 (k1 (heap_new_at (by simp)))), World.ownsRow_nil _ _ _ _⟩, (fun p hp => by cases hp), Nat.zero_le _⟩
   have HW0 := hd hW0; clear hW0
   refine wpIn_range_own rfl (by omega) (gf := fSplit) rfl trivial (enters_of Tryz.func167 (by kernel_rfl) rfl) (split_stops 7 (by omega) _ _ _ 46 s hs W0 (by omega) (by omega) (by omega) (by omega) (by omega) hsb)
    (fun k hk => by rcases hk with h | h | h <;> omega) (by omega) (Below.refl _ _) rfl
    (fun pre W => w.heap.size + 6 ≤ W.heap.size ∧ PI w W pre) (fun pre W => w.heap.size + 6 ≤ W.heap.size ∧ PX w W pre) (OwnFrom.and (ownFrom_size _) (PI.own (by omega))) (OwnFrom.and (ownFrom_size _) (PX.own (by omega))) (fun pre W i u h => ⟨by simp [World.setCell]; exact h.1, PI.lets w pre W i u h.2⟩) (fun pre W i u h => ⟨by simp [World.setCell]; exact h.1, PX.lets w pre W i u h.2⟩) ⟨by omega, hPI⟩
    (fun x => { tmps := #[.string s, undef, .pointer (some ⟨w.heap.size, 0, none⟩), .pointer (some ⟨w.heap.size + 1, 0, none⟩), .pointer (some ⟨w.heap.size + 1 + 1, 0, none⟩), .string x, undef, undef, .string s, .bool false, .bool false, .string s, .int .i64 (s.size : Int), .bool false, .bool false, .string s,
     .func (.func fSplit) #[] #[.pointer (some ⟨w.heap.size + 1 + 1 + 1 + 1, 0, none⟩), .pointer (some ⟨w.heap.size + 1 + 1 + 1, 0, none⟩), .pointer (some ⟨w.heap.size + 1 + 1 + 1 + 1 + 1, 0, none⟩)], .string x, undef, undef, undef, undef, undef, undef, undef, undef, undef, undef, undef, undef, undef, undef, undef, undef, undef], defers := [] }) ?assign ?body ?done ?stop
   case assign =>
    intro l x W K hK
    gi_wp2
    exact hK
   case body =>
    rintro l pre x W ⟨hsz, h⟩ ⟨hx, _⟩
    obtain ⟨v, hv, hrow⟩ := h.out
    obtain ⟨a, cap, rfl⟩ := own_shape hrow
    have hR := read_any x (by omega) (HD.out.below h.bel)
    obtain ⟨b, hb⟩ : ∃ b, b = partL x.data.toList := ⟨_, rfl⟩
    obtain ⟨m, hm⟩ : ∃ m, m = pre.length := ⟨_, rfl⟩
    have c0 : W.cell? ⟨w.heap.size + 1 + 1, 0, none⟩ = some (.slice a pre.length cap) := cells_at hv 0
    unfold readPost at hR
    rw [← hb] at hR
    obtain ⟨Hv, Hrow, HR, Hh, Hc0, Hx⟩ := hd6 hv hrow hR h c0 hx; clear hv hrow hR h c0 hx
    gi_wp2
    refine ⟨trivial, (CallsIn.inRound l (callsIn_wide.2 HR.out)).mono ?_⟩
    rintro e W2 ⟨⟨r, q, y, rfl, hpt⟩, hb2⟩
    have hb3 : Below W.heap.size W (W2.alloc (.cells #[.int .i64 r, .int .i64 q, .string y] 241)) := hb2.alloc hb2.size _
    have r2 := heap_below hb3 Hh.out.r2
    have r3 := heap_below hb3 Hh.out.r3
    have d0 : (W2.alloc (.cells #[.int .i64 r, .int .i64 q, .string y] 241)).cell? ⟨w.heap.size + 1 + 1, 0, none⟩ = some (.slice a pre.length cap) := cell_later hb3 Hc0.out
    have d1 : (W2.alloc (.cells #[.int .i64 r, .int .i64 q, .string y] 241)).cell? ⟨w.heap.size, 0, none⟩ = some (.slice none 0 0) := cells_at r2 0
    have d2 : (W2.alloc (.cells #[.int .i64 r, .int .i64 q, .string y] 241)).cell? ⟨w.heap.size + 1, 0, none⟩ = some (.bool false) := cells_at r3 0
    have f1 := frozen_at r2 0
    have f2 := frozen_at r3 0
    obtain ⟨Hb2, Hb3, Hr2, Hr3, Hpt, Hb, Hm⟩ := hd7 hb2 hb3 r2 r3 hpt hb hm; clear hb2 hb3 r2 r3 hpt hb hm
    clear Hq
    cases b with
    | false =>
     have hno := Hh.out.no (B := W0.heap.size) hsz Hb3.out (.inl Hb.out.symm)
     have hs3 : w.heap.size + 6 ≤ (((W2.alloc (.cells #[.int .i64 r, .int .i64 q, .string y] 241)).setCell ⟨w.heap.size, 0, none⟩ (.slice none 0 0)).setCell ⟨w.heap.size + 1, 0, none⟩ (.bool false)).heap.size := by have := Hb3.out.size; simp [World.setCell] at this ⊢; omega
     have Hno := hd hno; clear hno
     gi_wp2
     exact ⟨Hno.out.1, hs3, Hno.out.2⟩
    | true =>
     by_cases h8 : pre.length = 8
     ·have hno := Hh.out.no (B := W0.heap.size) hsz Hb3.out (x := x) (.inr h8)
      have hs3 : w.heap.size + 6 ≤ (((W2.alloc (.cells #[.int .i64 r, .int .i64 q, .string y] 241)).setCell ⟨w.heap.size, 0, none⟩ (.slice none 0 0)).setCell ⟨w.heap.size + 1, 0, none⟩ (.bool false)).heap.size := by have := Hb3.out.size; simp [World.setCell] at this ⊢; omega
      have k8 : ((pre.length : Int) == 8) = true := by rw [h8]; rfl
      obtain ⟨Hno, H8⟩ := hd2 hno h8; clear hno h8
      gi_wp2
      exact ⟨Hno.out.1, hs3, Hno.out.2⟩
     ·have k8 : ((pre.length : Int) == 8) = false := by rw [beq_eq_false_iff_ne]; omega
      have hlen := Hh.out.len
      have hrow3 := ownsRow_below Hrow.out Hb3.out
      have hpc := part_cells (Hpt.out rfl)
      obtain ⟨i0, hi, hz0, hz1, hz2⟩ := info_parts info_part
      have hadd := fun (w1 : World) (v' : Value) => Hh.out.add (B := W0.heap.size) hsz Hb3.out Hv.out Hrow.out (w1 := w1) (v' := v') (x := x) (tmp := .cells #[.int .i64 r, .int .i64 q, .string y] 241)
      rw [hpc] at hadd
      have hz9 : w.heap.size + 6 ≤ (W2.alloc (.cells #[.int .i64 r, .int .i64 q, .string y] 241)).heap.size := by have := Hb3.out.size; omega
      have g1 : pre.length + 1 ≤ maxLen := by unfold maxLen; omega
      have g2 : (pre.length + 1) * 32 ≤ 140737488355328 := by omega
      have g3 : w.heap.size + 6 ≤ ((W2.alloc (.cells #[.int .i64 r, .int .i64 q, .string y] 241)).alloc (.cells #[.int .i64 r, .int .i64 q, .string y] 241)).heap.size := by simp at hz9 ⊢; omega
      have g4 := lit3 (W2.alloc (.cells #[.int .i64 r, .int .i64 q, .string y] 241)) (.int .i64 r) (.int .i64 q) (.string y) 241 (n := W2.heap.size + 1) (by simp)
      have g5 : ∀ u ∈ [Value.int .i64 r, .int .i64 q, .string y], u.oneCell' = true := by simp [Value.oneCell']
      obtain ⟨Hrow3, Hpc, Hadd, Hz9, H8, Hlen, Hg1, Hg2, Hg3, Hg4, Hg5⟩ := hd11 hrow3 hpc hadd hz9 h8 hlen g1 g2 g3 g4 g5; clear hrow3 hpc hadd hz9 h8 hlen g1 g2 g3 g4 g5
      gi_wp2_with (gi_at_builtin; refine wpListIn_append_own _ rfl _ _ 224 rfl (w.heap.size + 6) 241 i0 (.agg #[.int .i64 0, .int .i64 0, .string ⟨#[]⟩]) 3 32 Tryz.underlying224 hi hz0 hz1 hz2 rfl (by decide) _ _ _ rfl (Hrow3.out.alloc _) ⟨W2.heap.size + 1, 0, none⟩ 1 1 [.int .i64 r, .int .i64 q, .string y] rfl rfl Hg4.out Hg5.out Hg1.out Hg2.out Hg3.out ?_; intro v' w1 hown' hgrow _; obtain ⟨g', cap', rfl⟩ := ownsRow_succ hown'; have hfin := Hadd.out w1 _ hown' hgrow Hb.out.symm H8.out; clear hown' hgrow; refine Hid.out ?_)
      have e1 := cells_at hfin.2.2.2.1 0
      have e2 := frozen_at hfin.2.2.2.1 0
      simp only [List.getElem?_toArray, List.getElem?_cons_zero] at e1
      have Hfin := hd hfin; clear hfin
      refine Lib.hid ?_
      gi_wp2
      exact ⟨Hfin.out.1, Hfin.out.2.1, Hfin.out.2.2.2.2, Hfin.out.2.2.1⟩
   case done =>
    rintro D ys W hD rfl ⟨hsz, h⟩ hK
    obtain ⟨v, hv, hrow⟩ := h.out
    obtain ⟨a, cap, rfl⟩ := own_shape hrow
    have c0 : W.cell? ⟨w.heap.size + 1 + 1, 0, none⟩ = some (.slice a (cutS 46 s).length cap) := cells_at hv 0
    have c1 := cells_at h.r2 0
    have c2 := cells_at h.r3 0
    have f1 := frozen_at h.r2 0
    have f2 := frozen_at h.r3 0
    simp only [List.getElem?_toArray, List.getElem?_cons_zero] at c1 c2
    have hm := may_yes h0 (by omega) h.ok h.len
    obtain ⟨Hv, Hrow, Hh, Hm⟩ := hd4 hv hrow h hm; clear hv hrow h hm
    gi_wp2
    have hK2 : ((W.setCell ⟨w.heap.size, 0, none⟩ (.slice a (cutS 46 s).length cap)).setCell ⟨w.heap.size + 1, 0, none⟩ (.bool true)).heap[D]? = some (.deferred (some [])) := heap_other (heap_other hK (by omega)) (by omega)
    have x1 := heap_other (b := w.heap.size + 1) (i := 0) (u := .bool true) (heap_setCell_same W w.heap.size 0 _ _ (.slice a (cutS 46 s).length cap) Hh.out.r2) (by omega)
    have x2 := heap_setCell_same _ (w.heap.size + 1) 0 _ _ (.bool true) (heap_other (b := w.heap.size) (i := 0) (u := .slice a (cutS 46 s).length cap) Hh.out.r3 (by omega))
    have hb9 : Below w.heap.size w ((W.setCell ⟨w.heap.size, 0, none⟩ (.slice a (cutS 46 s).length cap)).setCell ⟨w.heap.size + 1, 0, none⟩ (.bool true)) := (Hh.out.bel.setCell (p := ⟨w.heap.size, 0, none⟩) (Nat.le_refl _) _).setCell (p := ⟨w.heap.size + 1, 0, none⟩) (by show w.heap.size ≤ w.heap.size + 1; omega) _
    have ho : ((W.setCell ⟨w.heap.size, 0, none⟩ (.slice a (cutS 46 s).length cap)).setCell ⟨w.heap.size + 1, 0, none⟩ (.bool true)).ownsRow (w.heap.size + 6) 241 3 (.slice a (cutS 46 s).length cap) (cutL 46 s.data.toList).length (partsCells (cutL 46 s.data.toList)) := by
     have hlen := cutS_len 46 s
     rw [← hlen, ← cutS_data]
     have := own_set (own_set Hrow.out (p := w.heap.size) (by omega) 0 (.slice a (cutS 46 s).length cap)) (p := w.heap.size + 1) (by omega) 0 (.bool true)
     exact this
    refine ⟨by simp, .inl ⟨_, _, rfl, run_takeDeferred hK2, ?_⟩⟩
    refine ⟨_, results_cells rfl rfl rfl ((World.putObj_heap_other (by omega)).trans x1) ((World.putObj_heap_other (by omega)).trans x2) (Tryz.isAgg224 _) (Tryz.isAgg4 _), ?_⟩
    refine ⟨_, by rw [Hm.out], fun _ => ownsRow_mono (ownsRow_putObj ho _ hK2 rfl) (by omega), fun h => (by rw [Hm.out] at h; cases h), hb9.trans (belowK_b (w := w) (Nat.le_refl _) _ D _ _ (by omega) hK2 rfl rfl)⟩
   case stop =>
    rintro D pre W hD hpre ⟨hsz, h⟩ hK
    have hm := may_no hpre h.bad
    have Hm := hd hm; clear hm
    gi_wp2
    refine ⟨by simp, .inl ⟨_, _, rfl, run_takeDeferred hK, ?_⟩⟩
    refine ⟨_, results_cells rfl rfl rfl ((World.putObj_heap_other (by omega)).trans h.r2) ((World.putObj_heap_other (by omega)).trans h.r3) (Tryz.isAgg224 _) (Tryz.isAgg4 _), ?_⟩
    refine ⟨_, by rw [Hm.out], fun h => (by rw [Hm.out] at h; cases h), fun _ => rfl, h.bel.trans (belowK_b (w := w) (Nat.le_refl _) _ D _ _ (by omega) hK rfl rfl)⟩
end Go.Proofs.YteailgjiifdgcaaGreatDoor
