/- Two texts of digits of one length stand to each other as their numbers do. Conditions: digits only, as each says. -/
import Derived.Test.YtblkdcapampniaaDoorVerN
set_option linter.unusedVariables false
set_option linter.unusedSimpArgs false
/- Plain facts: how two parts that are numbers stand to each other. -/
namespace Go.Proofs.YtblkdcapampniaaDoor.VerN
open Go.Lib

theorem val_lt : ∀ (a b : List UInt8) (x y : Nat), a.length = b.length → a.all isDig = true → b.all isDig = true → (valFrom x a < valFrom y b ↔ x < y ∨ (x = y ∧ a < b))
  | [], [], x, y, _, _, _ => by
    have : ¬ (([] : List UInt8) < []) := List.lt_irrefl _
    show x < y ↔ _
    simp [this]
  | c :: a, e :: b, x, y, hl, ha, hb => by
    simp only [List.all_cons, Bool.and_eq_true] at ha hb
    have hc := (isDig_iff c).1 ha.1
    have he := (isDig_iff e).1 hb.1
    have ih := val_lt a b (x * 10 + (c.toNat - 48)) (y * 10 + (e.toNat - 48)) (by simpa using hl) ha.2 hb.2
    show valFrom (x * 10 + (c.toNat - 48)) a < valFrom (y * 10 + (e.toNat - 48)) b ↔ _
    rw [ih, List.cons_lt_cons_iff]
    have hlt : c < e ↔ c.toNat < e.toNat := UInt8.lt_iff_toNat_lt
    have heq : c = e ↔ c.toNat = e.toNat := UInt8.toNat_inj.symm
    rw [hlt, heq]
    constructor
    · rintro (h | ⟨h, h2⟩)
      · by_cases hxy : x < y
        · exact .inl hxy
        · exact .inr ⟨by omega, .inl (by omega)⟩
      · by_cases hxy : x < y
        · exact .inl hxy
        · exact .inr ⟨by omega, .inr ⟨by omega, h2⟩⟩
    · rintro (h | ⟨h, h2 | ⟨h2, h3⟩⟩)
      · left; omega
      · left; omega
      · right; exact ⟨by omega, h3⟩
theorem dig_lt {a b : List UInt8} (ha : digOk a = true) (hb : digOk b = true) : valFrom 0 a < valFrom 0 b ↔ a.length < b.length ∨ (a.length = b.length ∧ a < b) := by
  have parts : ∀ {l : List UInt8}, digOk l = true → l ≠ [] ∧ l.all isDig = true ∧ (l = [48] ∨ l.head? ≠ some 48) := fun {l} h => by
    unfold digOk lead at h
    simp only [Bool.and_eq_true, Bool.not_eq_true', Bool.or_eq_true, decide_eq_true_eq] at h
    exact ⟨fun e => by subst e; simp at h, h.1.1.2, h.2⟩
  obtain ⟨a1, a2, a3⟩ := parts ha
  obtain ⟨b1, b2, b3⟩ := parts hb
  have bnd : ∀ {l : List UInt8}, l ≠ [] → l.all isDig = true → (l = [48] ∨ l.head? ≠ some 48) → valFrom 0 l < 10 ^ l.length ∧ (2 ≤ l.length → 10 ^ (l.length - 1) ≤ valFrom 0 l) := fun {l} h1 h2 h3 => by
    rcases h3 with h3 | h3
    · subst h3; exact ⟨by decide, fun h => by simp at h⟩
    · have := val_bounds l h1 h2 h3
      exact ⟨this.2, fun _ => this.1⟩
  have ba := bnd a1 a2 a3
  have bb := bnd b1 b2 b3
  have la : 0 < a.length := List.length_pos_iff.2 a1
  have lb : 0 < b.length := List.length_pos_iff.2 b1
  rcases Nat.lt_trichotomy a.length b.length with h | h | h
  · have := bb.2 (by omega)
    have hp : 10 ^ a.length ≤ 10 ^ (b.length - 1) := Nat.pow_le_pow_right (by decide) (by omega)
    exact ⟨fun _ => .inl h, fun _ => by omega⟩
  · rw [val_lt a b 0 0 h a2 b2]
    simp [h]
  · have := ba.2 (by omega)
    have hp : 10 ^ b.length ≤ 10 ^ (a.length - 1) := Nat.pow_le_pow_right (by decide) (by omega)
    exact ⟨fun _ => by omega, fun hh => by omega⟩
end Go.Proofs.YtblkdcapampniaaDoor.VerN
