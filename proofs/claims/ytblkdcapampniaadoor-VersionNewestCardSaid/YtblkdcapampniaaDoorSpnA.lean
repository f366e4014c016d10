/- The walks of version.May, span.bound, span.ahead, span.later, span.sooner and the document's bound. Condition: the library's variables as they were laid; texts of at most a million bytes. -/
import Derived.Test.YtblkdcapampniaaDoorVerL
import Derived.Test.YtblkdcapampniaaDoorSpnM
set_option linter.unusedVariables false
set_option linter.unusedSimpArgs false
namespace Go.Proofs.YtblkdcapampniaaDoor
open Go.RowKit Go.Lib VerN

theorem calls_to {f : Nat} {args : Array Value} {w W : World} {E : Ending} (h : Below w.heap.size w W) (c : Calls Tryd.prog f args W fun e w' => e = E ∧ Below W.heap.size W w') : Calls Tryd.prog f args W fun e w' => e = E ∧ Below w.heap.size w w' :=
  c.mono fun _ _ ⟨he, hb⟩ => ⟨he, h.trans (hb.mono h.size)⟩
set_option maxRecDepth 10000 in
theorem verMay_any (s : ByteArray) (hs : s.size ≤ 1000000) {w : World} (hD : Doors w) : Calls Tryd.prog 38 #[.string s] w fun e w' => e = .returned (.bool (mayL s.data.toList)) ∧ Below w.heap.size w w' := by
  have hP := parts_any s hs hD
  unfold partsPost at hP
  obtain ⟨p, hp⟩ : ∃ p, p = mayL s.data.toList := ⟨_, rfl⟩
  rw [← hp] at hP ⊢
  have HP := Lib.hid hP; have Hp := Lib.hid hp; have HD := Lib.hid hD; clear hP hp hD
  go_enter Tryd.func38, Tryd.ntmps38
  go_wp2_with fail
  refine HP.out.mono ?_
  rintro e w1 ⟨v, rfl, _, _, hb1⟩
  have Hb1 := Lib.hid hb1; clear hb1
  go_wp2_with fail
  go_ret
  exact ⟨rfl, Hb1.out⟩
theorem bound_yes {s : ByteArray} (h : s.size = 0) : boundB s.data.toList = true := by unfold boundB; rw [(nil_size s).2 h]; rfl
theorem bound_no {s : ByteArray} (h : s.size ≠ 0) : boundB s.data.toList = mayL s.data.toList := by unfold boundB; rw [decide_eq_false (fun e => h ((nil_size s).1 e))]; rfl
set_option maxRecDepth 10000 in
theorem bound_any (s : ByteArray) (hs : s.size ≤ 1000000) {w : World} (hD : Doors w) : Calls Tryd.prog 48 #[.string s] w fun e w' => e = .returned (.bool (boundB s.data.toList)) ∧ Below w.heap.size w w' := by
  by_cases h0 : s.size = 0
  · rw [bound_yes h0]
    have k1 : s.toList.isEmpty = true := by rw [Txt.no_dec, decide_eq_true h0]
    have HD := Lib.hid hD; clear hD
    go_enter Tryd.func48, Tryd.ntmps48
    go_wp2_with fail
    go_ret
    exact ⟨rfl, Below.refl _ _⟩
  · have hP := verMay_any s hs hD
    rw [bound_no h0]
    have k1 : s.toList.isEmpty = false := by rw [Txt.no_dec, decide_eq_false h0]
    obtain ⟨p, hp⟩ : ∃ p, p = mayL s.data.toList := ⟨_, rfl⟩
    rw [← hp] at hP ⊢
    have HP := Lib.hid hP; have Hp := Lib.hid hp; have HD := Lib.hid hD; clear hP hp hD
    go_enter Tryd.func48, Tryd.ntmps48
    go_wp2_with fail
    refine HP.out.mono ?_
    rintro e w1 ⟨rfl, hb1⟩
    have Hb1 := Lib.hid hb1; clear hb1
    go_wp2_with fail
    go_ret
    exact ⟨rfl, Hb1.out⟩
set_option maxRecDepth 10000 in
theorem rbound_any (s : ByteArray) (hs : s.size ≤ 1000000) (w : World) : Calls Tryd.prog 50 #[.string s] w fun e w' => e = .returned (.bool (boundB s.data.toList)) ∧ Below w.heap.size w w' := by
  by_cases h0 : s.size = 0
  · rw [bound_yes h0]
    have k1 : s.toList.isEmpty = true := by rw [Txt.no_dec, decide_eq_true h0]
    go_enter Tryd.func50, Tryd.ntmps50
    go_wp2_with fail
    go_ret
    exact ⟨rfl, Below.refl _ _⟩
  · have hP := may1_any s hs w
    rw [bound_no h0]
    have k1 : s.toList.isEmpty = false := by rw [Txt.no_dec, decide_eq_false h0]
    obtain ⟨p, hp⟩ : ∃ p, p = mayL s.data.toList := ⟨_, rfl⟩
    rw [← hp] at hP ⊢
    have HP := Lib.hid hP; have Hp := Lib.hid hp; clear hP hp
    go_enter Tryd.func50, Tryd.ntmps50
    go_wp2_with fail
    refine HP.out.mono ?_
    rintro e w1 ⟨rfl, hb1⟩
    have Hb1 := Lib.hid hb1; clear hb1
    go_wp2_with fail
    go_ret
    exact ⟨rfl, Hb1.out⟩
theorem ahead_l {a b : ByteArray} (h : a.size = 0) : aheadB a.data.toList b.data.toList = false := by unfold aheadB; rw [(nil_size a).2 h]; rfl
theorem ahead_r {a b : ByteArray} (h : b.size = 0) : aheadB a.data.toList b.data.toList = false := by unfold aheadB; rw [(nil_size b).2 h]; simp
theorem ahead_c {a b : ByteArray} (h : a.size ≠ 0) (k : b.size ≠ 0) : aheadB a.data.toList b.data.toList = decide (compareL a.data.toList b.data.toList < 0) := by
  have h1 : decide (a.data.toList ≠ []) = true := decide_eq_true (fun e => h ((nil_size a).1 e))
  have h2 : decide (b.data.toList ≠ []) = true := decide_eq_true (fun e => k ((nil_size b).1 e))
  unfold aheadB
  rw [h1, h2]
  rfl
set_option maxRecDepth 10000 in
theorem ahead_any (a b : ByteArray) (ha : a.size ≤ 1000000) (hb : b.size ≤ 1000000) {w : World} (hD : Doors w) : Calls Tryd.prog 49 #[.string a, .string b] w fun e w' => e = .returned (.bool (aheadB a.data.toList b.data.toList)) ∧ Below w.heap.size w w' := by
  by_cases h0 : a.size = 0
  · rw [ahead_l h0]
    have k1 : a.toList.isEmpty = true := by rw [Txt.no_dec, decide_eq_true h0]
    have HD := Lib.hid hD; clear hD
    go_enter Tryd.func49, Tryd.ntmps49
    go_wp2_with fail
    go_ret
    exact ⟨rfl, Below.refl _ _⟩
  · have k1 : a.toList.isEmpty = false := by rw [Txt.no_dec, decide_eq_false h0]
    by_cases h1 : b.size = 0
    · rw [ahead_r h1]
      have k2 : b.toList.isEmpty = true := by rw [Txt.no_dec, decide_eq_true h1]
      have HD := Lib.hid hD; clear hD
      go_enter Tryd.func49, Tryd.ntmps49
      go_wp2_with fail
      go_ret
      exact ⟨rfl, Below.refl _ _⟩
    · have k2 : b.toList.isEmpty = false := by rw [Txt.no_dec, decide_eq_false h1]
      have hP := verCompare_any a b ha hb hD
      rw [ahead_c h0 h1]
      obtain ⟨p, hp⟩ : ∃ p, p = compareL a.data.toList b.data.toList := ⟨_, rfl⟩
      rw [← hp] at hP ⊢
      have HP := Lib.hid hP; have Hp := Lib.hid hp; have HD := Lib.hid hD; clear hP hp hD
      go_enter Tryd.func49, Tryd.ntmps49
      go_wp2_with fail
      refine HP.out.mono ?_
      rintro e w1 ⟨rfl, hb1⟩
      have Hb1 := Lib.hid hb1; clear hb1
      go_wp2_with fail
      go_ret
      exact ⟨rfl, Hb1.out⟩
def laterS (a b : ByteArray) : ByteArray := if a.size = 0 ∨ aheadB a.data.toList b.data.toList = true then b else a
def soonerS (a b : ByteArray) : ByteArray := if a.size = 0 ∨ aheadB b.data.toList a.data.toList = true then b else a
theorem laterS_data (a b : ByteArray) : (laterS a b).data.toList = laterB a.data.toList b.data.toList := by
  unfold laterS laterB
  simp only [nil_size]
  split <;> rfl
theorem soonerS_data (a b : ByteArray) : (soonerS a b).data.toList = soonerB a.data.toList b.data.toList := by
  unfold soonerS soonerB
  simp only [nil_size]
  split <;> rfl
theorem laterS_size {a b : ByteArray} {n : Nat} (ha : a.size ≤ n) (hb : b.size ≤ n) : (laterS a b).size ≤ n := by unfold laterS; split <;> assumption
theorem soonerS_size {a b : ByteArray} {n : Nat} (ha : a.size ≤ n) (hb : b.size ≤ n) : (soonerS a b).size ≤ n := by unfold soonerS; split <;> assumption
set_option maxRecDepth 10000 in
theorem later_any (a b : ByteArray) (ha : a.size ≤ 1000000) (hb : b.size ≤ 1000000) {w : World} (hD : Doors w) : Calls Tryd.prog 52 #[.string a, .string b] w fun e w' => e = .returned (.string (laterS a b)) ∧ Below w.heap.size w w' := by
  by_cases h0 : a.size = 0
  · have hv : laterS a b = b := by unfold laterS; rw [if_pos (.inl h0)]
    rw [hv]
    have k1 : a.toList.isEmpty = true := by rw [Txt.no_dec, decide_eq_true h0]
    have HD := Lib.hid hD; have Hv := Lib.hid hv; clear hD hv
    go_enter Tryd.func52, Tryd.ntmps52
    go_wp2_with fail
    go_ret
    exact ⟨rfl, Below.refl _ _⟩
  · have k1 : a.toList.isEmpty = false := by rw [Txt.no_dec, decide_eq_false h0]
    have hA := ahead_any a b ha hb hD
    obtain ⟨p, hp⟩ : ∃ p, p = aheadB a.data.toList b.data.toList := ⟨_, rfl⟩
    rw [← hp] at hA
    cases p with
    | true =>
      have hv : laterS a b = b := by unfold laterS; rw [if_pos (.inr hp.symm)]
      rw [hv]
      have HA := Lib.hid hA; have Hp := Lib.hid hp; have HD := Lib.hid hD; have Hv := Lib.hid hv; clear hA hp hD hv
      go_enter Tryd.func52, Tryd.ntmps52
      go_wp2_with fail
      refine HA.out.mono ?_
      rintro e w1 ⟨rfl, hb1⟩
      have Hb1 := Lib.hid hb1; clear hb1
      go_wp2_with fail
      go_ret
      exact ⟨rfl, Hb1.out⟩
    | false =>
      have hv : laterS a b = a := by unfold laterS; rw [if_neg (by rintro (h | h); exact h0 h; rw [h] at hp; cases hp)]
      rw [hv]
      have HA := Lib.hid hA; have Hp := Lib.hid hp; have HD := Lib.hid hD; have Hv := Lib.hid hv; clear hA hp hD hv
      go_enter Tryd.func52, Tryd.ntmps52
      go_wp2_with fail
      refine HA.out.mono ?_
      rintro e w1 ⟨rfl, hb1⟩
      have Hb1 := Lib.hid hb1; clear hb1
      go_wp2_with fail
      go_ret
      exact ⟨rfl, Hb1.out⟩
set_option maxRecDepth 10000 in
theorem sooner_any (a b : ByteArray) (ha : a.size ≤ 1000000) (hb : b.size ≤ 1000000) {w : World} (hD : Doors w) : Calls Tryd.prog 53 #[.string a, .string b] w fun e w' => e = .returned (.string (soonerS a b)) ∧ Below w.heap.size w w' := by
  by_cases h0 : a.size = 0
  · have hv : soonerS a b = b := by unfold soonerS; rw [if_pos (.inl h0)]
    rw [hv]
    have k1 : a.toList.isEmpty = true := by rw [Txt.no_dec, decide_eq_true h0]
    have HD := Lib.hid hD; have Hv := Lib.hid hv; clear hD hv
    go_enter Tryd.func53, Tryd.ntmps53
    go_wp2_with fail
    go_ret
    exact ⟨rfl, Below.refl _ _⟩
  · have k1 : a.toList.isEmpty = false := by rw [Txt.no_dec, decide_eq_false h0]
    have hA := ahead_any b a hb ha hD
    obtain ⟨p, hp⟩ : ∃ p, p = aheadB b.data.toList a.data.toList := ⟨_, rfl⟩
    rw [← hp] at hA
    cases p with
    | true =>
      have hv : soonerS a b = b := by unfold soonerS; rw [if_pos (.inr hp.symm)]
      rw [hv]
      have HA := Lib.hid hA; have Hp := Lib.hid hp; have HD := Lib.hid hD; have Hv := Lib.hid hv; clear hA hp hD hv
      go_enter Tryd.func53, Tryd.ntmps53
      go_wp2_with fail
      refine HA.out.mono ?_
      rintro e w1 ⟨rfl, hb1⟩
      have Hb1 := Lib.hid hb1; clear hb1
      go_wp2_with fail
      go_ret
      exact ⟨rfl, Hb1.out⟩
    | false =>
      have hv : soonerS a b = a := by unfold soonerS; rw [if_neg (by rintro (h | h); exact h0 h; rw [h] at hp; cases hp)]
      rw [hv]
      have HA := Lib.hid hA; have Hp := Lib.hid hp; have HD := Lib.hid hD; have Hv := Lib.hid hv; clear hA hp hD hv
      go_enter Tryd.func53, Tryd.ntmps53
      go_wp2_with fail
      refine HA.out.mono ?_
      rintro e w1 ⟨rfl, hb1⟩
      have Hb1 := Lib.hid hb1; clear hb1
      go_wp2_with fail
      go_ret
      exact ⟨rfl, Hb1.out⟩
end Go.Proofs.YtblkdcapampniaaDoor
