/- The walk of variant.one: whether a variant may be. Condition: few values. -/
import Derived.Test.YtnelgellbabkoaaTwice
import Derived.Test.YtnelgellbabkoaaVarN
import Derived.Test.YtnelgellbabkoaaIdxStr
namespace Go.Proofs.Ytnelgellbabkoaa
open Go.RowKit Go.Shelf
open VarM (nameOf valueOf)

abbrev Var := ByteArray × List ByteArray
/-- a variant's two cells -/
def RVar : Rd Var := fun w cs x => ∃ v, cs = [.string x.1, v] ∧ x.1.size ≤ maxLen ∧ RSs w [v] x.2
theorem stays_var : Stays RVar := by
  rintro w w' cs x ⟨v, h1, h2, h3⟩ hb
  exact ⟨v, h1, h2, stays_slice stays_str _ _ _ _ h3 hb⟩
abbrev RVars : Rd (List Var) := RSlice 2 RVar
def isName (s : ByteArray) : Bool := nameOf s.data.toList
def isValue (s : ByteArray) : Bool := valueOf s.data.toList
/-- whether a variant may be -/
def oneOf (x : Var) : Bool := isName x.1 && (decide (0 < x.2.length) && (decide (x.2.length ≤ 4) && (x.2.all isValue && decide x.2.Nodup)))
set_option maxRecDepth 10000 in
theorem badValue_any (s : ByteArray) (hs : s.size ≤ 9223372036854775807) (w : World) : Calls Try.prog 134 #[.string s] w fun e w' => e = .returned (.bool (!isValue s)) ∧ w = w' := by
  have hV := value_any s hs w
  obtain ⟨r, hr⟩ : ∃ r, r = isValue s := ⟨_, rfl⟩
  have hr2 : r = valueOf s.data.toList := hr
  rw [← hr2] at hV
  rw [← hr]
  have HV := Lib.hid hV; have Hr := Lib.hid hr; have Hr2 := Lib.hid hr2; clear hV hr hr2
  go_enter Try.func134, Try.ntmps134
  go_wp2_with fail
  refine HV.out.mono ?_
  rintro e w1 ⟨rfl, rfl⟩
  go_wp2_with fail
  go_ret
  exact ⟨rfl, rfl⟩
theorem enters_badValue : ∀ args w, (callFunc 134 args).run Try.prog w = .ok (.enter 134 args) w := enters_of Try.func134 (by kernel_rfl) rfl
theorem badValue_pred (l : List ByteArray) (w : World) : IdxStr.Pred RStr (fun s => !isValue s) 134 #[] l w := by
  intro W u0 x _ _ h
  obtain ⟨h1, h2⟩ := h
  simp only [List.cons.injEq, and_true] at h1
  subst h1
  unfold maxLen at h2
  exact (badValue_any x (by omega) W).mono fun e w' ⟨he, hw⟩ => ⟨he, hw ▸ Below.refl _ _⟩
theorem any_bad (l : List ByteArray) : (l.any fun s => !isValue s) = !(l.all isValue) := by rw [List.not_all_eq_any_not]
set_option maxRecDepth 10000 in
set_option maxHeartbeats 1000000 in
theorem one_any {w : World} {s : ByteArray} {v : Value} {l : List ByteArray} (hs : s.size ≤ maxLen) (h : RSs w [v] l) (hl : l.length ≤ 1000000) : Calls Try.prog 104 #[.agg #[.string s, v]] w fun e w' => e = .returned (.bool (oneOf (s, l))) ∧ Below w.heap.size w w' := by
  unfold maxLen at hs
  obtain ⟨a, cap, rfl, hz, _⟩ := strs_open h
  obtain ⟨m, hm⟩ : ∃ m, m = l.length := ⟨_, rfl⟩
  obtain ⟨r, hr⟩ : ∃ r, r = oneOf (s, l) := ⟨_, rfl⟩
  have hv : r = (isName s && (decide (0 < m) && (decide (m ≤ 4) && (l.all isValue && decide l.Nodup)))) := by rw [hr, hm]; rfl
  have hN := fun W => name_any s (by omega) W
  have hb1 : Below w.heap.size w (w.alloc (.cells #[.string s, .slice a l.length cap] 35)) := below_alloc1 _ _
  have hR := stays_slice stays_str _ _ _ _ h hb1
  have hC := IdxStr.has_any stays_str (fun s => !isValue s) 134 #[] enters_badValue hR (badValue_pred l _)
  rw [any_bad] at hC
  have hT := fun W (hb : Below (w.alloc (.cells #[.string s, .slice a l.length cap] 35)).heap.size (w.alloc (.cells #[.string s, .slice a l.length cap] 35)) W) => twice_any (stays_slice stays_str _ _ _ _ hR hb) hl
  obtain ⟨p, hp⟩ : ∃ p, p = isName s := ⟨_, rfl⟩
  have hp2 : p = nameOf s.data.toList := hp
  obtain ⟨q, hq⟩ : ∃ q, q = l.all isValue := ⟨_, rfl⟩
  obtain ⟨d, hd⟩ : ∃ d, d = decide l.Nodup := ⟨_, rfl⟩
  rw [← hp2] at hN
  rw [← hq] at hC
  rw [← hd] at hT
  rw [← hp, ← hq, ← hd] at hv
  rw [← hr]
  rw [← hm] at h hz hb1 hR hC hT hl ⊢
  cases p with
  | false =>
    have hf : r = false := by rw [hv]; rfl
    have Hh := Lib.hid h; have Hm := Lib.hid hm; have Hr := Lib.hid hr; have Hv := Lib.hid hv; have HN := Lib.hid hN; have Hb1 := Lib.hid hb1; have HR := Lib.hid hR; have HC := Lib.hid hC; have HT := Lib.hid hT; have Hp := Lib.hid hp; have Hp2 := Lib.hid hp2; have Hq := Lib.hid hq; have Hd := Lib.hid hd; have Hf := Lib.hid hf; clear h hm hr hv hN hb1 hR hC hT hp hp2 hq hd hf
    go_enter Try.func104, Try.ntmps104
    go_wp2_with fail
    refine (HN.out _).mono ?_
    rintro e w1 ⟨rfl, rfl⟩
    go_wp2_with fail
    go_ret
    exact ⟨ret_bool Hf.out.symm, Hb1.out⟩
  | true =>
    by_cases h0 : 0 < m
    · by_cases h4 : m ≤ 4
      · have k1 : (0 : Int) < (m : Int) := by omega
        have k2 : (m : Int) ≤ 4 := by omega
        have k3 : decide ((m : Int) ≤ 4) = true := by simpa using k2
        cases q with
        | false =>
          have hf : r = false := by rw [hv]; simp
          have Hh := Lib.hid h; have Hm := Lib.hid hm; have Hr := Lib.hid hr; have Hv := Lib.hid hv; have HN := Lib.hid hN; have Hb1 := Lib.hid hb1; have HR := Lib.hid hR; have HC := Lib.hid hC; have HT := Lib.hid hT; have Hp := Lib.hid hp; have Hp2 := Lib.hid hp2; have Hq := Lib.hid hq; have Hd := Lib.hid hd; have Hf := Lib.hid hf; clear h hm hr hv hN hb1 hR hC hT hp hp2 hq hd hf
          go_enter Try.func104, Try.ntmps104
          go_wp2_with fail
          refine (HN.out _).mono ?_
          rintro e w1 ⟨rfl, rfl⟩
          go_wp2_with fail
          refine HC.out.mono ?_
          rintro e w2 ⟨rfl, hb2⟩
          have hb3 := Hb1.out.trans (hb2.mono Hb1.out.size)
          have Hb2 := Lib.hid hb2; have Hb3 := Lib.hid hb3; clear hb2 hb3
          go_wp2_with fail
          go_ret
          exact ⟨ret_bool Hf.out.symm, Hb3.out⟩
        | true =>
          have hf : r = d := by rw [hv, decide_eq_true h0, decide_eq_true h4]; rfl
          have Hh := Lib.hid h; have Hm := Lib.hid hm; have Hr := Lib.hid hr; have Hv := Lib.hid hv; have HN := Lib.hid hN; have Hb1 := Lib.hid hb1; have HR := Lib.hid hR; have HC := Lib.hid hC; have HT := Lib.hid hT; have Hp := Lib.hid hp; have Hp2 := Lib.hid hp2; have Hq := Lib.hid hq; have Hd := Lib.hid hd; have Hf := Lib.hid hf; clear h hm hr hv hN hb1 hR hC hT hp hp2 hq hd hf
          go_enter Try.func104, Try.ntmps104
          go_wp2_with fail
          refine (HN.out _).mono ?_
          rintro e w1 ⟨rfl, rfl⟩
          go_wp2_with fail
          refine HC.out.mono ?_
          rintro e w2 ⟨rfl, hb2⟩
          have hb3 := Hb1.out.trans (hb2.mono Hb1.out.size)
          have hT2 := HT.out w2 hb2
          have c1 : w2.cell? ⟨w.heap.size, 1, none⟩ = some (.slice a m cap) := by
            have := cells_at (heap_below hb2 (heap_alloc_new w (.cells #[.string s, .slice a m cap] 35))) 1
            simpa using this
          have Hb2 := Lib.hid hb2; have Hb3 := Lib.hid hb3; have HT2 := Lib.hid hT2; clear hb2 hb3 hT2
          go_wp2_with fail
          refine HT2.out.mono ?_
          rintro e w3 ⟨rfl, hb4⟩
          have hb5 := Hb3.out.trans (hb4.mono Hb3.out.size)
          have Hb4 := Lib.hid hb4; have Hb5 := Lib.hid hb5; clear hb4 hb5
          go_wp2_with fail
          go_ret
          exact ⟨ret_bool (by rw [Hf.out]), Hb5.out⟩
      · have hf : r = false := by rw [hv, decide_eq_false h4]; simp
        have k1 : (0 : Int) < (m : Int) := by omega
        have k2 : (4 : Int) < (m : Int) := by omega
        have k3 : decide ((m : Int) ≤ 4) = false := by simpa using k2
        have Hh := Lib.hid h; have Hm := Lib.hid hm; have Hr := Lib.hid hr; have Hv := Lib.hid hv; have HN := Lib.hid hN; have Hb1 := Lib.hid hb1; have HR := Lib.hid hR; have HC := Lib.hid hC; have HT := Lib.hid hT; have Hp := Lib.hid hp; have Hp2 := Lib.hid hp2; have Hq := Lib.hid hq; have Hd := Lib.hid hd; have Hf := Lib.hid hf; clear h hm hr hv hN hb1 hR hC hT hp hp2 hq hd hf
        go_enter Try.func104, Try.ntmps104
        go_wp2_with fail
        refine (HN.out _).mono ?_
        rintro e w1 ⟨rfl, rfl⟩
        go_wp2_with fail
        go_ret
        exact ⟨ret_bool Hf.out.symm, Hb1.out⟩
    · have hf : r = false := by rw [hv, decide_eq_false h0]; rfl
      have k1 : decide (0 < (m : Int)) = false := decide_eq_false (by omega)
      have k2 : m ≤ 0 := by omega
      have Hh := Lib.hid h; have Hm := Lib.hid hm; have Hr := Lib.hid hr; have Hv := Lib.hid hv; have HN := Lib.hid hN; have Hb1 := Lib.hid hb1; have HR := Lib.hid hR; have HC := Lib.hid hC; have HT := Lib.hid hT; have Hp := Lib.hid hp; have Hp2 := Lib.hid hp2; have Hq := Lib.hid hq; have Hd := Lib.hid hd; have Hf := Lib.hid hf; clear h hm hr hv hN hb1 hR hC hT hp hp2 hq hd hf
      go_enter Try.func104, Try.ntmps104
      go_wp2_with fail
      refine (HN.out _).mono ?_
      rintro e w1 ⟨rfl, rfl⟩
      go_wp2_with fail
      go_ret
      exact ⟨ret_bool Hf.out.symm, Hb1.out⟩
end Go.Proofs.Ytnelgellbabkoaa
