/- The walk of cooperref04.May: whether variants may be. No condition. -/
import Derived.Test.YtnelgellbabkoaaVarA
import Derived.Test.YtnelgellbabkoaaVarR
namespace Go.Proofs.Ytnelgellbabkoaa
open Go.RowKit Go.Shelf VarM
attribute [local go_sem ↓] Go.wp_at_zero Go.wp_at_succ

theorem bytes_dec (x y : ByteArray) : (x.toList == y.toList) = decide (x = y) := by rw [← beq_toListBytes]; exact beq_dec x y
/-- the first k of a list differ -/
def Diff (f : Nat → ByteArray) (k : Nat) : Prop := ∀ j i, j < i → i < k → f j ≠ f i
theorem nodup_of_diff (ys : List ByteArray) : decide ys.Nodup = true ↔ ∀ j i (hj : j < ys.length) (hi : i < ys.length), j < i → ys[j] ≠ ys[i] := by
  rw [decide_eq_true_eq, List.nodup_iff_pairwise_ne, List.pairwise_iff_getElem]
set_option maxRecDepth 10000 in
set_option maxHeartbeats 2000000 in
theorem mayRef_any {w : World} {v : Value} {l : List Var} (h : RVars w [v] l) : Calls Try.prog 23 #[v] w fun e w' => e = .returned (.bool (mayOf l)) ∧ ∃ q, w' = w.drewN q := by
  obtain ⟨a, cap, rfl, hz, g⟩ := vars_open h
  obtain ⟨n, hn⟩ : ∃ n, n = l.length := ⟨_, rfl⟩
  obtain ⟨r, hr⟩ : ∃ r, r = mayOf l := ⟨_, rfl⟩
  rw [← hr]
  rw [← hn] at hz h ⊢
  have hno1 : ¬ n ≤ 4 → r = false := fun h => by
    rw [hr]; unfold mayOf; rw [← hn, decide_eq_false h]; simp
  have hno2 : ∀ k (hk : k < l.length), oneOf l[k] = false → r = false := fun k hk h => by
    rw [hr]; unfold mayOf; rw [allv_no hk h]; rfl
  have hno3 : ∀ j i (hj : j < l.length) (hi : i < l.length), j < i → l[j].1 = l[i].1 → r = false := fun j i hj hi hji h => by
    rw [hr, Bool.eq_false_iff]
    intro h2
    unfold mayOf at h2
    simp only [Bool.and_eq_true] at h2
    exact (nodup_of_diff _).1 h2.2.2 j i (by simpa using hj) (by simpa using hi) hji (by simpa using h)
  have hyes : n ≤ 4 → l.all oneOf = true → (∀ j i (hj : j < l.length) (hi : i < l.length), j < i → l[j].1 ≠ l[i].1) → r = true := fun h1 h2 h3 => by
    rw [hr]; unfold mayOf
    rw [h2, ← hn, decide_eq_true h1, (nodup_of_diff _).2 (fun j i hj hi hji => by simpa using h3 j i (by simpa using hj) (by simpa using hi) hji)]
    rfl
  have Hh := Lib.hid h; have Hg := Lib.hid g; have Hn := Lib.hid hn; have Hr := Lib.hid hr; have Hno1 := Lib.hid hno1; have Hno2 := Lib.hid hno2; have Hno3 := Lib.hid hno3; have Hyes := Lib.hid hyes; clear h g hn hr hno1 hno2 hno3 hyes
  go_enter Try.func23, Try.ntmps23
  by_cases h4 : n ≤ 4
  · have k1 : decide ((4 : Int) < (n : Int)) = false := by simp; omega
    go_wp2_with fail
    clear k1
    go_loopw [12] (fun i wr => ∃ k : Nat, k ≤ n ∧ i = .int .i64 k ∧ ((l.take k).all oneOf = true ∧ ∀ j i (hj : j < l.length) (hi : i < l.length), j < i → i < k → l[j].1 ≠ l[i].1) ∧ ∃ q, wr = w.drewN q) (fun i _ => n - (intOf i).toNat)
    case atStart => exact ⟨0, Nat.zero_le _, rfl, ⟨by simp, fun j i _ _ _ h => by omega⟩, 0, rfl⟩
    case round =>
      obtain ⟨k, hk, rfl, ⟨hall, hdiff⟩, q1, rfl⟩ := hrel
      by_cases hlt : k < n
      · have hkl : k < l.length := by have := Hn.out; omega
        obtain ⟨b, off, u, rfl, d0, d1, hsx, hu⟩ := Hg.out k hkl
        have hno2k := Hno2.out k hkl
        have hno3k := fun j hj => Hno3.out j k hj hkl
        have hnall := fun h => allv_succ hkl hall h
        obtain ⟨x, hx⟩ : ∃ x, x = l[k] := ⟨_, rfl⟩
        have hdn : (∀ j (hj : j < l.length), j < k → l[j].1 ≠ x.1) → ∀ j i (hj : j < l.length) (hi : i < l.length), j < i → i < k + 1 → l[j].1 ≠ l[i].1 := fun h j i hj hi hji hik => by
          by_cases e : i < k
          · exact hdiff j i hj hi hji e
          · obtain rfl : i = k := by omega
            rw [← hx]
            exact h j hj hji
        rw [← hx] at d0 hu hsx hno2k hno3k hnall
        obtain ⟨ua, uc, rfl, hz2, g3⟩ := strs_open hu
        have hN := fun W => nameRef_any x.1 hsx W
        obtain ⟨m, hm⟩ : ∃ m, m = x.2.length := ⟨_, rfl⟩
        rw [← hm] at d1 hu hz2
        have hone : oneOf x = (nameOf x.1.data.toList && (decide (0 < m) && (decide (m ≤ 4) && (x.2.all isValue && decide x.2.Nodup)))) := by rw [hm]; rfl
        obtain ⟨s, hs⟩ : ∃ s, s = x.1 := ⟨_, rfl⟩
        rw [← hs] at d0 hsx hN hno3k hdn hone
        obtain ⟨p, hp⟩ : ∃ p, p = nameOf s.data.toList := ⟨_, rfl⟩
        rw [← hp] at hN hone
        have k5 : (0 : Int) ≤ (k : Int) := by omega
        have k6 : (k : Int) < (n : Int) := by omega
        have hkn : k < 4 := by omega
        clear hx hkl
        cases p with
        | false =>
          have hf : r = false := hno2k (by rw [hone]; rfl)
          have Hall := Lib.hid hall; have Hdiff := Lib.hid hdiff; have Hno2k := Lib.hid hno2k; have Hno3k := Lib.hid hno3k; have Hnall := Lib.hid hnall; have Hdn := Lib.hid hdn; have Hu := Lib.hid hu; have Hg3 := Lib.hid g3; have HN := Lib.hid hN; have Hm := Lib.hid hm; have Hone := Lib.hid hone; have Hs := Lib.hid hs; have Hp := Lib.hid hp; have Hf := Lib.hid hf; clear hall hdiff hno2k hno3k hnall hdn hu g3 hN hm hone hs hp hf
          go_wp2_with fail
          refine (HN.out _).mono ?_
          rintro e w1 ⟨rfl, rfl⟩
          go_wp2_with fail
          go_ret
          exact ⟨ret_bool Hf.out.symm, _, rfl⟩
        | true =>
          by_cases h0 : 0 < m
          · have k7 : ((m : Int) == 0) = false := by simp; omega
            by_cases hm4 : m ≤ 4
            · have k8 : decide ((4 : Int) < (m : Int)) = false := by simp; omega
              have hone2 : oneOf x = (x.2.all isValue && decide x.2.Nodup) := by rw [hone, decide_eq_true h0, decide_eq_true hm4]; rfl
              clear hone
              have Hall := Lib.hid hall; have Hdiff := Lib.hid hdiff; have Hno2k := Lib.hid hno2k; have Hno3k := Lib.hid hno3k; have Hnall := Lib.hid hnall; have Hdn := Lib.hid hdn; have Hu := Lib.hid hu; have Hg3 := Lib.hid g3; have HN := Lib.hid hN; have Hm := Lib.hid hm; have Hone2 := Lib.hid hone2; have Hs := Lib.hid hs; have Hp := Lib.hid hp; clear hall hdiff hno2k hno3k hnall hdn hu g3 hN hm hone2 hs hp
              go_wp2_with fail
              refine (HN.out _).mono ?_
              rintro e w1 ⟨rfl, rfl⟩
              go_wp2_with fail
              go_loopw [4] (fun j wr => ∃ i : Nat, i ≤ k ∧ j = .int .i64 i ∧ (∀ t (ht : t < l.length), t < i → l[t].1 ≠ s) ∧ ∃ q, wr = w.drewN q) (fun j _ => k - (intOf j).toNat)
              case atStart => exact ⟨0, Nat.zero_le _, rfl, fun t _ h => by omega, q1, rfl⟩
              case round =>
                obtain ⟨i, hi, rfl, hne, q2, rfl⟩ := hrel
                by_cases hlt2 : i < k
                · have hil : i < l.length := by have := Hn.out; omega
                  obtain ⟨b4, off4, u4, e4, f0, f1, hs4, hu4⟩ := Hg.out i hil
                  injection e4 with e4
                  injection e4 with e5 e6
                  subst e5 e6
                  have hno4 := Hno3k.out i hil hlt2
                  obtain ⟨z, hz4⟩ : ∃ z, z = l[i].1 := ⟨_, rfl⟩
                  have hnn : z ≠ s → ∀ t (ht : t < l.length), t < i + 1 → l[t].1 ≠ s := fun h t ht hti => by
                    by_cases e : t < i
                    · exact hne t ht e
                    · obtain rfl : t = i := by omega
                      rw [← hz4]; exact h
                  rw [← hz4] at f0 hs4 hno4
                  have k9 : (0 : Int) ≤ (i : Int) := by omega
                  have k10 : (i : Int) < (n : Int) := by omega
                  have k11 : decide ((i : Int) < (k : Int)) = true := by simp; omega
                  have hbd := bytes_dec z s
                  clear hz4 hil f1 hu4
                  have Hne := Lib.hid hne; have Hno4 := Lib.hid hno4; have Hnn := Lib.hid hnn; clear hne hno4 hnn
                  by_cases hzs : z = s
                  · have hf : r = false := Hno4.out hzs
                    rw [decide_eq_true hzs] at hbd
                    have Hf := Lib.hid hf; clear hf
                    clear hzs
                    go_wp2_with fail
                    go_region
                    go_wp2_with fail
                    go_ret
                    exact ⟨ret_bool Hf.out.symm, _, rfl⟩
                  · have hnx := Hnn.out hzs
                    rw [decide_eq_false hzs] at hbd
                    have Hnx := Lib.hid hnx; clear hnx
                    clear hzs
                    go_wp2_with fail
                    go_region
                    go_wp2_with fail
                    go_roundw
                    case rel => exact ⟨i + 1, by omega, by go_num, Hnx.out, _, rfl⟩
                    case measure => simp [intOf]; omega
                · obtain rfl : k = i := by omega
                  have hdn2 := Hdn.out (fun t ht htk => hne t ht htk)
                  have Hne := Lib.hid hne; have Hdn2 := Lib.hid hdn2; clear hne hdn2
                  go_wp2_with fail
                  go_loopw [62] (fun j wr => ∃ i : Nat, i ≤ m ∧ j = .int .i64 i ∧ ((x.2.take i).all isValue = true ∧ ∀ j i' (hj : j < x.2.length) (hi : i' < x.2.length), j < i' → i' < i → x.2[j] ≠ x.2[i']) ∧ ∃ q, wr = w.drewN q) (fun j _ => m - (intOf j).toNat)
                  case atStart => exact ⟨0, Nat.zero_le _, rfl, ⟨by simp, fun j i _ _ _ h => by omega⟩, _, rfl⟩
                  case round =>
                    obtain ⟨i, hi, rfl, ⟨hva, hvd⟩, q3, rfl⟩ := hrel
                    by_cases hlt3 : i < m
                    · have hil : i < x.2.length := by have := Hm.out; omega
                      obtain ⟨b3, off3, rfl, f0, hys⟩ := Hg3.out i hil
                      have hbadv : isValue x.2[i] = false → r = false := fun h => Hno2k.out (by rw [Hone2.out, allv_no hil h]; rfl)
                      have hgoodv := fun h => allv_succ hil hva h
                      have hsame : ∀ t (ht : t < x.2.length), t < i → x.2[t] = x.2[i] → r = false := fun t ht hti e => Hno2k.out (by
                        rw [Hone2.out]
                        have : decide x.2.Nodup = false := by
                          rw [Bool.eq_false_iff]; intro h2
                          exact (nodup_of_diff _).1 h2 t i ht hil hti e
                        rw [this]; simp)
                      obtain ⟨y, hy⟩ : ∃ y, y = x.2[i] := ⟨_, rfl⟩
                      have hvn : (∀ t (ht : t < x.2.length), t < i → x.2[t] ≠ y) → ∀ j i' (hj : j < x.2.length) (hi : i' < x.2.length), j < i' → i' < i + 1 → x.2[j] ≠ x.2[i'] := fun h j i' hj hi' hji hik => by
                        by_cases e : i' < i
                        · exact hvd j i' hj hi' hji e
                        · obtain rfl : i' = i := by omega
                          rw [← hy]
                          exact h j hj hji
                      rw [← hy] at f0 hys hbadv hgoodv hsame
                      have hV := fun W => valueRef_any y (by unfold maxLen at hys; omega) W
                      obtain ⟨p2, hp2⟩ : ∃ p, p = isValue y := ⟨_, rfl⟩
                      have hp3 : p2 = valueOf y.data.toList := hp2
                      rw [← hp2] at hbadv hgoodv
                      rw [← hp3] at hV
                      have k12 : (0 : Int) ≤ (i : Int) := by omega
                      have k13 : (i : Int) < (m : Int) := by omega
                      clear hy hil
                      cases p2 with
                      | false =>
                        have hf := hbadv rfl
                        have Hva := Lib.hid hva; have Hvd := Lib.hid hvd; have Hsame := Lib.hid hsame; have Hvn := Lib.hid hvn; have HV := Lib.hid hV; have Hp2 := Lib.hid hp2; have Hp3 := Lib.hid hp3; have Hbadv := Lib.hid hbadv; have Hgoodv := Lib.hid hgoodv; have Hf := Lib.hid hf; clear hva hvd hsame hvn hV hp2 hp3 hbadv hgoodv hf
                        go_wp2_with fail
                        refine (HV.out _).mono ?_
                        rintro e w1 ⟨rfl, rfl⟩
                        go_wp2_with fail
                        go_ret
                        exact ⟨ret_bool Hf.out.symm, _, rfl⟩
                      | true =>
                        have hva2 := hgoodv rfl
                        have Hva := Lib.hid hva; have Hvd := Lib.hid hvd; have Hsame := Lib.hid hsame; have Hvn := Lib.hid hvn; have HV := Lib.hid hV; have Hp2 := Lib.hid hp2; have Hp3 := Lib.hid hp3; have Hbadv := Lib.hid hbadv; have Hgoodv := Lib.hid hgoodv; have Hva2 := Lib.hid hva2; clear hva hvd hsame hvn hV hp2 hp3 hbadv hgoodv hva2
                        go_wp2_with fail
                        refine (HV.out _).mono ?_
                        rintro e w1 ⟨rfl, rfl⟩
                        go_wp2_with fail
                        go_loopw [6] (fun j wr => ∃ t : Nat, t ≤ i ∧ j = .int .i64 t ∧ (∀ t' (ht : t' < x.2.length), t' < t → x.2[t'] ≠ y) ∧ ∃ q, wr = w.drewN q) (fun j _ => i - (intOf j).toNat)
                        case atStart => exact ⟨0, Nat.zero_le _, rfl, fun t _ h => by omega, q3, rfl⟩
                        case round =>
                          obtain ⟨t, ht, rfl, hne, q4, rfl⟩ := hrel
                          by_cases hlt4 : t < i
                          · have htl : t < x.2.length := by have := Hm.out; omega
                            obtain ⟨b5, off5, e5, f1, hs5⟩ := Hg3.out t htl
                            injection e5 with e5
                            injection e5 with e6 e7
                            subst e6 e7
                            have hno5 := Hsame.out t htl hlt4
                            obtain ⟨z, hz5⟩ : ∃ z, z = x.2[t] := ⟨_, rfl⟩
                            have hnn : z ≠ y → ∀ t' (ht : t' < x.2.length), t' < t + 1 → x.2[t'] ≠ y := fun h t' ht' htt => by
                              by_cases e : t' < t
                              · exact hne t' ht' e
                              · obtain rfl : t' = t := by omega
                                rw [← hz5]; exact h
                            rw [← hz5] at f1 hs5 hno5
                            have k14 : (0 : Int) ≤ (t : Int) := by omega
                            have k15 : (t : Int) < (m : Int) := by omega
                            have k16 : decide ((t : Int) < (i : Int)) = true := by simp; omega
                            have hbd := bytes_dec z y
                            clear hz5 htl
                            have Hne := Lib.hid hne; have Hno5 := Lib.hid hno5; have Hnn := Lib.hid hnn; clear hne hno5 hnn
                            by_cases hzy : z = y
                            · have hf : r = false := Hno5.out hzy
                              rw [decide_eq_true hzy] at hbd
                              have Hf := Lib.hid hf; clear hf
                              clear hzy
                              go_wp2_with fail
                              go_region
                              go_wp2_with fail
                              go_ret
                              exact ⟨ret_bool Hf.out.symm, _, rfl⟩
                            · have hnx := Hnn.out hzy
                              rw [decide_eq_false hzy] at hbd
                              have Hnx := Lib.hid hnx; clear hnx
                              clear hzy
                              go_wp2_with fail
                              go_region
                              go_wp2_with fail
                              go_roundw
                              case rel => exact ⟨t + 1, by omega, by go_num, Hnx.out, _, rfl⟩
                              case measure => simp [intOf]; omega
                          · obtain rfl : i = t := by omega
                            have hvn2 := Hvn.out (fun t ht hti => hne t ht hti)
                            have Hne := Lib.hid hne; have Hvn2 := Lib.hid hvn2; clear hne hvn2
                            go_wp2_with fail
                            go_roundw
                            case rel => exact ⟨i + 1, by omega, by go_num, ⟨Hva2.out, Hvn2.out⟩, _, rfl⟩
                            case measure => simp [intOf]; omega
                    · obtain rfl : m = i := by omega
                      have e : x.2.take m = x.2 := List.take_of_length_le (by have := Hm.out; omega)
                      rw [e] at hva
                      have hox : oneOf x = true := by
                        rw [Hone2.out, hva, (nodup_of_diff _).2 (fun j i hj hi hji => hvd j i hj hi hji (by have := Hm.out; omega))]; rfl
                      have hall2 := Hnall.out hox
                      clear e
                      have Hva := Lib.hid hva; have Hvd := Lib.hid hvd; have Hox := Lib.hid hox; have Hall2 := Lib.hid hall2; clear hva hvd hox hall2
                      go_wp2_with fail
                      go_roundw
                      case rel => exact ⟨k + 1, by omega, by go_num, ⟨Hall2.out, Hdn2.out⟩, _, rfl⟩
                      case measure => simp [intOf]; omega
            · have k8 : decide ((4 : Int) < (m : Int)) = true := by simp; omega
              have hf : r = false := hno2k (by rw [hone, decide_eq_false hm4]; simp)
              have Hall := Lib.hid hall; have Hdiff := Lib.hid hdiff; have Hno2k := Lib.hid hno2k; have Hno3k := Lib.hid hno3k; have Hnall := Lib.hid hnall; have Hdn := Lib.hid hdn; have Hu := Lib.hid hu; have Hg3 := Lib.hid g3; have HN := Lib.hid hN; have Hm := Lib.hid hm; have Hone := Lib.hid hone; have Hs := Lib.hid hs; have Hp := Lib.hid hp; have Hf := Lib.hid hf; clear hall hdiff hno2k hno3k hnall hdn hu g3 hN hm hone hs hp hf
              go_wp2_with fail
              refine (HN.out _).mono ?_
              rintro e w1 ⟨rfl, rfl⟩
              go_wp2_with fail
              go_ret
              exact ⟨ret_bool Hf.out.symm, _, rfl⟩
          · have k7 : ((m : Int) == 0) = true := by simp; omega
            have hf : r = false := hno2k (by rw [hone, decide_eq_false h0]; rfl)
            have Hall := Lib.hid hall; have Hdiff := Lib.hid hdiff; have Hno2k := Lib.hid hno2k; have Hno3k := Lib.hid hno3k; have Hnall := Lib.hid hnall; have Hdn := Lib.hid hdn; have Hu := Lib.hid hu; have Hg3 := Lib.hid g3; have HN := Lib.hid hN; have Hm := Lib.hid hm; have Hone := Lib.hid hone; have Hs := Lib.hid hs; have Hp := Lib.hid hp; have Hf := Lib.hid hf; clear hall hdiff hno2k hno3k hnall hdn hu g3 hN hm hone hs hp hf
            go_wp2_with fail
            refine (HN.out _).mono ?_
            rintro e w1 ⟨rfl, rfl⟩
            go_wp2_with fail
            go_ret
            exact ⟨ret_bool Hf.out.symm, _, rfl⟩
      · obtain rfl : n = k := by omega
        have e : l.take n = l := List.take_of_length_le (by have := Hn.out; omega)
        rw [e] at hall
        have hf : r = true := Hyes.out h4 hall (fun j i hj hi hji => hdiff j i hj hi hji (by have := Hn.out; omega))
        clear e
        have Hall := Lib.hid hall; have Hdiff := Lib.hid hdiff; have Hf := Lib.hid hf; clear hall hdiff hf
        go_wp2_with fail
        go_ret
        exact ⟨ret_bool Hf.out.symm, _, rfl⟩
  · have k1 : decide ((4 : Int) < (n : Int)) = true := by simp; omega
    have hf := Hno1.out h4
    have Hf := Lib.hid hf; clear hf
    go_wp2_with fail
    go_ret
    exact ⟨ret_bool Hf.out.symm, 0, rfl⟩
end Go.Proofs.Ytnelgellbabkoaa
