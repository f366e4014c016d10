/- The walk of OrderCircle: it returns true. No condition. -/
import Derived.Test.YtoljhahmmdibfaaOrderR
namespace Go.Proofs.Ytoljhahmmdibfaa
open Go.RowKit OrderM

set_option maxRecDepth 10000 in
set_option maxHeartbeats 4000000 in
theorem orderCircle_true (ev : Value) (E : G) (w : World) (hed : REd w [ev] E) :
    Calls Try.prog 4 #[ev] w fun e w' => e = .returned (.bool true) ∧ Below w.heap.size w w' := by
  have HED := Lib.hid hed
  obtain ⟨ea, ecap, hev, hec, hem, hrows⟩ := edge_cell hed
  subst hev
  have HRW := Lib.hid hrows; clear hrows hed
  unfold maxLen at hem
  go_enter Try.func4, Try.ntmps4
  go_wp2_with fail
  go_loop [3, 17] (fun n i => ∃ k : Nat, ∃ s : Int, k ≤ E.length ∧ i = .int .i64 k ∧ n = .int .i64 s) (fun _ i => E.length - (intOf i).toNat)
  case atStart => exact ⟨0, 0, by omega, rfl, rfl⟩
  case round =>
    obtain ⟨k, s, hk, rfl, rfl⟩ := hrel
    by_cases hlt : k < E.length
    · obtain ⟨eb, eo, hea, rv, hrc, hrow⟩ := HRW.out k hlt
      subst hea
      obtain ⟨ra, rcap, hrv, hrl, hrm, _⟩ := ints_form hrow
      subst hrv
      unfold maxLen at hrm
      clear hrow
      go_wp2_with fail
      go_round
      case rel => exact ⟨k + 1, _, by omega, by go_num, rfl⟩
      case measure => simp [intOf]; omega
    · by_cases hbig : 60 < E.length
      · go_wp2_with (go_at_call 22; refine (fixed15 _).mono ?_; rintro e w2 ⟨rfl, hb2⟩)
        go_ret
        exact ⟨rfl, hb2⟩
      · by_cases hs : 360 < s
        · go_wp2_with (go_at_call 22; refine (fixed15 _).mono ?_; rintro e w2 ⟨rfl, hb2⟩)
          go_ret
          exact ⟨rfl, hb2⟩
        · go_wp2_with fail
          refine (circle_any _ E _ (by omega) HED.out).mono ?_
          rintro e w2 ⟨v, L, rfl, hL, hb2, hcase⟩
          have HB2 := Lib.hid hb2
          have hed2 := Lib.hid (stays_edges _ _ _ _ HED.out hb2)
          have hs2 := hb2.size
          rcases hcase with ⟨hnil, D, hD, hall⟩ | ⟨hcyc, _⟩
          · subst hnil
            obtain ⟨la, lc, hv, _⟩ := ints_form hL
            subst hv
            have hlf := left_of_topo hD hall
            have HLF := Lib.hid hlf
            clear hL hb2 hD hall hlf
            go_wp2_with fail
            refine (fixed15 _).mono ?_
            rintro e w3 ⟨rfl, hb3⟩
            have hed3 := Lib.hid (stays_edges _ _ _ _ hed2.out hb3)
            have HB3 := Lib.hid hb3
            have hs3 := hb3.size
            clear hb3
            go_wp2_with fail
            refine (round_any _ E _ (by omega) hed3.out).mono ?_
            rintro e w4 ⟨rfl, hb4⟩
            rw [HLF.out]
            have HB4 := Lib.hid hb4
            clear hb4
            go_wp2_with fail
            go_ret
            exact ⟨rfl, (HB2.out.trans (HB3.out.mono hs2)).trans (HB4.out.mono (by omega))⟩
          · have HC := Lib.hid hcyc
            have hLpos : 0 < L.length := List.length_pos_iff.2 hcyc.1
            have hLn : L.length ≤ E.length := pigeon _ L hcyc.2.1 hcyc.2.2.1
            have hlf := left_of_cyc ⟨L, hcyc⟩
            have HLF := Lib.hid hlf
            obtain ⟨la, lc, hv, hlc, hlm, hlcell⟩ := ints_form hL
            subst hv
            obtain ⟨lb, lo, hla, _⟩ := hlcell 0 hLpos
            subst hla
            have HLC : Hid (∀ i (hi : i < L.length), w2.cell? ⟨lb, lo + i, none⟩ = some (.int .i64 L[i]) ∧ 0 ≤ L[i] ∧ L[i] < E.length) := by
              intro i hi
              obtain ⟨b, o, e1, e2, _⟩ := hlcell i hi
              simp at e1
              obtain ⟨rfl, rfl⟩ := e1
              exact ⟨e2, hcyc.2.2.1 _ (List.getElem_mem hi)⟩
            have hERW : Hid (∀ p, ∀ hp : p < E.length, ∃ b off rv, (Value.slice ea E.length ecap) = .slice (some ⟨b, off, none⟩) E.length ecap ∧ w2.cell? ⟨b, off + p, none⟩ = some rv ∧ RSlice 1 (RInt .i64) w2 [rv] E[p]) := by
              intro p hp
              obtain ⟨b, off, e1, rv, e2, e3⟩ := HRW.out p hp
              exact ⟨b, off, rv, by rw [e1], cell_later HB2.out e2, stays_ints _ _ _ _ e3 HB2.out⟩
            unfold maxLen at hlm
            clear hL hb2 hcyc hlf hlcell
            go_wp2_with fail
            go_loop [48] (fun i => ∃ q : Nat, q ≤ L.length ∧ i = .int .i64 q) (fun i => L.length - (intOf i).toNat)
            case atStart => exact ⟨0, by omega, rfl⟩
            case round =>
              obtain ⟨q, hq, rfl⟩ := hrel
              by_cases hql : q < L.length
              · have hmod : (q + 1) % L.length < L.length := Nat.mod_lt _ hLpos
                obtain ⟨zp, hp1, hp2⟩ := HLC.out q hql
                obtain ⟨zn, _, _⟩ := HLC.out ((q + 1) % L.length) hmod
                have hnext := HC.out.2.2.2 q hql
                obtain ⟨p, hp⟩ : ∃ p : Nat, (p : Int) = L[q] := ⟨L[q].toNat, by omega⟩
                rw [← hp] at zp hp1 hp2 hnext
                obtain ⟨t, ht⟩ : ∃ t, t = L[(q + 1) % L.length] := ⟨_, rfl⟩
                rw [← ht] at zn hnext
                have HP := Lib.hid hp; have HN := Lib.hid hnext
                obtain ⟨eb, eo, rv, he1, he2, he3⟩ := hERW.out p (by omega)
                simp at he1
                subst he1
                obtain ⟨ra, rcap, hrv, hrl, hrm, hrcell⟩ := ints_form he3
                subst hrv
                have hout : out E p = E[p]'(by omega) := by unfold out; simp [List.getD, show p < E.length by omega]
                obtain ⟨R, hR⟩ : ∃ R, R = E[p]'(by omega) := ⟨_, rfl⟩
                rw [← hR] at he2 hrl hrcell hout
                have HO := Lib.hid hout; have HRC := Lib.hid hrcell
                unfold maxLen at hrm
                have hm0 : ((q : Int) + 1) % (L.length : Int) = (((q + 1) % L.length : Nat) : Int) := by simp
                have hm1 : 0 ≤ ((q : Int) + 1) % (L.length : Int) := by rw [hm0]; omega
                have hm2 : ((q : Int) + 1) % (L.length : Int) < L.length := by rw [hm0]; omega
                clear hp ht hnext he3 hrcell hout hR hm0
                go_wp2_with fail
                go_loop [10, 74] (fun fd i => ∃ r : Nat, r ≤ R.length ∧ i = .int .i64 r ∧ fd = .bool ((R.take r).any (· == t))) (fun _ i => R.length - (intOf i).toNat)
                case atStart => exact ⟨0, by omega, rfl, rfl⟩
                case round =>
                  obtain ⟨r, hr, rfl, rfl⟩ := hrel
                  by_cases hrl2 : r < R.length
                  · obtain ⟨bb, off, hra, hrk, hr1, hr2⟩ := HRC.out r hrl2
                    subst hra
                    obtain ⟨x, hx⟩ : ∃ x, x = R[r] := ⟨_, rfl⟩
                    rw [← hx] at hrk
                    have hsn : (R.take (r + 1)).any (· == t) = ((R.take r).any (· == t) || (x == t)) := by
                      rw [List.take_add_one, List.getElem?_eq_getElem hrl2, List.any_append, hx]; simp
                    have HSN := Lib.hid hsn
                    clear hsn hx hr1 hr2
                    obtain ⟨fd, hfd⟩ : ∃ fd, fd = (R.take r).any (· == t) := ⟨_, rfl⟩
                    rw [← hfd] at HSN ⊢
                    clear hfd
                    cases fd
                    · by_cases hxt : x = t
                      · have hb : (x == t) = true := by rw [beq_iff_eq]; exact hxt
                        have HXT := Lib.hid hxt; clear hxt
                        have hbx := Lib.hid hb
                        go_wp2_with fail
                        go_round
                        case rel => exact ⟨r + 1, by omega, by go_num, by rw [HSN.out, hbx.out]; rfl⟩
                        case measure => simp [intOf]; omega
                      · have hb : (x == t) = false := by rw [beq_eq_false_iff_ne]; exact hxt
                        have HXT := Lib.hid hxt; clear hxt
                        have hbx := Lib.hid hb
                        go_wp2_with fail
                        go_round
                        case rel => exact ⟨r + 1, by omega, by go_num, by rw [HSN.out, hbx.out]; rfl⟩
                        case measure => simp [intOf]; omega
                    · go_wp2_with fail
                      go_round
                      case rel => exact ⟨r + 1, by omega, by go_num, by rw [HSN.out]; rfl⟩
                      case measure => simp [intOf]; omega
                  · have hfound : (R.take r).any (· == t) = true := by
                      rw [List.take_of_length_le (by omega), List.any_eq_true]
                      exact ⟨t, by rw [← HO.out]; exact HN.out, by simp⟩
                    rw [hfound]
                    clear hfound
                    go_wp2_with fail
                    go_loop [91] (fun i => ∃ o : Nat, o ≤ q ∧ i = .int .i64 o) (fun i => q - (intOf i).toNat)
                    case atStart => exact ⟨0, by omega, rfl⟩
                    case round =>
                      obtain ⟨o, ho, rfl⟩ := hrel
                      by_cases hoq : o < q
                      · obtain ⟨zo, _, _⟩ := HLC.out o (by omega)
                        have hne : L[o] ≠ L[q] := List.pairwise_iff_getElem.1 HC.out.2.1 o q (by omega) hql hoq
                        rw [← HP.out] at hne
                        obtain ⟨y, hy⟩ : ∃ y, y = L[o] := ⟨_, rfl⟩
                        rw [← hy] at zo hne
                        have hb : (y == (p : Int)) = false := by rw [beq_eq_false_iff_ne]; exact hne
                        clear hy hne
                        go_wp2_with fail
                        go_round
                        case rel => exact ⟨o + 1, by omega, by go_num⟩
                        case measure => simp [intOf]; omega
                      · go_wp2_with fail
                        refine ⟨?_, ?_⟩
                        · ((repeat apply Exists.intro); exact ⟨⟨q + 1, by omega, by go_num⟩, rfl, rfl, rfl, rfl, rfl, rfl, rfl, rfl⟩)
                        · simp [intOf]; omega
              · clear hq
                go_wp2_with fail
                refine (fixed15 _).mono ?_
                rintro e w3 ⟨rfl, hb3⟩
                have hed3 := Lib.hid (stays_edges _ _ _ _ hed2.out hb3)
                have HB3 := Lib.hid hb3
                have hs3 := hb3.size
                clear hb3
                go_wp2_with fail
                refine (round_any _ E _ (by omega) hed3.out).mono ?_
                rintro e w4 ⟨rfl, hb4⟩
                rw [HLF.out]
                have HB4 := Lib.hid hb4
                clear hb4
                go_wp2_with fail
                go_ret
                exact ⟨rfl, (HB2.out.trans (HB3.out.mono hs2)).trans (HB4.out.mono (by omega))⟩
end Go.Proofs.Ytoljhahmmdibfaa
