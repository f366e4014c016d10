/- The walk of LubyPace: it returns true. No condition. -/
import Derived.Test.YtoljhahmmdibfaaLubyP
namespace Go.Proofs.Ytoljhahmmdibfaa
open Go.RowKit LubyM

theorem opens_ints : Opens Try.prog 35 (RSlice 1 (RInt .i64)) := opens_ints_of Try.underlying35 Try.underlying3 (by kernel_rfl)

/-- what the loop keeps -/
structure PaceInv (w : World) (p g cap : Nat) (U : Int) (q : Nat) (K : Int) (T M : Nat) (wr : World) : Prop where
  pace : IsPace wr p U (timesOf U (luby T) - M) ((T : Int) - 1) K
  row : wr.ownsRow w.heap.size 3 1 (.slice (some ⟨g, 0, none⟩) 1101 cap) 1101 (rowVals 1101)
  gp : g ≠ p
  pB : w.heap.size ≤ p
  bel : Below w.heap.size w wr
  k : 1 ≤ K ∧ K ≤ 9223372036854775807
  t : 1 ≤ T ∧ T ≤ q + 1
  m : M ≤ q ∧ (M : Int) < timesOf U (luby T)
  big : 3000 < U → T = 1

theorem luby_one : luby 1 = 1 := luby_1
theorem timesOf_small (U : Int) (T : Nat) (h : 1 ≤ U ∧ U ≤ 3000) (hT : 1 ≤ T ∧ T ≤ 1002) : timesOf U (luby T) = U * luby T ∧ 1 ≤ U * (luby T : Int) ∧ U * (luby T : Int) ≤ 3006000 := by
  have h1 := luby_pos T hT.1
  have h2 := luby_le T
  have h3 : 1 * (1 : Int) ≤ U * luby T := Int.mul_le_mul h.1 (by omega) (by omega) (by omega)
  have h4 : U * (luby T : Int) ≤ 3000 * 1002 := Int.mul_le_mul h.2 (by omega) (by omega) (by omega)
  unfold timesOf
  omega
theorem paceInv_next {w : World} {p g cap : Nat} {U : Int} {q : Nat} {K : Int} {T M : Nat} {wr : World} (h : PaceInv w p g cap U q K T M wr) (hq : q ≤ 1000) (hU : 1 ≤ U ∧ U ≤ 9223372036854775807) (n : Int) (hn : n ≤ 9223372036854775807) {w3 : World}
    (hp : IsPace w3 p U (leftOf U (timesOf U (luby T) - M) ((T : Int) - 1)) (turnsOf (timesOf U (luby T) - M) ((T : Int) - 1)) (keepOf K n)) (hf : Frm (fun k => k = p) wr w3) {K' : Int} {T' M' : Nat}
    (hK : K' = keepOf K n) (hT : (timesOf U (luby T) - M = 1 ∧ T' = T + 1 ∧ M' = 0 ∧ U ≤ 3000) ∨ (timesOf U (luby T) - M ≠ 1 ∧ T' = T ∧ M' = M + 1)) : PaceInv w p g cap U (q + 1) K' T' M' w3 := by
  subst hK
  have hkk : 1 ≤ keepOf K n ∧ keepOf K n ≤ 9223372036854775807 := by
    have := h.k
    unfold keepOf
    split <;> omega
  have hsz := h.bel.size
  have hbel : Below w.heap.size w w3 := h.bel.trans (hf.below hsz (fun k hk => by rw [hk]; exact h.pB))
  have hrow := hf.owns h.row (fun k hk e => h.gp (by simp [Value.ownBlock] at hk; omega))
  have h1 := h.t
  have h2 := h.m
  rcases hT with ⟨e1, e2, e3, e4⟩ | ⟨e1, e2, e3⟩
  · rw [e2, e3]
    have hpos : 1 ≤ timesOf U (luby (T + 1)) := by
      have := timesOf_small U (T + 1) ⟨hU.1, e4⟩ ⟨by omega, by omega⟩
      omega
    refine ⟨?_, hrow, h.gp, h.pB, hbel, hkk, by omega, by omega, by omega⟩
    unfold leftOf turnsOf at hp
    rw [if_pos e1, if_pos e1] at hp
    have e5 : rowOf ((T : Int) - 1 + 1 + 1) = (luby (T + 1) : Int) := by
      unfold rowOf
      rw [if_neg (by omega)]
      congr 2
      omega
    rw [e5] at hp
    have e6 : ((T + 1 : Nat) : Int) - 1 = (T : Int) - 1 + 1 := by omega
    rw [e6]
    simpa using hp
  · rw [e2, e3]
    refine ⟨?_, hrow, h.gp, h.pB, hbel, hkk, by omega, by omega, fun hb => by have := h.big hb; omega⟩
    unfold leftOf turnsOf at hp
    rw [if_neg e1, if_neg e1] at hp
    have e6 : timesOf U (luby T) - ((M + 1 : Nat) : Int) = timesOf U (luby T) - M - 1 := by omega
    rw [e6]
    exact hp

set_option maxHeartbeats 8000000 in
theorem lubyPace_true (a b : Int) (ha : -9223372036854775808 ≤ a ∧ a ≤ 9223372036854775807) (hb : -9223372036854775808 ≤ b ∧ b ≤ 9223372036854775807) (v : Value) (l : List Int) (w : World) (h : RSlice 1 (RInt .i64) w [v] l) :
    Calls Try.prog 12 #[.int .i64 a, .int .i64 b, v] w fun e w' => e = .returned (.bool true) ∧ Below w.heap.size w w' := by
  obtain ⟨ad, lcap, hv, hlc, hcm, hcell⟩ := h
  simp only [List.cons.injEq, and_true] at hv
  subst hv
  have HC := Lib.hid hcell; clear hcell
  unfold maxLen at hcm
  by_cases hbig : 1000 < l.length
  · go_enter Try.func12, Try.ntmps12
    go_wp2_with (go_at_call 27; refine (fixed20 _).mono ?_; rintro e w2 ⟨rfl, hb2⟩)
    go_ret
    exact ⟨rfl, hb2⟩
  · have hsm : l.length ≤ 1000 := by omega
    obtain ⟨U, hU⟩ : ∃ U, max 1 a = U := ⟨_, rfl⟩
    obtain ⟨K0, hK0⟩ : ∃ K0, max 1 b = K0 := ⟨_, rfl⟩
    have hU1 : 1 ≤ U ∧ U ≤ 9223372036854775807 := by omega
    have hK1 : 1 ≤ K0 ∧ K0 ≤ 9223372036854775807 := by omega
    have HU := Lib.hid hU; have HK := Lib.hid hK0; clear hU hK0
    go_enter Try.func12, Try.ntmps12
    go_wp2_with fail
    refine (pace_new _ _ _).mono ?_
    rintro e w1 ⟨rfl, hp1, hb1⟩
    rw [Int.max_comm a 1, Int.max_comm b 1, HU.out, HK.out] at hp1
    have HP1 := Lib.hid hp1
    have hpl := (Array.getElem?_eq_some_iff.1 hp1).1
    clear hp1
    go_wp2_with fail
    refine (refRow 1100 _ (by omega)).mono ?_
    rintro e w2 ⟨rv, rfl, hrow, hb2⟩
    obtain ⟨g, cap, rfl, hgb, hgs, hgc, hgm, _⟩ := ownsRow_some hrow (by omega)
    have hI0 : PaceInv w w.heap.size g cap U 0 K0 1 0 w2 := by
      have ht : timesOf U (luby 1) = U := by rw [luby_one]; unfold timesOf; simp; omega
      refine ⟨?_, ownsRow_mono hrow hb1.size, by omega, Nat.le_refl _, hb1.trans (hb2.mono hb1.size), hK1, by omega, by rw [ht]; omega, fun _ => rfl⟩
      rw [ht]
      have := (hb2.block _ hpl).trans HP1.out
      simpa [IsPace] using this
    have HI0 := Lib.hid hI0
    clear hrow hI0
    go_wp2_with fail
    rw [HU.out, HK.out]
    go_loopw [10, 11, 12, 33] (fun k t m i wr => ∃ q : Nat, ∃ K : Int, ∃ T M : Nat, q ≤ l.length ∧ i = .int .i64 q ∧ k = .int .i64 K ∧ t = .int .i64 T ∧ m = .int .i64 M ∧ PaceInv w w.heap.size g cap U q K T M wr) (fun _ _ _ i _ => l.length - (intOf i).toNat)
    case atStart => exact ⟨0, K0, 1, 0, by omega, rfl, rfl, rfl, rfl, HI0.out⟩
    case round =>
      obtain ⟨q, K, T, M, hq, rfl, rfl, rfl, rfl, hI⟩ := hrel
      have HI := Lib.hid hI
      have hk := hI.k
      have ht := hI.t
      have hm := hI.m
      have hbg := Lib.hid hI.big
      have hszr := hI.bel.size
      clear hI
      by_cases hlt : q < l.length
      · obtain ⟨bb, off, hec, hce, hn1, hn2⟩ := ints_cell HC.out q hlt
        subst hec
        obtain ⟨n, hn⟩ : ∃ n, n = l[q] := ⟨_, rfl⟩
        rw [← hn] at hce hn1 hn2
        clear hn
        have z0 : wr.cell? ⟨bb, off + q, none⟩ = some (.int .i64 n) := (Frm.of_below (S := fun _ => False) HI.out.bel).keep hce
        clear hce
        have htm : timesOf U (luby T) ≤ 9223372036854775807 := by unfold timesOf; omega
        have hconf := Lib.hid (conflict_any HI.out.pace n hU1 (by omega) (by omega) hk)
        obtain ⟨L, hL⟩ : ∃ L, L = timesOf U (luby T) - (M : Int) := ⟨_, rfl⟩
        have HL := Lib.hid hL
        have hcases : (U ≤ 3000 ∧ (M : Int) + 1 = U * luby T ∧ L = 1) ∨ (U ≤ 3000 ∧ (M : Int) + 1 ≠ U * luby T ∧ L ≠ 1) ∨ (3000 < U ∧ L ≠ 1) := by
          by_cases h3 : U ≤ 3000
          · have := timesOf_small U T ⟨hU1.1, h3⟩ ⟨ht.1, by omega⟩
            omega
          · right; right
            have e1 := hbg.out (by omega)
            subst e1
            rw [luby_one] at hL
            unfold timesOf at hL
            simp at hL
            omega
        have hkc : (¬ K < n) ∨ (K < n ∧ K ≤ 4611686018427387904) ∨ (K < n ∧ 4611686018427387904 < K) := by omega
        have hprod : U ≤ 3000 → 1 ≤ U * (luby T : Int) ∧ U * (luby T : Int) ≤ 3006000 := fun h => (timesOf_small U T ⟨hU1.1, h⟩ ⟨ht.1, by omega⟩).2
        have HPR := Lib.hid hprod
        clear hL hprod
        rcases hcases with ⟨h3, hmu, hl1⟩ | ⟨h3, hmu, hl1⟩ | ⟨h3, hl1⟩
        · rcases hkc with hkn | ⟨hkn, hkl⟩ | ⟨hkn, hkl⟩
          · have hp1 := HPR.out h3
            have hov : ((M : Int) + 1 == U * (luby T : Int)) = true := by rw [beq_iff_eq]; exact hmu
            have HMU := Lib.hid hmu; clear hmu
            have HL1 := Lib.hid hl1; clear hl1
            have hdk : decide (K < n) = false := by simp; omega
            have hdl : decide (timesOf U (luby T) - (M : Int) = 1) = true := by rw [← HL.out]; simp; exact HL1.out
            have HDK := Lib.hid hdk; have HDL := Lib.hid hdl; clear hdk hdl
            skip
            go_wp2_with fail
            refine hconf.out.mono ?_
            rintro e w3 ⟨rfl, hp3, hf3⟩
            rw [HDK.out, HDL.out]
            have hrow3 := hf3.owns HI.out.row (fun k hk e => HI.out.gp (by simp [Value.ownBlock] at hk; omega))
            obtain ⟨_, _, hgv, _, hgs3, _, _, hcell3⟩ := ownsRow_some hrow3 (by omega)
            have hgv2 := hgv
            simp only [Value.slice.injEq, Option.some.injEq, Addr.mk.injEq, true_and, and_true] at hgv2
            obtain ⟨rfl, rfl⟩ := hgv2
            have zr := hcell3 _ _ (rowVals_get 1101 T (by omega))
            have P3 := Lib.hid hp3; have F3 := Lib.hid hf3
            have hp3s := hp3
            have hnext := Lib.hid (paceInv_next HI.out (by omega) hU1 n hn2 P3.out F3.out (K' := keepOf K n) (T' := (T + 1)) (M' := 0) rfl (.inl ⟨by rw [← HL.out]; exact HL1.out, rfl, rfl, h3⟩))
            have hke : keepOf K n = K := by unfold keepOf; rw [if_neg (by omega)]
            rw [hke] at hnext
            clear hp3 hf3 hrow3 hcell3 hgv hp3s hke
            go_wp2_with (go_at_call 35; refine (restarts_any hnext.out.pace).mono ?_; rintro e w' ⟨rfl, rfl⟩)
            go_roundw
            case rel => exact ⟨q + 1, K, (T + 1), 0, by omega, by go_num, by go_num, by go_num, by go_num, hnext.out⟩
            case measure => simp [intOf]; omega
          · have hp1 := HPR.out h3
            have hov : ((M : Int) + 1 == U * (luby T : Int)) = true := by rw [beq_iff_eq]; exact hmu
            have HMU := Lib.hid hmu; clear hmu
            have HL1 := Lib.hid hl1; clear hl1
            have hdk : decide (K < n) = true := by simp; omega
            have hdl : decide (timesOf U (luby T) - (M : Int) = 1) = true := by rw [← HL.out]; simp; exact HL1.out
            have HDK := Lib.hid hdk; have HDL := Lib.hid hdl; clear hdk hdl
            skip
            go_wp2_with fail
            refine hconf.out.mono ?_
            rintro e w3 ⟨rfl, hp3, hf3⟩
            rw [HDK.out, HDL.out]
            have hrow3 := hf3.owns HI.out.row (fun k hk e => HI.out.gp (by simp [Value.ownBlock] at hk; omega))
            obtain ⟨_, _, hgv, _, hgs3, _, _, hcell3⟩ := ownsRow_some hrow3 (by omega)
            have hgv2 := hgv
            simp only [Value.slice.injEq, Option.some.injEq, Addr.mk.injEq, true_and, and_true] at hgv2
            obtain ⟨rfl, rfl⟩ := hgv2
            have zr := hcell3 _ _ (rowVals_get 1101 T (by omega))
            have P3 := Lib.hid hp3; have F3 := Lib.hid hf3
            have hp3s := hp3
            have hnext := Lib.hid (paceInv_next HI.out (by omega) hU1 n hn2 P3.out F3.out (K' := keepOf K n) (T' := (T + 1)) (M' := 0) rfl (.inl ⟨by rw [← HL.out]; exact HL1.out, rfl, rfl, h3⟩))
            have hke : keepOf K n = K + (K / 2 + 1) := by unfold keepOf; rw [if_pos (by omega)]; omega
            rw [hke] at hnext
            clear hp3 hf3 hrow3 hcell3 hgv hp3s hke
            go_wp2_with (go_at_call 35; refine (restarts_any hnext.out.pace).mono ?_; rintro e w' ⟨rfl, rfl⟩)
            go_roundw
            case rel => exact ⟨q + 1, K + (K / 2 + 1), (T + 1), 0, by omega, by go_num, by go_num, by go_num, by go_num, hnext.out⟩
            case measure => simp [intOf]; omega
          · have hp1 := HPR.out h3
            have hov : ((M : Int) + 1 == U * (luby T : Int)) = true := by rw [beq_iff_eq]; exact hmu
            have HMU := Lib.hid hmu; clear hmu
            have HL1 := Lib.hid hl1; clear hl1
            have hdk : decide (K < n) = true := by simp; omega
            have hdl : decide (timesOf U (luby T) - (M : Int) = 1) = true := by rw [← HL.out]; simp; exact HL1.out
            have HDK := Lib.hid hdk; have HDL := Lib.hid hdl; clear hdk hdl
            skip
            go_wp2_with fail
            refine hconf.out.mono ?_
            rintro e w3 ⟨rfl, hp3, hf3⟩
            rw [HDK.out, HDL.out]
            have hrow3 := hf3.owns HI.out.row (fun k hk e => HI.out.gp (by simp [Value.ownBlock] at hk; omega))
            obtain ⟨_, _, hgv, _, hgs3, _, _, hcell3⟩ := ownsRow_some hrow3 (by omega)
            have hgv2 := hgv
            simp only [Value.slice.injEq, Option.some.injEq, Addr.mk.injEq, true_and, and_true] at hgv2
            obtain ⟨rfl, rfl⟩ := hgv2
            have zr := hcell3 _ _ (rowVals_get 1101 T (by omega))
            have P3 := Lib.hid hp3; have F3 := Lib.hid hf3
            have hp3s := hp3
            have hnext := Lib.hid (paceInv_next HI.out (by omega) hU1 n hn2 P3.out F3.out (K' := keepOf K n) (T' := (T + 1)) (M' := 0) rfl (.inl ⟨by rw [← HL.out]; exact HL1.out, rfl, rfl, h3⟩))
            have hke : keepOf K n = K + min (K / 2 + 1) (9223372036854775807 - K) := by unfold keepOf; rw [if_pos (by omega)]
            rw [hke] at hnext
            clear hp3 hf3 hrow3 hcell3 hgv hp3s hke
            go_wp2_with (go_at_call 35; refine (restarts_any hnext.out.pace).mono ?_; rintro e w' ⟨rfl, rfl⟩)
            go_roundw
            case rel => exact ⟨q + 1, K + min (K / 2 + 1) (9223372036854775807 - K), (T + 1), 0, by omega, by go_num, by go_num, by go_num, by go_num, hnext.out⟩
            case measure => simp [intOf]; omega
        · rcases hkc with hkn | ⟨hkn, hkl⟩ | ⟨hkn, hkl⟩
          · have hp1 := HPR.out h3
            have hov : ((M : Int) + 1 == U * (luby T : Int)) = false := by rw [beq_eq_false_iff_ne]; exact hmu
            have HMU := Lib.hid hmu; clear hmu
            have HL1 := Lib.hid hl1; clear hl1
            have hdk : decide (K < n) = false := by simp; omega
            have hdl : decide (timesOf U (luby T) - (M : Int) = 1) = false := by rw [← HL.out]; simp; exact HL1.out
            have HDK := Lib.hid hdk; have HDL := Lib.hid hdl; clear hdk hdl
            skip
            go_wp2_with fail
            refine hconf.out.mono ?_
            rintro e w3 ⟨rfl, hp3, hf3⟩
            rw [HDK.out, HDL.out]
            have hrow3 := hf3.owns HI.out.row (fun k hk e => HI.out.gp (by simp [Value.ownBlock] at hk; omega))
            obtain ⟨_, _, hgv, _, hgs3, _, _, hcell3⟩ := ownsRow_some hrow3 (by omega)
            have hgv2 := hgv
            simp only [Value.slice.injEq, Option.some.injEq, Addr.mk.injEq, true_and, and_true] at hgv2
            obtain ⟨rfl, rfl⟩ := hgv2
            have zr := hcell3 _ _ (rowVals_get 1101 T (by omega))
            have P3 := Lib.hid hp3; have F3 := Lib.hid hf3
            have hp3s := hp3
            have hnext := Lib.hid (paceInv_next HI.out (by omega) hU1 n hn2 P3.out F3.out (K' := keepOf K n) (T' := T) (M' := (M + 1)) rfl (.inr ⟨by rw [← HL.out]; exact HL1.out, rfl, rfl⟩))
            have hke : keepOf K n = K := by unfold keepOf; rw [if_neg (by omega)]
            rw [hke] at hnext
            clear hp3 hf3 hrow3 hcell3 hgv hp3s hke
            go_wp2_with (go_at_call 35; refine (restarts_any hnext.out.pace).mono ?_; rintro e w' ⟨rfl, rfl⟩)
            go_roundw
            case rel => exact ⟨q + 1, K, T, (M + 1), by omega, by go_num, by go_num, by go_num, by go_num, hnext.out⟩
            case measure => simp [intOf]; omega
          · have hp1 := HPR.out h3
            have hov : ((M : Int) + 1 == U * (luby T : Int)) = false := by rw [beq_eq_false_iff_ne]; exact hmu
            have HMU := Lib.hid hmu; clear hmu
            have HL1 := Lib.hid hl1; clear hl1
            have hdk : decide (K < n) = true := by simp; omega
            have hdl : decide (timesOf U (luby T) - (M : Int) = 1) = false := by rw [← HL.out]; simp; exact HL1.out
            have HDK := Lib.hid hdk; have HDL := Lib.hid hdl; clear hdk hdl
            skip
            go_wp2_with fail
            refine hconf.out.mono ?_
            rintro e w3 ⟨rfl, hp3, hf3⟩
            rw [HDK.out, HDL.out]
            have hrow3 := hf3.owns HI.out.row (fun k hk e => HI.out.gp (by simp [Value.ownBlock] at hk; omega))
            obtain ⟨_, _, hgv, _, hgs3, _, _, hcell3⟩ := ownsRow_some hrow3 (by omega)
            have hgv2 := hgv
            simp only [Value.slice.injEq, Option.some.injEq, Addr.mk.injEq, true_and, and_true] at hgv2
            obtain ⟨rfl, rfl⟩ := hgv2
            have zr := hcell3 _ _ (rowVals_get 1101 T (by omega))
            have P3 := Lib.hid hp3; have F3 := Lib.hid hf3
            have hp3s := hp3
            have hnext := Lib.hid (paceInv_next HI.out (by omega) hU1 n hn2 P3.out F3.out (K' := keepOf K n) (T' := T) (M' := (M + 1)) rfl (.inr ⟨by rw [← HL.out]; exact HL1.out, rfl, rfl⟩))
            have hke : keepOf K n = K + (K / 2 + 1) := by unfold keepOf; rw [if_pos (by omega)]; omega
            rw [hke] at hnext
            clear hp3 hf3 hrow3 hcell3 hgv hp3s hke
            go_wp2_with (go_at_call 35; refine (restarts_any hnext.out.pace).mono ?_; rintro e w' ⟨rfl, rfl⟩)
            go_roundw
            case rel => exact ⟨q + 1, K + (K / 2 + 1), T, (M + 1), by omega, by go_num, by go_num, by go_num, by go_num, hnext.out⟩
            case measure => simp [intOf]; omega
          · have hp1 := HPR.out h3
            have hov : ((M : Int) + 1 == U * (luby T : Int)) = false := by rw [beq_eq_false_iff_ne]; exact hmu
            have HMU := Lib.hid hmu; clear hmu
            have HL1 := Lib.hid hl1; clear hl1
            have hdk : decide (K < n) = true := by simp; omega
            have hdl : decide (timesOf U (luby T) - (M : Int) = 1) = false := by rw [← HL.out]; simp; exact HL1.out
            have HDK := Lib.hid hdk; have HDL := Lib.hid hdl; clear hdk hdl
            skip
            go_wp2_with fail
            refine hconf.out.mono ?_
            rintro e w3 ⟨rfl, hp3, hf3⟩
            rw [HDK.out, HDL.out]
            have hrow3 := hf3.owns HI.out.row (fun k hk e => HI.out.gp (by simp [Value.ownBlock] at hk; omega))
            obtain ⟨_, _, hgv, _, hgs3, _, _, hcell3⟩ := ownsRow_some hrow3 (by omega)
            have hgv2 := hgv
            simp only [Value.slice.injEq, Option.some.injEq, Addr.mk.injEq, true_and, and_true] at hgv2
            obtain ⟨rfl, rfl⟩ := hgv2
            have zr := hcell3 _ _ (rowVals_get 1101 T (by omega))
            have P3 := Lib.hid hp3; have F3 := Lib.hid hf3
            have hp3s := hp3
            have hnext := Lib.hid (paceInv_next HI.out (by omega) hU1 n hn2 P3.out F3.out (K' := keepOf K n) (T' := T) (M' := (M + 1)) rfl (.inr ⟨by rw [← HL.out]; exact HL1.out, rfl, rfl⟩))
            have hke : keepOf K n = K + min (K / 2 + 1) (9223372036854775807 - K) := by unfold keepOf; rw [if_pos (by omega)]
            rw [hke] at hnext
            clear hp3 hf3 hrow3 hcell3 hgv hp3s hke
            go_wp2_with (go_at_call 35; refine (restarts_any hnext.out.pace).mono ?_; rintro e w' ⟨rfl, rfl⟩)
            go_roundw
            case rel => exact ⟨q + 1, K + min (K / 2 + 1) (9223372036854775807 - K), T, (M + 1), by omega, by go_num, by go_num, by go_num, by go_num, hnext.out⟩
            case measure => simp [intOf]; omega
        · rcases hkc with hkn | ⟨hkn, hkl⟩ | ⟨hkn, hkl⟩
          · have HL1 := Lib.hid hl1; clear hl1
            have hdk : decide (K < n) = false := by simp; omega
            have hdl : decide (timesOf U (luby T) - (M : Int) = 1) = false := by rw [← HL.out]; simp; exact HL1.out
            have HDK := Lib.hid hdk; have HDL := Lib.hid hdl; clear hdk hdl
            skip
            go_wp2_with fail
            refine hconf.out.mono ?_
            rintro e w3 ⟨rfl, hp3, hf3⟩
            rw [HDK.out, HDL.out]
            have hrow3 := hf3.owns HI.out.row (fun k hk e => HI.out.gp (by simp [Value.ownBlock] at hk; omega))
            obtain ⟨_, _, hgv, _, hgs3, _, _, hcell3⟩ := ownsRow_some hrow3 (by omega)
            have hgv2 := hgv
            simp only [Value.slice.injEq, Option.some.injEq, Addr.mk.injEq, true_and, and_true] at hgv2
            obtain ⟨rfl, rfl⟩ := hgv2
            have zr := hcell3 _ _ (rowVals_get 1101 T (by omega))
            have P3 := Lib.hid hp3; have F3 := Lib.hid hf3
            have hp3s := hp3
            have hnext := Lib.hid (paceInv_next HI.out (by omega) hU1 n hn2 P3.out F3.out (K' := keepOf K n) (T' := T) (M' := (M + 1)) rfl (.inr ⟨by rw [← HL.out]; exact HL1.out, rfl, rfl⟩))
            have hke : keepOf K n = K := by unfold keepOf; rw [if_neg (by omega)]
            rw [hke] at hnext
            clear hp3 hf3 hrow3 hcell3 hgv hp3s hke
            go_wp2_with (go_at_call 35; refine (restarts_any hnext.out.pace).mono ?_; rintro e w' ⟨rfl, rfl⟩)
            go_roundw
            case rel => exact ⟨q + 1, K, T, (M + 1), by omega, by go_num, by go_num, by go_num, by go_num, hnext.out⟩
            case measure => simp [intOf]; omega
          · have HL1 := Lib.hid hl1; clear hl1
            have hdk : decide (K < n) = true := by simp; omega
            have hdl : decide (timesOf U (luby T) - (M : Int) = 1) = false := by rw [← HL.out]; simp; exact HL1.out
            have HDK := Lib.hid hdk; have HDL := Lib.hid hdl; clear hdk hdl
            skip
            go_wp2_with fail
            refine hconf.out.mono ?_
            rintro e w3 ⟨rfl, hp3, hf3⟩
            rw [HDK.out, HDL.out]
            have hrow3 := hf3.owns HI.out.row (fun k hk e => HI.out.gp (by simp [Value.ownBlock] at hk; omega))
            obtain ⟨_, _, hgv, _, hgs3, _, _, hcell3⟩ := ownsRow_some hrow3 (by omega)
            have hgv2 := hgv
            simp only [Value.slice.injEq, Option.some.injEq, Addr.mk.injEq, true_and, and_true] at hgv2
            obtain ⟨rfl, rfl⟩ := hgv2
            have zr := hcell3 _ _ (rowVals_get 1101 T (by omega))
            have P3 := Lib.hid hp3; have F3 := Lib.hid hf3
            have hp3s := hp3
            have hnext := Lib.hid (paceInv_next HI.out (by omega) hU1 n hn2 P3.out F3.out (K' := keepOf K n) (T' := T) (M' := (M + 1)) rfl (.inr ⟨by rw [← HL.out]; exact HL1.out, rfl, rfl⟩))
            have hke : keepOf K n = K + (K / 2 + 1) := by unfold keepOf; rw [if_pos (by omega)]; omega
            rw [hke] at hnext
            clear hp3 hf3 hrow3 hcell3 hgv hp3s hke
            go_wp2_with (go_at_call 35; refine (restarts_any hnext.out.pace).mono ?_; rintro e w' ⟨rfl, rfl⟩)
            go_roundw
            case rel => exact ⟨q + 1, K + (K / 2 + 1), T, (M + 1), by omega, by go_num, by go_num, by go_num, by go_num, hnext.out⟩
            case measure => simp [intOf]; omega
          · have HL1 := Lib.hid hl1; clear hl1
            have hdk : decide (K < n) = true := by simp; omega
            have hdl : decide (timesOf U (luby T) - (M : Int) = 1) = false := by rw [← HL.out]; simp; exact HL1.out
            have HDK := Lib.hid hdk; have HDL := Lib.hid hdl; clear hdk hdl
            skip
            go_wp2_with fail
            refine hconf.out.mono ?_
            rintro e w3 ⟨rfl, hp3, hf3⟩
            rw [HDK.out, HDL.out]
            have hrow3 := hf3.owns HI.out.row (fun k hk e => HI.out.gp (by simp [Value.ownBlock] at hk; omega))
            obtain ⟨_, _, hgv, _, hgs3, _, _, hcell3⟩ := ownsRow_some hrow3 (by omega)
            have hgv2 := hgv
            simp only [Value.slice.injEq, Option.some.injEq, Addr.mk.injEq, true_and, and_true] at hgv2
            obtain ⟨rfl, rfl⟩ := hgv2
            have zr := hcell3 _ _ (rowVals_get 1101 T (by omega))
            have P3 := Lib.hid hp3; have F3 := Lib.hid hf3
            have hp3s := hp3
            have hnext := Lib.hid (paceInv_next HI.out (by omega) hU1 n hn2 P3.out F3.out (K' := keepOf K n) (T' := T) (M' := (M + 1)) rfl (.inr ⟨by rw [← HL.out]; exact HL1.out, rfl, rfl⟩))
            have hke : keepOf K n = K + min (K / 2 + 1) (9223372036854775807 - K) := by unfold keepOf; rw [if_pos (by omega)]
            rw [hke] at hnext
            clear hp3 hf3 hrow3 hcell3 hgv hp3s hke
            go_wp2_with (go_at_call 35; refine (restarts_any hnext.out.pace).mono ?_; rintro e w' ⟨rfl, rfl⟩)
            go_roundw
            case rel => exact ⟨q + 1, K + min (K / 2 + 1) (9223372036854775807 - K), T, (M + 1), by omega, by go_num, by go_num, by go_num, by go_num, hnext.out⟩
            case measure => simp [intOf]; omega
      · clear hm
        go_wp2_with (go_at_call 27; refine (fixed20 _).mono ?_; rintro e w3 ⟨rfl, hb3⟩)
        go_ret
        exact ⟨rfl, HI.out.bel.trans (hb3.mono hszr)⟩
end Go.Proofs.Ytoljhahmmdibfaa
