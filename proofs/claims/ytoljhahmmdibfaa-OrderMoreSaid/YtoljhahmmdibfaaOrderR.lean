/- The walks of cooperlaw15's round and fixed. Condition: at most 1000 places. -/
import Derived.Test.YtoljhahmmdibfaaOrderW
set_option linter.unusedVariables false
set_option linter.unusedSimpArgs false
namespace Go.Proofs.Ytoljhahmmdibfaa
open Go.RowKit OrderM

theorem elem_bool : Elem Try.prog 87 4 (.bool false) 1 1 := ⟨Try.underlying87, by kernel_rfl, rfl, by decide⟩
theorem held_snoc (E : G) (g : List Bool) (l : List Int) (t : Int) : held E g (l ++ [t]) = (held E g l || (decide (0 ≤ t) && decide (t < (E.length : Int)) && !g.getD t.toNat false)) := by
  simp [held, List.any_append]
/-- the row of those that are gone -/
structure GoneIs (w0 : World) (E : G) (g : List Bool) (gb : Nat) (w : World) : Prop where
  row : w.ownsRow w0.heap.size 4 1 (.slice (some ⟨gb, 0, none⟩) E.length E.length) E.length (g.map Value.bool)
  len : g.length = E.length
  bel : Below w0.heap.size w0 w
theorem GoneIs.cell {w0 w : World} {E : G} {g : List Bool} {gb : Nat} (h : GoneIs w0 E g gb w) (i : Nat) (hi : i < E.length) : w.cell? ⟨gb, i, none⟩ = some (.bool (g.getD i false)) := by
  have hl := h.len
  rw [h.row.cellAt i (by omega)]
  simp [List.getD, show i < g.length by omega]

set_option maxHeartbeats 2000000 in
theorem round_any (ev : Value) (E : G) (w : World) (hE : E.length ≤ 1000) (hed : REd w [ev] E) :
    Calls Try.prog 24 #[ev] w fun e w' => e = .returned (.bool (left E)) ∧ Below w.heap.size w w' := by
  obtain ⟨ea, ecap, hev, hec, hem, hrows⟩ := edge_cell hed
  subst hev
  have HRW := Lib.hid hrows; clear hrows hed
  unfold maxLen at hem
  obtain ⟨i0, hi, hz0, hz1, hz2⟩ := info_parts elem_bool.info
  have HI := Lib.hid hi; have HZ0 := Lib.hid hz0; have HZ1 := Lib.hid hz1; have HZ2 := Lib.hid hz2
  clear hi hz0 hz1 hz2
  go_enter Try.func24, Try.ntmps24
  go_wp2_with (at_make; refine wpList_make_full _ rfl _ _ 87 rfl w.heap.size 4 i0 (.bool false) 1 Try.underlying87 HI.out HZ0.out HZ1.out _ _ _ _ E.length rfl rfl rfl rfl (by rw [HZ2.out]; omega) (by unfold maxLen; omega) (Nat.le_refl _) ?_)
  intro w1 hown hgrow
  have hvals : (madeCells #[Value.bool false] E.length).toList = (passes E 0).map Value.bool := by
    rw [toList_madeCells_one (.bool false) E.length]
    simp [passes]
  rw [hvals] at hown
  have h0 : GoneIs w E (passes E 0) w.heap.size w1 := ⟨hown, by simp [passes], grownBy_below hgrow⟩
  have H0 := Lib.hid h0
  clear hown hgrow hvals h0
  go_wp2_with fail
  go_loopw [16] (fun i wr => ∃ k : Nat, k ≤ E.length ∧ i = .int .i64 k ∧ GoneIs w E (passes E k) w.heap.size wr) (fun i _ => E.length - (intOf i).toNat)
  case atStart => exact ⟨0, by omega, rfl, H0.out⟩
  case round =>
    obtain ⟨k, hk, rfl, hG⟩ := hrel
    have HG := Lib.hid hG; clear hG
    by_cases hlt : k < E.length
    · go_wp2_with fail
      go_loopw [20] (fun i wr => ∃ j : Nat, j ≤ E.length ∧ i = .int .i64 j ∧ GoneIs w E (steps E (passes E k) j) w.heap.size wr) (fun i _ => E.length - (intOf i).toNat)
      case atStart => exact ⟨0, by omega, rfl, HG.out⟩
      case round =>
        obtain ⟨j, hj, rfl, hG2⟩ := hrel
        obtain ⟨gs, hgs⟩ : ∃ gs, gs = steps E (passes E k) j := ⟨_, rfl⟩
        rw [← hgs] at hG2
        have HGS := Lib.hid hgs; have HG2 := Lib.hid hG2
        clear hgs
        by_cases hjl : j < E.length
        · obtain ⟨eb, eo, hea, rv, hrc, hrow⟩ := HRW.out j hjl
          subst hea
          obtain ⟨ra, rcap, hrv, hrl, hrm, hrcell⟩ := ints_form hrow
          subst hrv
          have hout : E.getD j [] = E[j] := by simp [List.getD, hjl]
          obtain ⟨R, hR⟩ : ∃ R, R = E[j] := ⟨_, rfl⟩
          rw [← hR] at hrow hrc hrl hrcell hout
          have rc := cell_later hG2.bel hrc
          have HO := Lib.hid hout; have HRC := Lib.hid hrcell
          have hgj := hG2.cell j hjl
          have fgj := hG2.row.frozenAt j
          have hb2 := Lib.hid hG2.bel
          have hszz := hG2.bel.size
          have hgl := (hG2.row.lt w.heap.size rfl).2
          clear hG2 hrow hrc hrcell hR hout
          unfold maxLen at hrm
          go_wp2_with fail
          go_loop [6, 27] (fun h i => ∃ q : Nat, q ≤ R.length ∧ i = .int .i64 q ∧ h = .bool (held E gs (R.take q))) (fun _ i => R.length - (intOf i).toNat)
          case atStart => exact ⟨0, by omega, rfl, rfl⟩
          case round =>
            obtain ⟨q, hq, rfl, rfl⟩ := hrel
            by_cases hql : q < R.length
            · obtain ⟨bb, off, hra, hrk, hr1, hr2⟩ := HRC.out q hql
              subst hra
              have zk := cell_later hb2.out hrk
              obtain ⟨t, ht⟩ : ∃ t, t = R[q] := ⟨_, rfl⟩
              rw [← ht] at zk hr1 hr2
              have hsn : held E gs (R.take (q + 1)) = (held E gs (R.take q) || (decide (0 ≤ t) && decide (t < (E.length : Int)) && !gs.getD t.toNat false)) := by
                rw [List.take_add_one, List.getElem?_eq_getElem hql, ht]
                exact held_snoc E gs _ _
              have HSN := Lib.hid hsn
              clear hrk ht hsn
              obtain ⟨hb, hhb⟩ : ∃ hb, hb = held E gs (R.take q) := ⟨_, rfl⟩
              rw [← hhb] at HSN ⊢
              clear hhb
              cases hb
              · by_cases h0t : 0 ≤ t
                · by_cases h1t : t < E.length
                  · obtain ⟨tn, rfl⟩ := Int.eq_ofNat_of_zero_le h0t
                    have hgt := HG2.out.cell tn (by omega)
                    rw [Int.toNat_natCast] at HSN
                    obtain ⟨gb, hgb⟩ : ∃ gb, gb = gs.getD tn false := ⟨_, rfl⟩
                    rw [← hgb] at hgt HSN
                    clear hgb
                    cases gb
                    · go_wp2_with fail
                      go_round
                      case rel => exact ⟨q + 1, by omega, by go_num, by rw [HSN.out]; simp; omega⟩
                      case measure => simp [intOf]; omega
                    · go_wp2_with fail
                      go_round
                      case rel => exact ⟨q + 1, by omega, by go_num, by rw [HSN.out]; simp⟩
                      case measure => simp [intOf]; omega
                  · have h2t : (E.length : Int) ≤ t := by omega
                    go_wp2_with fail
                    go_round
                    case rel => exact ⟨q + 1, by omega, by go_num, by rw [HSN.out]; simp; omega⟩
                    case measure => simp [intOf]; omega
                · have h2t : t < 0 := by omega
                  go_wp2_with fail
                  go_round
                  case rel => exact ⟨q + 1, by omega, by go_num, by rw [HSN.out]; simp; omega⟩
                  case measure => simp [intOf]; omega
              · go_wp2_with fail
                go_round
                case rel => exact ⟨q + 1, by omega, by go_num, by rw [HSN.out]; simp⟩
                case measure => simp [intOf]; omega
            · have hfull : R.take q = R := List.take_of_length_le (by omega)
              have hst : steps E (passes E k) (j + 1) = gs.set j (gs.getD j false || !held E gs R) := by
                rw [steps_succ, ← HGS.out]
                unfold OrderM.step
                rw [HO.out]
              have HST := Lib.hid hst
              rw [hfull]
              clear hfull hst
              obtain ⟨hb, hhb⟩ : ∃ hb, hb = held E gs R := ⟨_, rfl⟩
              obtain ⟨gj, hgjj⟩ : ∃ gj, gj = gs.getD j false := ⟨_, rfl⟩
              rw [← hhb, ← hgjj] at HST
              rw [← hhb]
              rw [← hgjj] at hgj
              clear hhb hgjj
              have hnx : GoneIs w E (steps E (passes E k) (j + 1)) w.heap.size (wr.setCell ⟨w.heap.size, j, none⟩ (.bool (gj || !hb))) := by
                obtain ⟨r1, r2⟩ := HG2.out.row.stored j (.bool (gj || !hb))
                rw [HST.out]
                refine ⟨?_, by rw [List.length_set]; exact HG2.out.len, hb2.out.setCell (by simp) _⟩
                rw [List.map_set]
                exact r1
              have HNX := Lib.hid hnx
              clear hnx
              cases gj <;> cases hb
              all_goals
                go_wp2_with fail
                go_roundw
                case rel => exact ⟨j + 1, by omega, by go_num, HNX.out⟩
                case measure => simp [intOf]; omega
        · obtain rfl : j = E.length := by omega
          have hnx : GoneIs w E (passes E (k + 1)) w.heap.size wr := by
            have := HG2.out
            rw [HGS.out] at this
            exact this
          have HNX := Lib.hid hnx
          clear hnx hG2
          go_wp2_with fail
          go_roundw
          case rel => exact ⟨k + 1, by omega, by go_num, HNX.out⟩
          case measure => simp [intOf]; omega
    · obtain rfl : k = E.length := by omega
      have hb2 := Lib.hid HG.out.bel
      obtain ⟨gs, hgs⟩ : ∃ gs, gs = passes E E.length := ⟨_, rfl⟩
      have hleft : left E = gs.any (!·) := by rw [hgs]; rfl
      rw [← hgs] at HG
      have HL := Lib.hid hleft
      clear hgs hleft
      have hgl := Lib.hid HG.out.len
      go_wp2_with fail
      go_loop [65] (fun i => ∃ q : Nat, q ≤ E.length ∧ i = .int .i64 q ∧ ∀ j, j < q → gs.getD j false = true) (fun i => E.length - (intOf i).toNat)
      case atStart => exact ⟨0, by omega, rfl, fun j hj => by omega⟩
      case round =>
        obtain ⟨q, hq, rfl, hall⟩ := hrel
        have HA := Lib.hid hall; clear hall
        by_cases hql : q < E.length
        · have hgt := HG.out.cell q hql
          obtain ⟨gb, hgb⟩ : ∃ gb, gb = gs.getD q false := ⟨_, rfl⟩
          rw [← hgb] at hgt
          have HGB := Lib.hid hgb
          clear hgb
          cases gb
          · go_wp2_with fail
            go_ret
            refine ⟨ret_bool ?_, hb2.out⟩
            rw [HL.out]
            symm
            rw [List.any_eq_true]
            have hl := hgl.out
            refine ⟨gs[q]'(by omega), List.getElem_mem _, ?_⟩
            have := HGB.out
            rw [List.getD_eq_getElem?_getD, List.getElem?_eq_getElem (by omega)] at this
            simp at this
            simp [this]
          · have hnx : ∀ j, j < q + 1 → gs.getD j false = true := by
              intro j hj
              by_cases e : j = q
              · subst e; exact HGB.out.symm
              · exact HA.out j (by omega)
            have HN := Lib.hid hnx; clear hnx
            go_wp2_with fail
            go_round
            case rel => exact ⟨q + 1, by omega, by go_num, HN.out⟩
            case measure => simp [intOf]; omega
        · go_wp2_with fail
          go_ret
          refine ⟨ret_bool ?_, hb2.out⟩
          rw [HL.out]
          symm
          rw [List.any_eq_false]
          intro b hb
          obtain ⟨i, hi, rfl⟩ := List.mem_iff_getElem.1 hb
          have hl := hgl.out
          have := HA.out i (by omega)
          rw [List.getD_eq_getElem?_getD, List.getElem?_eq_getElem hi] at this
          simp at this
          simp [this]

theorem box2 (w : World) (a b : Value) (t : TypeId) : (w.alloc (.cells #[a, b] t)).heap[w.heap.size]? = some (.cells #[a, b] t (0, 0)) := heap_alloc_new w _

/-- the one way round of the chapter's example that is told -/
theorem fixed_row {L : List Int} (h : (L = [] ∧ ∃ D, Topo [[1], [0]] D ∧ ∀ x, InR [[1], [0]] x → x ∈ D) ∨ (IsCyc [[1], [0]] L ∧ ∃ (k : Nat) (D : List Int), OnWay [[1], [0]] [] k L ∧ Topo [[1], [0]] D ∧ ∀ j : Nat, j < k → (j : Int) ∈ D)) : L = [0, 1] := by
  have hc : IsCyc [[1], [0]] [0, 1] := by
    refine ⟨by decide, by decide, ?_, ?_⟩
    · intro x hx; simp at hx; unfold InR; simp; omega
    · intro i hi
      simp at hi
      match i, hi with
      | 0, _ => simp [out]
      | 1, _ => simp [out]
  rcases h with ⟨_, D, hD, hall⟩ | ⟨hL, k, D, ⟨V, hs, hn, hr, _, hp⟩, hD, hk⟩
  · exact absurd ⟨_, hc⟩ (topo_none hD hall)
  · have hk0 : k = 0 := by
      by_cases e : k = 0
      · exact e
      · exact absurd (hk 0 (by omega)) (topo_cyc hc hD 0 (by simp))
    subst hk0
    have hp := hp (by simp)
    have hlen := pigeon 2 V hn (fun x hx => by have := hr x hx; unfold InR at this; simpa using this)
    have hV : V = [0] ∨ V = [0, 1] := by
      match V, hp, hlen, hn, hr with
      | [], hp, _, _, _ => simp at hp
      | [a], hp, _, _, _ => simp at hp; left; rw [← hp]
      | [a, b], hp, _, hn, hr =>
        simp at hp
        subst hp
        have := hr b (by simp)
        unfold InR at this
        simp at this hn
        right
        congr
        omega
      | a :: b :: c :: d, _, hlen, _, _ => simp at hlen
    have key : ∀ x : Int, L ≠ [x] := by
      intro x e
      subst e
      have h1 := hL.2.2.1 x (by simp)
      have h2 := hL.2.2.2 0 (by simp)
      unfold InR at h1
      simp at h1 h2
      have : x = 0 ∨ x = 1 := by omega
      rcases this with rfl | rfl <;> simp [out] at h2
    rcases hV with rfl | rfl
    · rcases (List.suffix_cons_iff).1 hs with e | e
      · exact absurd e (key 0)
      · simp at e; exact absurd e hL.1
    · rcases (List.suffix_cons_iff).1 hs with e | e
      · exact e
      · rcases (List.suffix_cons_iff).1 e with e | e
        · exact absurd e (key 1)
        · simp at e; exact absurd e hL.1

set_option maxHeartbeats 1000000 in
/-- the chapter's example -/
theorem fixed15 (w : World) : Calls Try.prog 22 #[] w fun e w' => e = .returned (.bool true) ∧ Below w.heap.size w w' := by
  have hw : ∀ n : Int, n = 0 ∨ n = 1 → (Lit.int .i64 n).wf = true := by intro n hn; rcases hn with rfl | rfl <;> decide
  have hE : REd (((w.alloc (.cells #[.int .i64 1] 3)).alloc (.cells #[.int .i64 0] 3)).alloc (.cells #[.slice (some ⟨w.heap.size, 0, none⟩) 1 1, .slice (some ⟨w.heap.size + 1, 0, none⟩) 1 1] 35)) [.slice (some ⟨w.heap.size + 2, 0, none⟩) 2 2] [[1], [0]] := by
    have ha : RSlice 1 (RInt .i64) (w.alloc (.cells #[.int .i64 1] 3)) [.slice (some ⟨w.heap.size, 0, none⟩) 1 1] [1] :=
      rints_of_owns (B := 0) (e := 3) (l := [1]) (by simp; exact hw 1 (.inr rfl)) (World.ownsRow_lit (base := 0) (e := 3) (size := 1) w #[.int .i64 1] 1 (by omega) (by decide) rfl)
    have hb : RSlice 1 (RInt .i64) ((w.alloc (.cells #[.int .i64 1] 3)).alloc (.cells #[.int .i64 0] 3)) [.slice (some ⟨w.heap.size + 1, 0, none⟩) 1 1] [0] := by
      have := rints_of_owns (B := 0) (e := 3) (l := [0]) (by simp; exact hw 0 (.inl rfl)) (World.ownsRow_lit (base := 0) (e := 3) (size := 1) (w.alloc (.cells #[.int .i64 1] 3)) #[.int .i64 0] 1 (by omega) (by decide) rfl)
      simpa using this
    refine ⟨some ⟨w.heap.size + 2, 0, none⟩, 2, rfl, by decide, by decide, fun i x hi => ?_⟩
    have f1 : Below (w.alloc (.cells #[.int .i64 1] 3)).heap.size (w.alloc (.cells #[.int .i64 1] 3)) (((w.alloc (.cells #[.int .i64 1] 3)).alloc (.cells #[.int .i64 0] 3)).alloc (.cells #[.slice (some ⟨w.heap.size, 0, none⟩) 1 1, .slice (some ⟨w.heap.size + 1, 0, none⟩) 1 1] 35)) := ((Below.refl _ _).alloc (Nat.le_refl _) _).alloc (by simp) _
    have f2 : Below ((w.alloc (.cells #[.int .i64 1] 3)).alloc (.cells #[.int .i64 0] 3)).heap.size ((w.alloc (.cells #[.int .i64 1] 3)).alloc (.cells #[.int .i64 0] 3)) (((w.alloc (.cells #[.int .i64 1] 3)).alloc (.cells #[.int .i64 0] 3)).alloc (.cells #[.slice (some ⟨w.heap.size, 0, none⟩) 1 1, .slice (some ⟨w.heap.size + 1, 0, none⟩) 1 1] 35)) := (Below.refl _ _).alloc (Nat.le_refl _) _
    have hblk := box2 ((w.alloc (.cells #[.int .i64 1] 3)).alloc (.cells #[.int .i64 0] 3)) (.slice (some ⟨w.heap.size, 0, none⟩) 1 1) (.slice (some ⟨w.heap.size + 1, 0, none⟩) 1 1) 35
    simp only [World.size_alloc] at hblk
    match i, hi with
    | 0, hi =>
      simp at hi
      subst hi
      refine ⟨w.heap.size + 2, 0, [.slice (some ⟨w.heap.size, 0, none⟩) 1 1], rfl, rfl, fun j u hu => ?_, stays_ints _ _ _ _ ha f1⟩
      have hj : j = 0 := by have := (List.getElem?_eq_some_iff.1 hu).1; simp at this; omega
      subst hj
      simp at hu
      subst hu
      exact cell_of_row _ (w.heap.size + 2) 0 _ _ _ hblk
    | 1, hi =>
      simp at hi
      subst hi
      refine ⟨w.heap.size + 2, 0, [.slice (some ⟨w.heap.size + 1, 0, none⟩) 1 1], rfl, rfl, fun j u hu => ?_, stays_ints _ _ _ _ hb f2⟩
      have hj : j = 0 := by have := (List.getElem?_eq_some_iff.1 hu).1; simp at this; omega
      subst hj
      simp at hu
      subst hu
      exact cell_of_row _ (w.heap.size + 2) 1 _ _ _ hblk
    | i + 2, hi => simp at hi
  have HE := Lib.hid hE; clear hE hw
  go_enter Try.func22, Try.ntmps22
  go_wp2_with fail
  refine (circle_any _ _ _ (by decide) HE.out).mono ?_
  rintro e w2 ⟨v, L, rfl, hL, hb2, hcase⟩
  have hLL := fixed_row hcase
  subst hLL
  obtain ⟨a, cap, hv, _, hcm, hcell⟩ := ints_form hL
  subst hv
  obtain ⟨b, off, ha, z0, _⟩ := hcell 0 (by decide)
  subst ha
  obtain ⟨b', off', ha', z1, _⟩ := hcell 1 (by decide)
  simp at ha'
  obtain ⟨rfl, rfl⟩ := ha'
  simp only [List.getElem_cons_zero, List.getElem_cons_succ, Nat.add_zero] at z0 z1
  have HB := Lib.hid hb2
  clear hL hb2 hcell hcase
  go_wp2_with fail
  go_ret
  refine ⟨rfl, (((((Below.refl _ _).alloc (Nat.le_refl _) _).alloc (by simp) _).alloc (by simp; omega) _)).trans (HB.out.mono (by simp; omega))⟩
end Go.Proofs.Ytoljhahmmdibfaa
