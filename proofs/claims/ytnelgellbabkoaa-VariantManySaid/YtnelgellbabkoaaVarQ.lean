/- The walk of cooperlaw04.VariantAll: it returns true. No condition. -/
import Derived.Test.YtnelgellbabkoaaVarF
import Derived.Test.YtnelgellbabkoaaVarG
import Derived.Test.YtnelgellbabkoaaVarE
import Derived.Test.YtnelgellbabkoaaVarK
import Derived.Test.YtnelgellbabkoaaVarT
namespace Go.Proofs.Ytnelgellbabkoaa
open Go.RowKit Go.Shelf
attribute [local go_sem ↓] Go.wp_at_zero Go.wp_at_succ

set_option maxRecDepth 10000 in
set_option maxHeartbeats 1000000 in
theorem all_none {w : World} {v : Value} {l : List Var} (h : RVars w [v] l) (hl : l.length ≤ 1000000) (hv : ∀ x ∈ l, x.2.length ≤ 1000000) (hmay : mayOf l = false) : Calls Try.prog 22 #[v] w fun e w' => e = .returned (.slice none 0 0) ∧ Below w.heap.size w w' := by
  have hM := may_any h hl hv
  rw [hmay] at hM
  obtain ⟨a, cap, rfl, hz, g⟩ := vars_open h
  obtain ⟨n, hn⟩ : ∃ n, n = l.length := ⟨_, rfl⟩
  rw [← hn] at hM hz h ⊢
  have Hh := Lib.hid h; have Hg := Lib.hid g; have HM := Lib.hid hM; have Hn := Lib.hid hn; have Hv := Lib.hid hv; have Hmay := Lib.hid hmay; clear h g hM hn hv hmay
  go_enter Try.func22, Try.ntmps22
  go_wp2_with fail
  refine HM.out.mono ?_
  rintro e w1 ⟨rfl, hb1⟩
  have Hb1 := Lib.hid hb1; clear hb1
  go_wp2_with fail
  go_ret
  exact ⟨rfl, Hb1.out⟩
theorem quo64 (kk m : Nat) (h : kk ≤ 1000) : wrap64 ((kk : Int) / (m : Int)) = ((kk / m : Nat) : Int) := by
  have h1 := Nat.div_le_self kk m
  rw [← IntWalk.i64_left, ← Int.natCast_ediv]
  generalize kk / m = z at h1 ⊢
  exact IntWalk.i64_in _ (by omega)
theorem may_parts {l : List Var} (h : mayOf l = true) : l.length ≤ 4 ∧ (∀ x ∈ l, 0 < x.2.length ∧ x.2.length ≤ 4) := by
  unfold mayOf at h
  simp only [Bool.and_eq_true, List.all_eq_true, decide_eq_true_eq] at h
  refine ⟨h.2.1, fun x hx => ?_⟩
  have := h.1 x hx
  unfold oneOf at this
  simp only [Bool.and_eq_true, decide_eq_true_eq] at this
  exact ⟨this.2.1, this.2.2.1⟩
theorem cnt_le {l : List Var} (h : mayOf l = true) (k : Nat) : cnt l k ≤ 256 := by
  obtain ⟨h1, h2⟩ := may_parts h
  unfold cnt
  refine Nat.le_trans (allOf_small (l.take k) (fun x hx => (h2 x (List.mem_of_mem_take hx)).2)).1 ?_
  rw [List.length_take]
  exact Nat.le_trans (Nat.pow_le_pow_right (by omega) (by omega : min k l.length ≤ 4)) (by decide)
theorem allOf_sizes {w : World} {v : Value} {l : List Var} (h : RVars w [v] l) (hmay : mayOf l = true) : ∀ f ∈ allOf l, ∀ z ∈ f, z.1.size ≤ maxLen ∧ z.2.size ≤ maxLen := by
  obtain ⟨_, _, _, _, g⟩ := vars_open h
  intro f hf z hz
  obtain ⟨x', hx', e1, e2⟩ := (allOf_small l (fun x hx => ((may_parts hmay).2 x hx).2)).2.2 f hf z hz
  obtain ⟨j, hj, ej⟩ := List.mem_iff_getElem.1 hx'
  obtain ⟨_, _, u', _, _, _, h5, h6⟩ := g j hj
  rw [ej] at h5 h6
  obtain ⟨_, _, _, _, g3⟩ := strs_open h6
  obtain ⟨t, ht, et⟩ := List.mem_iff_getElem.1 e2
  obtain ⟨_, _, _, _, h7⟩ := g3 t ht
  rw [et] at h7
  exact ⟨by rw [e1]; unfold maxLen; omega, h7⟩
set_option maxRecDepth 10000 in
set_option maxHeartbeats 4000000 in
theorem variantAll_true {w : World} {v : Value} {l : List Var} (h : RVars w [v] l) : Calls Try.prog 5 #[v] w fun e w' => e = .returned (.bool true) ∧ Below w.heap.size w w' := by
  have hG := greatVars_any h
  have hF := fun W => fixed04 W
  have hM := fun (W : World) (hW : Below w.heap.size w W) => mayRef_any (stays_slice stays_var _ _ _ _ h hW)
  have hA0 := all_none h
  have hA1 := all_any h
  have hsz := allOf_sizes h
  have hE := fun (W : World) (hW : Below w.heap.size w W) => stays_slice stays_var _ _ _ _ h hW
  obtain ⟨a, cap, rfl, hz, g⟩ := vars_open h
  obtain ⟨n, hn⟩ : ∃ n, n = l.length := ⟨_, rfl⟩
  rw [← hn] at hz h hG hM hA0 hA1 hE ⊢
  have Hh := Lib.hid h; have Hg := Lib.hid g; have Hn := Lib.hid hn; have HG := Lib.hid hG; have HF := Lib.hid hF; have HM := Lib.hid hM; have HA0 := Lib.hid hA0; have HA1 := Lib.hid hA1; have Hsz := Lib.hid hsz; have HE := Lib.hid hE; clear h g hn hG hF hM hA0 hA1 hsz hE
  go_enter Try.func5, Try.ntmps5
  go_wp2_with fail
  refine HG.out.mono ?_
  rintro e w0 ⟨⟨r, rfl, hr⟩, rfl⟩
  cases r with
  | true =>
    clear hr
    go_wp2_with fail
    refine (HF.out _).mono ?_
    rintro e w1 ⟨rfl, hb⟩
    have Hb := Lib.hid hb; clear hb
    go_wp2_with fail
    go_ret
    exact ⟨rfl, Hb.out⟩
  | false =>
    obtain ⟨q1, q2⟩ := hr rfl
    clear hr
    cases hmay : mayOf l with
    | false =>
      have hA := HA0.out (by have := Hn.out; omega) (fun x hx => by have := q2 x hx; omega) hmay
      have HA := Lib.hid hA; have Hq2 := Lib.hid q2; have Hmay := Lib.hid hmay; clear hA q2 hmay
      go_wp2_with fail
      refine HA.out.mono ?_
      rintro e w1 ⟨rfl, hb1⟩
      have hM1 := HM.out w1 hb1
      rw [Hmay.out] at hM1
      have HM1 := Lib.hid hM1; have Hb1 := Lib.hid hb1; clear hM1 hb1
      go_wp2_with fail
      refine HM1.out.mono ?_
      rintro e w2 ⟨rfl, q, rfl⟩
      go_wp2_with fail
      refine (HF.out _).mono ?_
      rintro e w3 ⟨rfl, hb3⟩
      have hb4 := (bel_drewN Hb1.out q).trans (hb3.mono Hb1.out.size)
      have Hb3 := Lib.hid hb3; have Hb4 := Lib.hid hb4; clear hb3 hb4
      go_wp2_with fail
      go_ret
      exact ⟨rfl, Hb4.out⟩
    | true =>
      have hA := HA1.out hmay
      have hsz2 := Hsz.out hmay
      obtain ⟨hl4, hx4⟩ := may_parts hmay
      have hcnt := fun k => cnt_le hmay k
      have hpos : ∀ x ∈ l, 0 < x.2.length := fun x hx => (hx4 x hx).1
      have hn4 : n ≤ 4 := by have := Hn.out; omega
      clear hl4
      obtain ⟨N, hN⟩ : ∃ N, N = (allOf l).length := ⟨_, rfl⟩
      have hNc : cnt l n = N := by rw [hN, Hn.out, cnt_all]
      have hN2 : N ≤ 256 := by rw [← hNc]; exact hcnt n
      have HA := Lib.hid hA; have Hsz2 := Lib.hid hsz2; have Hx4 := Lib.hid hx4; have Hcnt := Lib.hid hcnt; have Hpos := Lib.hid hpos; have Hq2 := Lib.hid q2; have Hmay := Lib.hid hmay; have HN := Lib.hid hN; have HNc := Lib.hid hNc; clear hA hsz2 hx4 hcnt hpos q2 hmay hN hNc
      go_wp2_with fail
      refine HA.out.mono ?_
      rintro e w1 ⟨o, vs, rfl, hs, hb1⟩
      have hrow := hs.row
      have hM1 := HM.out w1 hb1
      rw [Hmay.out] at hM1
      rw [← HN.out] at hrow
      obtain ⟨oa, oc, rfl⟩ := own_shape hrow
      have HM1 := Lib.hid hM1; have Hb1 := Lib.hid hb1; have Hs := Lib.hid hs; have Hrow := Lib.hid hrow; clear hM1 hb1 hs hrow
      go_wp2_with fail
      refine HM1.out.mono ?_
      rintro e w2 ⟨rfl, q, rfl⟩
      go_wp2_with fail
      go_loopw [4, 28] (fun c i wr => ∃ k : Nat, k ≤ n ∧ i = .int .i64 k ∧ c = .int .i64 (cnt l k) ∧ Below w1.heap.size w1 wr) (fun _ i _ => n - (intOf i).toNat)
      case atStart => exact ⟨0, Nat.zero_le _, rfl, rfl, bel_drewN (Below.refl _ _) q⟩
      case round =>
        obtain ⟨k, hk, rfl, rfl, hb⟩ := hrel
        have hB := hb.size
        by_cases hlt : k < n
        · have hkl : k < l.length := by have := Hn.out; omega
          obtain ⟨b, off, u, rfl, d0, d1, hsx, hu⟩ := Hg.out k hkl
          have hbw := Hb1.out.trans (hb.mono Hb1.out.size)
          have e0 := cell_later hbw d0
          have e1 := cell_later hbw d1
          have hc := cnt_succ hkl
          obtain ⟨x, hx⟩ : ∃ x, x = l[k] := ⟨_, rfl⟩
          rw [← hx] at e0 hu hsx hc
          have hxm := Hx4.out x (by rw [hx]; exact List.getElem_mem hkl)
          obtain ⟨ua, uc, rfl, hz2, _⟩ := strs_open hu
          obtain ⟨m, hm⟩ : ∃ m, m = x.2.length := ⟨_, rfl⟩
          rw [← hm] at e1 hz2 hc hxm
          obtain ⟨s, hs⟩ : ∃ s, s = x.1 := ⟨_, rfl⟩
          rw [← hs] at e0 hsx
          have hc1 := Hcnt.out k
          have hc2 := Hcnt.out (k + 1)
          obtain ⟨c, hc3⟩ : ∃ c, c = cnt l k := ⟨_, rfl⟩
          obtain ⟨c2, hc4⟩ : ∃ c, c = cnt l (k + 1) := ⟨_, rfl⟩
          rw [← hc3] at hc hc1 ⊢
          rw [← hc4] at hc hc2
          have hmul : (c : Int) * (m : Int) = (c2 : Int) := by rw [hc, Int.natCast_mul, Int.mul_comm]
          have hwr : IntKind.i64.wrap ((c : Int) * (m : Int)) = (c2 : Int) := by rw [hmul]; exact IntWalk.i64_in _ (by omega)
          have k5 : (0 : Int) ≤ (k : Int) := by omega
          have k6 : (k : Int) < (n : Int) := by omega
          have hb9 : Below w1.heap.size w1 (wr.alloc (.cells #[.string s, .slice ua m uc] 35)) := hb.alloc hB _
          clear hx hkl d0 d1
          have Hu := Lib.hid hu; have Hb := Lib.hid hb; have Hbw := Lib.hid hbw; have Hm := Lib.hid hm; have Hs := Lib.hid hs; have Hc := Lib.hid hc; have Hc3 := Lib.hid hc3; have Hc4 := Lib.hid hc4; have Hb9 := Lib.hid hb9; clear hu hb hbw hm hs hc hc3 hc4 hb9
          go_wp2_with fail
          go_roundw
          case rel => exact ⟨k + 1, by omega, by go_num, by rw [← Hc4.out], Hb9.out⟩
          case measure => simp [intOf]; omega
        · obtain rfl : n = k := by omega
          rw [HNc.out]
          have eN : ((N : Int) != (N : Int)) = false := by simp
          have Hb := Lib.hid hb; clear hb
          go_wp2_with fail
          go_loopw [44] (fun i wr => ∃ p : Nat, p ≤ N ∧ i = .int .i64 p ∧ Below w1.heap.size w1 wr) (fun i _ => N - (intOf i).toNat)
          case atStart => exact ⟨0, Nat.zero_le _, rfl, Hb.out⟩
          case round =>
            obtain ⟨p, hp, rfl, hbp⟩ := hrel
            have hBp := hbp.size
            by_cases hlt : p < N
            · have hpA : p < (allOf l).length := by rw [← HN.out]; exact hlt
              have hpv : p < vs.length := by rw [Hs.out.len]; exact hpA
              obtain ⟨og, ocap, hsh, _, _, _, _, hogcell⟩ := ownsRow_some Hrow.out (by omega)
              simp only [Value.slice.injEq] at hsh
              obtain ⟨rfl, hsh2, rfl⟩ := hsh
              clear hsh2
              obtain ⟨f, hf⟩ : ∃ f, f = (allOf l)[p] := ⟨_, rfl⟩
              obtain ⟨u2, hu2⟩ : ∃ u, u = vs[p] := ⟨_, rfl⟩
              have hkf : (allOf l)[p]? = some f := by rw [hf]; exact List.getElem?_eq_getElem hpA
              have hku : vs[p]? = some u2 := by rw [hu2]; exact List.getElem?_eq_getElem hpv
              have hfr := Hs.out.rows p u2 f hku hkf
              have dd := cell_later hbp (hogcell p _ hku)
              have hrs := sets_reads (Hsz2.out f (List.mem_of_getElem? hkf)) hfr
              obtain ⟨fa, fc, rfl⟩ := own_shape hfr
              have hleg := all_legal Hpos.out hkf
              obtain ⟨f', hf1, hf2, hat⟩ := all_at Hpos.out l.length (Nat.le_refl _) p (by rw [cnt_all]; exact hpA)
              rw [List.take_length, hkf] at hf1
              injection hf1 with hf1
              subst hf1
              rw [← Hn.out] at hf2 hat
              rw [hf2] at hrs dd
              obtain ⟨fa2, fc2, hsv, _, hfg⟩ := sets_open hrs
              simp only [Value.slice.injEq] at hsv
              obtain ⟨rfl, hsv2, rfl⟩ := hsv
              clear hsv2 hf hu2 hogcell hku hpA hpv
              have k5 : (0 : Int) ≤ (p : Int) := by omega
              have k6 : (p : Int) < (N : Int) := by omega
              have eL : ((n : Int) != (n : Int)) = false := by simp
              have hLy := fun (W : World) (hW : Below w1.heap.size w1 W) => legal_yes (HE.out W (Hb1.out.trans (hW.mono Hb1.out.size))) (stays_slice stays_set _ _ _ _ hrs hW) hleg
              have Hbp := Lib.hid hbp; have Hkf := Lib.hid hkf; have Hfr := Lib.hid hfr; have Hrs := Lib.hid hrs; have Hleg := Lib.hid hleg; have Hat := Lib.hid hat; have Hfg := Lib.hid hfg; have HLy := Lib.hid hLy; have Hf2 := Lib.hid hf2; clear hbp hkf hfr hrs hleg hat hfg hLy hf2
              go_wp2_with fail
              go_loopw [9, 52] (fun kk j wr => ∃ t : Nat, t ≤ n ∧ j = .int .i64 t ∧ kk = .int .i64 ((p / cnt l t : Nat) : Int) ∧ Below w1.heap.size w1 wr) (fun _ j _ => n - (intOf j).toNat)
              case atStart => exact ⟨0, Nat.zero_le _, rfl, by rw [cnt_zero, Nat.div_one], Hbp.out⟩
              case round =>
                obtain ⟨t, ht, rfl, rfl, hbt⟩ := hrel
                have hBt := hbt.size
                by_cases hlt2 : t < n
                · have htl : t < l.length := by have := Hn.out; omega
                  obtain ⟨b, off, u, rfl, d0, d1, hsx, hu⟩ := Hg.out t htl
                  obtain ⟨x', y, hlx, hfy, hxy⟩ := Hat.out t hlt2
                  rw [List.getElem?_eq_getElem htl] at hlx
                  injection hlx with hlx
                  subst hlx
                  obtain ⟨fb, foff, rfl, f0, f1, hfs1, hfs2⟩ := Hfg.out t _ hfy
                  dsimp only at f0 f1 hfs1 hfs2
                  have hbw := Hb1.out.trans (hbt.mono Hb1.out.size)
                  have e0 := cell_later hbw d0
                  have e1 := cell_later hbw d1
                  have hc := cnt_succ htl
                  obtain ⟨x, hx⟩ : ∃ x, x = l[t] := ⟨_, rfl⟩
                  rw [← hx] at e0 hu hsx hc hxy f0 hfs1
                  have hxm := Hx4.out x (by rw [hx]; exact List.getElem_mem htl)
                  obtain ⟨ua, uc, rfl, hz2, hug⟩ := strs_open hu
                  obtain ⟨m, hm⟩ : ∃ m, m = x.2.length := ⟨_, rfl⟩
                  obtain ⟨kk, hkk⟩ : ∃ kk, kk = p / cnt l t := ⟨_, rfl⟩
                  have hdiv : p / cnt l (t + 1) = kk / m := by rw [hc, ← hm, hkk, Nat.div_div_eq_div_mul, Nat.mul_comm]
                  rw [← hm, ← hkk] at hxy
                  obtain ⟨rr, hrr⟩ : ∃ rr, rr = kk % m := ⟨_, rfl⟩
                  rw [← hrr] at hxy
                  have hrm : rr < m := by rw [hrr]; exact Nat.mod_lt _ (by omega)
                  have hrl : rr < x.2.length := by omega
                  obtain ⟨yb, yoff, rfl, dy, hys⟩ := hug rr hrl
                  rw [List.getElem?_eq_getElem hrl] at hxy
                  injection hxy with hxy
                  rw [hxy] at dy
                  rw [← hm] at e1 hz2 hxm
                  obtain ⟨s, hs⟩ : ∃ s, s = x.1 := ⟨_, rfl⟩
                  rw [← hs] at e0 hsx f0 hfs1
                  have hkp : kk ≤ p := by rw [hkk]; exact Nat.div_le_self _ _
                  rw [← hkk]
                  have k7 : (0 : Int) ≤ (t : Int) := by omega
                  have k8 : (t : Int) < (n : Int) := by omega
                  have k9 : (0 : Int) ≤ (rr : Int) := by omega
                  have k10 : (rr : Int) < (m : Int) := by omega
                  have hrem : (kk : Int).tmod (m : Int) = (rr : Int) := by rw [Int.tmod_eq_emod_of_nonneg (by omega), hrr]; simp
                  have hremw : IntKind.i64.wrap ((kk : Int).tmod (m : Int)) = (rr : Int) := by rw [hrem]; exact IntWalk.i64_in _ (by omega)
                  have hquo : IntKind.i64.wrap ((kk : Int).tdiv (m : Int)) = ((kk / m : Nat) : Int) := by rw [IntWalk.i64_quo _ _ (by omega)]; simp
                  have hq64 := quo64 kk m (by omega)
                  have hm0 : ((m : Int) == 0) = false := by simp; omega
                  have hm1 : (m : Int) ≠ 0 := by omega
                  have f2 := cell_later hbt f0
                  have f3 := cell_later hbt f1
                  have dy2 := cell_later hbw dy
                  have hb9 : Below w1.heap.size w1 (wr.alloc (.cells #[.string s, .slice (some ⟨yb, yoff, none⟩) m uc] 35)) := hbt.alloc hBt _
                  clear hys hfy
                  clear hx htl d0 d1 hlt hkk hxy hrl dy f0 f1 hrr
                  have Hu := Lib.hid hu; have Hbt := Lib.hid hbt; have Hbw := Lib.hid hbw; have Hm := Lib.hid hm; have Hs := Lib.hid hs; have Hc := Lib.hid hc; have Hb9 := Lib.hid hb9; have Hdiv := Lib.hid hdiv; have Hug := Lib.hid hug; have Hrem := Lib.hid hrem; have Hq64 := Lib.hid hq64; clear hu hbt hbw hm hs hc hb9 hdiv hug hrem hq64
                  go_upto_region 21 with (fail)
                  obtain ⟨W1, hW1⟩ : ∃ W1, W1 = wr.alloc (.cells #[.string s, .slice (some ⟨yb, yoff, none⟩) m uc] 35) := ⟨_, rfl⟩
                  have hbW : Below wr.heap.size wr W1 := by rw [hW1]; exact below_alloc1 _ _
                  have hcW : W1.heap[wr.heap.size]? = some (.cells #[.string s, .slice (some ⟨yb, yoff, none⟩) m uc] 35 (0, 0)) := by rw [hW1]; exact heap_alloc_new _ _
                  have c0 := cells_at hcW 0
                  have c1 := cells_at hcW 1
                  simp only [List.getElem?_toArray, List.getElem?_cons_succ, List.getElem?_cons_zero] at c0 c1
                  have f4 := cell_later hbW f2
                  have f5 := cell_later hbW f3
                  have dy4 := cell_later hbW dy2
                  rw [← hW1]
                  have hb9' := Hb9.out
                  rw [← hW1] at hb9'
                  obtain ⟨nb, hnb⟩ : ∃ nb, nb = wr.heap.size := ⟨_, rfl⟩
                  rw [← hnb] at c0 c1 ⊢
                  have hrem2 := Hrem.out
                  clear hcW f2 f3 dy2 e0 e1
                  have HbW := Lib.hid hbW; have HW1 := Lib.hid hW1; have Hb9' := Lib.hid hb9'; have Hnb := Lib.hid hnb; clear hbW hW1 hb9' hnb
                  go_region
                  have hb10 := bel_drewN Hb9'.out 1
                  have hdv := Hdiv.out
                  have Hb10 := Lib.hid hb10; have Hdv := Lib.hid hdv; clear hb10 hdv
                  go_wp2_with fail
                  go_roundw
                  case rel => exact ⟨t + 1, by omega, by go_num, by rw [Hdv.out, Hq64.out], Hb10.out⟩
                  case measure => simp [intOf]; omega
                · obtain rfl : n = t := by omega
                  have hLt := HLy.out wr hbt
                  have Hbt := Lib.hid hbt; have HLt := Lib.hid hLt; clear hbt hLt
                  go_wp2_with fail
                  refine HLt.out.mono ?_
                  rintro e w3 ⟨rfl, q3, rfl⟩
                  go_wp2_with fail
                  go_roundw
                  case rel => exact ⟨p + 1, by omega, by go_num, bel_drewN Hbt.out q3⟩
                  case measure => simp [intOf]; omega
            · obtain rfl : N = p := by omega
              have hbw := Hb1.out.trans (hbp.mono Hb1.out.size)
              have Hbp := Lib.hid hbp; have Hbw := Lib.hid hbw; clear hbp hbw
              go_wp2_with fail
              refine (HF.out _).mono ?_
              rintro e w3 ⟨rfl, hb3⟩
              have hb4 := Hbw.out.trans (hb3.mono Hbw.out.size)
              have Hb3 := Lib.hid hb3; have Hb4 := Lib.hid hb4; clear hb3 hb4
              go_wp2_with fail
              go_ret
              exact ⟨rfl, Hb4.out⟩
end Go.Proofs.Ytnelgellbabkoaa
