/- The walk of cooperlaw01.VersionAround: the law. Condition: the library's variables as they were laid, and the texts' reach. -/
import Derived.Test.YtblkdcapampniaaDoorVerTail
import Derived.Test.YtblkdcapampniaaDoorDecim
set_option linter.unusedVariables false
set_option linter.unusedSimpArgs false
namespace Go.Proofs.YtblkdcapampniaaDoor
open Go.RowKit Go.Lib VerN

set_option maxRecDepth 10000 in
set_option maxHeartbeats 16000000 in
theorem versionAround_true (a b c : ByteArray) (n : Nat) (ha : a.size ≤ 9223372036854775807) (hb : b.size ≤ 9223372036854775807) (hc : c.size ≤ 9223372036854775807) {w : World} (hD : Doors w) :
    Calls Tryd.prog 4 #[.string a, .string b, .string c, .int .u32 n] w fun e w' => e = .returned (.bool true) ∧ Below w.heap.size w w' := by
  have hG := great1_any (lit_texts w [a, b, c] (by simp) (by simp [maxLen]; omega))
  have hb0 : Below w.heap.size w (w.alloc (.cells #[.string a, .string b, .string c] 9)) := below_alloc1 _ _
  have hF := fun (W : World) (h : Below w.heap.size w W) => calls_from h (fixed01_any (hD.below h))
  simp only [List.map_cons, List.map_nil, List.length_cons, List.length_nil, Nat.zero_add, Nat.reduceAdd] at hG
  have HG := Lib.hid hG; have Hb0 := Lib.hid hb0; have HF := Lib.hid hF; clear hG hb0 hF
  go_enter Tryd.func4, Tryd.ntmps4
  go_wp2_with fail
  refine HG.out.mono ?_
  rintro e w1 ⟨⟨r, rfl, hr⟩, rfl⟩
  cases r with
  | true =>
    clear hr
    go_wp2_with fail
    refine (HF.out _ Hb0.out).mono ?_
    rintro e w1 ⟨rfl, hb1⟩
    have Hb1 := Lib.hid hb1; clear hb1
    go_wp2_with fail
    go_ret
    exact ⟨rfl, Hb1.out⟩
  | false =>
    have h9 := hr rfl
    clear hr
    have za : a.size ≤ 9000 := h9 a (by simp)
    have zb : b.size ≤ 9000 := h9 b (by simp)
    have zc : c.size ≤ 9000 := h9 c (by simp)
    clear h9
    obtain ⟨m, hm⟩ : ∃ m, m = n % 1000000000 := ⟨_, rfl⟩
    have hm9 : m < 1000000000 := by omega
    have hmi : (n : Int) % 1000000000 = (m : Int) := by omega
    obtain ⟨d, hd⟩ : ∃ d, d = (⟨(decDigits m).toArray⟩ : ByteArray) := ⟨_, rfl⟩
    have zd : d.size ≤ 21 := by
      have := itoa_length_le (m : Int) (by omega) (by omega)
      rw [itoa_nat] at this
      rw [hd]; exact this
    have hdd : d.data.toList = decDigits m := by rw [hd]
    have hDec := fun (W : World) (k : Below w.heap.size w W) => calls_from k (decimal_any m hm9 W)
    rw [← hd] at hDec
    obtain ⟨x, hx⟩ : ∃ x, x = a ++ ⟨#[46]⟩ ++ c := ⟨_, rfl⟩
    obtain ⟨y, hy⟩ : ∃ y, y = a ++ ⟨#[46]⟩ ++ d := ⟨_, rfl⟩
    have zx : x.size ≤ 1000000 := by rw [hx, dot_size]; omega
    have zy : y.size ≤ 1000000 := by rw [hy, dot_size]; omega
    have dx : x.data.toList = a.data.toList ++ 46 :: c.data.toList := by rw [hx, dot_data]
    have dy : y.data.toList = a.data.toList ++ 46 :: decDigits m := by rw [hy, dot_data, hdd]
    have hMa := fun (W : World) (k : Below w.heap.size w W) => calls_from k (may1_any a (by omega) W)
    have hMb := fun (W : World) (k : Below w.heap.size w W) => calls_from k (may1_any b (by omega) W)
    have hMl := fun (W : World) (k : Below w.heap.size w W) => calls_from k (may1_any x zx W)
    have hMh := fun (W : World) (k : Below w.heap.size w W) => calls_from k (may1_any y zy W)
    have hDw := fun (W : World) (k : Below w.heap.size w W) => calls_from (W := W) k ((digits1_any c (by omega) W).mono fun _ _ ⟨he, hw⟩ => ⟨he, hw ▸ Below.refl _ _⟩)
    have hCl := fun (W : World) (k : Below w.heap.size w W) => calls_from k (verCompare_any x a zx (by omega) (hD.below k))
    have hCh := fun (W : World) (k : Below w.heap.size w W) => calls_from k (verCompare_any y a zy (by omega) (hD.below k))
    have hX := fun (W : World) (k : Below w.heap.size w W) => calls_from k (verCompare_any a b (by omega) (by omega) (hD.below k))
    have hN := fun (W : World) (k : Below w.heap.size w W) => calls_from k (verCompare_any b a (by omega) (by omega) (hD.below k))
    have hCut := cut1_any c (by omega) 46 (by omega)
    rw [show UInt8.ofNat 46 = (46 : UInt8) from rfl] at hCut
    obtain ⟨pa, hpa⟩ : ∃ p, p = mayL a.data.toList := ⟨_, rfl⟩
    obtain ⟨pb, hpb⟩ : ∃ p, p = mayL b.data.toList := ⟨_, rfl⟩
    obtain ⟨pl, hpl⟩ : ∃ p, p = mayL x.data.toList := ⟨_, rfl⟩
    obtain ⟨ph, hph⟩ : ∃ p, p = mayL y.data.toList := ⟨_, rfl⟩
    obtain ⟨dw, hdw⟩ : ∃ p, p = digs c.data.toList := ⟨_, rfl⟩
    obtain ⟨cl, hcl0⟩ : ∃ p, p = compareL x.data.toList a.data.toList := ⟨_, rfl⟩
    obtain ⟨ch, hch0⟩ : ∃ p, p = compareL y.data.toList a.data.toList := ⟨_, rfl⟩
    obtain ⟨v, hv⟩ : ∃ p, p = compareL a.data.toList b.data.toList := ⟨_, rfl⟩
    obtain ⟨u, hu⟩ : ∃ p, p = compareL b.data.toList a.data.toList := ⟨_, rfl⟩
    have hch : pa = true → ph = true → 1 = ch := fun h1 h2 => by
      rw [hpa] at h1
      rw [hph, dy] at h2
      rw [hch0, dy, compare_longer h1 h2, first_dec, if_neg (by rw [dec_no_let]; simp)]
    have hcl : pa = true → pl = true → (letOk (first c.data.toList) = true ∧ -1 = cl) ∨ (digs (first c.data.toList) = true ∧ 1 = cl) := fun h1 h2 => by
      rw [hpa] at h1
      rw [hpl, dx] at h2
      have hp := first_part h2
      rw [hcl0, dx, compare_longer h1 h2]
      cases hl : letOk (first c.data.toList) with
      | true => exact .inl ⟨rfl, rfl⟩
      | false => exact .inr ⟨not_let_digs hp hl, rfl⟩
    have huv : u = -v := by rw [hu, hv]; exact row_compare.neg _ _
    have htri := row_compare.tri a.data.toList b.data.toList
    rw [← hv] at htri hX
    rw [← hu] at hN
    rw [← hpa] at hMa
    rw [← hpb] at hMb
    rw [← hpl] at hMl
    rw [← hph] at hMh
    rw [← hdw] at hDw
    rw [← hcl0] at hCl
    rw [← hch0] at hCh
    have hxx : (decide (0 ≤ v) = true ∧ True) ∨ (decide (0 ≤ v) = false ∧ 1 = u) := by
      rcases htri with h | h | h
      · exact .inr ⟨decide_eq_false (by omega), by omega⟩
      · exact .inl ⟨decide_eq_true (by omega), trivial⟩
      · exact .inl ⟨decide_eq_true (by omega), trivial⟩
    have hfst : (cutS 46 c).length ≠ 0 ∧ ∀ z, (cutS 46 c)[0]? = some z → z.data.toList = first c.data.toList ∧ z.size ≤ 9000 := by
      have h1 := (cutL_len 46 c.data.toList).1
      rw [← cutS_len] at h1
      refine ⟨by omega, fun z hz => ⟨?_, ?_⟩⟩
      · have := getD_data 46 c 0
        rw [List.getD, hz] at this
        exact this
      · have := cutS_piece (List.mem_of_getElem? hz)
        omega
    have e0 : (a ++ ⟨#[46]⟩).size = a.size + 1 := by rw [← Txt.len, Go.Joins.data_append, List.length_append, Txt.len]; rfl
    rw [hx] at hMl hCl
    rw [hy] at hMh hCh
    clear hx hy hpa hpb hpl hph hdw hcl0 hch0 hv hu dx dy huv htri hdd hd zx zy hm hm9
    have HMa := Lib.hid hMa; have HMb := Lib.hid hMb; have HMl := Lib.hid hMl; have HMh := Lib.hid hMh; have HDw := Lib.hid hDw; have HCl := Lib.hid hCl; have HCh := Lib.hid hCh; have HX := Lib.hid hX; have HN := Lib.hid hN; have HCut := Lib.hid hCut; have HDec := Lib.hid hDec; have Hfst := Lib.hid hfst; have HD := Lib.hid hD; have Hxx := Lib.hid hxx; clear hMa hMb hMl hMh hDw hCl hCh hX hN hCut hDec hfst hD hxx
    go_wp2_with fail
    refine (HDec.out _ Hb0.out).mono ?_
    rintro e w1 ⟨rfl, hb1⟩
    have Hb1 := Lib.hid hb1; clear hb1
    cases pa with
    | false =>
      clear hch hcl
      go_wp2_with fail
      refine (HMa.out _ Hb1.out).mono ?_
      rintro e w2 ⟨rfl, hb2⟩
      have Hb2 := Lib.hid hb2; clear hb2
      go_wp2_with fail
      refine (HMa.out _ Hb2.out).mono ?_
      rintro e w3 ⟨rfl, hb3⟩
      have Hb3 := Lib.hid hb3; clear hb3
      go_wp2_with fail
      rcases Hxx.out with ⟨k1, hxn⟩ | ⟨k1, hxn⟩
      · refine (HF.out _ Hb3.out).mono ?_
        rintro e w4 ⟨rfl, hb4⟩
        have Hb4 := Lib.hid hb4; clear hb4
        go_wp2_with fail
        refine (HX.out _ Hb4.out).mono ?_
        rintro e w5 ⟨rfl, hb5⟩
        have Hb5 := Lib.hid hb5; clear hb5
        go_wp2_with fail
        go_ret
        exact ⟨rfl, Hb5.out⟩
      · refine (HF.out _ Hb3.out).mono ?_
        rintro e w4 ⟨rfl, hb4⟩
        have Hb4 := Lib.hid hb4; clear hb4
        go_wp2_with fail
        refine (HX.out _ Hb4.out).mono ?_
        rintro e w5 ⟨rfl, hb5⟩
        have Hb5 := Lib.hid hb5; clear hb5
        go_wp2_with fail
        refine (HMa.out _ Hb5.out).mono ?_
        rintro e w6 ⟨rfl, hb6⟩
        have Hb6 := Lib.hid hb6; clear hb6
        go_wp2_with fail
        go_ret
        exact ⟨rfl, Hb6.out⟩
    | true =>
      replace hch := hch rfl
      replace hcl := hcl rfl
      go_wp2_with fail
      refine (HMa.out _ Hb1.out).mono ?_
      rintro e w2 ⟨rfl, hb2⟩
      have Hb2 := Lib.hid hb2; clear hb2
      cases pl with
      | false =>
        clear hcl
        go_wp2_with fail
        refine (HMl.out _ Hb2.out).mono ?_
        rintro e w3 ⟨rfl, hb3⟩
        have Hb3 := Lib.hid hb3; clear hb3
        go_wp2_with fail
        refine (HMa.out _ Hb3.out).mono ?_
        rintro e w4 ⟨rfl, hb4⟩
        have Hb4 := Lib.hid hb4; clear hb4
        cases ph with
        | false =>
          go_wp2_with fail
          refine (HMh.out _ Hb4.out).mono ?_
          rintro e w5 ⟨rfl, hb5⟩
          have Hb5 := Lib.hid hb5; clear hb5
          go_wp2_with fail
          rcases Hxx.out with ⟨k1, hxn⟩ | ⟨k1, hxn⟩
          · refine (HF.out _ Hb5.out).mono ?_
            rintro e w6 ⟨rfl, hb6⟩
            have Hb6 := Lib.hid hb6; clear hb6
            go_wp2_with fail
            refine (HX.out _ Hb6.out).mono ?_
            rintro e w7 ⟨rfl, hb7⟩
            have Hb7 := Lib.hid hb7; clear hb7
            go_wp2_with fail
            go_ret
            exact ⟨rfl, Hb7.out⟩
          · cases pb with
            | false =>
              refine (HF.out _ Hb5.out).mono ?_
              rintro e w6 ⟨rfl, hb6⟩
              have Hb6 := Lib.hid hb6; clear hb6
              go_wp2_with fail
              refine (HX.out _ Hb6.out).mono ?_
              rintro e w7 ⟨rfl, hb7⟩
              have Hb7 := Lib.hid hb7; clear hb7
              go_wp2_with fail
              refine (HMa.out _ Hb7.out).mono ?_
              rintro e w8 ⟨rfl, hb8⟩
              have Hb8 := Lib.hid hb8; clear hb8
              go_wp2_with fail
              refine (HMb.out _ Hb8.out).mono ?_
              rintro e w9 ⟨rfl, hb9⟩
              have Hb9 := Lib.hid hb9; clear hb9
              go_wp2_with fail
              go_ret
              exact ⟨rfl, Hb9.out⟩
            | true =>
              subst hxn
              refine (HF.out _ Hb5.out).mono ?_
              rintro e w6 ⟨rfl, hb6⟩
              have Hb6 := Lib.hid hb6; clear hb6
              go_wp2_with fail
              refine (HX.out _ Hb6.out).mono ?_
              rintro e w7 ⟨rfl, hb7⟩
              have Hb7 := Lib.hid hb7; clear hb7
              go_wp2_with fail
              refine (HMa.out _ Hb7.out).mono ?_
              rintro e w8 ⟨rfl, hb8⟩
              have Hb8 := Lib.hid hb8; clear hb8
              go_wp2_with fail
              refine (HMb.out _ Hb8.out).mono ?_
              rintro e w9 ⟨rfl, hb9⟩
              have Hb9 := Lib.hid hb9; clear hb9
              go_wp2_with fail
              refine (HN.out _ Hb9.out).mono ?_
              rintro e w10 ⟨rfl, hb10⟩
              have Hb10 := Lib.hid hb10; clear hb10
              go_wp2_with fail
              go_ret
              exact ⟨rfl, Hb10.out⟩
        | true =>
          obtain rfl := hch rfl
          go_wp2_with fail
          refine (HMh.out _ Hb4.out).mono ?_
          rintro e w5 ⟨rfl, hb5⟩
          have Hb5 := Lib.hid hb5; clear hb5
          go_wp2_with fail
          refine (HCh.out _ Hb5.out).mono ?_
          rintro e w6 ⟨rfl, hb6⟩
          have Hb6 := Lib.hid hb6; clear hb6
          go_wp2_with fail
          rcases Hxx.out with ⟨k1, hxn⟩ | ⟨k1, hxn⟩
          · refine (HF.out _ Hb6.out).mono ?_
            rintro e w7 ⟨rfl, hb7⟩
            have Hb7 := Lib.hid hb7; clear hb7
            go_wp2_with fail
            refine (HX.out _ Hb7.out).mono ?_
            rintro e w8 ⟨rfl, hb8⟩
            have Hb8 := Lib.hid hb8; clear hb8
            go_wp2_with fail
            go_ret
            exact ⟨rfl, Hb8.out⟩
          · cases pb with
            | false =>
              refine (HF.out _ Hb6.out).mono ?_
              rintro e w7 ⟨rfl, hb7⟩
              have Hb7 := Lib.hid hb7; clear hb7
              go_wp2_with fail
              refine (HX.out _ Hb7.out).mono ?_
              rintro e w8 ⟨rfl, hb8⟩
              have Hb8 := Lib.hid hb8; clear hb8
              go_wp2_with fail
              refine (HMa.out _ Hb8.out).mono ?_
              rintro e w9 ⟨rfl, hb9⟩
              have Hb9 := Lib.hid hb9; clear hb9
              go_wp2_with fail
              refine (HMb.out _ Hb9.out).mono ?_
              rintro e w10 ⟨rfl, hb10⟩
              have Hb10 := Lib.hid hb10; clear hb10
              go_wp2_with fail
              go_ret
              exact ⟨rfl, Hb10.out⟩
            | true =>
              subst hxn
              refine (HF.out _ Hb6.out).mono ?_
              rintro e w7 ⟨rfl, hb7⟩
              have Hb7 := Lib.hid hb7; clear hb7
              go_wp2_with fail
              refine (HX.out _ Hb7.out).mono ?_
              rintro e w8 ⟨rfl, hb8⟩
              have Hb8 := Lib.hid hb8; clear hb8
              go_wp2_with fail
              refine (HMa.out _ Hb8.out).mono ?_
              rintro e w9 ⟨rfl, hb9⟩
              have Hb9 := Lib.hid hb9; clear hb9
              go_wp2_with fail
              refine (HMb.out _ Hb9.out).mono ?_
              rintro e w10 ⟨rfl, hb10⟩
              have Hb10 := Lib.hid hb10; clear hb10
              go_wp2_with fail
              refine (HN.out _ Hb10.out).mono ?_
              rintro e w11 ⟨rfl, hb11⟩
              have Hb11 := Lib.hid hb11; clear hb11
              go_wp2_with fail
              go_ret
              exact ⟨rfl, Hb11.out⟩
      | true =>
        replace hcl := hcl rfl
        go_wp2_with fail
        refine (HMl.out _ Hb2.out).mono ?_
        rintro e w3 ⟨rfl, hb3⟩
        have Hb3 := Lib.hid hb3; clear hb3
        cases dw with
        | true =>
          clear hcl
          go_wp2_with fail
          refine (HDw.out _ Hb3.out).mono ?_
          rintro e w4 ⟨rfl, hb4⟩
          have Hb4 := Lib.hid hb4; clear hb4
          go_wp2_with fail
          refine (HMa.out _ Hb4.out).mono ?_
          rintro e w5 ⟨rfl, hb5⟩
          have Hb5 := Lib.hid hb5; clear hb5
          cases ph with
          | false =>
            go_wp2_with fail
            refine (HMh.out _ Hb5.out).mono ?_
            rintro e w6 ⟨rfl, hb6⟩
            have Hb6 := Lib.hid hb6; clear hb6
            go_wp2_with fail
            rcases Hxx.out with ⟨k1, hxn⟩ | ⟨k1, hxn⟩
            · refine (HF.out _ Hb6.out).mono ?_
              rintro e w7 ⟨rfl, hb7⟩
              have Hb7 := Lib.hid hb7; clear hb7
              go_wp2_with fail
              refine (HX.out _ Hb7.out).mono ?_
              rintro e w8 ⟨rfl, hb8⟩
              have Hb8 := Lib.hid hb8; clear hb8
              go_wp2_with fail
              go_ret
              exact ⟨rfl, Hb8.out⟩
            · cases pb with
              | false =>
                refine (HF.out _ Hb6.out).mono ?_
                rintro e w7 ⟨rfl, hb7⟩
                have Hb7 := Lib.hid hb7; clear hb7
                go_wp2_with fail
                refine (HX.out _ Hb7.out).mono ?_
                rintro e w8 ⟨rfl, hb8⟩
                have Hb8 := Lib.hid hb8; clear hb8
                go_wp2_with fail
                refine (HMa.out _ Hb8.out).mono ?_
                rintro e w9 ⟨rfl, hb9⟩
                have Hb9 := Lib.hid hb9; clear hb9
                go_wp2_with fail
                refine (HMb.out _ Hb9.out).mono ?_
                rintro e w10 ⟨rfl, hb10⟩
                have Hb10 := Lib.hid hb10; clear hb10
                go_wp2_with fail
                go_ret
                exact ⟨rfl, Hb10.out⟩
              | true =>
                subst hxn
                refine (HF.out _ Hb6.out).mono ?_
                rintro e w7 ⟨rfl, hb7⟩
                have Hb7 := Lib.hid hb7; clear hb7
                go_wp2_with fail
                refine (HX.out _ Hb7.out).mono ?_
                rintro e w8 ⟨rfl, hb8⟩
                have Hb8 := Lib.hid hb8; clear hb8
                go_wp2_with fail
                refine (HMa.out _ Hb8.out).mono ?_
                rintro e w9 ⟨rfl, hb9⟩
                have Hb9 := Lib.hid hb9; clear hb9
                go_wp2_with fail
                refine (HMb.out _ Hb9.out).mono ?_
                rintro e w10 ⟨rfl, hb10⟩
                have Hb10 := Lib.hid hb10; clear hb10
                go_wp2_with fail
                refine (HN.out _ Hb10.out).mono ?_
                rintro e w11 ⟨rfl, hb11⟩
                have Hb11 := Lib.hid hb11; clear hb11
                go_wp2_with fail
                go_ret
                exact ⟨rfl, Hb11.out⟩
          | true =>
            obtain rfl := hch rfl
            go_wp2_with fail
            refine (HMh.out _ Hb5.out).mono ?_
            rintro e w6 ⟨rfl, hb6⟩
            have Hb6 := Lib.hid hb6; clear hb6
            go_wp2_with fail
            refine (HCh.out _ Hb6.out).mono ?_
            rintro e w7 ⟨rfl, hb7⟩
            have Hb7 := Lib.hid hb7; clear hb7
            go_wp2_with fail
            rcases Hxx.out with ⟨k1, hxn⟩ | ⟨k1, hxn⟩
            · refine (HF.out _ Hb7.out).mono ?_
              rintro e w8 ⟨rfl, hb8⟩
              have Hb8 := Lib.hid hb8; clear hb8
              go_wp2_with fail
              refine (HX.out _ Hb8.out).mono ?_
              rintro e w9 ⟨rfl, hb9⟩
              have Hb9 := Lib.hid hb9; clear hb9
              go_wp2_with fail
              go_ret
              exact ⟨rfl, Hb9.out⟩
            · cases pb with
              | false =>
                refine (HF.out _ Hb7.out).mono ?_
                rintro e w8 ⟨rfl, hb8⟩
                have Hb8 := Lib.hid hb8; clear hb8
                go_wp2_with fail
                refine (HX.out _ Hb8.out).mono ?_
                rintro e w9 ⟨rfl, hb9⟩
                have Hb9 := Lib.hid hb9; clear hb9
                go_wp2_with fail
                refine (HMa.out _ Hb9.out).mono ?_
                rintro e w10 ⟨rfl, hb10⟩
                have Hb10 := Lib.hid hb10; clear hb10
                go_wp2_with fail
                refine (HMb.out _ Hb10.out).mono ?_
                rintro e w11 ⟨rfl, hb11⟩
                have Hb11 := Lib.hid hb11; clear hb11
                go_wp2_with fail
                go_ret
                exact ⟨rfl, Hb11.out⟩
              | true =>
                subst hxn
                refine (HF.out _ Hb7.out).mono ?_
                rintro e w8 ⟨rfl, hb8⟩
                have Hb8 := Lib.hid hb8; clear hb8
                go_wp2_with fail
                refine (HX.out _ Hb8.out).mono ?_
                rintro e w9 ⟨rfl, hb9⟩
                have Hb9 := Lib.hid hb9; clear hb9
                go_wp2_with fail
                refine (HMa.out _ Hb9.out).mono ?_
                rintro e w10 ⟨rfl, hb10⟩
                have Hb10 := Lib.hid hb10; clear hb10
                go_wp2_with fail
                refine (HMb.out _ Hb10.out).mono ?_
                rintro e w11 ⟨rfl, hb11⟩
                have Hb11 := Lib.hid hb11; clear hb11
                go_wp2_with fail
                refine (HN.out _ Hb11.out).mono ?_
                rintro e w12 ⟨rfl, hb12⟩
                have Hb12 := Lib.hid hb12; clear hb12
                go_wp2_with fail
                go_ret
                exact ⟨rfl, Hb12.out⟩
        | false =>
          rcases hcl with ⟨hl, rfl⟩ | ⟨hl, rfl⟩
          · clear hl
            go_wp2_with fail
            refine (HDw.out _ Hb3.out).mono ?_
            rintro e w4 ⟨rfl, hb4⟩
            have Hb4 := Lib.hid hb4; clear hb4
            go_wp2_with fail
            refine (HCl.out _ Hb4.out).mono ?_
            rintro e w5 ⟨rfl, hb5⟩
            have Hb5 := Lib.hid hb5; clear hb5
            go_wp2_with fail
            refine (HMa.out _ Hb5.out).mono ?_
            rintro e w6 ⟨rfl, hb6⟩
            have Hb6 := Lib.hid hb6; clear hb6
            cases ph with
            | false =>
              go_wp2_with fail
              refine (HMh.out _ Hb6.out).mono ?_
              rintro e w7 ⟨rfl, hb7⟩
              have Hb7 := Lib.hid hb7; clear hb7
              go_wp2_with fail
              rcases Hxx.out with ⟨k1, hxn⟩ | ⟨k1, hxn⟩
              · refine (HF.out _ Hb7.out).mono ?_
                rintro e w8 ⟨rfl, hb8⟩
                have Hb8 := Lib.hid hb8; clear hb8
                go_wp2_with fail
                refine (HX.out _ Hb8.out).mono ?_
                rintro e w9 ⟨rfl, hb9⟩
                have Hb9 := Lib.hid hb9; clear hb9
                go_wp2_with fail
                go_ret
                exact ⟨rfl, Hb9.out⟩
              · cases pb with
                | false =>
                  refine (HF.out _ Hb7.out).mono ?_
                  rintro e w8 ⟨rfl, hb8⟩
                  have Hb8 := Lib.hid hb8; clear hb8
                  go_wp2_with fail
                  refine (HX.out _ Hb8.out).mono ?_
                  rintro e w9 ⟨rfl, hb9⟩
                  have Hb9 := Lib.hid hb9; clear hb9
                  go_wp2_with fail
                  refine (HMa.out _ Hb9.out).mono ?_
                  rintro e w10 ⟨rfl, hb10⟩
                  have Hb10 := Lib.hid hb10; clear hb10
                  go_wp2_with fail
                  refine (HMb.out _ Hb10.out).mono ?_
                  rintro e w11 ⟨rfl, hb11⟩
                  have Hb11 := Lib.hid hb11; clear hb11
                  go_wp2_with fail
                  go_ret
                  exact ⟨rfl, Hb11.out⟩
                | true =>
                  subst hxn
                  refine (HF.out _ Hb7.out).mono ?_
                  rintro e w8 ⟨rfl, hb8⟩
                  have Hb8 := Lib.hid hb8; clear hb8
                  go_wp2_with fail
                  refine (HX.out _ Hb8.out).mono ?_
                  rintro e w9 ⟨rfl, hb9⟩
                  have Hb9 := Lib.hid hb9; clear hb9
                  go_wp2_with fail
                  refine (HMa.out _ Hb9.out).mono ?_
                  rintro e w10 ⟨rfl, hb10⟩
                  have Hb10 := Lib.hid hb10; clear hb10
                  go_wp2_with fail
                  refine (HMb.out _ Hb10.out).mono ?_
                  rintro e w11 ⟨rfl, hb11⟩
                  have Hb11 := Lib.hid hb11; clear hb11
                  go_wp2_with fail
                  refine (HN.out _ Hb11.out).mono ?_
                  rintro e w12 ⟨rfl, hb12⟩
                  have Hb12 := Lib.hid hb12; clear hb12
                  go_wp2_with fail
                  go_ret
                  exact ⟨rfl, Hb12.out⟩
            | true =>
              obtain rfl := hch rfl
              go_wp2_with fail
              refine (HMh.out _ Hb6.out).mono ?_
              rintro e w7 ⟨rfl, hb7⟩
              have Hb7 := Lib.hid hb7; clear hb7
              go_wp2_with fail
              refine (HCh.out _ Hb7.out).mono ?_
              rintro e w8 ⟨rfl, hb8⟩
              have Hb8 := Lib.hid hb8; clear hb8
              go_wp2_with fail
              rcases Hxx.out with ⟨k1, hxn⟩ | ⟨k1, hxn⟩
              · refine (HF.out _ Hb8.out).mono ?_
                rintro e w9 ⟨rfl, hb9⟩
                have Hb9 := Lib.hid hb9; clear hb9
                go_wp2_with fail
                refine (HX.out _ Hb9.out).mono ?_
                rintro e w10 ⟨rfl, hb10⟩
                have Hb10 := Lib.hid hb10; clear hb10
                go_wp2_with fail
                go_ret
                exact ⟨rfl, Hb10.out⟩
              · cases pb with
                | false =>
                  refine (HF.out _ Hb8.out).mono ?_
                  rintro e w9 ⟨rfl, hb9⟩
                  have Hb9 := Lib.hid hb9; clear hb9
                  go_wp2_with fail
                  refine (HX.out _ Hb9.out).mono ?_
                  rintro e w10 ⟨rfl, hb10⟩
                  have Hb10 := Lib.hid hb10; clear hb10
                  go_wp2_with fail
                  refine (HMa.out _ Hb10.out).mono ?_
                  rintro e w11 ⟨rfl, hb11⟩
                  have Hb11 := Lib.hid hb11; clear hb11
                  go_wp2_with fail
                  refine (HMb.out _ Hb11.out).mono ?_
                  rintro e w12 ⟨rfl, hb12⟩
                  have Hb12 := Lib.hid hb12; clear hb12
                  go_wp2_with fail
                  go_ret
                  exact ⟨rfl, Hb12.out⟩
                | true =>
                  subst hxn
                  refine (HF.out _ Hb8.out).mono ?_
                  rintro e w9 ⟨rfl, hb9⟩
                  have Hb9 := Lib.hid hb9; clear hb9
                  go_wp2_with fail
                  refine (HX.out _ Hb9.out).mono ?_
                  rintro e w10 ⟨rfl, hb10⟩
                  have Hb10 := Lib.hid hb10; clear hb10
                  go_wp2_with fail
                  refine (HMa.out _ Hb10.out).mono ?_
                  rintro e w11 ⟨rfl, hb11⟩
                  have Hb11 := Lib.hid hb11; clear hb11
                  go_wp2_with fail
                  refine (HMb.out _ Hb11.out).mono ?_
                  rintro e w12 ⟨rfl, hb12⟩
                  have Hb12 := Lib.hid hb12; clear hb12
                  go_wp2_with fail
                  refine (HN.out _ Hb12.out).mono ?_
                  rintro e w13 ⟨rfl, hb13⟩
                  have Hb13 := Lib.hid hb13; clear hb13
                  go_wp2_with fail
                  go_ret
                  exact ⟨rfl, Hb13.out⟩
          · go_wp2_with fail
            refine (HDw.out _ Hb3.out).mono ?_
            rintro e w4 ⟨rfl, hb4⟩
            have Hb4 := Lib.hid hb4; clear hb4
            go_wp2_with fail
            refine (HCl.out _ Hb4.out).mono ?_
            rintro e w5 ⟨rfl, hb5⟩
            have Hb5 := Lib.hid hb5; clear hb5
            go_wp2_with fail
            have hq := (HCut.out w5)
            have Hq := Lib.hid hq; clear hq
            refine Hq.out.mono ?_
            rintro e w6 ⟨q, rfl, ho, hb6⟩
            replace hb6 := Hb5.out.trans (hb6.mono Hb5.out.size)
            obtain ⟨z, hz⟩ : ∃ z, (cutS 46 c)[0]? = some z := ⟨_, List.getElem?_eq_getElem (by have := Hfst.out.1; omega)⟩
            obtain ⟨hzf, hzs⟩ := Hfst.out.2 z hz
            obtain ⟨g, cap, hqq, c0⟩ := texts_cell ho 0 (by have := Hfst.out.1; omega)
            have hz0 : (cutS 46 c)[0]'(by have := Hfst.out.1; omega) = z := Option.some.inj ((List.getElem?_eq_getElem _).symm.trans hz)
            rw [hz0] at c0
            subst hqq
            obtain ⟨N, hN0⟩ : ∃ N, N = (cutS 46 c).length := ⟨_, rfl⟩
            have hNp : 0 < N := by have := Hfst.out.1; omega
            rw [← hN0] at ho ⊢
            have hZd := fun (W : World) (k : Below w.heap.size w W) => calls_from (W := W) k ((digits1_any z (by omega) W).mono fun _ _ ⟨he, hw⟩ => ⟨he, hw ▸ Below.refl _ _⟩)
            rw [hzf, hl] at hZd
            clear hz hzf hzs hz0 hl hN0
            have Hb6 := Lib.hid hb6; have Ho := Lib.hid ho; have HZd := Lib.hid hZd; clear hb6 ho hZd
            go_wp2_with fail
            refine (HZd.out _ Hb6.out).mono ?_
            rintro e w7 ⟨rfl, hb7⟩
            have Hb7 := Lib.hid hb7; clear hb7
            go_wp2_with fail
            refine (HMa.out _ Hb7.out).mono ?_
            rintro e w8 ⟨rfl, hb8⟩
            have Hb8 := Lib.hid hb8; clear hb8
            cases ph with
            | false =>
              go_wp2_with fail
              refine (HMh.out _ Hb8.out).mono ?_
              rintro e w9 ⟨rfl, hb9⟩
              have Hb9 := Lib.hid hb9; clear hb9
              go_wp2_with fail
              rcases Hxx.out with ⟨k1, hxn⟩ | ⟨k1, hxn⟩
              · refine (HF.out _ Hb9.out).mono ?_
                rintro e w10 ⟨rfl, hb10⟩
                have Hb10 := Lib.hid hb10; clear hb10
                go_wp2_with fail
                refine (HX.out _ Hb10.out).mono ?_
                rintro e w11 ⟨rfl, hb11⟩
                have Hb11 := Lib.hid hb11; clear hb11
                go_wp2_with fail
                go_ret
                exact ⟨rfl, Hb11.out⟩
              · cases pb with
                | false =>
                  refine (HF.out _ Hb9.out).mono ?_
                  rintro e w10 ⟨rfl, hb10⟩
                  have Hb10 := Lib.hid hb10; clear hb10
                  go_wp2_with fail
                  refine (HX.out _ Hb10.out).mono ?_
                  rintro e w11 ⟨rfl, hb11⟩
                  have Hb11 := Lib.hid hb11; clear hb11
                  go_wp2_with fail
                  refine (HMa.out _ Hb11.out).mono ?_
                  rintro e w12 ⟨rfl, hb12⟩
                  have Hb12 := Lib.hid hb12; clear hb12
                  go_wp2_with fail
                  refine (HMb.out _ Hb12.out).mono ?_
                  rintro e w13 ⟨rfl, hb13⟩
                  have Hb13 := Lib.hid hb13; clear hb13
                  go_wp2_with fail
                  go_ret
                  exact ⟨rfl, Hb13.out⟩
                | true =>
                  subst hxn
                  refine (HF.out _ Hb9.out).mono ?_
                  rintro e w10 ⟨rfl, hb10⟩
                  have Hb10 := Lib.hid hb10; clear hb10
                  go_wp2_with fail
                  refine (HX.out _ Hb10.out).mono ?_
                  rintro e w11 ⟨rfl, hb11⟩
                  have Hb11 := Lib.hid hb11; clear hb11
                  go_wp2_with fail
                  refine (HMa.out _ Hb11.out).mono ?_
                  rintro e w12 ⟨rfl, hb12⟩
                  have Hb12 := Lib.hid hb12; clear hb12
                  go_wp2_with fail
                  refine (HMb.out _ Hb12.out).mono ?_
                  rintro e w13 ⟨rfl, hb13⟩
                  have Hb13 := Lib.hid hb13; clear hb13
                  go_wp2_with fail
                  refine (HN.out _ Hb13.out).mono ?_
                  rintro e w14 ⟨rfl, hb14⟩
                  have Hb14 := Lib.hid hb14; clear hb14
                  go_wp2_with fail
                  go_ret
                  exact ⟨rfl, Hb14.out⟩
            | true =>
              obtain rfl := hch rfl
              go_wp2_with fail
              refine (HMh.out _ Hb8.out).mono ?_
              rintro e w9 ⟨rfl, hb9⟩
              have Hb9 := Lib.hid hb9; clear hb9
              go_wp2_with fail
              refine (HCh.out _ Hb9.out).mono ?_
              rintro e w10 ⟨rfl, hb10⟩
              have Hb10 := Lib.hid hb10; clear hb10
              go_wp2_with fail
              rcases Hxx.out with ⟨k1, hxn⟩ | ⟨k1, hxn⟩
              · refine (HF.out _ Hb10.out).mono ?_
                rintro e w11 ⟨rfl, hb11⟩
                have Hb11 := Lib.hid hb11; clear hb11
                go_wp2_with fail
                refine (HX.out _ Hb11.out).mono ?_
                rintro e w12 ⟨rfl, hb12⟩
                have Hb12 := Lib.hid hb12; clear hb12
                go_wp2_with fail
                go_ret
                exact ⟨rfl, Hb12.out⟩
              · cases pb with
                | false =>
                  refine (HF.out _ Hb10.out).mono ?_
                  rintro e w11 ⟨rfl, hb11⟩
                  have Hb11 := Lib.hid hb11; clear hb11
                  go_wp2_with fail
                  refine (HX.out _ Hb11.out).mono ?_
                  rintro e w12 ⟨rfl, hb12⟩
                  have Hb12 := Lib.hid hb12; clear hb12
                  go_wp2_with fail
                  refine (HMa.out _ Hb12.out).mono ?_
                  rintro e w13 ⟨rfl, hb13⟩
                  have Hb13 := Lib.hid hb13; clear hb13
                  go_wp2_with fail
                  refine (HMb.out _ Hb13.out).mono ?_
                  rintro e w14 ⟨rfl, hb14⟩
                  have Hb14 := Lib.hid hb14; clear hb14
                  go_wp2_with fail
                  go_ret
                  exact ⟨rfl, Hb14.out⟩
                | true =>
                  subst hxn
                  refine (HF.out _ Hb10.out).mono ?_
                  rintro e w11 ⟨rfl, hb11⟩
                  have Hb11 := Lib.hid hb11; clear hb11
                  go_wp2_with fail
                  refine (HX.out _ Hb11.out).mono ?_
                  rintro e w12 ⟨rfl, hb12⟩
                  have Hb12 := Lib.hid hb12; clear hb12
                  go_wp2_with fail
                  refine (HMa.out _ Hb12.out).mono ?_
                  rintro e w13 ⟨rfl, hb13⟩
                  have Hb13 := Lib.hid hb13; clear hb13
                  go_wp2_with fail
                  refine (HMb.out _ Hb13.out).mono ?_
                  rintro e w14 ⟨rfl, hb14⟩
                  have Hb14 := Lib.hid hb14; clear hb14
                  go_wp2_with fail
                  refine (HN.out _ Hb14.out).mono ?_
                  rintro e w15 ⟨rfl, hb15⟩
                  have Hb15 := Lib.hid hb15; clear hb15
                  go_wp2_with fail
                  go_ret
                  exact ⟨rfl, Hb15.out⟩
theorem wf_u32 {n : Int} (h : (Lit.int .u32 n).wf = true) : 0 ≤ n ∧ n ≤ 4294967295 := by simpa [Lit.wf, IntKind.min, IntKind.max, IntKind.signed, IntKind.bits] using h
theorem versionAround_int (a b c : ByteArray) (x : Int) (hx : 0 ≤ x) (ha : a.size ≤ 9223372036854775807) (hb : b.size ≤ 9223372036854775807) (hc : c.size ≤ 9223372036854775807) {w : World} (hD : Doors w) :
    Calls Tryd.prog 4 #[.string a, .string b, .string c, .int .u32 x] w fun e w' => e = .returned (.bool true) ∧ Below w.heap.size w w' := by
  obtain ⟨n, rfl⟩ := Int.eq_ofNat_of_zero_le hx
  exact versionAround_true a b c n ha hb hc hD
end Go.Proofs.YtblkdcapampniaaDoor
