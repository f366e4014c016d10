/- The walk of cooperlaw01.VersionCompare: the law. Condition: the library's variables as they were laid, and the texts' reach. -/
import Derived.Test.YtblkdcapampniaaDoorVerL
set_option linter.unusedVariables false
set_option linter.unusedSimpArgs false
namespace Go.Proofs.YtblkdcapampniaaDoor
open Go.RowKit Go.Lib VerN

theorem calls_from {f : Nat} {args : Array Value} {w W : World} {E : Ending} (h : Below w.heap.size w W) (c : Calls Tryd.prog f args W fun e w' => e = E ∧ Below W.heap.size W w') : Calls Tryd.prog f args W fun e w' => e = E ∧ Below w.heap.size w w' :=
  c.mono fun _ _ ⟨he, hb⟩ => ⟨he, h.trans (hb.mono h.size)⟩
theorem lit_texts (w : World) (l : List ByteArray) (hl : l.length ≤ 100) (hs : ∀ x ∈ l, x.size ≤ maxLen) : RTs (w.alloc (.cells (l.map Value.string).toArray 9)) [.slice (some ⟨w.heap.size, 0, none⟩) l.length l.length] l := by
  have hown := World.ownsRow_lit (base := w.heap.size) (e := 9) (size := 1) w (l.map Value.string).toArray l.length (Nat.le_refl _) (by unfold maxLen; omega) (by simp)
  have h2 : (w.alloc (.cells (l.map Value.string).toArray 9)).ownsRow w.heap.size 9 1 (.slice (some ⟨w.heap.size, 0, none⟩) l.length l.length) l.length (l.map Value.string) := by simpa using hown
  refine slice_of_owns (by simp) h2 fun i u x hu hx => ?_
  rw [List.getElem?_map, hx] at hu
  cases hu
  exact ⟨rfl, hs x (List.mem_of_getElem? hx)⟩
set_option maxRecDepth 10000 in
set_option maxHeartbeats 4000000 in
theorem versionCompare_true (a b c : ByteArray) (ha : a.size ≤ 9223372036854775807) (hb : b.size ≤ 9223372036854775807) (hc : c.size ≤ 9223372036854775807) {w : World} (hD : Doors w) :
    Calls Tryd.prog 3 #[.string a, .string b, .string c] w fun e w' => e = .returned (.bool true) ∧ Below w.heap.size w w' := by
  have hG := great1_any (lit_texts w [a, b, c] (by simp) (by simp [maxLen]; omega))
  have hb0 : Below w.heap.size w (w.alloc (.cells #[.string a, .string b, .string c] 9)) := below_alloc1 _ _
  have hF := fun (W : World) (h : Below w.heap.size w W) => calls_from h (fixed01_any (hD.below h))
  simp only [List.map_cons, List.map_nil, List.length_cons, List.length_nil, Nat.zero_add, Nat.reduceAdd] at hG
  have HG := Lib.hid hG; have Hb0 := Lib.hid hb0; have HF := Lib.hid hF; clear hG hb0 hF
  go_enter Tryd.func3, Tryd.ntmps3
  go_wp2_with fail
  refine HG.out.mono ?_
  rintro e w1 ⟨⟨r, rfl, hr⟩, rfl⟩
  cases r with
  | true =>
    clear hr
    go_wp2_with fail
    refine (HF.out _ Hb0.out).mono ?_
    rintro e w1 ⟨rfl, hb1⟩
    have Hb1 := Lib.hid hb1; clear hb1
    go_wp2_with fail
    go_ret
    exact ⟨rfl, Hb1.out⟩
  | false =>
    have h9 := hr rfl
    clear hr
    have za : a.size ≤ 1000000 := by have := h9 a (by simp); omega
    have zb : b.size ≤ 1000000 := by have := h9 b (by simp); omega
    have zc : c.size ≤ 1000000 := by have := h9 c (by simp); omega
    clear h9
    obtain ⟨x, hx⟩ : ∃ x, x = compareL a.data.toList b.data.toList := ⟨_, rfl⟩
    obtain ⟨y, hy⟩ : ∃ x, x = compareL b.data.toList c.data.toList := ⟨_, rfl⟩
    obtain ⟨z, hz⟩ : ∃ x, x = compareL a.data.toList c.data.toList := ⟨_, rfl⟩
    have hn : compareL b.data.toList a.data.toList = -x := by rw [hx]; exact row_compare.neg _ _
    have hX := fun (W : World) (h : Below w.heap.size w W) => calls_from h (verCompare_any a b za zb (hD.below h))
    have hY := fun (W : World) (h : Below w.heap.size w W) => calls_from h (verCompare_any b c zb zc (hD.below h))
    have hZ := fun (W : World) (h : Below w.heap.size w W) => calls_from h (verCompare_any a c za zc (hD.below h))
    have hN := fun (W : World) (h : Below w.heap.size w W) => calls_from h (verCompare_any b a zb za (hD.below h))
    have hR := fun (W : World) (h : Below w.heap.size w W) => calls_from h (compare1_any a b za zb W)
    have hMa := fun (W : World) (h : Below w.heap.size w W) => calls_from h (may1_any a za W)
    have hMb := fun (W : World) (h : Below w.heap.size w W) => calls_from h (may1_any b zb W)
    have tx := row_compare.tri a.data.toList b.data.toList
    have ty := row_compare.tri b.data.toList c.data.toList
    have ht := row_compare.trans a.data.toList b.data.toList c.data.toList
    have he := row_compare.eq (x := a.data.toList) (y := b.data.toList) (z := c.data.toList)
    have h0 := compare_zero (a := a.data.toList) (b := b.data.toList)
    rw [← hx] at hX hR tx ht he h0
    rw [← hy] at hY ty ht he
    rw [← hz] at hZ ht he
    rw [hn] at hN
    have HX := Lib.hid hX; have HY := Lib.hid hY; have HZ := Lib.hid hZ; have HN := Lib.hid hN; have HR := Lib.hid hR; have HMa := Lib.hid hMa; have HMb := Lib.hid hMb; have Hx := Lib.hid hx; have Hy := Lib.hid hy; have Hz := Lib.hid hz; have Hn := Lib.hid hn; have H0 := Lib.hid h0; have HD := Lib.hid hD; clear hX hY hZ hN hR hMa hMb hx hy hz hn h0 hD
    rcases tx with rfl | rfl | rfl
    · rcases ty with rfl | rfl | rfl
      · have kz : decide (0 < z) = false := decide_eq_false (by have := ht (by omega) (by omega); omega)
        clear ht he
        go_wp2_with fail
        refine (HX.out _ Hb0.out).mono ?_
        rintro e w1 ⟨rfl, hb1⟩
        have Hb1 := Lib.hid hb1; clear hb1
        go_wp2_with fail
        refine (HY.out _ Hb1.out).mono ?_
        rintro e w2 ⟨rfl, hb2⟩
        have Hb2 := Lib.hid hb2; clear hb2
        go_wp2_with fail
        refine (HZ.out _ Hb2.out).mono ?_
        rintro e w3 ⟨rfl, hb3⟩
        have Hb3 := Lib.hid hb3; clear hb3
        go_wp2_with fail
        refine (HR.out _ Hb3.out).mono ?_
        rintro e w4 ⟨rfl, hb4⟩
        have Hb4 := Lib.hid hb4; clear hb4
        go_wp2_with fail
        refine (HN.out _ Hb4.out).mono ?_
        rintro e w5 ⟨rfl, hb5⟩
        have Hb5 := Lib.hid hb5; clear hb5
        go_wp2_with fail
        refine (HF.out _ Hb5.out).mono ?_
        rintro e w6 ⟨rfl, hb6⟩
        have Hb6 := Lib.hid hb6; clear hb6
        go_wp2_with fail
        go_ret
        exact ⟨rfl, Hb6.out⟩
      · have kz : decide (0 < z) = false := decide_eq_false (by have := ht (by omega) (by omega); omega)
        clear ht he
        go_wp2_with fail
        refine (HX.out _ Hb0.out).mono ?_
        rintro e w1 ⟨rfl, hb1⟩
        have Hb1 := Lib.hid hb1; clear hb1
        go_wp2_with fail
        refine (HY.out _ Hb1.out).mono ?_
        rintro e w2 ⟨rfl, hb2⟩
        have Hb2 := Lib.hid hb2; clear hb2
        go_wp2_with fail
        refine (HZ.out _ Hb2.out).mono ?_
        rintro e w3 ⟨rfl, hb3⟩
        have Hb3 := Lib.hid hb3; clear hb3
        go_wp2_with fail
        refine (HR.out _ Hb3.out).mono ?_
        rintro e w4 ⟨rfl, hb4⟩
        have Hb4 := Lib.hid hb4; clear hb4
        go_wp2_with fail
        refine (HN.out _ Hb4.out).mono ?_
        rintro e w5 ⟨rfl, hb5⟩
        have Hb5 := Lib.hid hb5; clear hb5
        go_wp2_with fail
        refine (HF.out _ Hb5.out).mono ?_
        rintro e w6 ⟨rfl, hb6⟩
        have Hb6 := Lib.hid hb6; clear hb6
        go_wp2_with fail
        go_ret
        exact ⟨rfl, Hb6.out⟩
      · clear ht he
        go_wp2_with fail
        refine (HX.out _ Hb0.out).mono ?_
        rintro e w1 ⟨rfl, hb1⟩
        have Hb1 := Lib.hid hb1; clear hb1
        go_wp2_with fail
        refine (HY.out _ Hb1.out).mono ?_
        rintro e w2 ⟨rfl, hb2⟩
        have Hb2 := Lib.hid hb2; clear hb2
        go_wp2_with fail
        refine (HZ.out _ Hb2.out).mono ?_
        rintro e w3 ⟨rfl, hb3⟩
        have Hb3 := Lib.hid hb3; clear hb3
        go_wp2_with fail
        refine (HR.out _ Hb3.out).mono ?_
        rintro e w4 ⟨rfl, hb4⟩
        have Hb4 := Lib.hid hb4; clear hb4
        go_wp2_with fail
        refine (HN.out _ Hb4.out).mono ?_
        rintro e w5 ⟨rfl, hb5⟩
        have Hb5 := Lib.hid hb5; clear hb5
        go_wp2_with fail
        refine (HF.out _ Hb5.out).mono ?_
        rintro e w6 ⟨rfl, hb6⟩
        have Hb6 := Lib.hid hb6; clear hb6
        go_wp2_with fail
        go_ret
        exact ⟨rfl, Hb6.out⟩
    · rcases H0.out rfl with e | ⟨m1, m2⟩
      · have k0 : (a.toList == b.toList) = true := by rw [Txt.eq_dec]; exact decide_eq_true (Txt.ext e)
        clear e
        rcases ty with rfl | rfl | rfl
        · have kz : decide (0 < z) = false := decide_eq_false (by have := ht (by omega) (by omega); omega)
          clear ht he
          go_wp2_with fail
          refine (HX.out _ Hb0.out).mono ?_
          rintro e w1 ⟨rfl, hb1⟩
          have Hb1 := Lib.hid hb1; clear hb1
          go_wp2_with fail
          refine (HY.out _ Hb1.out).mono ?_
          rintro e w2 ⟨rfl, hb2⟩
          have Hb2 := Lib.hid hb2; clear hb2
          go_wp2_with fail
          refine (HZ.out _ Hb2.out).mono ?_
          rintro e w3 ⟨rfl, hb3⟩
          have Hb3 := Lib.hid hb3; clear hb3
          go_wp2_with fail
          refine (HR.out _ Hb3.out).mono ?_
          rintro e w4 ⟨rfl, hb4⟩
          have Hb4 := Lib.hid hb4; clear hb4
          go_wp2_with fail
          refine (HN.out _ Hb4.out).mono ?_
          rintro e w5 ⟨rfl, hb5⟩
          have Hb5 := Lib.hid hb5; clear hb5
          go_wp2_with fail
          refine (HF.out _ Hb5.out).mono ?_
          rintro e w6 ⟨rfl, hb6⟩
          have Hb6 := Lib.hid hb6; clear hb6
          go_wp2_with fail
          go_ret
          exact ⟨rfl, Hb6.out⟩
        · obtain rfl : z = 0 := he rfl rfl
          clear ht he
          go_wp2_with fail
          refine (HX.out _ Hb0.out).mono ?_
          rintro e w1 ⟨rfl, hb1⟩
          have Hb1 := Lib.hid hb1; clear hb1
          go_wp2_with fail
          refine (HY.out _ Hb1.out).mono ?_
          rintro e w2 ⟨rfl, hb2⟩
          have Hb2 := Lib.hid hb2; clear hb2
          go_wp2_with fail
          refine (HZ.out _ Hb2.out).mono ?_
          rintro e w3 ⟨rfl, hb3⟩
          have Hb3 := Lib.hid hb3; clear hb3
          go_wp2_with fail
          refine (HR.out _ Hb3.out).mono ?_
          rintro e w4 ⟨rfl, hb4⟩
          have Hb4 := Lib.hid hb4; clear hb4
          go_wp2_with fail
          refine (HN.out _ Hb4.out).mono ?_
          rintro e w5 ⟨rfl, hb5⟩
          have Hb5 := Lib.hid hb5; clear hb5
          go_wp2_with fail
          refine (HF.out _ Hb5.out).mono ?_
          rintro e w6 ⟨rfl, hb6⟩
          have Hb6 := Lib.hid hb6; clear hb6
          go_wp2_with fail
          go_ret
          exact ⟨rfl, Hb6.out⟩
        · clear ht he
          go_wp2_with fail
          refine (HX.out _ Hb0.out).mono ?_
          rintro e w1 ⟨rfl, hb1⟩
          have Hb1 := Lib.hid hb1; clear hb1
          go_wp2_with fail
          refine (HY.out _ Hb1.out).mono ?_
          rintro e w2 ⟨rfl, hb2⟩
          have Hb2 := Lib.hid hb2; clear hb2
          go_wp2_with fail
          refine (HZ.out _ Hb2.out).mono ?_
          rintro e w3 ⟨rfl, hb3⟩
          have Hb3 := Lib.hid hb3; clear hb3
          go_wp2_with fail
          refine (HR.out _ Hb3.out).mono ?_
          rintro e w4 ⟨rfl, hb4⟩
          have Hb4 := Lib.hid hb4; clear hb4
          go_wp2_with fail
          refine (HN.out _ Hb4.out).mono ?_
          rintro e w5 ⟨rfl, hb5⟩
          have Hb5 := Lib.hid hb5; clear hb5
          go_wp2_with fail
          refine (HF.out _ Hb5.out).mono ?_
          rintro e w6 ⟨rfl, hb6⟩
          have Hb6 := Lib.hid hb6; clear hb6
          go_wp2_with fail
          go_ret
          exact ⟨rfl, Hb6.out⟩
      · obtain ⟨q, hq⟩ : ∃ q, q = (a.toList == b.toList) := ⟨_, rfl⟩
        have k0 := hq.symm
        clear hq
        replace HMa := Lib.hid (fun W h => by have := HMa.out W h; rw [m1] at this; exact this)
        replace HMb := Lib.hid (fun W h => by have := HMb.out W h; rw [m2] at this; exact this)
        cases q with
        | true =>
          rcases ty with rfl | rfl | rfl
          · have kz : decide (0 < z) = false := decide_eq_false (by have := ht (by omega) (by omega); omega)
            clear ht he
            go_wp2_with fail
            refine (HX.out _ Hb0.out).mono ?_
            rintro e w1 ⟨rfl, hb1⟩
            have Hb1 := Lib.hid hb1; clear hb1
            go_wp2_with fail
            refine (HY.out _ Hb1.out).mono ?_
            rintro e w2 ⟨rfl, hb2⟩
            have Hb2 := Lib.hid hb2; clear hb2
            go_wp2_with fail
            refine (HZ.out _ Hb2.out).mono ?_
            rintro e w3 ⟨rfl, hb3⟩
            have Hb3 := Lib.hid hb3; clear hb3
            go_wp2_with fail
            refine (HR.out _ Hb3.out).mono ?_
            rintro e w4 ⟨rfl, hb4⟩
            have Hb4 := Lib.hid hb4; clear hb4
            go_wp2_with fail
            refine (HN.out _ Hb4.out).mono ?_
            rintro e w5 ⟨rfl, hb5⟩
            have Hb5 := Lib.hid hb5; clear hb5
            go_wp2_with fail
            refine (HF.out _ Hb5.out).mono ?_
            rintro e w6 ⟨rfl, hb6⟩
            have Hb6 := Lib.hid hb6; clear hb6
            go_wp2_with fail
            go_ret
            exact ⟨rfl, Hb6.out⟩
          · obtain rfl : z = 0 := he rfl rfl
            clear ht he
            go_wp2_with fail
            refine (HX.out _ Hb0.out).mono ?_
            rintro e w1 ⟨rfl, hb1⟩
            have Hb1 := Lib.hid hb1; clear hb1
            go_wp2_with fail
            refine (HY.out _ Hb1.out).mono ?_
            rintro e w2 ⟨rfl, hb2⟩
            have Hb2 := Lib.hid hb2; clear hb2
            go_wp2_with fail
            refine (HZ.out _ Hb2.out).mono ?_
            rintro e w3 ⟨rfl, hb3⟩
            have Hb3 := Lib.hid hb3; clear hb3
            go_wp2_with fail
            refine (HR.out _ Hb3.out).mono ?_
            rintro e w4 ⟨rfl, hb4⟩
            have Hb4 := Lib.hid hb4; clear hb4
            go_wp2_with fail
            refine (HN.out _ Hb4.out).mono ?_
            rintro e w5 ⟨rfl, hb5⟩
            have Hb5 := Lib.hid hb5; clear hb5
            go_wp2_with fail
            refine (HF.out _ Hb5.out).mono ?_
            rintro e w6 ⟨rfl, hb6⟩
            have Hb6 := Lib.hid hb6; clear hb6
            go_wp2_with fail
            go_ret
            exact ⟨rfl, Hb6.out⟩
          · clear ht he
            go_wp2_with fail
            refine (HX.out _ Hb0.out).mono ?_
            rintro e w1 ⟨rfl, hb1⟩
            have Hb1 := Lib.hid hb1; clear hb1
            go_wp2_with fail
            refine (HY.out _ Hb1.out).mono ?_
            rintro e w2 ⟨rfl, hb2⟩
            have Hb2 := Lib.hid hb2; clear hb2
            go_wp2_with fail
            refine (HZ.out _ Hb2.out).mono ?_
            rintro e w3 ⟨rfl, hb3⟩
            have Hb3 := Lib.hid hb3; clear hb3
            go_wp2_with fail
            refine (HR.out _ Hb3.out).mono ?_
            rintro e w4 ⟨rfl, hb4⟩
            have Hb4 := Lib.hid hb4; clear hb4
            go_wp2_with fail
            refine (HN.out _ Hb4.out).mono ?_
            rintro e w5 ⟨rfl, hb5⟩
            have Hb5 := Lib.hid hb5; clear hb5
            go_wp2_with fail
            refine (HF.out _ Hb5.out).mono ?_
            rintro e w6 ⟨rfl, hb6⟩
            have Hb6 := Lib.hid hb6; clear hb6
            go_wp2_with fail
            go_ret
            exact ⟨rfl, Hb6.out⟩
        | false =>
          rcases ty with rfl | rfl | rfl
          · have kz : decide (0 < z) = false := decide_eq_false (by have := ht (by omega) (by omega); omega)
            clear ht he
            go_wp2_with fail
            refine (HX.out _ Hb0.out).mono ?_
            rintro e w1 ⟨rfl, hb1⟩
            have Hb1 := Lib.hid hb1; clear hb1
            go_wp2_with fail
            refine (HY.out _ Hb1.out).mono ?_
            rintro e w2 ⟨rfl, hb2⟩
            have Hb2 := Lib.hid hb2; clear hb2
            go_wp2_with fail
            refine (HZ.out _ Hb2.out).mono ?_
            rintro e w3 ⟨rfl, hb3⟩
            have Hb3 := Lib.hid hb3; clear hb3
            go_wp2_with fail
            refine (HR.out _ Hb3.out).mono ?_
            rintro e w4 ⟨rfl, hb4⟩
            have Hb4 := Lib.hid hb4; clear hb4
            go_wp2_with fail
            refine (HN.out _ Hb4.out).mono ?_
            rintro e w5 ⟨rfl, hb5⟩
            have Hb5 := Lib.hid hb5; clear hb5
            go_wp2_with fail
            refine (HF.out _ Hb5.out).mono ?_
            rintro e w6 ⟨rfl, hb6⟩
            have Hb6 := Lib.hid hb6; clear hb6
            go_wp2_with fail
            refine (HMa.out _ Hb6.out).mono ?_
            rintro e w7 ⟨rfl, hb7⟩
            have Hb7 := Lib.hid hb7; clear hb7
            go_wp2_with fail
            refine (HMb.out _ Hb7.out).mono ?_
            rintro e w8 ⟨rfl, hb8⟩
            have Hb8 := Lib.hid hb8; clear hb8
            go_wp2_with fail
            go_ret
            exact ⟨rfl, Hb8.out⟩
          · obtain rfl : z = 0 := he rfl rfl
            clear ht he
            go_wp2_with fail
            refine (HX.out _ Hb0.out).mono ?_
            rintro e w1 ⟨rfl, hb1⟩
            have Hb1 := Lib.hid hb1; clear hb1
            go_wp2_with fail
            refine (HY.out _ Hb1.out).mono ?_
            rintro e w2 ⟨rfl, hb2⟩
            have Hb2 := Lib.hid hb2; clear hb2
            go_wp2_with fail
            refine (HZ.out _ Hb2.out).mono ?_
            rintro e w3 ⟨rfl, hb3⟩
            have Hb3 := Lib.hid hb3; clear hb3
            go_wp2_with fail
            refine (HR.out _ Hb3.out).mono ?_
            rintro e w4 ⟨rfl, hb4⟩
            have Hb4 := Lib.hid hb4; clear hb4
            go_wp2_with fail
            refine (HN.out _ Hb4.out).mono ?_
            rintro e w5 ⟨rfl, hb5⟩
            have Hb5 := Lib.hid hb5; clear hb5
            go_wp2_with fail
            refine (HF.out _ Hb5.out).mono ?_
            rintro e w6 ⟨rfl, hb6⟩
            have Hb6 := Lib.hid hb6; clear hb6
            go_wp2_with fail
            refine (HMa.out _ Hb6.out).mono ?_
            rintro e w7 ⟨rfl, hb7⟩
            have Hb7 := Lib.hid hb7; clear hb7
            go_wp2_with fail
            refine (HMb.out _ Hb7.out).mono ?_
            rintro e w8 ⟨rfl, hb8⟩
            have Hb8 := Lib.hid hb8; clear hb8
            go_wp2_with fail
            go_ret
            exact ⟨rfl, Hb8.out⟩
          · clear ht he
            go_wp2_with fail
            refine (HX.out _ Hb0.out).mono ?_
            rintro e w1 ⟨rfl, hb1⟩
            have Hb1 := Lib.hid hb1; clear hb1
            go_wp2_with fail
            refine (HY.out _ Hb1.out).mono ?_
            rintro e w2 ⟨rfl, hb2⟩
            have Hb2 := Lib.hid hb2; clear hb2
            go_wp2_with fail
            refine (HZ.out _ Hb2.out).mono ?_
            rintro e w3 ⟨rfl, hb3⟩
            have Hb3 := Lib.hid hb3; clear hb3
            go_wp2_with fail
            refine (HR.out _ Hb3.out).mono ?_
            rintro e w4 ⟨rfl, hb4⟩
            have Hb4 := Lib.hid hb4; clear hb4
            go_wp2_with fail
            refine (HN.out _ Hb4.out).mono ?_
            rintro e w5 ⟨rfl, hb5⟩
            have Hb5 := Lib.hid hb5; clear hb5
            go_wp2_with fail
            refine (HF.out _ Hb5.out).mono ?_
            rintro e w6 ⟨rfl, hb6⟩
            have Hb6 := Lib.hid hb6; clear hb6
            go_wp2_with fail
            refine (HMa.out _ Hb6.out).mono ?_
            rintro e w7 ⟨rfl, hb7⟩
            have Hb7 := Lib.hid hb7; clear hb7
            go_wp2_with fail
            refine (HMb.out _ Hb7.out).mono ?_
            rintro e w8 ⟨rfl, hb8⟩
            have Hb8 := Lib.hid hb8; clear hb8
            go_wp2_with fail
            go_ret
            exact ⟨rfl, Hb8.out⟩
    · clear ht he
      go_wp2_with fail
      refine (HX.out _ Hb0.out).mono ?_
      rintro e w1 ⟨rfl, hb1⟩
      have Hb1 := Lib.hid hb1; clear hb1
      go_wp2_with fail
      refine (HY.out _ Hb1.out).mono ?_
      rintro e w2 ⟨rfl, hb2⟩
      have Hb2 := Lib.hid hb2; clear hb2
      go_wp2_with fail
      refine (HZ.out _ Hb2.out).mono ?_
      rintro e w3 ⟨rfl, hb3⟩
      have Hb3 := Lib.hid hb3; clear hb3
      go_wp2_with fail
      refine (HR.out _ Hb3.out).mono ?_
      rintro e w4 ⟨rfl, hb4⟩
      have Hb4 := Lib.hid hb4; clear hb4
      go_wp2_with fail
      refine (HN.out _ Hb4.out).mono ?_
      rintro e w5 ⟨rfl, hb5⟩
      have Hb5 := Lib.hid hb5; clear hb5
      go_wp2_with fail
      refine (HF.out _ Hb5.out).mono ?_
      rintro e w6 ⟨rfl, hb6⟩
      have Hb6 := Lib.hid hb6; clear hb6
      go_wp2_with fail
      go_ret
      exact ⟨rfl, Hb6.out⟩
end Go.Proofs.YtblkdcapampniaaDoor
