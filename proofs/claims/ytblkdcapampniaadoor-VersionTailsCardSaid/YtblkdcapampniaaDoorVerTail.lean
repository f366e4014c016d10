/- The walk of cooperlaw01.VersionTails: the law. Condition: the library's variables as they were laid, and the texts' reach. -/
import Derived.Test.YtblkdcapampniaaDoorVerLaw
import Derived.Test.YtblkdcapampniaaDoorVerT
import Derived.Lib.SmallJoins
set_option linter.unusedVariables false
set_option linter.unusedSimpArgs false
namespace Go.Proofs.YtblkdcapampniaaDoor
open Go.RowKit Go.Lib VerN

theorem dot_data (h a : ByteArray) : (h ++ ⟨#[46]⟩ ++ a).data.toList = h.data.toList ++ 46 :: a.data.toList := by
  rw [Go.Joins.data_append, Go.Joins.data_append, List.append_assoc]
  rfl
theorem dot_size (h a : ByteArray) : (h ++ ⟨#[46]⟩ ++ a).size = h.size + 1 + a.size := by
  rw [← Txt.len, dot_data, List.length_append, List.length_cons, Txt.len, Txt.len]
  omega
set_option maxRecDepth 10000 in
set_option maxHeartbeats 4000000 in
theorem versionTails_true (h a b : ByteArray) (hh : h.size ≤ 9223372036854775807) (ha : a.size ≤ 9223372036854775807) (hb : b.size ≤ 9223372036854775807) {w : World} (hD : Doors w) :
    Calls Tryd.prog 5 #[.string h, .string a, .string b] w fun e w' => e = .returned (.bool true) ∧ Below w.heap.size w w' := by
  have hG := great1_any (lit_texts w [h, a, b] (by simp) (by simp [maxLen]; omega))
  have hb0 : Below w.heap.size w (w.alloc (.cells #[.string h, .string a, .string b] 9)) := below_alloc1 _ _
  have hF := fun (W : World) (h : Below w.heap.size w W) => calls_from h (fixed01_any (hD.below h))
  simp only [List.map_cons, List.map_nil, List.length_cons, List.length_nil, Nat.zero_add, Nat.reduceAdd] at hG
  have HG := Lib.hid hG; have Hb0 := Lib.hid hb0; have HF := Lib.hid hF; clear hG hb0 hF
  go_enter Tryd.func5, Tryd.ntmps5
  go_wp2_with fail
  refine HG.out.mono ?_
  rintro e w1 ⟨⟨r, rfl, hr⟩, rfl⟩
  cases r with
  | true =>
    clear hr
    go_wp2_with fail
    refine (HF.out _ Hb0.out).mono ?_
    rintro e w1 ⟨rfl, hb1⟩
    have Hb1 := Lib.hid hb1; clear hb1
    go_wp2_with fail
    go_ret
    exact ⟨rfl, Hb1.out⟩
  | false =>
    have h9 := hr rfl
    clear hr
    have zh : h.size ≤ 9000 := h9 h (by simp)
    have za : a.size ≤ 9000 := h9 a (by simp)
    have zb : b.size ≤ 9000 := h9 b (by simp)
    clear h9
    obtain ⟨x, hx⟩ : ∃ x, x = h ++ ⟨#[46]⟩ ++ a := ⟨_, rfl⟩
    obtain ⟨y, hy⟩ : ∃ y, y = h ++ ⟨#[46]⟩ ++ b := ⟨_, rfl⟩
    have zx : x.size ≤ 1000000 := by rw [hx, dot_size]; omega
    have zy : y.size ≤ 1000000 := by rw [hy, dot_size]; omega
    have hMx := fun (W : World) (k : Below w.heap.size w W) => calls_from k (may1_any x zx W)
    have hMy := fun (W : World) (k : Below w.heap.size w W) => calls_from k (may1_any y zy W)
    have hX := fun (W : World) (k : Below w.heap.size w W) => calls_from k (verCompare_any x y zx zy (hD.below k))
    have hY := fun (W : World) (k : Below w.heap.size w W) => calls_from k (verCompare_any a b (by omega) (by omega) (hD.below k))
    obtain ⟨c, hc⟩ : ∃ c, c = compareL a.data.toList b.data.toList := ⟨_, rfl⟩
    obtain ⟨d, hd⟩ : ∃ c, c = compareL x.data.toList y.data.toList := ⟨_, rfl⟩
    obtain ⟨p, hp⟩ : ∃ c, c = mayL x.data.toList := ⟨_, rfl⟩
    obtain ⟨q, hq⟩ : ∃ c, c = mayL y.data.toList := ⟨_, rfl⟩
    have hcd : p = true → q = true → d = c := fun h1 h2 => by
      rw [hp, hx, dot_data] at h1
      rw [hq, hy, dot_data] at h2
      rw [hd, hc, hx, hy, dot_data, dot_data]
      exact compare_tail h1 h2
    rw [← hc] at hY
    rw [← hd] at hX
    rw [← hp] at hMx
    rw [← hq] at hMy
    have e1 := run_string_add (P := Tryd.prog) (w.alloc (.cells #[.string h, .string a, .string b] 9)) h ⟨#[46]⟩ (by omega) (by decide)
    rw [hx] at hMx hX
    rw [hy] at hMy hX
    have e0 : (h ++ ⟨#[46]⟩).size = h.size + 1 := by rw [← Txt.len, Go.Joins.data_append, List.length_append, Txt.len]; rfl
    clear hx hy hc hd hp hq e1
    have HMx := Lib.hid hMx; have HMy := Lib.hid hMy; have HX := Lib.hid hX; have HY := Lib.hid hY; have HD := Lib.hid hD; clear hMx hMy hX hY hD
    cases p with
    | false =>
      clear hcd
      go_wp2_with fail
      refine (HMx.out _ Hb0.out).mono ?_
      rintro e w1 ⟨rfl, hb1⟩
      have Hb1 := Lib.hid hb1; clear hb1
      go_wp2_with fail
      refine (HF.out _ Hb1.out).mono ?_
      rintro e w2 ⟨rfl, hb2⟩
      have Hb2 := Lib.hid hb2; clear hb2
      go_wp2_with fail
      go_ret
      exact ⟨rfl, Hb2.out⟩
    | true =>
      cases q with
      | false =>
        clear hcd
        go_wp2_with fail
        refine (HMx.out _ Hb0.out).mono ?_
        rintro e w1 ⟨rfl, hb1⟩
        have Hb1 := Lib.hid hb1; clear hb1
        go_wp2_with fail
        refine (HMy.out _ Hb1.out).mono ?_
        rintro e w2 ⟨rfl, hb2⟩
        have Hb2 := Lib.hid hb2; clear hb2
        go_wp2_with fail
        refine (HF.out _ Hb2.out).mono ?_
        rintro e w3 ⟨rfl, hb3⟩
        have Hb3 := Lib.hid hb3; clear hb3
        go_wp2_with fail
        go_ret
        exact ⟨rfl, Hb3.out⟩
      | true =>
        obtain rfl := hcd rfl rfl
        clear hcd
        go_wp2_with fail
        refine (HMx.out _ Hb0.out).mono ?_
        rintro e w1 ⟨rfl, hb1⟩
        have Hb1 := Lib.hid hb1; clear hb1
        go_wp2_with fail
        refine (HMy.out _ Hb1.out).mono ?_
        rintro e w2 ⟨rfl, hb2⟩
        have Hb2 := Lib.hid hb2; clear hb2
        go_wp2_with fail
        refine (HF.out _ Hb2.out).mono ?_
        rintro e w3 ⟨rfl, hb3⟩
        have Hb3 := Lib.hid hb3; clear hb3
        go_wp2_with fail
        refine (HX.out _ Hb3.out).mono ?_
        rintro e w4 ⟨rfl, hb4⟩
        have Hb4 := Lib.hid hb4; clear hb4
        go_wp2_with fail
        refine (HY.out _ Hb4.out).mono ?_
        rintro e w5 ⟨rfl, hb5⟩
        have Hb5 := Lib.hid hb5; clear hb5
        go_wp2_with fail
        go_ret
        exact ⟨rfl, Hb5.out⟩
end Go.Proofs.YtblkdcapampniaaDoor
