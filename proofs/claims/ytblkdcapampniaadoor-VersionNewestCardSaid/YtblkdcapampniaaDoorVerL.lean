/- The walks of cooperref01.Great and of the chapter's examples. Condition: the library's variables as they were laid. -/
import Derived.Test.YtblkdcapampniaaDoorRefL
import Derived.Test.YtblkdcapampniaaDoorVerCmp
set_option linter.unusedVariables false
set_option linter.unusedSimpArgs false
namespace Go.Proofs.YtblkdcapampniaaDoor
open Go.RowKit Go.Lib VerN

abbrev RTs : Rd (List ByteArray) := RSlice 1 RStr
theorem txts_open {w : World} {v : Value} {l : List ByteArray} (h : RTs w [v] l) : ∃ a cap, v = .slice a l.length cap ∧ l.length ≤ 9223372036854775807 ∧ ∀ i (hi : i < l.length), ∃ b off, a = some ⟨b, off, none⟩ ∧ w.cell? ⟨b, off + i, none⟩ = some (.string l[i]) ∧ l[i].size ≤ maxLen := by
  obtain ⟨a, cap, hv, hcap, hmax, hel⟩ := h
  simp only [List.cons.injEq, and_true] at hv
  unfold maxLen at hmax
  refine ⟨a, cap, hv, by omega, fun i hi => ?_⟩
  obtain ⟨b, off, ecs, h1, h2, h3, h4, h5⟩ := hel i l[i] (List.getElem?_eq_getElem hi)
  subst h4
  exact ⟨b, off, h1, by simpa using h3 0 _ rfl, h5⟩
set_option maxRecDepth 10000 in
set_option maxHeartbeats 1000000 in
theorem great1_any {w : World} {v : Value} {l : List ByteArray} (h : RTs w [v] l) : Calls Tryd.prog 14 #[v] w fun e w' => (∃ r, e = .returned (.bool r) ∧ (r = false → ∀ x ∈ l, x.size ≤ 9000)) ∧ w = w' := by
  obtain ⟨a, cap, rfl, hz, g⟩ := txts_open h
  obtain ⟨n, hn⟩ : ∃ n, n = l.length := ⟨_, rfl⟩
  rw [← hn] at hz h ⊢
  have Hh := Lib.hid h; have Hg := Lib.hid g; have Hn := Lib.hid hn; clear h g hn
  go_enter Tryd.func14, Tryd.ntmps14
  go_wp2_with fail
  go_loopw [3, 7] (fun o i wr => ∃ k c : Nat, k ≤ n ∧ i = .int .i64 k ∧ o = .int .i64 c ∧ c ≤ 9000 ∧ (∀ x ∈ l.take k, x.size ≤ 9000) ∧ w = wr) (fun _ i _ => n - (RowKit.intOf i).toNat)
  case atStart => exact ⟨0, 0, Nat.zero_le _, rfl, rfl, by omega, (fun x hx => by simp at hx), rfl⟩
  case round =>
    obtain ⟨k, c, hk, rfl, rfl, hc, hall, rfl⟩ := hrel
    by_cases hlt : k < n
    · have hkl : k < l.length := by have := Hn.out; omega
      obtain ⟨b, off, rfl, d0, hsx⟩ := Hg.out k hkl
      obtain ⟨x, hx⟩ : ∃ x, x = l[k] := ⟨_, rfl⟩
      rw [← hx] at d0 hsx
      obtain ⟨q, hq⟩ : ∃ q, q = min x.size 9000 := ⟨_, rfl⟩
      have hq9 : q ≤ 9000 := by omega
      have k5 : (0 : Int) ≤ (k : Int) := by omega
      have k6 : (k : Int) < (n : Int) := by omega
      by_cases hbig : 9000 < c + (1 + q)
      · have k7 : decide ((9000 : Int) < (c : Int) + (1 + (q : Int))) = true := by simp; omega
        have Hall := Lib.hid hall; have Hx := Lib.hid hx; clear hall hx
        go_wp2_with fail
        go_ret
        exact ⟨⟨_, rfl, fun h => by cases h⟩, rfl⟩
      · have k7 : decide ((9000 : Int) < (c : Int) + (1 + (q : Int))) = false := by simp; omega
        have hnx : ∀ y ∈ l.take (k + 1), y.size ≤ 9000 := fun y hy => by
          rw [List.take_succ_eq_append_getElem hkl, ← hx] at hy
          rcases List.mem_append.1 hy with hy | hy
          · exact hall y hy
          · rw [List.mem_singleton] at hy; subst hy; omega
        have Hall := Lib.hid hall; have Hx := Lib.hid hx; have Hnx := Lib.hid hnx; clear hall hx hnx
        go_wp2_with fail
        go_roundw
        case rel => exact ⟨k + 1, c + (1 + q), by omega, by go_num, by rw [show (c : Int) + (1 + min (x.size : Int) 9000) = ((c + (1 + q) : Nat) : Int) by omega], by omega, Hnx.out, by first | rfl | trivial⟩
        case measure => simp [RowKit.intOf]; omega
    · obtain rfl : k = n := by omega
      have e : l.take k = l := List.take_of_length_le (by have := Hn.out; omega)
      rw [e] at hall
      clear e
      have Hall := Lib.hid hall; clear hall
      go_wp2_with fail
      go_ret
      exact ⟨⟨_, rfl, fun _ => Hall.out⟩, rfl⟩
theorem ex1 : compareL [49, 46, 50] [49, 46, 49, 48] = -1 := by decide
theorem ex2 : compareL [49, 46, 114, 99] [49] = -1 := by decide
theorem ex3 : compareL [49] [49, 46, 48] = -1 := by decide
set_option maxRecDepth 10000 in
set_option maxHeartbeats 1000000 in
theorem fixed01_any {w : World} (hD : Doors w) : Calls Tryd.prog 15 #[] w fun e w' => e = .returned (.bool true) ∧ Below w.heap.size w w' := by
  have h1 := verCompare_any ⟨#[49, 46, 50]⟩ ⟨#[49, 46, 49, 48]⟩ (by decide) (by decide) hD
  have h2 := fun (W : World) (h : Below w.heap.size w W) => verCompare_any ⟨#[49, 46, 114, 99]⟩ ⟨#[49]⟩ (by decide) (by decide) (hD.below h)
  have h3 := fun (W : World) (h : Below w.heap.size w W) => verCompare_any ⟨#[49]⟩ ⟨#[49, 46, 48]⟩ (by decide) (by decide) (hD.below h)
  simp only [ex1, ex2, ex3] at h1 h2 h3
  have H1 := Lib.hid h1; have H2 := Lib.hid h2; have H3 := Lib.hid h3; have HD := Lib.hid hD; clear h1 h2 h3 hD
  go_enter Tryd.func15, Tryd.ntmps15
  go_wp2_with fail
  refine H1.out.mono ?_
  rintro e w1 ⟨rfl, hb1⟩
  have h4 := H2.out w1 hb1
  have Hb1 := Lib.hid hb1; have H4 := Lib.hid h4; clear hb1 h4
  go_wp2_with fail
  refine H4.out.mono ?_
  rintro e w2 ⟨rfl, hb2⟩
  have hb3 := Hb1.out.trans (hb2.mono Hb1.out.size)
  have h5 := H3.out w2 hb3
  have Hb2 := Lib.hid hb2; have Hb3 := Lib.hid hb3; have H5 := Lib.hid h5; clear hb2 hb3 h5
  go_wp2_with fail
  refine H5.out.mono ?_
  rintro e w3 ⟨rfl, hb4⟩
  have hb5 := Hb3.out.trans (hb4.mono Hb3.out.size)
  have Hb4 := Lib.hid hb4; have Hb5 := Lib.hid hb5; clear hb4 hb5
  go_wp2_with fail
  go_ret
  exact ⟨rfl, Hb5.out⟩
end Go.Proofs.YtblkdcapampniaaDoor
