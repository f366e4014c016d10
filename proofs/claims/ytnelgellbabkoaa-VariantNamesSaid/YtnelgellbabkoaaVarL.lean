/- The walk of cooperlaw04.VariantNames: it returns true. No condition. -/
import Derived.Test.YtnelgellbabkoaaVarF
import Derived.Test.YtnelgellbabkoaaVarR
import Derived.Test.YtnelgellbabkoaaOpen2
namespace Go.Proofs.Ytnelgellbabkoaa
open Go.RowKit Go.Shelf VarM
attribute [local go_sem ↓] Go.wp_at_zero Go.wp_at_succ

set_option maxRecDepth 10000 in
set_option maxHeartbeats 1000000 in
theorem variantNames_true (s : ByteArray) (hs : s.size ≤ 9223372036854775807) (w : World) : Calls Try.prog 4 #[.string s] w fun e w' => e = .returned (.bool true) ∧ Below w.heap.size w w' := by
  have hF := fixed04 w
  have h1 := fun W => name_any s hs W
  have h2 := fun W => nameRef_any s hs W
  have h3 := fun W => value_any s hs W
  have h4 := fun W => valueRef_any s hs W
  obtain ⟨p, hp⟩ : ∃ p, p = nameOf s.data.toList := ⟨_, rfl⟩
  obtain ⟨q, hq⟩ : ∃ p, p = valueOf s.data.toList := ⟨_, rfl⟩
  rw [← hp] at h1 h2
  rw [← hq] at h3 h4
  have e1 : (p == p) = true := by simp
  have e2 : (q == q) = true := by simp
  have HF := Lib.hid hF; have H1 := Lib.hid h1; have H2 := Lib.hid h2; have H3 := Lib.hid h3; have H4 := Lib.hid h4; have Hp := Lib.hid hp; have Hq := Lib.hid hq; clear hF h1 h2 h3 h4 hp hq
  go_enter Try.func4, Try.ntmps4
  by_cases hl : 3000 < s.size
  · have k1 : decide ((3000 : Int) < (s.size : Int)) = true := by simp; omega
    go_wp2_with fail
    refine HF.out.mono ?_
    rintro e w1 ⟨rfl, hb⟩
    have Hb := Lib.hid hb; clear hb
    go_wp2_with fail
    go_ret
    exact ⟨rfl, Hb.out⟩
  · have k1 : decide ((3000 : Int) < (s.size : Int)) = false := by simp; omega
    go_wp2_with fail
    refine HF.out.mono ?_
    rintro e w1 ⟨rfl, hb⟩
    have Hb := Lib.hid hb; clear hb
    go_wp2_with fail
    refine (H1.out _).mono ?_
    rintro e w2 ⟨rfl, rfl⟩
    go_wp2_with fail
    refine (H2.out _).mono ?_
    rintro e w2 ⟨rfl, rfl⟩
    go_wp2_with fail
    refine (H3.out _).mono ?_
    rintro e w2 ⟨rfl, rfl⟩
    go_wp2_with fail
    refine (H4.out _).mono ?_
    rintro e w2 ⟨rfl, rfl⟩
    go_wp2_with fail
    go_ret
    exact ⟨rfl, Hb.out⟩
end Go.Proofs.Ytnelgellbabkoaa
