/- The walk of cmp.Compare at texts, by their bytes. No condition. -/
import Derived.Test.YtblkdcapampniaaDoorCmpI
import Derived.Test.YtblkdcapampniaaDoorTxt
import Derived.Test.YtblkdcapampniaaDoorVerP
import Derived.Sort.Walk0
set_option linter.unusedVariables false
set_option linter.unusedSimpArgs false
namespace Go.Proofs.YtblkdcapampniaaDoor
open Go.RowKit Go.Lib VerN

theorem less_dec (x y : ByteArray) : Op.bytesLess x.toList y.toList = decide (x.data.toList < y.data.toList) := by
  rw [Go.Proofs.bytesLess_eq, toList_data, toList_data]
theorem compareInt_is (x y : Int) : compareInt x y = cmpI x y := rfl
set_option maxRecDepth 10000 in
theorem compareW_any (x y : ByteArray) (w : World) : Calls Tryd.prog 46 #[.string x, .string y] w fun e w' => e = .returned (.int .i64 (cmpW x.data.toList y.data.toList)) ∧ w = w' := by
  obtain ⟨p, hp⟩ : ∃ p, p = Op.bytesLess x.toList y.toList := ⟨_, rfl⟩
  obtain ⟨q, hq⟩ : ∃ q, q = (x.toList == y.toList) := ⟨_, rfl⟩
  have e : cmpW x.data.toList y.data.toList = if p = true then -1 else if q = true then 0 else 1 := by
    unfold cmpW
    rw [hp, hq, less_dec, Txt.eq_dec]
    by_cases h1 : x.data.toList < y.data.toList
    · rw [if_pos h1, decide_eq_true h1]; rfl
    · rw [if_neg h1, decide_eq_false h1]
      by_cases h2 : x = y
      · rw [decide_eq_true h2, if_neg (by rw [h2]; exact List.lt_irrefl _)]; rfl
      · rw [decide_eq_false h2, if_pos (dec_ne (fun e => h2 (Txt.ext e)) h1)]; rfl
  rw [e]
  have hpe := hp.symm
  have hqe := hq.symm
  clear e
  cases p with
  | true =>
    have Hp := Lib.hid hp; have Hq := Lib.hid hq; clear hp hq
    go_enter Tryd.func46, Tryd.ntmps46
    go_wp2
    go_ret
    exact ⟨rfl, rfl⟩
  | false =>
    cases q with
    | true =>
      have Hp := Lib.hid hp; have Hq := Lib.hid hq; clear hp hq
      go_enter Tryd.func46, Tryd.ntmps46
      go_wp2
      go_ret
      exact ⟨rfl, rfl⟩
    | false =>
      have Hp := Lib.hid hp; have Hq := Lib.hid hq; clear hp hq
      go_enter Tryd.func46, Tryd.ntmps46
      go_wp2
      go_ret
      exact ⟨rfl, rfl⟩
end Go.Proofs.YtblkdcapampniaaDoor
