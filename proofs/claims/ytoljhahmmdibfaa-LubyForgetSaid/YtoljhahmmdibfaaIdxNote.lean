/- The walks of slices.IndexFunc at Note: the first element of which a predicate holds. Condition: what the predicate gives is read off its contract. -/
import Derived.Test.YtoljhahmmdibfaaIdxM
import Derived.Test.YtoljhahmmdibfaaRows
set_option linter.unusedVariables false
set_option linter.unusedSimpArgs false
namespace Go.Proofs.Ytoljhahmmdibfaa
open Go.RowKit
namespace IdxNote
theorem cells_4 {ecs : List Value} (h : ecs.length = 4) : ∃ u0 u1 u2 u3, ecs = [u0, u1, u2, u3] := by
  match ecs, h with
  | [u0, u1, u2, u3], _ => exact ⟨u0, u1, u2, u3, rfl⟩

/-- what the predicate is -/
def Pred {α : Type} (R : Rd α) (p : α → Bool) (g : Nat) (cb : Array Value) (l : List α) (w : World) : Prop :=
  ∀ W u0 u1 u2 u3 x, Below w.heap.size w W → x ∈ l → R W [u0, u1, u2, u3] x → Calls Try.prog g (#[.agg #[u0, u1, u2, u3]] ++ cb) W fun e w' => e = .returned (.bool (p x)) ∧ Below W.heap.size W w'
set_option maxRecDepth 10000 in
set_option maxHeartbeats 400000 in
theorem idx_any {α : Type} {R : Rd α} (hR : Stays R) (p : α → Bool) (g : Nat) (cb : Array Value) (eg : ∀ args w, (callFunc g args).run Try.prog w = .ok (.enter g args) w) {w : World} {v : Value} {l : List α} (hl : RSlice 4 R w [v] l) (hp : Pred R p g cb l w) :
    Calls Try.prog 68 #[v, .func (.func g) #[] cb] w fun e w' => e = .returned (.int .i64 (idxOf p l)) ∧ Below w.heap.size w w' := by
  obtain ⟨a, cap, hv, hcap, hmax, hel⟩ := hl
  simp only [List.cons.injEq, and_true] at hv
  subst hv
  unfold maxLen at hmax
  obtain ⟨n, hn⟩ : ∃ n, n = l.length := ⟨_, rfl⟩
  rw [← hn] at hcap ⊢
  have hn63 : n ≤ 9223372036854775807 := by omega
  have Hn := Lib.hid hn; have Hel := Lib.hid hel; have Hp := Lib.hid hp; clear hn hel hp
  go_enter Try.func68, Try.ntmps68
  go_wp2_with fail
  go_loopw [8] (fun i wr => ∃ k : Nat, k ≤ n ∧ i = .int .i64 k ∧ NoneIn p l k ∧ Below w.heap.size w wr) (fun i _ => n - (intOf i).toNat)
  case atStart => exact ⟨0, Nat.zero_le _, rfl, noneIn_zero p l, Below.refl _ _⟩
  case round =>
    obtain ⟨k, hk, rfl, hno, hb⟩ := hrel
    by_cases hlt : k < n
    · have hkl : k < l.length := by have := Hn.out; omega
      obtain ⟨x, hx⟩ : ∃ x, x = l[k]'hkl := ⟨_, rfl⟩
      obtain ⟨b, off, ecs, rfl, h4, h5, h6⟩ := Hel.out k x (by rw [hx]; exact List.getElem?_eq_getElem hkl)
      obtain ⟨u0, u1, u2, u3, rfl⟩ : ∃ u0 u1 u2 u3, ecs = [u0, u1, u2, u3] := cells_4 h4
      have hxl : x ∈ l := by rw [hx]; exact List.getElem_mem hkl
      have c0 : wr.cell? ⟨b, off + k * 4, none⟩ = some u0 := cell_later hb (by simpa using h5 0 u0 rfl)
      have c1 : wr.cell? ⟨b, off + k * 4 + 1, none⟩ = some u1 := cell_later hb (by simpa using h5 1 u1 rfl)
      have c2 : wr.cell? ⟨b, off + k * 4 + 2, none⟩ = some u2 := cell_later hb (by simpa using h5 2 u2 rfl)
      have c3 : wr.cell? ⟨b, off + k * 4 + 3, none⟩ = some u3 := cell_later hb (by simpa using h5 3 u3 rfl)
      have hcall := Hp.out wr u0 u1 u2 u3 x hb hxl (hR _ _ _ _ h6 hb)
      have q0 : (0 : Int) ≤ (k : Int) := by omega
      have q1 : (k : Int) < (n : Int) := by omega
      by_cases hpx : p x = true
      · rw [hpx] at hcall
        have hi : idxOf p l = k := idxOf_at hkl hno (by rw [← hx]; exact hpx)
        have Hx := Lib.hid hx; have Hno := Lib.hid hno; have Hcall := Lib.hid hcall; have H5 := Lib.hid h5; have H6 := Lib.hid h6; have Hpx := Lib.hid hpx; have Hi := Lib.hid hi; have Hb := Lib.hid hb; have Hxl := Lib.hid hxl; clear hx hno hcall h5 h6 hpx hi hb hxl
        clear h4
        go_wp2_with fail
        refine Hcall.out.mono ?_
        rintro e w2 ⟨rfl, hb2⟩
        have hb3 := Hb.out.trans (hb2.mono Hb.out.size)
        have Hb2 := Lib.hid hb2; have Hb3 := Lib.hid hb3; clear hb2 hb3
        go_wp2_with fail
        go_ret
        exact ⟨ret_int Hi.out.symm, Hb3.out⟩
      · have hpx' : p x = false := by simpa using hpx
        rw [hpx'] at hcall
        have hno2 := noneIn_succ hkl hno (by rw [← hx]; exact hpx')
        have Hx := Lib.hid hx; have Hno := Lib.hid hno; have Hcall := Lib.hid hcall; have H5 := Lib.hid h5; have H6 := Lib.hid h6; have Hpx := Lib.hid hpx; have Hpx' := Lib.hid hpx'; have Hno2 := Lib.hid hno2; have Hb := Lib.hid hb; have Hxl := Lib.hid hxl; clear hx hno hcall h5 h6 hpx hpx' hno2 hb hxl
        clear h4
        go_wp2_with fail
        refine Hcall.out.mono ?_
        rintro e w2 ⟨rfl, hb2⟩
        have hb3 := Hb.out.trans (hb2.mono Hb.out.size)
        have Hb2 := Lib.hid hb2; have Hb3 := Lib.hid hb3; clear hb2 hb3
        go_wp2_with fail
        go_roundw
        case rel => exact ⟨k + 1, by omega, by go_num, Hno2.out, Hb3.out⟩
        case measure => simp [intOf]; omega
    · have hi : idxOf p l = -1 := idxOf_none (by have := Hn.out; omega) hno
      have Hno := Lib.hid hno; have Hi := Lib.hid hi; have Hb := Lib.hid hb; clear hno hi hb
      go_wp2_with fail
      go_ret
      exact ⟨ret_int Hi.out.symm, Hb.out⟩
end IdxNote
end Go.Proofs.Ytoljhahmmdibfaa
