/- The walk of cnf.numbers: the numbers of words. Condition: the library's variables as they were laid, and words of at most 10000 bytes. -/
import Derived.Test.YtalliggdfoeahaaGreatDoorCrdM
import Derived.Test.YtalliggdfoeahaaGreatDoorCrdS
import Derived.Test.YtalliggdfoeahaaGreatDoorDoor
import Derived.Test.YtalliggdfoeahaaGreatDoorApp
import Derived.Test.YtalliggdfoeahaaGreatDoorCnfB
import Derived.Lib.AtoiAllCases
set_option linter.unusedVariables false
set_option linter.unusedSimpArgs false
namespace Go.Proofs.YtalliggdfoeahaaGreatDoor
open Go.RowKit Go.Lib Go.Sort
open CnfM (InR)

def NumsPost (w : World) (n : Nat) (e : Ending) (w' : World) : Prop :=
  ((∃ (v : Value) (L : List Int), e = .returned (.tuple #[v, .bool true]) ∧ L.length = n ∧ (∀ x ∈ L, InR x) ∧ w'.ownsRow w.heap.size 3 1 v n (L.map intv)) ∨ e = .returned (.tuple #[.slice none 0 0, .bool false])) ∧ Below w.heap.size w w'
def NumI (w : World) (k : Nat) (v : Value) (W : World) : Prop := ∃ L : List Int, L.length = k ∧ (∀ x ∈ L, InR x) ∧ W.ownsRow w.heap.size 3 1 v k (L.map intv) ∧ Below w.heap.size w W
set_option maxRecDepth 10000 in
set_option maxHeartbeats 2000000 in
theorem numbers_any {w : World} {v : Value} {l : List ByteArray} (h : RTs w [v] l) (hs : ∀ x ∈ l, x.size ≤ 10000) (hl : l.length ≤ 10000) (hD : Doors w) : Calls Tryz.prog 14 #[v] w (NumsPost w l.length) := by
  obtain ⟨a, cap, rfl, hz, g⟩ := txts_open h
  obtain ⟨n, hn⟩ : ∃ n, n = l.length := ⟨_, rfl⟩
  rw [← hn] at hz h hl ⊢
  have h0 : NumI w 0 (.slice none 0 0) w := ⟨[], rfl, by simp, World.ownsRow_nil _ _ _ _, Below.refl _ _⟩
  have Hh := Lib.hid h; have Hg := Lib.hid g; have Hn := Lib.hid hn; have Hs := Lib.hid hs; have HD := Lib.hid hD; have H0 := Lib.hid h0; clear h g hn hs hD h0
  go_enter Tryz.func14, Tryz.ntmps14
  go_wp2_with fail
  go_loopw [4, 11] (fun v i wr => ∃ k : Nat, k ≤ n ∧ i = .int .i64 k ∧ NumI w k v wr) (fun _ i _ => n - (intOf i).toNat)
  case atStart => exact ⟨0, Nat.zero_le _, rfl, H0.out⟩
  case round =>
    obtain ⟨k, hk, rfl, L, hLl, hLr, hrow, hb⟩ := hrel
    obtain ⟨oa, oc, rfl⟩ := own_shape hrow
    by_cases hlt : k < n
    · have hkl : k < l.length := by have := Hn.out; omega
      obtain ⟨b, off, rfl, d0, _⟩ := Hg.out k hkl
      have d1 := cell_later hb d0
      obtain ⟨x, hx⟩ : ∃ x, x = l[k] := ⟨_, rfl⟩
      rw [← hx] at d0 d1
      have hxz : x.size ≤ 10000 := by rw [hx]; exact Hs.out _ (List.getElem_mem hkl)
      have hA := atoi_any x (by omega) (HD.out.below hb)
      have k5 : (0 : Int) ≤ (k : Int) := by omega
      have k6 : (k : Int) < (n : Int) := by omega
      clear d0
      have Hx := Lib.hid hx; have Hrow := Lib.hid hrow; have Hb := Lib.hid hb; have HA := Lib.hid hA; have HLl := Lib.hid hLl; have HLr := Lib.hid hLr; clear hx hrow hb hA hLl hLr
      go_wp2_with fail
      refine HA.out.mono ?_
      rintro e w2 ⟨⟨y, hy, rfl⟩ | ⟨hy, y, N, rfl⟩, hb2⟩
      · have hyb := atoiAll_bounds hy
        have hrow2 := ownsRow_below Hrow.out hb2
        have hbw := Hb.out.trans (hb2.mono Hb.out.size)
        have hzz := hbw.size
        have Hy := Lib.hid hy; have Hrow2 := Lib.hid hrow2; have Hbw := Lib.hid hbw; have Hb2 := Lib.hid hb2; clear hy hrow2 hbw hb2
        go_wp2_with (at_builtin; (refine wpList_append_lit elem_int rfl (.tmp 22) (.tmp 24) rfl w.heap.size (.slice oa k oc) k (L.map intv) rfl Hrow2.out 1 #[.int .i64 y] rfl rfl (by simp [Value.oneCell']) (by omega) (by unfold maxLen; omega) (by omega) ?_; intro v9 w9 hown9 hg9 hm9; obtain ⟨a9, c9, rfl⟩ := own_shape hown9; have hb9 := (bel_own Hbw.out Hrow2.out (Nat.le_refl _) hg9 (by omega) : Below w.heap.size w w9); have Hown9 := Lib.hid hown9; have Hb9 := Lib.hid hb9; clear hown9 hg9 hm9 hb9))
        go_roundw
        case rel =>
          refine ⟨k + 1, by omega, by go_num, L ++ [y], by simp [HLl.out], fun z hz => ?_, by simpa using Hown9.out, Hb9.out⟩
          rcases List.mem_append.1 hz with hz | hz
          · exact HLr.out z hz
          · rw [List.mem_singleton.1 hz]; exact hyb
        case measure => simp [intOf]; omega
      · have hbw := Hb.out.trans (hb2.mono Hb.out.size)
        have Hy := Lib.hid hy; have Hbw := Lib.hid hbw; have Hb2 := Lib.hid hb2; clear hy hbw hb2
        go_wp2_with fail
        go_ret2
        exact ⟨.inr rfl, Hbw.out⟩
    · obtain rfl : k = n := by omega
      have Hrow := Lib.hid hrow; have Hb := Lib.hid hb; have HLl := Lib.hid hLl; have HLr := Lib.hid hLr; clear hrow hb hLl hLr
      go_wp2_with fail
      go_ret2
      exact ⟨.inl ⟨_, L, rfl, HLl.out, HLr.out, Hrow.out⟩, Hb.out⟩
end Go.Proofs.YtalliggdfoeahaaGreatDoor
