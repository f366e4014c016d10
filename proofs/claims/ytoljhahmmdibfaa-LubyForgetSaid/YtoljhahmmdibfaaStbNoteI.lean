/- The walks of slices.SortStableFunc at luby.Note: insertionSortCmpFunc. Printed by gen_stb.py. -/
import Derived.Test.YtoljhahmmdibfaaStbNoteR
import Derived.Shelf.SlSortCmp.QuietGrown
set_option linter.unusedVariables false
set_option linter.unusedSimpArgs false
namespace Go.Proofs.Ytoljhahmmdibfaa
open Go.Shelf Go.RowKit Go.Lib Go.Sort SortM StbA StbB
namespace StbNote
variable {α : Type} [Inhabited α] {f0 : α → Int} {f1 : α → Int} {f2 : α → Int} {f3 : α → Bool} {w0 : World} {blk off : Nat} {d0 : Array α}
variable {cf : α → α → Int} {g : Nat} {cb : Array Value}
set_option maxRecDepth 10000 in
set_option maxHeartbeats 8000000 in
theorem insertion_any {d : Array α} {w : World} (R : RowK (enc f0 f1 f2 f3) 4 w0 blk off d0) (S : SWK (enc f0 f1 f2 f3) 4 w0 blk off d w) (C : CmpLays Try.prog g cb (enc f0 f1 f2 f3) 4 cf blk off d0.size w0) (eg : ∀ args w, (callFunc g args).run Try.prog w = .ok (.enter g args) w)
    (hs : d.size = d0.size) {a b : Nat} (hab : a ≤ b) (hb : b ≤ d0.size) (cap : Nat) (hn : d0.size ≤ 1000000) :
    Calls Try.prog 74 #[.slice (some ⟨blk, off, none⟩) d0.size cap, .int .i64 a, .int .i64 b, .func (.func g) #[] cb] w fun e w' => e = .returned (.tuple #[]) ∧ SWK (enc f0 f1 f2 f3) 4 w0 blk off (Sort.insertionSort (ltOf cf) d a b) w' := by
  obtain ⟨N, hN⟩ : ∃ N, N = d0.size := ⟨_, rfl⟩
  rw [← hN] at hn hs hb ⊢
  have HS := Lib.hid S; have Hs := Lib.hid hs; have HN := Lib.hid hN; have HC := Lib.hid C; have HR := Lib.hid R; clear S hs hN C R
  go_enter Try.func74, Try.ntmps74
  go_wp2_with fail
  go_loopw [8] (fun x wr => ∃ (i : Nat) (dk : Array α), x = .int .i64 i ∧ a < i ∧ i ≤ b + 1 ∧ dk.size = N ∧ SWK (enc f0 f1 f2 f3) 4 w0 blk off dk wr ∧ insOuter (ltOf cf) a b i dk = insOuter (ltOf cf) a b (a + 1) d) (fun x _ => b + 1 - (intOf x).toNat)
  case atStart => exact ⟨a + 1, d, by go_num, by omega, by omega, Hs.out, HS.out, rfl⟩
  case round =>
    obtain ⟨i, dk, rfl, hai, hib, hsk, S, hO⟩ := hrel
    by_cases hlt : i < b
    · have w1 : IntKind.i64.wrap ((i : Int) + 1) = (i : Int) + 1 := IntWalk.i64_in _ (by omega)
      have hltz : (i : Int) < (b : Int) := by omega
      have HO := Lib.hid hO; have HS := Lib.hid S; have Hsk := Lib.hid hsk; clear hO S hsk
      go_wp2_with fail
      go_loopw [9] (fun x wq => ∃ (j : Nat) (dj : Array α), x = .int .i64 j ∧ a ≤ j ∧ j ≤ i ∧ dj.size = N ∧ SWK (enc f0 f1 f2 f3) 4 w0 blk off dj wq ∧ insInner (ltOf cf) a j dj = insInner (ltOf cf) a i dk) (fun x _ => (intOf x).toNat)
      case atStart => exact ⟨i, dk, rfl, by omega, Nat.le_refl _, Hsk.out, HS.out, rfl⟩
      case round =>
        obtain ⟨j, dj, rfl, haj, hji, hl, S, hI⟩ := hrel
        have out : (j ≤ a ∨ ltOf cf dj[j]! dj[j - 1]! = false) → insOuter (ltOf cf) a b (i + 1) dj = insOuter (ltOf cf) a b (a + 1) d := fun hs => by
          rw [← HO.out, insOuter_go _ _ _ _ _ hlt, ← hI, insInner_stop _ _ _ _ hs]
        by_cases hja : a < j
        · obtain ⟨jp, rfl⟩ : ∃ jp, j = jp + 1 := ⟨j - 1, by omega⟩
          have hlt2 := hlt
          have R := HR.out
          have C := HC.out
          rw [HN.out] at hl
          have hN' := HN.out
          have hGR := fun n os => SWK.grown S n os
          have hp := fun n os => cells (SWK.grown S n os) R hl (jp + 1) (by omega)
          obtain ⟨x, hx⟩ : ∃ v, v = dj[jp + 1]! := ⟨_, rfl⟩
          have hq := fun n os => cells (SWK.grown S n os) R hl (jp) (by omega)
          obtain ⟨y, hy⟩ : ∃ v, v = dj[jp]! := ⟨_, rfl⟩
          have hc := fun n os => SWK.cmp S C hl x y n os
          rw [← hx] at hp
          rw [← hy] at hq
          obtain ⟨x0, hx0⟩ : ∃ v, v = f0 x := ⟨_, rfl⟩
          obtain ⟨x1, hx1⟩ : ∃ v, v = f1 x := ⟨_, rfl⟩
          obtain ⟨x2, hx2⟩ : ∃ v, v = f2 x := ⟨_, rfl⟩
          obtain ⟨x3, hx3⟩ : ∃ v, v = f3 x := ⟨_, rfl⟩
          obtain ⟨y0, hy0⟩ : ∃ v, v = f0 y := ⟨_, rfl⟩
          obtain ⟨y1, hy1⟩ : ∃ v, v = f1 y := ⟨_, rfl⟩
          obtain ⟨y2, hy2⟩ : ∃ v, v = f2 y := ⟨_, rfl⟩
          obtain ⟨y3, hy3⟩ : ∃ v, v = f3 y := ⟨_, rfl⟩
          rw [← hx0, ← hx1, ← hx2, ← hx3] at hp
          rw [← hy0, ← hy1, ← hy2, ← hy3] at hq
          have p0 := fun n os => (hp n os).1
          have p1 := fun n os => (hp n os).2.2.1
          have p2 := fun n os => (hp n os).2.2.2.2.1
          have p3 := fun n os => (hp n os).2.2.2.2.2.2.1
          have q0 := fun n os => (hq n os).1
          have q1 := fun n os => (hq n os).2.2.1
          have q2 := fun n os => (hq n os).2.2.2.2.1
          have q3 := fun n os => (hq n os).2.2.2.2.2.2.1
          clear hp hq
          have hcg : ∀ n os, Calls Try.prog g (#[.agg #[.int .i64 (x0), .int .i64 (x1), .int .i64 (x2), .bool (x3)], .agg #[.int .i64 (y0), .int .i64 (y1), .int .i64 (y2), .bool (y3)]] ++ cb) (grow (wr.drewN n) os) fun e w' => e = .returned (.int .i64 (cf x y)) ∧ ∃ q os', w' = grow ((grow (wr.drewN n) os).drewN q) os' := by rw [hx0, hy0, hx1, hy1, hx2, hy2, hx3, hy3]; exact hc
          clear hc
          obtain ⟨cv, hcv⟩ : ∃ v, v = cf x y := ⟨_, rfl⟩
          rw [← hcv] at hcg
          have w2 : IntKind.i64.wrap (jp : Int) = (jp : Int) := IntWalk.i64_in _ (by omega)
          have n2 : ((jp : Int) + 1).toNat = jp + 1 := by omega
          have u2 : (0 : Int) ≤ (jp : Int) + 1 := by omega
          have v1 : (jp : Int) < (N : Int) := by omega
          have v2 : (jp : Int) + 1 < (N : Int) := by omega
          have v3 : (a : Int) < (jp : Int) + 1 := by omega
          clear S R C hN'
          cases hdec : decide (cv < 0) with
          | true =>
            have hlv : cv < 0 := of_decide_eq_true hdec
            have hI2 : insInner (ltOf cf) a jp (swp dj (jp + 1) jp) = insInner (ltOf cf) a i dk := by
              rw [← hI]
              have := insInner_go (ltOf cf) a (jp + 1) dj hja (by simp only [Nat.add_sub_cancel]; rw [← hx, ← hy]; unfold ltOf; rw [← hcv]; exact hdec)
              simp only [Nat.add_sub_cancel] at this
              exact this.symm
            have HI := Lib.hid hI; have HI2 := Lib.hid hI2; have Hl := Lib.hid hl; have Hout := Lib.hid out; have Hx := Lib.hid hx; have Hy := Lib.hid hy; have Hx0 := Lib.hid hx0; have Hy0 := Lib.hid hy0; have Hx1 := Lib.hid hx1; have Hy1 := Lib.hid hy1; have Hx2 := Lib.hid hx2; have Hy2 := Lib.hid hy2; have Hx3 := Lib.hid hx3; have Hy3 := Lib.hid hy3; have HGR := Lib.hid hGR; have Hcv := Lib.hid hcv; have Hdec := Lib.hid hdec; clear hI hI2 hl out hx hy hx0 hy0 hx1 hy1 hx2 hy2 hx3 hy3 hGR hcv hdec
            go_wp2_with fail
            have mixed : Try.prog.follows .mixedOrders = true := by kernel_rfl
            go_quiet_grown (first | (go_at_fn g; refine Calls.grown_of (hcg _ _)))
            go_wp2_with fail
            have S := HGR.out nq osq
            clear hcg p0 q0 p1 q1 p2 q2 p3 q3
            obtain ⟨w2, hw2⟩ : ∃ w2, w2 = grow (wr.drewN nq) osq := ⟨_, rfl⟩
            rw [← hw2] at S ⊢
            have R := HR.out
            have hl := Hl.out
            have hN' := HN.out
            have hEX := exch S R (jp + 1) (jp) (by omega) (by omega)
            obtain ⟨p0, pf0, p1, pf1, p2, pf2, p3, pf3⟩ := cells S R hl (jp + 1) (by omega)
            obtain ⟨q0, qf0, q1, qf1, q2, qf2, q3, qf3⟩ := cells S R hl (jp) (by omega)
            obtain ⟨x, hx⟩ : ∃ x, x = dj[jp + 1]! := ⟨_, rfl⟩
            obtain ⟨y, hy⟩ : ∃ y, y = dj[jp]! := ⟨_, rfl⟩
            rw [← hx] at p0 p1 p2 p3 hEX
            rw [← hy] at q0 q1 q2 q3 hEX
            obtain ⟨x0, hx0⟩ : ∃ v, v = f0 x := ⟨_, rfl⟩
            obtain ⟨y0, hy0⟩ : ∃ v, v = f0 y := ⟨_, rfl⟩
            rw [← hx0] at p0 hEX
            rw [← hy0] at q0 hEX
            obtain ⟨x1, hx1⟩ : ∃ v, v = f1 x := ⟨_, rfl⟩
            obtain ⟨y1, hy1⟩ : ∃ v, v = f1 y := ⟨_, rfl⟩
            rw [← hx1] at p1 hEX
            rw [← hy1] at q1 hEX
            obtain ⟨x2, hx2⟩ : ∃ v, v = f2 x := ⟨_, rfl⟩
            obtain ⟨y2, hy2⟩ : ∃ v, v = f2 y := ⟨_, rfl⟩
            rw [← hx2] at p2 hEX
            rw [← hy2] at q2 hEX
            obtain ⟨x3, hx3⟩ : ∃ v, v = f3 x := ⟨_, rfl⟩
            obtain ⟨y3, hy3⟩ : ∃ v, v = f3 y := ⟨_, rfl⟩
            rw [← hx3] at p3 hEX
            rw [← hy3] at q3 hEX
            have na00 : ¬ off + (jp + 1) * 4 = off + (jp) * 4 := by omega
            have nb00 : ¬ off + (jp) * 4 = off + (jp + 1) * 4 := by omega
            have na01 : ¬ off + (jp + 1) * 4 = off + (jp) * 4 + 1 := by omega
            have nb01 : ¬ off + (jp) * 4 = off + (jp + 1) * 4 + 1 := by omega
            have na02 : ¬ off + (jp + 1) * 4 = off + (jp) * 4 + 2 := by omega
            have nb02 : ¬ off + (jp) * 4 = off + (jp + 1) * 4 + 2 := by omega
            have na03 : ¬ off + (jp + 1) * 4 = off + (jp) * 4 + 3 := by omega
            have nb03 : ¬ off + (jp) * 4 = off + (jp + 1) * 4 + 3 := by omega
            have na10 : ¬ off + (jp + 1) * 4 + 1 = off + (jp) * 4 := by omega
            have nb10 : ¬ off + (jp) * 4 + 1 = off + (jp + 1) * 4 := by omega
            have na11 : ¬ off + (jp + 1) * 4 + 1 = off + (jp) * 4 + 1 := by omega
            have nb11 : ¬ off + (jp) * 4 + 1 = off + (jp + 1) * 4 + 1 := by omega
            have na12 : ¬ off + (jp + 1) * 4 + 1 = off + (jp) * 4 + 2 := by omega
            have nb12 : ¬ off + (jp) * 4 + 1 = off + (jp + 1) * 4 + 2 := by omega
            have na13 : ¬ off + (jp + 1) * 4 + 1 = off + (jp) * 4 + 3 := by omega
            have nb13 : ¬ off + (jp) * 4 + 1 = off + (jp + 1) * 4 + 3 := by omega
            have na20 : ¬ off + (jp + 1) * 4 + 2 = off + (jp) * 4 := by omega
            have nb20 : ¬ off + (jp) * 4 + 2 = off + (jp + 1) * 4 := by omega
            have na21 : ¬ off + (jp + 1) * 4 + 2 = off + (jp) * 4 + 1 := by omega
            have nb21 : ¬ off + (jp) * 4 + 2 = off + (jp + 1) * 4 + 1 := by omega
            have na22 : ¬ off + (jp + 1) * 4 + 2 = off + (jp) * 4 + 2 := by omega
            have nb22 : ¬ off + (jp) * 4 + 2 = off + (jp + 1) * 4 + 2 := by omega
            have na23 : ¬ off + (jp + 1) * 4 + 2 = off + (jp) * 4 + 3 := by omega
            have nb23 : ¬ off + (jp) * 4 + 2 = off + (jp + 1) * 4 + 3 := by omega
            have na30 : ¬ off + (jp + 1) * 4 + 3 = off + (jp) * 4 := by omega
            have nb30 : ¬ off + (jp) * 4 + 3 = off + (jp + 1) * 4 := by omega
            have na31 : ¬ off + (jp + 1) * 4 + 3 = off + (jp) * 4 + 1 := by omega
            have nb31 : ¬ off + (jp) * 4 + 3 = off + (jp + 1) * 4 + 1 := by omega
            have na32 : ¬ off + (jp + 1) * 4 + 3 = off + (jp) * 4 + 2 := by omega
            have nb32 : ¬ off + (jp) * 4 + 3 = off + (jp + 1) * 4 + 2 := by omega
            have na33 : ¬ off + (jp + 1) * 4 + 3 = off + (jp) * 4 + 3 := by omega
            have nb33 : ¬ off + (jp) * 4 + 3 = off + (jp + 1) * 4 + 3 := by omega
            clear S R hN'
            have Hl := Lib.hid hl; have Hw2 := Lib.hid hw2; have Hx := Lib.hid hx; have Hy := Lib.hid hy; have Hx0 := Lib.hid hx0; have Hy0 := Lib.hid hy0; have Hx1 := Lib.hid hx1; have Hy1 := Lib.hid hy1; have Hx2 := Lib.hid hx2; have Hy2 := Lib.hid hy2; have Hx3 := Lib.hid hx3; have Hy3 := Lib.hid hy3; have HEX := Lib.hid hEX; clear hl hw2 hx hy hx0 hy0 hx1 hy1 hx2 hy2 hx3 hy3 hEX
            go_wp2_with fail
            go_region
            all_goals
              go_wp2_with fail
              go_roundw
              case rel => exact ⟨jp, _, rfl, by omega, by omega, by rw [size_swp, Hl.out, HN.out], HEX.out, HI2.out⟩
              case measure => simp [intOf] <;> omega
          | false =>
            have hlv : ¬ cv < 0 := of_decide_eq_false hdec
            have hO2 := out (Or.inr (by simp only [Nat.add_sub_cancel]; rw [← hx, ← hy]; unfold ltOf; rw [← hcv]; exact hdec))
            have HI := Lib.hid hI; have HO2 := Lib.hid hO2; have Hl := Lib.hid hl; have Hout := Lib.hid out; have Hx := Lib.hid hx; have Hy := Lib.hid hy; have Hx0 := Lib.hid hx0; have Hy0 := Lib.hid hy0; have Hx1 := Lib.hid hx1; have Hy1 := Lib.hid hy1; have Hx2 := Lib.hid hx2; have Hy2 := Lib.hid hy2; have Hx3 := Lib.hid hx3; have Hy3 := Lib.hid hy3; have HGR := Lib.hid hGR; have Hcv := Lib.hid hcv; have Hdec := Lib.hid hdec; clear hI hO2 hl out hx hy hx0 hy0 hx1 hy1 hx2 hy2 hx3 hy3 hGR hcv hdec
            go_wp2_with fail
            have mixed : Try.prog.follows .mixedOrders = true := by kernel_rfl
            go_quiet_grown (first | (go_at_fn g; refine Calls.grown_of (hcg _ _)))
            go_wp2_with fail
            go_roundw
            case rel => exact ⟨i + 1, dj, by go_num, by omega, by omega, by rw [Hl.out, HN.out], HGR.out _ _, HO2.out⟩
            case measure => simp [intOf]; omega
        · have v3 : ¬ (a : Int) < (j : Int) := by omega
          have v4 : decide ((a : Int) < (j : Int)) = false := decide_eq_false v3
          have hO2 := out (Or.inl (by omega))
          have hGR := S.drew
          have HI := Lib.hid hI; have HO2 := Lib.hid hO2; have Hl := Lib.hid hl; have Hout := Lib.hid out; have HS := Lib.hid S; have HGR := Lib.hid hGR; clear hI hO2 hl out S hGR
          go_wp2_with fail
          go_region
          all_goals
            go_wp2_with fail
            go_roundw
            case rel => exact ⟨i + 1, dj, by go_num, by omega, by omega, Hl.out, HGR.out, HO2.out⟩
            case measure => simp [intOf]; omega
    · have hltz : ¬ (i : Int) < (b : Int) := by omega
      have hE : dk = Sort.insertionSort (ltOf cf) d a b := by unfold Sort.insertionSort; rw [← hO, insOuter_stop _ _ _ _ _ hlt]
      rw [hE] at S
      have HS := Lib.hid S; have HO := Lib.hid hO; have HE := Lib.hid hE; clear S hO hE
      go_wp2_with fail
      go_end0
      exact ⟨rfl, HS.out⟩
end StbNote
end Go.Proofs.Ytoljhahmmdibfaa
