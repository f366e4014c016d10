/- The walks of slices.SortStableFunc at string: insertionSortCmpFunc. Printed by gen_stc.py. -/
import Derived.Test.YtblkdcapampniaaDoorStbStrR
import Derived.Shelf.SlSortCmp.QuietGrown
import Derived.Deep.RegionHeld3
set_option linter.unusedVariables false
set_option linter.unusedSimpArgs false
namespace Go.Proofs.YtblkdcapampniaaDoor
open Go.Shelf Go.RowKit Go.Lib Go.Sort SortM StbA StbB
namespace StbStr
variable {α : Type} [Inhabited α] {f0 : α → ByteArray} {w0 : World} {blk off : Nat} {d0 : Array α}
variable {cf : α → α → Int} {g : Nat} {cb : Array Value}
set_option maxRecDepth 10000 in
set_option maxHeartbeats 8000000 in
theorem insertion_any {d : Array α} {w : World} (R : RowK (enc f0) 1 w0 blk off d0) (S : SWK (enc f0) 1 w0 blk off d w) (C : CmpLays Tryd.prog g cb (enc f0) 1 cf blk off d0.size w0) (eg : ∀ args w, (callFunc g args).run Tryd.prog w = .ok (.enter g args) w)
    (hs : d.size = d0.size) {a b : Nat} (hab : a ≤ b) (hb : b ≤ d0.size) (cap : Nat) (hn : d0.size ≤ 1000000) :
    Calls Tryd.prog 75 #[.slice (some ⟨blk, off, none⟩) d0.size cap, .int .i64 a, .int .i64 b, .func (.func g) #[] cb] w fun e w' => e = .returned (.tuple #[]) ∧ SWK (enc f0) 1 w0 blk off (Sort.insertionSort (ltOf cf) d a b) w' := by
  obtain ⟨N, hN⟩ : ∃ N, N = d0.size := ⟨_, rfl⟩
  rw [← hN] at hn hs hb ⊢
  have HS := Lib.hid S; have Hs := Lib.hid hs; have HN := Lib.hid hN; have HC := Lib.hid C; have HR := Lib.hid R; clear S hs hN C R
  go_enter Tryd.func75, Tryd.ntmps75
  go_wp2_with fail
  go_loopw [8] (fun x wr => ∃ (i : Nat) (dk : Array α), x = .int .i64 i ∧ a < i ∧ i ≤ b + 1 ∧ dk.size = N ∧ SWK (enc f0) 1 w0 blk off dk wr ∧ insOuter (ltOf cf) a b i dk = insOuter (ltOf cf) a b (a + 1) d) (fun x _ => b + 1 - (intOf x).toNat)
  case atStart => exact ⟨a + 1, d, by go_num, by omega, by omega, Hs.out, HS.out, rfl⟩
  case round =>
    obtain ⟨i, dk, rfl, hai, hib, hsk, S, hO⟩ := hrel
    by_cases hlt : i < b
    · have w1 : IntKind.i64.wrap ((i : Int) + 1) = (i : Int) + 1 := IntWalk.i64_in _ (by omega)
      have hltz : (i : Int) < (b : Int) := by omega
      have HO := Lib.hid hO; have HS := Lib.hid S; have Hsk := Lib.hid hsk; clear hO S hsk
      go_wp2_with fail
      go_loopw [9] (fun x wq => ∃ (j : Nat) (dj : Array α), x = .int .i64 j ∧ a ≤ j ∧ j ≤ i ∧ dj.size = N ∧ SWK (enc f0) 1 w0 blk off dj wq ∧ insInner (ltOf cf) a j dj = insInner (ltOf cf) a i dk) (fun x _ => (intOf x).toNat)
      case atStart => exact ⟨i, dk, rfl, by omega, Nat.le_refl _, Hsk.out, HS.out, rfl⟩
      case round =>
        obtain ⟨j, dj, rfl, haj, hji, hl, S, hI⟩ := hrel
        have out : (j ≤ a ∨ ltOf cf dj[j]! dj[j - 1]! = false) → insOuter (ltOf cf) a b (i + 1) dj = insOuter (ltOf cf) a b (a + 1) d := fun hs => by
          rw [← HO.out, insOuter_go _ _ _ _ _ hlt, ← hI, insInner_stop _ _ _ _ hs]
        by_cases hja : a < j
        · obtain ⟨jp, rfl⟩ : ∃ jp, j = jp + 1 := ⟨j - 1, by omega⟩
          have hlt2 := hlt
          have R := HR.out
          have C := HC.out
          rw [HN.out] at hl
          have hN' := HN.out
          obtain ⟨p0, _⟩ := cells S R hl (jp + 1) (by omega)
          obtain ⟨x, hx⟩ : ∃ v, v = dj[jp + 1]! := ⟨_, rfl⟩
          rw [← hx] at p0
          obtain ⟨x0, hx0⟩ : ∃ v, v = f0 x := ⟨_, rfl⟩
          rw [← hx0] at p0
          obtain ⟨q0, _⟩ := cells S R hl (jp) (by omega)
          obtain ⟨y, hy⟩ : ∃ v, v = dj[jp]! := ⟨_, rfl⟩
          rw [← hy] at q0
          obtain ⟨y0, hy0⟩ : ∃ v, v = f0 y := ⟨_, rfl⟩
          rw [← hy0] at q0
          have hcg : ∀ V, Below wr.heap.size wr V → Calls Tryd.prog g (#[.string (x0), .string (y0)] ++ cb) V fun e w' => e = .returned (.int .i64 (cf x y)) ∧ Below V.heap.size V w' := fun V hV => by rw [hx0, hy0]; exact C V (SortR.SRW.below S hV).frm x y
          have hczf : ∀ V, Below wr.heap.size wr V → V.cell? ⟨blk, off + (jp + 1), none⟩ = some (.string (x0)) ∧ V.cell? ⟨blk, off + (jp), none⟩ = some (.string (y0)) := fun V hV => ⟨cell_later hV p0, cell_later hV q0⟩
          obtain ⟨cv, hcv⟩ : ∃ v, v = cf x y := ⟨_, rfl⟩
          rw [← hcv] at hcg
          have hGR := S
          have w2 : IntKind.i64.wrap (jp : Int) = (jp : Int) := IntWalk.i64_in _ (by omega)
          have n2 : ((jp : Int) + 1).toNat = jp + 1 := by omega
          have u2 : (0 : Int) ≤ (jp : Int) + 1 := by omega
          have v1 : (jp : Int) < (N : Int) := by omega
          have v2 : (jp : Int) + 1 < (N : Int) := by omega
          have v3 : (a : Int) < (jp : Int) + 1 := by omega
          clear S R C hN'
          cases hdec : decide (cv < 0) with
          | true =>
            have hlv : cv < 0 := of_decide_eq_true hdec
            have hI2 : insInner (ltOf cf) a jp (swp dj (jp + 1) jp) = insInner (ltOf cf) a i dk := by
              rw [← hI]
              have := insInner_go (ltOf cf) a (jp + 1) dj hja (by simp only [Nat.add_sub_cancel]; rw [← hx, ← hy]; unfold ltOf; rw [← hcv]; exact hdec)
              simp only [Nat.add_sub_cancel] at this
              exact this.symm
            have HI := Lib.hid hI; have HI2 := Lib.hid hI2; have Hl := Lib.hid hl; have Hout := Lib.hid out; have Hx := Lib.hid hx; have Hy := Lib.hid hy; have Hx0 := Lib.hid hx0; have Hy0 := Lib.hid hy0; have HGR := Lib.hid hGR; have Hcg := Lib.hid hcg; have Hczf := Lib.hid hczf; have Hcv := Lib.hid hcv; have Hdec := Lib.hid hdec; clear hI hI2 hl out hx hy hx0 hy0 hGR hcg hczf hcv hdec
            go_wp2_with fail
            have mixed : Tryd.prog.follows .mixedOrders = true := by kernel_rfl
            have hbz := bel_drewN (Below.refl wr.heap.size wr) 1
            have hcz := Hczf.out _ hbz
            go_region_held3 (fun w' => w'.cell? ⟨blk, off + (jp + 1), none⟩ = some (.string (x0)) ∧ w'.cell? ⟨blk, off + (jp), none⟩ = some (.string (y0))) (first | exact hcz | go_keep) (first | (go_at_fn g; refine (Hcg.out _ (by exact hbz)).mono ?_; rintro e wz ⟨rfl, hsz⟩; replace hbz := hbz.trans (hsz.mono hbz.size); replace hcz := Hczf.out _ hbz))
            all_goals
              go_wp2_with fail
              have S := HGR.out.below hbz
              clear Hcg Hczf p0 q0
              obtain ⟨w2, hw2⟩ : ∃ w2, w2 = wz := ⟨_, rfl⟩
              rw [← hw2] at S ⊢
              have R := HR.out
              have hl := Hl.out
              have hN' := HN.out
              have hEX := exch S R (jp + 1) (jp) (by omega) (by omega)
              obtain ⟨p0, pf0⟩ := cells S R hl (jp + 1) (by omega)
              obtain ⟨q0, qf0⟩ := cells S R hl (jp) (by omega)
              obtain ⟨x, hx⟩ : ∃ x, x = dj[jp + 1]! := ⟨_, rfl⟩
              obtain ⟨y, hy⟩ : ∃ y, y = dj[jp]! := ⟨_, rfl⟩
              rw [← hx] at p0 hEX
              rw [← hy] at q0 hEX
              obtain ⟨x0, hx0⟩ : ∃ v, v = f0 x := ⟨_, rfl⟩
              obtain ⟨y0, hy0⟩ : ∃ v, v = f0 y := ⟨_, rfl⟩
              rw [← hx0] at p0 hEX
              rw [← hy0] at q0 hEX
              have na00 : ¬ off + (jp + 1) = off + (jp) := by omega
              have nb00 : ¬ off + (jp) = off + (jp + 1) := by omega
              clear S R hN'
              have Hl := Lib.hid hl; have Hw2 := Lib.hid hw2; have Hx := Lib.hid hx; have Hy := Lib.hid hy; have Hx0 := Lib.hid hx0; have Hy0 := Lib.hid hy0; have HEX := Lib.hid hEX; clear hl hw2 hx hy hx0 hy0 hEX
              go_wp2_with fail
              go_region
              all_goals
                go_wp2_with fail
                go_roundw
                case rel => exact ⟨jp, _, rfl, by omega, by omega, by rw [size_swp, Hl.out, HN.out], HEX.out, HI2.out⟩
                case measure => simp [intOf] <;> omega
          | false =>
            have hlv : ¬ cv < 0 := of_decide_eq_false hdec
            have hO2 := out (Or.inr (by simp only [Nat.add_sub_cancel]; rw [← hx, ← hy]; unfold ltOf; rw [← hcv]; exact hdec))
            have HI := Lib.hid hI; have HO2 := Lib.hid hO2; have Hl := Lib.hid hl; have Hout := Lib.hid out; have Hx := Lib.hid hx; have Hy := Lib.hid hy; have Hx0 := Lib.hid hx0; have Hy0 := Lib.hid hy0; have HGR := Lib.hid hGR; have Hcg := Lib.hid hcg; have Hczf := Lib.hid hczf; have Hcv := Lib.hid hcv; have Hdec := Lib.hid hdec; clear hI hO2 hl out hx hy hx0 hy0 hGR hcg hczf hcv hdec
            go_wp2_with fail
            have mixed : Tryd.prog.follows .mixedOrders = true := by kernel_rfl
            have hbz := bel_drewN (Below.refl wr.heap.size wr) 1
            have hcz := Hczf.out _ hbz
            go_region_held3 (fun w' => w'.cell? ⟨blk, off + (jp + 1), none⟩ = some (.string (x0)) ∧ w'.cell? ⟨blk, off + (jp), none⟩ = some (.string (y0))) (first | exact hcz | go_keep) (first | (go_at_fn g; refine (Hcg.out _ (by exact hbz)).mono ?_; rintro e wz ⟨rfl, hsz⟩; replace hbz := hbz.trans (hsz.mono hbz.size); replace hcz := Hczf.out _ hbz))
            all_goals
              go_wp2_with fail
              go_roundw
              case rel => exact ⟨i + 1, dj, by go_num, by omega, by omega, by rw [Hl.out, HN.out], HGR.out.below hbz, HO2.out⟩
              case measure => simp [intOf]; omega
        · have v3 : ¬ (a : Int) < (j : Int) := by omega
          have v4 : decide ((a : Int) < (j : Int)) = false := decide_eq_false v3
          have hO2 := out (Or.inl (by omega))
          have hGR := S.drew
          have HI := Lib.hid hI; have HO2 := Lib.hid hO2; have Hl := Lib.hid hl; have Hout := Lib.hid out; have HS := Lib.hid S; have HGR := Lib.hid hGR; clear hI hO2 hl out S hGR
          go_wp2_with fail
          go_region
          all_goals
            go_wp2_with fail
            go_roundw
            case rel => exact ⟨i + 1, dj, by go_num, by omega, by omega, Hl.out, HGR.out, HO2.out⟩
            case measure => simp [intOf]; omega
    · have hltz : ¬ (i : Int) < (b : Int) := by omega
      have hE : dk = Sort.insertionSort (ltOf cf) d a b := by unfold Sort.insertionSort; rw [← hO, insOuter_stop _ _ _ _ _ hlt]
      rw [hE] at S
      have HS := Lib.hid S; have HO := Lib.hid hO; have HE := Lib.hid hE; clear S hO hE
      go_wp2_with fail
      go_end0
      exact ⟨rfl, HS.out⟩
end StbStr
end Go.Proofs.YtblkdcapampniaaDoor
