/- Walks and plain facts. Texts merged: StbSpanI, StbSpanT, SpsI, SpsJ, SpsT, SpsP. Condition: none beyond what each says. -/
import Derived.Shelf.SlSortCmp.QuietGrown
import Derived.Deep.RegionHeld3
import Derived.Laws.EntriesVeiled
import Derived.Lib.Join
import Derived.Test.YteailgjiifdgcaaGreatDoorSpansSharesAll1
import Derived.Test.YteailgjiifdgcaaGreatDoorSpansSharesAll2
import Derived.Test.YteailgjiifdgcaaGreatDoorSpansSharesAll3
import Derived.Test.YteailgjiifdgcaaGreatDoorSpansSharesAll4
import Derived.Test.YteailgjiifdgcaaGreatDoorSpansSharesAll5
set_option linter.unusedVariables false
set_option linter.unusedSimpArgs false
/- The walks of slices.SortStableFunc at api.Span: insertionSortCmpFunc. Printed by gen_stc.py. -/
namespace Go.Proofs.YteailgjiifdgcaaGreatDoor
open Go.Shelf Go.RowKit Go.Lib Go.Sort SortM StbA StbB
namespace StbSpan
variable {α : Type} [Inhabited α] {f0 : α → ByteArray} {f1 : α → ByteArray} {w0 : World} {blk off : Nat} {d0 : Array α}
variable {cf : α → α → Int} {g : Nat} {cb : Array Value}
set_option maxRecDepth 10000 in
set_option maxHeartbeats 8000000 in
theorem insertion_any {d : Array α} {w : World} (R : RowK (enc f0 f1) 2 w0 blk off d0) (S : SWK (enc f0 f1) 2 w0 blk off d w) (C : CmpLays Tryz.prog g cb (enc f0 f1) 2 cf blk off d0.size w0) (eg : ∀ args w, (callFunc g args).run Tryz.prog w = .ok (.enter g args) w)
    (hs : d.size = d0.size) {a b : Nat} (hab : a ≤ b) (hb : b ≤ d0.size) (cap : Nat) (hn : d0.size ≤ 1000000) :
    Calls Tryz.prog 195 #[.slice (some ⟨blk, off, none⟩) d0.size cap, .int .i64 a, .int .i64 b, .func (.func g) #[] cb] w fun e w' => e = .returned (.tuple #[]) ∧ SWK (enc f0 f1) 2 w0 blk off (Sort.insertionSort (ltOf cf) d a b) w' := by
  obtain ⟨N, hN⟩ : ∃ N, N = d0.size := ⟨_, rfl⟩
  rw [← hN] at hn hs hb ⊢
  have HS := Lib.hid S; have Hs := Lib.hid hs; have HN := Lib.hid hN; have HC := Lib.hid C; have HR := Lib.hid R; clear S hs hN C R
  go_enter Tryz.func195, Tryz.ntmps195
  go_wp2_with fail
  go_loopw [8] (fun x wr => ∃ (i : Nat) (dk : Array α), x = .int .i64 i ∧ a < i ∧ i ≤ b + 1 ∧ dk.size = N ∧ SWK (enc f0 f1) 2 w0 blk off dk wr ∧ insOuter (ltOf cf) a b i dk = insOuter (ltOf cf) a b (a + 1) d) (fun x _ => b + 1 - (intOf x).toNat)
  case atStart => exact ⟨a + 1, d, by go_num, by omega, by omega, Hs.out, HS.out, rfl⟩
  case round =>
    obtain ⟨i, dk, rfl, hai, hib, hsk, S, hO⟩ := hrel
    by_cases hlt : i < b
    · have w1 : IntKind.i64.wrap ((i : Int) + 1) = (i : Int) + 1 := IntWalk.i64_in _ (by omega)
      have hltz : (i : Int) < (b : Int) := by omega
      have HO := Lib.hid hO; have HS := Lib.hid S; have Hsk := Lib.hid hsk; clear hO S hsk
      go_wp2_with fail
      go_loopw [9] (fun x wq => ∃ (j : Nat) (dj : Array α), x = .int .i64 j ∧ a ≤ j ∧ j ≤ i ∧ dj.size = N ∧ SWK (enc f0 f1) 2 w0 blk off dj wq ∧ insInner (ltOf cf) a j dj = insInner (ltOf cf) a i dk) (fun x _ => (intOf x).toNat)
      case atStart => exact ⟨i, dk, rfl, by omega, Nat.le_refl _, Hsk.out, HS.out, rfl⟩
      case round =>
        obtain ⟨j, dj, rfl, haj, hji, hl, S, hI⟩ := hrel
        have out : (j ≤ a ∨ ltOf cf dj[j]! dj[j - 1]! = false) → insOuter (ltOf cf) a b (i + 1) dj = insOuter (ltOf cf) a b (a + 1) d := fun hs => by
          rw [← HO.out, insOuter_go _ _ _ _ _ hlt, ← hI, insInner_stop _ _ _ _ hs]
        by_cases hja : a < j
        · obtain ⟨jp, rfl⟩ : ∃ jp, j = jp + 1 := ⟨j - 1, by omega⟩
          have hlt2 := hlt
          have R := HR.out
          have C := HC.out
          rw [HN.out] at hl
          have hN' := HN.out
          obtain ⟨p0, _, p1, _⟩ := cells S R hl (jp + 1) (by omega)
          obtain ⟨x, hx⟩ : ∃ v, v = dj[jp + 1]! := ⟨_, rfl⟩
          rw [← hx] at p0 p1
          obtain ⟨x0, hx0⟩ : ∃ v, v = f0 x := ⟨_, rfl⟩
          rw [← hx0] at p0
          obtain ⟨x1, hx1⟩ : ∃ v, v = f1 x := ⟨_, rfl⟩
          rw [← hx1] at p1
          obtain ⟨q0, _, q1, _⟩ := cells S R hl (jp) (by omega)
          obtain ⟨y, hy⟩ : ∃ v, v = dj[jp]! := ⟨_, rfl⟩
          rw [← hy] at q0 q1
          obtain ⟨y0, hy0⟩ : ∃ v, v = f0 y := ⟨_, rfl⟩
          rw [← hy0] at q0
          obtain ⟨y1, hy1⟩ : ∃ v, v = f1 y := ⟨_, rfl⟩
          rw [← hy1] at q1
          have hcg : ∀ V, Below wr.heap.size wr V → Calls Tryz.prog g (#[.agg #[.string (x0), .string (x1)], .agg #[.string (y0), .string (y1)]] ++ cb) V fun e w' => e = .returned (.int .i64 (cf x y)) ∧ Below V.heap.size V w' := fun V hV => by rw [hx0, hy0, hx1, hy1]; exact C V (SortR.SRW.below S hV).frm x y
          have hczf : ∀ V, Below wr.heap.size wr V → V.cell? ⟨blk, off + (jp + 1) * 2, none⟩ = some (.string (x0)) ∧ V.cell? ⟨blk, off + (jp + 1) * 2 + 1, none⟩ = some (.string (x1)) ∧ V.cell? ⟨blk, off + (jp) * 2, none⟩ = some (.string (y0)) ∧ V.cell? ⟨blk, off + (jp) * 2 + 1, none⟩ = some (.string (y1)) := fun V hV => ⟨cell_later hV p0, cell_later hV p1, cell_later hV q0, cell_later hV q1⟩
          obtain ⟨cv, hcv⟩ : ∃ v, v = cf x y := ⟨_, rfl⟩
          rw [← hcv] at hcg
          have hGR := S
          have w2 : IntKind.i64.wrap (jp : Int) = (jp : Int) := IntWalk.i64_in _ (by omega)
          have n2 : ((jp : Int) + 1).toNat = jp + 1 := by omega
          have u2 : (0 : Int) ≤ (jp : Int) + 1 := by omega
          have v1 : (jp : Int) < (N : Int) := by omega
          have v2 : (jp : Int) + 1 < (N : Int) := by omega
          have v3 : (a : Int) < (jp : Int) + 1 := by omega
          clear S R C hN'
          cases hdec : decide (cv < 0) with
          | true =>
            have hlv : cv < 0 := of_decide_eq_true hdec
            have hI2 : insInner (ltOf cf) a jp (swp dj (jp + 1) jp) = insInner (ltOf cf) a i dk := by
              rw [← hI]
              have := insInner_go (ltOf cf) a (jp + 1) dj hja (by simp only [Nat.add_sub_cancel]; rw [← hx, ← hy]; unfold ltOf; rw [← hcv]; exact hdec)
              simp only [Nat.add_sub_cancel] at this
              exact this.symm
            have HI := Lib.hid hI; have HI2 := Lib.hid hI2; have Hl := Lib.hid hl; have Hout := Lib.hid out; have Hx := Lib.hid hx; have Hy := Lib.hid hy; have Hx0 := Lib.hid hx0; have Hy0 := Lib.hid hy0; have Hx1 := Lib.hid hx1; have Hy1 := Lib.hid hy1; have HGR := Lib.hid hGR; have Hcg := Lib.hid hcg; have Hczf := Lib.hid hczf; have Hcv := Lib.hid hcv; have Hdec := Lib.hid hdec; clear hI hI2 hl out hx hy hx0 hy0 hx1 hy1 hGR hcg hczf hcv hdec
            go_wp2_with fail
            have mixed : Tryz.prog.follows .mixedOrders = true := by kernel_rfl
            have hbz := bel_drewN (Below.refl wr.heap.size wr) 1
            have hcz := Hczf.out _ hbz
            go_region_held3 (fun w' => w'.cell? ⟨blk, off + (jp + 1) * 2, none⟩ = some (.string (x0)) ∧ w'.cell? ⟨blk, off + (jp + 1) * 2 + 1, none⟩ = some (.string (x1)) ∧ w'.cell? ⟨blk, off + (jp) * 2, none⟩ = some (.string (y0)) ∧ w'.cell? ⟨blk, off + (jp) * 2 + 1, none⟩ = some (.string (y1))) (first | exact hcz | go_keep) (first | (go_at_fn g; refine (Hcg.out _ (by exact hbz)).mono ?_; rintro e wz ⟨rfl, hsz⟩; replace hbz := hbz.trans (hsz.mono hbz.size); replace hcz := Hczf.out _ hbz))
            all_goals
              go_wp2_with fail
              have S := HGR.out.below hbz
              clear Hcg Hczf p0 q0 p1 q1
              obtain ⟨w2, hw2⟩ : ∃ w2, w2 = wz := ⟨_, rfl⟩
              rw [← hw2] at S ⊢
              have R := HR.out
              have hl := Hl.out
              have hN' := HN.out
              have hEX := exch S R (jp + 1) (jp) (by omega) (by omega)
              obtain ⟨p0, pf0, p1, pf1⟩ := cells S R hl (jp + 1) (by omega)
              obtain ⟨q0, qf0, q1, qf1⟩ := cells S R hl (jp) (by omega)
              obtain ⟨x, hx⟩ : ∃ x, x = dj[jp + 1]! := ⟨_, rfl⟩
              obtain ⟨y, hy⟩ : ∃ y, y = dj[jp]! := ⟨_, rfl⟩
              rw [← hx] at p0 p1 hEX
              rw [← hy] at q0 q1 hEX
              obtain ⟨x0, hx0⟩ : ∃ v, v = f0 x := ⟨_, rfl⟩
              obtain ⟨y0, hy0⟩ : ∃ v, v = f0 y := ⟨_, rfl⟩
              rw [← hx0] at p0 hEX
              rw [← hy0] at q0 hEX
              obtain ⟨x1, hx1⟩ : ∃ v, v = f1 x := ⟨_, rfl⟩
              obtain ⟨y1, hy1⟩ : ∃ v, v = f1 y := ⟨_, rfl⟩
              rw [← hx1] at p1 hEX
              rw [← hy1] at q1 hEX
              have na00 : ¬ off + (jp + 1) * 2 = off + (jp) * 2 := by omega
              have nb00 : ¬ off + (jp) * 2 = off + (jp + 1) * 2 := by omega
              have na01 : ¬ off + (jp + 1) * 2 = off + (jp) * 2 + 1 := by omega
              have nb01 : ¬ off + (jp) * 2 = off + (jp + 1) * 2 + 1 := by omega
              have na10 : ¬ off + (jp + 1) * 2 + 1 = off + (jp) * 2 := by omega
              have nb10 : ¬ off + (jp) * 2 + 1 = off + (jp + 1) * 2 := by omega
              have na11 : ¬ off + (jp + 1) * 2 + 1 = off + (jp) * 2 + 1 := by omega
              have nb11 : ¬ off + (jp) * 2 + 1 = off + (jp + 1) * 2 + 1 := by omega
              clear S R hN'
              have Hl := Lib.hid hl; have Hw2 := Lib.hid hw2; have Hx := Lib.hid hx; have Hy := Lib.hid hy; have Hx0 := Lib.hid hx0; have Hy0 := Lib.hid hy0; have Hx1 := Lib.hid hx1; have Hy1 := Lib.hid hy1; have HEX := Lib.hid hEX; clear hl hw2 hx hy hx0 hy0 hx1 hy1 hEX
              go_wp2_with fail
              go_region
              all_goals
                go_wp2_with fail
                go_roundw
                case rel => exact ⟨jp, _, rfl, by omega, by omega, by rw [size_swp, Hl.out, HN.out], HEX.out, HI2.out⟩
                case measure => simp [intOf] <;> omega
          | false =>
            have hlv : ¬ cv < 0 := of_decide_eq_false hdec
            have hO2 := out (Or.inr (by simp only [Nat.add_sub_cancel]; rw [← hx, ← hy]; unfold ltOf; rw [← hcv]; exact hdec))
            have HI := Lib.hid hI; have HO2 := Lib.hid hO2; have Hl := Lib.hid hl; have Hout := Lib.hid out; have Hx := Lib.hid hx; have Hy := Lib.hid hy; have Hx0 := Lib.hid hx0; have Hy0 := Lib.hid hy0; have Hx1 := Lib.hid hx1; have Hy1 := Lib.hid hy1; have HGR := Lib.hid hGR; have Hcg := Lib.hid hcg; have Hczf := Lib.hid hczf; have Hcv := Lib.hid hcv; have Hdec := Lib.hid hdec; clear hI hO2 hl out hx hy hx0 hy0 hx1 hy1 hGR hcg hczf hcv hdec
            go_wp2_with fail
            have mixed : Tryz.prog.follows .mixedOrders = true := by kernel_rfl
            have hbz := bel_drewN (Below.refl wr.heap.size wr) 1
            have hcz := Hczf.out _ hbz
            go_region_held3 (fun w' => w'.cell? ⟨blk, off + (jp + 1) * 2, none⟩ = some (.string (x0)) ∧ w'.cell? ⟨blk, off + (jp + 1) * 2 + 1, none⟩ = some (.string (x1)) ∧ w'.cell? ⟨blk, off + (jp) * 2, none⟩ = some (.string (y0)) ∧ w'.cell? ⟨blk, off + (jp) * 2 + 1, none⟩ = some (.string (y1))) (first | exact hcz | go_keep) (first | (go_at_fn g; refine (Hcg.out _ (by exact hbz)).mono ?_; rintro e wz ⟨rfl, hsz⟩; replace hbz := hbz.trans (hsz.mono hbz.size); replace hcz := Hczf.out _ hbz))
            all_goals
              go_wp2_with fail
              go_roundw
              case rel => exact ⟨i + 1, dj, by go_num, by omega, by omega, by rw [Hl.out, HN.out], HGR.out.below hbz, HO2.out⟩
              case measure => simp [intOf]; omega
        · have v3 : ¬ (a : Int) < (j : Int) := by omega
          have v4 : decide ((a : Int) < (j : Int)) = false := decide_eq_false v3
          have hO2 := out (Or.inl (by omega))
          have hGR := S.drew
          have HI := Lib.hid hI; have HO2 := Lib.hid hO2; have Hl := Lib.hid hl; have Hout := Lib.hid out; have HS := Lib.hid S; have HGR := Lib.hid hGR; clear hI hO2 hl out S hGR
          go_wp2_with fail
          go_region
          all_goals
            go_wp2_with fail
            go_roundw
            case rel => exact ⟨i + 1, dj, by go_num, by omega, by omega, Hl.out, HGR.out, HO2.out⟩
            case measure => simp [intOf]; omega
    · have hltz : ¬ (i : Int) < (b : Int) := by omega
      have hE : dk = Sort.insertionSort (ltOf cf) d a b := by unfold Sort.insertionSort; rw [← hO, insOuter_stop _ _ _ _ _ hlt]
      rw [hE] at S
      have HS := Lib.hid S; have HO := Lib.hid hO; have HE := Lib.hid hE; clear S hO hE
      go_wp2_with fail
      go_end0
      exact ⟨rfl, HS.out⟩
end StbSpan
end Go.Proofs.YteailgjiifdgcaaGreatDoor

/- The walks of slices.SortStableFunc at api.Span: stableCmpFunc and SortStableFunc. Printed by gen_stc.py. -/
namespace Go.Proofs.YteailgjiifdgcaaGreatDoor
open Go.Shelf Go.RowKit Go.Lib Go.Sort SortM StbA StbB
namespace StbSpan
variable {α : Type} [Inhabited α] {f0 : α → ByteArray} {f1 : α → ByteArray} {w0 : World} {blk off : Nat} {d0 : Array α}
variable {cf : α → α → Int} {g : Nat} {cb : Array Value}
theorem merge_any (R : RowK (enc f0 f1) 2 w0 blk off d0) (C : CmpLays Tryz.prog g cb (enc f0 f1) 2 cf blk off d0.size w0) (eg : ∀ args w, (callFunc g args).run Tryz.prog w = .ok (.enter g args) w) (hO : Swo (ltOf cf)) (cap : Nat) (hn : d0.size ≤ 1000000) : ∀ n, MergeOf cf (enc f0 f1) g cb w0 blk off cap d0 n := by
  intro n
  induction n with
  | zero => intro dk w p u v q a m b S hd hs hu hv ha hm hb h1 h2 hle; omega
  | succ n IH =>
    intro dk w p u v q a m b S hd hs hu hv ha hm hb h1 h2 hle
    match u, hd, hu, hm, h1 with
    | [], _, _, _, h1 => simp at h1
    | [x], hd, hu, hm, h1 => exact merge_left R S C eg hO (p := p) (v := v) (q := q) (x := x) (by rw [hd]; simp) hs hv ha (by simpa using hm) hb cap hn
    | x :: x2 :: u, hd, hu, hm, h1 =>
      match v, hd, hv, hb, h2 with
      | [], _, _, _, h2 => simp at h2
      | [y], hd, hv, hb, h2 => exact merge_right R S C eg hO (p := p) (u := x :: x2 :: u) (q := q) (x := y) (by rw [hd]; simp) hs hu ha hm (by simpa using hb) (by simp) cap hn
      | y :: y2 :: v, hd, hv, hb, h2 => exact merge_gen R S C eg hO hd hs hu hv ha hm hb (by simp) (by simp) hle cap hn IH
set_option maxRecDepth 10000 in
set_option maxHeartbeats 8000000 in
theorem stable_any (R : RowK (enc f0 f1) 2 w0 blk off d0) (C : CmpLays Tryz.prog g cb (enc f0 f1) 2 cf blk off d0.size w0) (eg : ∀ args w, (callFunc g args).run Tryz.prog w = .ok (.enter g args) w) (hO : Swo (ltOf cf)) (cap : Nat) (hn : d0.size ≤ 1000000) :
    Calls Tryz.prog 163 #[.slice (some ⟨blk, off, none⟩) d0.size cap, .int .i64 d0.size, .func (.func g) #[] cb] w0 (Now (enc f0 f1) 2 w0 blk off (ssort (ltOf cf) d0.toList)) := by
  have hM := merge_any R C eg hO cap hn d0.size
  have hS : SWK (enc f0 f1) 2 w0 blk off d0 w0 := R
  have hI := fun (dk : Array α) (wr : World) (a b : Nat) (S : SWK (enc f0 f1) 2 w0 blk off dk wr) (hs : dk.size = d0.size) (hab : a ≤ b) (hb : b ≤ d0.size) => insertion_any R S C eg hs hab hb cap hn
  obtain ⟨l0, hl0⟩ : ∃ l, l = d0.toList := ⟨_, rfl⟩
  have hlen : l0.length = d0.size := by rw [hl0, Array.length_toList]
  have hP0 : P1 (ltOf cf) l0 20 0 d0 := P1.start l0 20 hl0.symm
  rw [← hl0]
  unfold MergeOf at hM
  obtain ⟨N, hN⟩ : ∃ N, N = d0.size := ⟨_, rfl⟩
  rw [← hN] at hn hlen hI hM ⊢
  have HM := Lib.hid hM; have HS := Lib.hid hS; have HI := Lib.hid hI; have Hl0 := Lib.hid hl0; have Hlen := Lib.hid hlen; have HP0 := Lib.hid hP0; have HN := Lib.hid hN; have HC := Lib.hid C; have HR := Lib.hid R; have HO := Lib.hid hO; clear hM hS hI hl0 hlen hP0 hN C R hO
  go_enter Tryz.func163, Tryz.ntmps163
  go_wp2_with fail
  go_loopw [7, 8] (fun x y wr => ∃ (a : Nat) (dk : Array α), x = .int .i64 a ∧ y = .int .i64 ((a : Int) + 20) ∧ P1 (ltOf cf) l0 20 a dk ∧ SWK (enc f0 f1) 2 w0 blk off dk wr) (fun x _ _ => N + 20 - (intOf x).toNat)
  case atStart => exact ⟨0, d0, rfl, rfl, HP0.out, HS.out⟩
  case round =>
    obtain ⟨a, dk, rfl, rfl, hP, S⟩ := hrel
    have hle := hP.le
    rw [Hlen.out] at hle
    have hsz := hP.size HO.out
    rw [Hlen.out] at hsz
    by_cases hlt : a + 20 ≤ N
    · have v1 : decide ((a : Int) + 20 ≤ (N : Int)) = true := decide_eq_true (by omega)
      have v2 : (a : Int) + 20 ≤ (N : Int) := by omega
      have w1 : IntKind.i64.wrap ((a : Int) + 20 + 20) = (a : Int) + 20 + 20 := IntWalk.i64_in _ (by omega)
      have hc := HI.out dk wr a (a + 20) S (by rw [hsz]) (by omega) (by omega)
      rw [show ((a + 20 : Nat) : Int) = (a : Int) + 20 by omega] at hc
      have hP2 := hP.step HO.out (by rw [Hlen.out]; omega)
      have HP := Lib.hid hP; have HS := Lib.hid S; have HP2 := Lib.hid hP2; have Hc := Lib.hid hc; have Hsz := Lib.hid hsz; have Hle := Lib.hid hle; clear hP S hP2 hc hsz hle
      go_wp2_with fail
      refine Hc.out.mono ?_
      rintro e w2 ⟨rfl, S⟩
      have HS := Lib.hid S; clear S
      go_wp2_with fail
      go_roundw
      case rel => exact ⟨a + 20, _, by go_num, by go_num, HP2.out, HS.out⟩
      case measure => simp [intOf]; omega
    · have v1 : decide ((a : Int) + 20 ≤ (N : Int)) = false := decide_eq_false (by omega)
      have v2 : ¬ (a : Int) + 20 ≤ (N : Int) := by omega
      have hc := HI.out dk wr a N S (by rw [hsz]) (by omega) (by omega)
      have hP2 := hP.last HO.out (n := N) Hlen.out.symm (by omega)
      clear HI
      have HP := Lib.hid hP; have HS := Lib.hid S; have HP2 := Lib.hid hP2; have Hc := Lib.hid hc; have Hsz := Lib.hid hsz; have Hle := Lib.hid hle; clear hP S hP2 hc hsz hle
      go_wp2_with fail
      refine Hc.out.mono ?_
      rintro e w2 ⟨rfl, S⟩
      clear v1 v2
      have HS := Lib.hid S; clear S
      go_wp2_with fail
      go_loopw [6] (fun x wr => ∃ (bs : Nat) (dk : Array α), x = .int .i64 bs ∧ 20 ≤ bs ∧ bs ≤ 2 * N + 20 ∧ P2 (ltOf cf) l0 bs dk ∧ SWK (enc f0 f1) 2 w0 blk off dk wr) (fun x _ => N - (intOf x).toNat)
      case atStart => exact ⟨20, _, rfl, Nat.le_refl _, by omega, HP2.out, HS.out⟩
      case round =>
        obtain ⟨bs, dk, rfl, hb1, hb2, hP, S⟩ := hrel
        by_cases hlt2 : bs < N
        · have v2 : (bs : Int) < (N : Int) := by omega
          have w1 : IntKind.i64.wrap (2 * (bs : Int)) = 2 * (bs : Int) := IntWalk.i64_in _ (by omega)
          have w1' : IntKind.i64.wrap ((bs : Int) * 2) = 2 * (bs : Int) := by rw [IntWalk.i64_in _ (by omega)]; omega
          have hP3 := P3.start hP
          have HP := Lib.hid hP; have HS := Lib.hid S; have HP3 := Lib.hid hP3; clear hP S hP3
          go_wp2_with fail
          go_loopw [7, 8] (fun x y wr => ∃ (a : Nat) (dk : Array α), x = .int .i64 a ∧ y = .int .i64 ((a : Int) + 2 * (bs : Int)) ∧ P3 (ltOf cf) l0 bs a dk ∧ SWK (enc f0 f1) 2 w0 blk off dk wr) (fun x _ _ => N + 2 * bs - (intOf x).toNat)
          case atStart => exact ⟨0, dk, rfl, by go_num, HP3.out, HS.out⟩
          case round =>
            obtain ⟨a, dk, rfl, rfl, hP, S⟩ := hrel
            have hsz := hP.size HO.out
            rw [Hlen.out] at hsz
            obtain ⟨hsz, hle⟩ := hsz
            rw [hsz] at hle
            have w2 : IntKind.i64.wrap ((a : Int) + (bs : Int)) = (a : Int) + (bs : Int) := IntWalk.i64_in _ (by omega)
            by_cases hlt3 : a + 2 * bs ≤ N
            · have v3 : decide ((a : Int) + 2 * (bs : Int) ≤ (N : Int)) = true := decide_eq_true (by omega)
              have v4 : (a : Int) + 2 * (bs : Int) ≤ (N : Int) := by omega
              have w3 : IntKind.i64.wrap ((a : Int) + 2 * (bs : Int) + 2 * (bs : Int)) = (a : Int) + 2 * (bs : Int) + 2 * (bs : Int) := IntWalk.i64_in _ (by omega)
              obtain ⟨p, u, v, q, q1, q2, q3, q4, q5, q6, q7⟩ := hP.step HO.out (by rw [Hlen.out]; omega) (by omega)
              have hc := HM.out dk wr p u v q a (a + bs) (a + 2 * bs) S q1 (by rw [hsz, HN.out]) q2 q3 q4 (by omega) (by omega) (by omega) (by omega) (by omega)
              rw [show ((a + bs : Nat) : Int) = (a : Int) + (bs : Int) by omega, show ((a + 2 * bs : Nat) : Int) = (a : Int) + 2 * (bs : Int) by omega] at hc
              clear q1 q2 q3 q4 q5 q6
              have HP := Lib.hid hP; have HS := Lib.hid S; have Hc := Lib.hid hc; have Hsz := Lib.hid hsz; have Hle := Lib.hid hle; have Hq7 := Lib.hid q7; clear hP S hc hsz hle q7
              go_wp2_with fail
              refine Hc.out.mono ?_
              rintro e w2 ⟨rfl, d2, S, hd2⟩
              have hP2 := Hq7.out d2 hd2
              clear hd2
              have HS := Lib.hid S; have HP2 := Lib.hid hP2; clear S hP2
              go_wp2_with fail
              go_roundw
              case rel => exact ⟨a + 2 * bs, _, by go_num, by go_num, HP2.out, HS.out⟩
              case measure => simp [intOf]; omega
            · have v3 : decide ((a : Int) + 2 * (bs : Int) ≤ (N : Int)) = false := decide_eq_false (by omega)
              have v4 : ¬ (a : Int) + 2 * (bs : Int) ≤ (N : Int) := by omega
              by_cases hm : a + bs < N
              · have v5 : (a : Int) + (bs : Int) < (N : Int) := by omega
                obtain ⟨p, u, v, q1, q2, q3, q4, q5, q6, q7⟩ := hP.last1 HO.out (n := N) Hlen.out.symm (by omega) hm
                have hc := HM.out dk wr p u v [] a (a + bs) N S q1 (by rw [hsz, HN.out]) q2 q3 q4 (by omega) (by omega) (by omega) (by omega) (by omega)
                rw [show ((a + bs : Nat) : Int) = (a : Int) + (bs : Int) by omega] at hc
                clear q1 q2 q3 q4 q5 q6
                have HP := Lib.hid hP; have HS := Lib.hid S; have Hc := Lib.hid hc; have Hsz := Lib.hid hsz; have Hle := Lib.hid hle; have Hq7 := Lib.hid q7; clear hP S hc hsz hle q7
                go_wp2_with fail
                refine Hc.out.mono ?_
                rintro e w2 ⟨rfl, d2, S, hd2⟩
                have hP2 := Hq7.out d2 hd2
                clear hd2
                have HS := Lib.hid S; have HP2 := Lib.hid hP2; clear S hP2
                go_wp2_with fail
                go_roundw
                case rel => exact ⟨2 * bs, _, by go_num, by omega, by omega, HP2.out, HS.out⟩
                case measure => simp [intOf]; omega
              · have v5 : ¬ (a : Int) + (bs : Int) < (N : Int) := by omega
                have hP2 := hP.last2 (n := N) Hlen.out.symm (by omega) hm (by omega)
                have HP := Lib.hid hP; have HS := Lib.hid S; have Hsz := Lib.hid hsz; have Hle := Lib.hid hle; have HP2 := Lib.hid hP2; clear hP S hsz hle hP2
                go_wp2_with fail
                go_roundw
                case rel => exact ⟨2 * bs, _, by go_num, by omega, by omega, HP2.out, HS.out⟩
                case measure => simp [intOf]; omega
        · have v2 : ¬ (bs : Int) < (N : Int) := by omega
          have hD := hP.done (by rw [Hlen.out]; omega)
          have HP := Lib.hid hP; have HS := Lib.hid S; have HD := Lib.hid hD; clear hP S hD
          go_wp2_with fail
          go_end0
          exact ⟨rfl, dk, HS.out, HD.out⟩
set_option maxRecDepth 10000 in
set_option maxHeartbeats 1000000 in
theorem sortStable_any (R : RowK (enc f0 f1) 2 w0 blk off d0) (C : CmpLays Tryz.prog g cb (enc f0 f1) 2 cf blk off d0.size w0) (eg : ∀ args w, (callFunc g args).run Tryz.prog w = .ok (.enter g args) w) (hO : Swo (ltOf cf)) (cap : Nat) (hn : d0.size ≤ 1000000) :
    Calls Tryz.prog 106 #[.slice (some ⟨blk, off, none⟩) d0.size cap, .func (.func g) #[] cb] w0 (Now (enc f0 f1) 2 w0 blk off (ssort (ltOf cf) d0.toList)) := by
  have hc := stable_any R C eg hO cap hn
  obtain ⟨l, hl⟩ : ∃ l, l = ssort (ltOf cf) d0.toList := ⟨_, rfl⟩
  rw [← hl] at hc ⊢
  obtain ⟨N, hN⟩ : ∃ N, N = d0.size := ⟨_, rfl⟩
  rw [← hN] at hn hc ⊢
  have Hc := Lib.hid hc; have HN := Lib.hid hN; have Hl := Lib.hid hl; have HC := Lib.hid C; have HR := Lib.hid R; have HO := Lib.hid hO; clear hc hN hl C R hO
  go_enter Tryz.func106, Tryz.ntmps106
  go_wp2_with fail
  refine Hc.out.mono ?_
  rintro e w2 ⟨rfl, hw2⟩
  have Hw2 := Lib.hid hw2; clear hw2
  go_wp2_with fail
  go_end0
  exact ⟨rfl, Hw2.out⟩
end StbSpan
end Go.Proofs.YteailgjiifdgcaaGreatDoor

/- The sort of spans by their bounds below, and the closure of spans.Form. Condition: the library's variables as they were laid; at most a thousand spans of bounds of at most 9000 bytes. -/
namespace Go.Proofs.YteailgjiifdgcaaGreatDoor
open Go.Shelf Go.RowKit Go.Lib Go.Sort SortM VerN

abbrev tB (l : List Tp) : List BSp := l.map (·.1)
abbrev spEnc : Tp → List Value := StbSpan.enc (fun x : Tp => x.1.1) fun x => x.1.2
theorem spEnc_flat (l : List Tp) : l.flatMap spEnc = (tB l).flatMap spCells := by
  induction l with
  | nil => rfl
  | cons x l ih => rw [List.flatMap_cons, ih]; rfl
theorem enters_spc : ∀ args w, (callFunc 107 args).run Tryz.prog w = .ok (.enter 107 args) w := enters_of Tryz.func107 (by kernel_rfl) rfl
theorem sortSp_any {w w0 : World} {g cap : Nat} {l : List Tp} (h : w.ownsRow w0.heap.size 34 2 (.slice (some ⟨g, 0, none⟩) l.length cap) l.length ((tB l).flatMap spCells)) (hb : Below w0.heap.size w0 w) (hD : Doors w0) (hl : l.length ≤ 30000) :
    Calls Tryz.prog 106 #[.slice (some ⟨g, 0, none⟩) l.length cap, .func (.func 107) #[] #[]] w fun e w' => e = .returned (.tuple #[]) ∧ w'.ownsRow w0.heap.size 34 2 (.slice (some ⟨g, 0, none⟩) l.length cap) l.length ((tB (sortSp l)).flatMap spCells) ∧ Below w0.heap.size w0 w' := by
  rw [← spEnc_flat] at h
  have hR := SortR.srw_of_owns StbSpan.enc_len h rfl
  have hlow : w0.heap.size ≤ g := (h.lt g rfl).1
  have hC : StbSpan.CmpLays Tryz.prog 107 #[] spEnc 2 cfSp g 0 l.toArray.size w := fun W hW x y =>
    spsCompare_any x.1.1 x.1.2 y.1.1 y.1.2 (by have := x.2.1; omega) (by have := y.2.1; omega) (hD.below (hb.trans (hW.below hb.size (fun k e => by rw [e]; exact hlow))))
  have hs := StbSpan.sortStable_any hR hC enters_spc swoSp cap (by simpa using Nat.le_trans hl (by decide))
  have e : l.toArray.size = l.length := by simp
  rw [e] at hs
  refine hs.mono ?_
  rintro e w' ⟨rfl, d, S, hd⟩
  have hsz : d.size = l.length := by rw [← Array.length_toList, hd, ssort_len swoSp]
  have h2 := SortR.owns_of_srw StbSpan.enc_len (by decide) h S hsz
  rw [hd, spEnc_flat] at h2
  exact ⟨rfl, h2.1, h2.2 _ hb hb.size⟩
set_option maxRecDepth 10000 in
theorem notMay_any (lo hi : ByteArray) (hl : lo.size ≤ 1000000) (hh : hi.size ≤ 1000000) {w : World} (hD : Doors w) : Calls Tryz.prog 103 #[.agg #[.string lo, .string hi]] w fun e w' => e = .returned (.bool (!mayS (lo.data.toList, hi.data.toList))) ∧ Below w.heap.size w w' := by
  obtain ⟨W0, hW0⟩ : ∃ W0, W0 = w.alloc (.cells #[.string lo, .string hi] 34) := ⟨_, rfl⟩
  obtain ⟨nb, hnb⟩ : ∃ nb, nb = w.heap.size := ⟨_, rfl⟩
  have hw : Below w.heap.size w W0 := by rw [hW0]; exact below_alloc1 _ _
  have hn0 : W0.heap[nb]? = some (.cells #[.string lo, .string hi] 34 (0, 0)) := by rw [hW0, hnb]; exact heap_new_at rfl
  obtain ⟨b0, b1, _, _⟩ := pair_cells hn0
  have hM := calls_to hw (spanMay_any lo hi hl hh (hD.below hw))
  obtain ⟨p, hp⟩ : ∃ p, p = mayS (lo.data.toList, hi.data.toList) := ⟨_, rfl⟩
  rw [← hp] at hM ⊢
  have HM := Lib.hid hM; have Hw := Lib.hid hw; have Hn0 := Lib.hid hn0; have Hp := Lib.hid hp; have HD := Lib.hid hD; clear hM hw hn0 hp hD
  go_enter Tryz.func103, Tryz.ntmps103
  go_upto_region 1 with (fail)
  rw [← hW0, ← hnb]
  clear hW0 hnb
  go_wp2_with fail
  refine HM.out.mono ?_
  rintro e w1 ⟨rfl, hb1⟩
  have Hb1 := Lib.hid hb1; clear hb1
  go_wp2_with fail
  go_ret
  exact ⟨rfl, Hb1.out⟩
theorem enters_notMay : ∀ args w, (callFunc 103 args).run Tryz.prog w = .ok (.enter 103 args) w := enters_of Tryz.func103 (by kernel_rfl) rfl
theorem notMay_pred (l : List Tp) {w : World} (hD : Doors w) : IdxSpan.Pred RSpn (fun s => !mayS (dS s)) 103 #[] (tB l) w := by
  intro W u0 u1 s hb hs hr
  obtain ⟨h1, _, _⟩ := hr
  injection h1 with h1 h2
  injection h2 with h2 _
  subst h1 h2
  obtain ⟨x, _, rfl⟩ := List.mem_map.1 hs
  exact notMay_any _ _ (by have := x.2.1; omega) (by have := x.2.2; omega) (hD.below hb)
theorem any_notMay (l : List BSp) : (l.any fun s => !mayS (dS s)) = !allMay l := by
  unfold allMay
  rw [List.not_all_eq_any_not]
end Go.Proofs.YteailgjiifdgcaaGreatDoor

/- The walk of spans.Form. Condition: the library's variables as they were laid; at most a thousand spans of bounds of at most 9000 bytes. -/
namespace Go.Proofs.YteailgjiifdgcaaGreatDoor
open Go.Shelf Go.RowKit Go.Lib Go.Sort SortM VerN

theorem jn_size {a b : BSp} (ha : a.1.size ≤ 9000 ∧ a.2.size ≤ 9000) (hb : b.1.size ≤ 9000 ∧ b.2.size ≤ 9000) : (jnV a.1 a.2 b.1 b.2).1.size ≤ 9000 ∧ (jnV a.1 a.2 b.1 b.2).2.size ≤ 9000 := by
  have h0 : (ByteArray.mk #[]).size ≤ 9000 := by decide
  unfold jnV
  split
  · constructor
    · show (if _ then _ else _ : ByteArray).size ≤ 9000
      split
      · exact soonerS_size ha.1 hb.1
      · exact h0
    · show (if _ then _ else _ : ByteArray).size ≤ 9000
      split
      · exact laterS_size ha.2 hb.2
      · exact h0
  · exact ⟨h0, h0⟩
def SmallB (O : List BSp) : Prop := ∀ z ∈ O, z.1.size ≤ 9000 ∧ z.2.size ≤ 9000
theorem SmallB.add {O : List BSp} (h : SmallB O) {x : BSp} (hx : x.1.size ≤ 9000 ∧ x.2.size ≤ 9000) : SmallB (addB O x) := by
  rcases List.eq_nil_or_concat O with rfl | ⟨Q, z, rfl⟩
  · rw [addB_nil]
    intro y hy
    rw [List.mem_singleton.1 hy]; exact hx
  · rw [List.concat_eq_append] at *
    rw [addB_snoc]
    have hq : ∀ y ∈ Q, y.1.size ≤ 9000 ∧ y.2.size ≤ 9000 := fun y hy => h y (by simp [hy])
    have hz := h z (by simp)
    split
    · intro y hy
      rcases List.mem_append.1 hy with k | k
      · exact hq y k
      · rw [List.mem_singleton.1 k]; exact jn_size hz hx
    · intro y hy
      rcases List.mem_append.1 hy with k | k
      · exact h y k
      · rw [List.mem_singleton.1 k]; exact hx
theorem smallB_fold : ∀ (r O : List BSp), SmallB O → SmallB r → SmallB (r.foldl addB O)
  | [], _, h, _ => h
  | x :: r, O, h, hr => smallB_fold r (addB O x) (h.add (hr x (by simp))) fun y hy => hr y (by simp [hy])
theorem smallB_tB (l : List Tp) : SmallB (tB l) := fun z hz => by
  obtain ⟨x, _, rfl⟩ := List.mem_map.1 hz
  exact x.2
theorem merge_succ {r : List BSp} {k : Nat} (h : k < r.length) : mergeB (r.take (k + 1)) = addB (mergeB (r.take k)) r[k] := by
  unfold mergeB
  rw [List.take_succ_eq_append_getElem h, List.foldl_append]; rfl
theorem Mrg.below {w0 w w' : World} {x : Nat} {O : List BSp} (h : Mrg w0 x O w) (hb : Below w.heap.size w w') : Mrg w0 x O w' := by
  obtain ⟨v, h1, h2, h3, h4⟩ := h
  exact ⟨v, heap_below hb h1, ownsRow_below h2 hb, h3.trans (hb.mono h3.size), h4⟩
theorem sortRow_any {w w0 : World} {o : Value} {l : List Tp} (h : w.ownsRow w0.heap.size 34 2 o l.length ((tB l).flatMap spCells)) (hb : Below w0.heap.size w0 w) (hD : Doors w0) (hl : l.length ≤ 30000) :
    Calls Tryz.prog 106 #[o, .func (.func 107) #[] #[]] w fun e w' => e = .returned (.tuple #[]) ∧ w'.ownsRow w0.heap.size 34 2 o l.length ((tB (sortSp l)).flatMap spCells) ∧ Below w0.heap.size w0 w' := by
  rcases h.2 with ⟨rfl, h0⟩ | ⟨g, c, cur, rfl, _⟩
  · have hl0 : l = [] := List.length_eq_zero_iff.1 h0
    subst hl0
    exact (sortStableSp_nil _ w).mono fun e w' ⟨he, hw⟩ => ⟨he, hw ▸ World.ownsRow_nil _ _ _ _, hw ▸ hb⟩
  · exact sortSp_any h hb hD hl
theorem sorted_len (l : List Tp) : (tB (sortSp l)).length = l.length := by rw [List.length_map]; exact (sortSp_perm l).length_eq
theorem sps_at {w : World} {oa : Option Addr} {n oc : Nat} {R : List BSp} (h : RSps w [.slice oa n oc] R) : ∀ i x, R[i]? = some x → ∃ b off, oa = some ⟨b, off, none⟩ ∧ w.cell? ⟨b, off + i * 2, none⟩ = some (.string x.1) ∧ w.cell? ⟨b, off + i * 2 + 1, none⟩ = some (.string x.2) := by
  obtain ⟨a, cap, hv, _, hg⟩ := sps_open h
  injection hv with h1 _ _
  subst h1
  intro i x hi
  obtain ⟨b, off, e, c0, c1, _⟩ := hg i x hi
  exact ⟨b, off, e, c0, c1⟩
theorem mergeB_take_len (R : List BSp) (k : Nat) : (mergeB (R.take k)).length ≤ k := by
  have h := mergeB_len (R.take k) []
  rw [List.length_take] at h
  unfold mergeB
  simp only [List.length_nil] at h
  omega
/-- has the set a form? -/
def formOk (l : List Tp) : Bool := allMay (tB l) && decide ((formB l).length ≤ 16)
def FormPost (l : List Tp) (w : World) (e : Ending) (w' : World) : Prop :=
  ∃ o, e = .returned (.tuple #[o, .bool (formOk l)]) ∧ (formOk l = true → w'.ownsRow w.heap.size 34 2 o (formB l).length ((formB l).flatMap spCells)) ∧ (formOk l = false → o = .slice none 0 0) ∧ Below w.heap.size w w'
theorem form_no {l : List Tp} {w w' : World} (h : formOk l = false) (hb : Below w.heap.size w w') : FormPost l w (.returned (.tuple #[.slice none 0 0, .bool false])) w' :=
  ⟨_, by rw [h], (fun k => by rw [h] at k; cases k), (fun _ => rfl), hb⟩
set_option maxRecDepth 10000 in
set_option maxHeartbeats 4000000 in
theorem form_any {w : World} {v : Value} {l : List Tp} (h : RSps w [v] (tB l)) (hl : l.length ≤ 30000) (hD : Doors w) : Calls Tryz.prog 51 #[v] w (FormPost l w) := by
  have hC := IdxSpan.has_any stays_spn (fun s => !mayS (dS s)) 103 #[] enters_notMay h (notMay_pred l hD)
  rw [any_notMay] at hC
  have hK := fun (W : World) (k : Below w.heap.size w W) => cloneSpn_any (stays_slice stays_spn _ _ _ _ h k) (by rw [List.length_map]; omega)
  obtain ⟨a, cap, rfl⟩ := sps_shape h
  obtain ⟨n, hn⟩ : ∃ n, n = (tB l).length := ⟨_, rfl⟩
  have hnl : n = l.length := by rw [hn, List.length_map]
  rw [← hn] at hC hK h ⊢
  have hn1 : n ≤ 30000 := by omega
  obtain ⟨p, hp⟩ : ∃ p, p = allMay (tB l) := ⟨_, rfl⟩
  rw [← hp] at hC
  cases p with
  | false =>
    have hno : formOk l = false := by unfold formOk; rw [← hp]; rfl
    have Hh := Lib.hid h; have HC := Lib.hid hC; have HK := Lib.hid hK; have Hn := Lib.hid hn; have Hnl := Lib.hid hnl; have Hp := Lib.hid hp; have HD := Lib.hid hD; have Hno := Lib.hid hno; clear h hC hK hn hnl hp hD hno
    go_enter Tryz.func51, Tryz.ntmps51
    go_wp2_with fail
    refine HC.out.mono ?_
    rintro e w1 ⟨rfl, hb1⟩
    have Hb1 := Lib.hid hb1; clear hb1
    go_wp2_with fail
    go_ret2
    exact form_no Hno.out Hb1.out
  | true =>
    have Hh := Lib.hid h; have HC := Lib.hid hC; have HK := Lib.hid hK; have Hn := Lib.hid hn; have Hnl := Lib.hid hnl; have Hp := Lib.hid hp; have HD := Lib.hid hD; clear h hC hK hn hnl hp hD
    go_enter Tryz.func51, Tryz.ntmps51
    go_wp2_with fail
    refine HC.out.mono ?_
    rintro e w1 ⟨rfl, hb1⟩
    have hK1 := HK.out w1 hb1
    unfold CloneSpPost at hK1
    have Hb1 := Lib.hid hb1; have HK1 := Lib.hid hK1; clear hb1 hK1
    go_wp2_with fail
    refine HK1.out.mono ?_
    rintro e w2 ⟨o, rfl, ho, hb2⟩
    have ho2 : w2.ownsRow w1.heap.size 34 2 o l.length ((tB l).flatMap spCells) := by rw [← Hnl.out]; exact ho
    have hS := sortRow_any ho2 hb2 (HD.out.below Hb1.out) (by have := Hnl.out; omega)
    rw [← Hnl.out] at hS
    obtain ⟨oa, oc, rfl⟩ := own_shape ho
    clear ho2
    have Ho := Lib.hid ho; have Hb2 := Lib.hid hb2; have HS := Lib.hid hS; clear ho hb2 hS
    go_wp2_with fail
    refine HS.out.mono ?_
    rintro e w3 ⟨rfl, ho3, hb3⟩
    have hrl := sorted_len l
    rw [← Hnl.out] at hrl
    obtain ⟨R, hR⟩ : ∃ R, R = tB (sortSp l) := ⟨_, rfl⟩
    rw [← hR] at ho3 hrl
    have hRs : SmallB R := by rw [hR]; exact smallB_tB _
    have hrd : RSps w3 [.slice oa n oc] R := sps_reads (fun x hx => by have := hRs x hx; unfold maxLen; omega) (by rw [hrl]; exact ho3)
    have hat := sps_at hrd
    have hbw3 := Hb1.out.trans (hb3.mono Hb1.out.size)
    have hD3 := HD.out.below hbw3
    have hfr : mergeB R = formB l := by rw [hR]; rfl
    have Ho3 := Lib.hid ho3; have Hb3 := Lib.hid hb3; have Hrl := Lib.hid hrl; have HR := Lib.hid hR; have HRs := Lib.hid hRs; have Hrd := Lib.hid hrd; have Hat := Lib.hid hat; have Hbw3 := Lib.hid hbw3; have HD3 := Lib.hid hD3; have Hfr := Lib.hid hfr; clear ho3 hb3 hrl hR hRs hrd hat hbw3 hD3 hfr
    go_upto_region 6 with (fail)
    have hM0 : Mrg w3 w3.heap.size [] (w3.alloc (.cells #[.slice none 0 0, .func (.func 108) #[] #[], .func (.func 109) #[] #[]] 170)) := ⟨_, heap_alloc_new _ _, World.ownsRow_nil _ _ _ _, below_alloc1 _ _, Nat.le_refl _⟩
    have HM0 := Lib.hid hM0; clear hM0
    go_wp2_with fail
    go_loopw [17] (fun i wr => ∃ k : Nat, k ≤ n ∧ i = .int .i64 k ∧ Mrg w3 w3.heap.size (mergeB (R.take k)) wr) (fun i _ => n - (RowKit.intOf i).toNat)
    case atStart => exact ⟨0, Nat.zero_le _, rfl, HM0.out⟩
    case round =>
      obtain ⟨k, hk, rfl, hM⟩ := hrel
      have hbr : Below w3.heap.size w3 wr := by obtain ⟨_, _, _, hb, _⟩ := hM; exact hb
      by_cases hlt : k < n
      · have hkR : k < R.length := by have := Hrl.out; omega
        obtain ⟨y, hy⟩ : ∃ y, y = R[k] := ⟨_, rfl⟩
        obtain ⟨b, off, rfl, c0, c1⟩ := Hat.out k y (by rw [hy]; exact List.getElem?_eq_getElem hkR)
        have d0 := cell_later hbr c0
        have d1 := cell_later hbr c1
        have hys := HRs.out y (by rw [hy]; exact List.getElem_mem hkR)
        have hnext := merge_succ hkR
        rw [← hy] at hnext
        obtain ⟨O, hO⟩ : ∃ O, O = mergeB (R.take k) := ⟨_, rfl⟩
        rw [← hO] at hM hnext
        have hOs : SmallB O := by rw [hO]; exact smallB_fold _ _ (fun z hz => by simp at hz) fun z hz => HRs.out z (List.mem_of_mem_take hz)
        have hOl : O.length ≤ 100000 := by rw [hO]; have := mergeB_take_len R k; omega
        obtain ⟨y1, y2⟩ := y
        have hA := mergerAdd_any (hM.below (below_alloc1 wr (.cells #[.string y1, .string y2] 34))) hOs hOl (y1, y2) hys HD3.out
        have k5 : (0 : Int) ≤ (k : Int) := by omega
        have k6 : (k : Int) < (n : Int) := by omega
        clear c0 c1
        have HM := Lib.hid hM; have Hbr := Lib.hid hbr; have Hy := Lib.hid hy; have Hys := Lib.hid hys; have Hnext := Lib.hid hnext; have HO := Lib.hid hO; have HOs := Lib.hid hOs; have HA := Lib.hid hA; clear hM hbr hy hys hnext hO hOs hA
        go_wp2_with fail
        refine HA.out.mono ?_
        rintro e w5 ⟨rfl, hM5⟩
        rw [← Hnext.out] at hM5
        have HM5 := Lib.hid hM5; clear hM5
        go_wp2_with fail
        go_roundw
        case rel => exact ⟨k + 1, by omega, by go_num, HM5.out⟩
        case measure => simp [RowKit.intOf]; omega
      · obtain rfl : k = n := by omega
        rw [List.take_of_length_le (Nat.le_of_eq Hrl.out), Hfr.out] at hM
        obtain ⟨ov, hx, hown, _, _⟩ := hM
        obtain ⟨c0, _, _, _⟩ := trip_cells hx
        obtain ⟨oa2, oc2, rfl⟩ := own_shape hown
        have hbw := Hbw3.out.trans (hbr.mono Hbw3.out.size)
        obtain ⟨q, hq⟩ : ∃ q, q = (formB l).length := ⟨_, rfl⟩
        have hown2 := ownsRow_mono hown Hbw3.out.size
        rw [← hq] at c0
        by_cases h16 : 16 < q
        · have kk : decide ((16 : Int) < (q : Int)) = true := decide_eq_true (by omega)
          have hno : formOk l = false := by unfold formOk; rw [← Hp.out, ← hq, decide_eq_false (by omega)]; rfl
          have Hx := Lib.hid hx; have Hown := Lib.hid hown; have Hown2 := Lib.hid hown2; have Hbw := Lib.hid hbw; have Hq := Lib.hid hq; have Hno := Lib.hid hno; have Hbr := Lib.hid hbr; clear hx hown hown2 hbw hq hno hbr
          go_wp2_with fail
          go_ret2
          exact form_no Hno.out Hbw.out
        · have kk : decide ((16 : Int) < (q : Int)) = false := decide_eq_false (by omega)
          have hyes : formOk l = true := by unfold formOk; rw [← Hp.out, ← hq, decide_eq_true (by omega)]; rfl
          have Hx := Lib.hid hx; have Hown := Lib.hid hown; have Hown2 := Lib.hid hown2; have Hbw := Lib.hid hbw; have Hq := Lib.hid hq; have Hyes := Lib.hid hyes; have Hbr := Lib.hid hbr; clear hx hown hown2 hbw hq hyes hbr
          go_wp2_with fail
          go_ret2
          exact ⟨.slice oa2 q oc2, (by rw [Hyes.out]; rfl), (fun _ => by have h9 := Hown2.out; rw [← Hq.out] at h9 ⊢; exact h9), (fun k => by rw [Hyes.out] at k; cases k), Hbw.out⟩
end Go.Proofs.YteailgjiifdgcaaGreatDoor

/- The walk of spans.Text: a set's text. Condition: the library's variables as they were laid; at most a thousand spans of bounds of at most 9000 bytes. -/
namespace Go.Proofs.YteailgjiifdgcaaGreatDoor
open Go.Shelf Go.RowKit Go.Lib Go.Sort SortM VerN

theorem elem_txts : Elem Tryz.prog 88 9 (.string ⟨#[]⟩) 1 16 := ⟨Tryz.underlying88, by kernel_rfl, rfl, by decide⟩
def pieceB (s : BSp) : ByteArray := txS s.1 s.2
theorem pieceB_size {s : BSp} (h : s.1.size ≤ 9000 ∧ s.2.size ≤ 9000) : (pieceB s).size ≤ 18001 := by
  unfold pieceB txS
  split
  · have := txR_size s.1 s.2; omega
  · decide
def joinF (F : List BSp) : ByteArray := ⟨(Lib.join ((F.map pieceB).map (·.data.toList)) [44]).toArray⟩
theorem lens_le (B : Nat) : ∀ (L : List (List UInt8)), (∀ x ∈ L, x.length ≤ B) → Lib.lens L ≤ B * L.length
  | [], _ => by simp [Lib.lens]
  | x :: L, h => by
    have h1 := lens_le B L fun y hy => h y (by simp [hy])
    have h2 := h x (by simp)
    simp only [Lib.lens, List.map_cons, List.sum_cons, List.length_cons] at *
    rw [Nat.mul_add]
    omega
theorem join_small {F : List BSp} (h : SmallB F) (hl : F.length ≤ 30000) : (Lib.join ((F.map pieceB).map (·.data.toList)) [44]).length ≤ 140737488355328 := by
  have hb : ∀ x ∈ (F.map pieceB).map (·.data.toList), x.length ≤ 18001 := by
    intro x hx
    obtain ⟨y, hy, rfl⟩ := List.mem_map.1 hx
    obtain ⟨z, hz, rfl⟩ := List.mem_map.1 hy
    rw [Txt.len]
    exact pieceB_size (h z hz)
  have h1 := lens_le 18001 _ hb
  have h2 : ((F.map pieceB).map (·.data.toList)).length ≤ 30000 := by simpa using hl
  obtain ⟨L, hL⟩ : ∃ L, L = (F.map pieceB).map (·.data.toList) := ⟨_, rfl⟩
  rw [← hL] at h1 h2 ⊢
  cases L with
  | nil => simp [Lib.join_nil]
  | cons x r =>
    rw [Lib.join_length]
    simp only [List.length_cons, List.length_nil] at *
    omega
/-- a set's text -/
def spsText (l : List Tp) : ByteArray := if formOk l = false then ⟨#[]⟩ else if (formB l).length = 0 then ⟨#[33]⟩ else joinF (formB l)
theorem smallB_form (l : List Tp) : SmallB (formB l) := smallB_fold _ _ (fun z hz => by simp at hz) (smallB_tB _)
theorem pieces_take {F : List BSp} {k : Nat} (h : k < F.length) : ((F.take (k + 1)).map fun s => Value.string (pieceB s)) = ((F.take k).map fun s => Value.string (pieceB s)) ++ [Value.string (pieceB F[k])] := by
  rw [List.take_succ_eq_append_getElem h, List.map_append]; rfl
set_option maxRecDepth 10000 in
set_option maxHeartbeats 4000000 in
theorem spsText_any {w : World} {v : Value} {l : List Tp} (h : RSps w [v] (tB l)) (hl : l.length ≤ 30000) (hD : Doors w) : Calls Tryz.prog 19 #[v] w fun e w' => e = .returned (.string (spsText l)) ∧ Below w.heap.size w w' := by
  have hF := form_any h hl hD
  unfold FormPost at hF
  obtain ⟨a, cap, rfl⟩ := sps_shape h
  obtain ⟨ok, hok⟩ : ∃ b, b = formOk l := ⟨_, rfl⟩
  obtain ⟨n, hn⟩ : ∃ n, n = (tB l).length := ⟨_, rfl⟩
  obtain ⟨F, hFF⟩ : ∃ F, F = formB l := ⟨_, rfl⟩
  rw [← hok, ← hFF] at hF
  rw [← hn] at hF h ⊢
  cases ok with
  | false =>
    have ht : spsText l = ⟨#[]⟩ := by unfold spsText; rw [if_pos hok.symm]
    rw [ht]
    have Hh := Lib.hid h; have HF := Lib.hid hF; have Hok := Lib.hid hok; have Hn := Lib.hid hn; have HFF := Lib.hid hFF; have HD := Lib.hid hD; have Ht := Lib.hid ht; clear h hF hok hn hFF hD ht
    go_enter Tryz.func19, Tryz.ntmps19
    go_wp2_with fail
    refine HF.out.mono ?_
    rintro e w1 ⟨o, rfl, _, ho, hb1⟩
    have Ho := Lib.hid ho; have Hb1 := Lib.hid hb1; clear ho hb1
    go_wp2_with fail
    go_ret
    exact ⟨rfl, Hb1.out⟩
  | true =>
    have hlen : F.length ≤ 30000 := by rw [hFF]; have := form_len l; omega
    have hFs : SmallB F := by rw [hFF]; exact smallB_form l
    have Hh := Lib.hid h; have HF := Lib.hid hF; have Hok := Lib.hid hok; have Hn := Lib.hid hn; have HFF := Lib.hid hFF; have HD := Lib.hid hD; have HFs := Lib.hid hFs; clear h hF hok hn hFF hD hFs
    go_enter Tryz.func19, Tryz.ntmps19
    go_wp2_with fail
    refine HF.out.mono ?_
    rintro e w1 ⟨o, rfl, ho, _, hb1⟩
    have ho := ho trivial
    obtain ⟨oa, oc, rfl⟩ := own_shape ho
    have hrd : RSps w1 [.slice oa F.length oc] F := sps_reads (fun x hx => by have := HFs.out x hx; unfold maxLen; omega) ho
    have hat := sps_at hrd
    obtain ⟨q, hq⟩ : ∃ q, q = F.length := ⟨_, rfl⟩
    rw [← hq] at hlen ⊢
    by_cases h0 : q = 0
    · subst h0
      have ht : spsText l = ⟨#[33]⟩ := by unfold spsText; rw [if_neg (by rw [← Hok.out]; simp), ← HFF.out, if_pos hq.symm]
      have Ho := Lib.hid ho; have Hb1 := Lib.hid hb1; have Hrd := Lib.hid hrd; have Hat := Lib.hid hat; have Hq := Lib.hid hq; have Ht := Lib.hid ht; clear ho hb1 hrd hat hq ht
      go_wp2_with fail
      go_ret
      exact ⟨by rw [Ht.out]; rfl, Hb1.out⟩
    · have k0 : ((q : Int) == 0) = false := by rw [beq_eq_false_iff_ne]; omega
      have ht : spsText l = joinF F := by unfold spsText; rw [if_neg (by rw [← Hok.out]; simp), ← HFF.out, if_neg (by rw [← hq]; exact h0)]
      have hr0 : w1.ownsRow w1.heap.size 9 1 (.slice none 0 0) 0 ((F.take 0).map fun s => Value.string (pieceB s)) := World.ownsRow_nil _ _ _ _
      have Ho := Lib.hid ho; have Hb1 := Lib.hid hb1; have Hrd := Lib.hid hrd; have Hat := Lib.hid hat; have Hq := Lib.hid hq; have Ht := Lib.hid ht; have Hr0 := Lib.hid hr0; clear ho hb1 hrd hat hq ht hr0
      go_wp2_with fail
      go_loopw [5, 22] (fun v i wr => ∃ k : Nat, k ≤ q ∧ i = .int .i64 k ∧ wr.ownsRow w1.heap.size 9 1 v k ((F.take k).map fun s => Value.string (pieceB s)) ∧ Below w1.heap.size w1 wr) (fun _ i _ => q - (RowKit.intOf i).toNat)
      case atStart => exact ⟨0, Nat.zero_le _, rfl, Hr0.out, Below.refl _ _⟩
      case round =>
        obtain ⟨k, hk, rfl, hrow, hbr⟩ := hrel
        obtain ⟨ra, rc, rfl⟩ := own_shape hrow
        by_cases hlt : k < q
        · have hkF : k < F.length := by have := Hq.out; omega
          obtain ⟨y, hy⟩ : ∃ y, y = F[k] := ⟨_, rfl⟩
          obtain ⟨b, off, rfl, c0, c1⟩ := Hat.out k y (by rw [hy]; exact List.getElem?_eq_getElem hkF)
          have d0 := cell_later hbr c0
          have d1 := cell_later hbr c1
          have hys := HFs.out y (by rw [hy]; exact List.getElem_mem hkF)
          have hnext := pieces_take hkF
          rw [← hy] at hnext
          obtain ⟨N, hN⟩ : ∃ N, N = (F.take k).map fun s => Value.string (pieceB s) := ⟨_, rfl⟩
          rw [← hN] at hrow hnext
          obtain ⟨y1, y2⟩ := y
          have hba : Below wr.heap.size wr (wr.alloc (.cells #[.string y1, .string y2] 34)) := below_alloc1 _ _
          have hbw := Hb1.out.trans ((hbr.trans (hba.mono hbr.size)).mono Hb1.out.size)
          have hT := spanText_any y1 y2 (by have := hys.1; simp only at this; omega) (by have := hys.2; simp only at this; omega) (HD.out.below hbw)
          obtain ⟨P, hP⟩ : ∃ P, P = txS y1 y2 := ⟨_, rfl⟩
          rw [← hP] at hT
          have hPp : pieceB (y1, y2) = P := hP.symm
          rw [hPp] at hnext
          have k5 : (0 : Int) ≤ (k : Int) := by omega
          have k6 : (k : Int) < (q : Int) := by omega
          clear c0 c1
          have Hrow := Lib.hid hrow; have Hbr := Lib.hid hbr; have Hy := Lib.hid hy; have Hys := Lib.hid hys; have Hnext := Lib.hid hnext; have HN := Lib.hid hN; have Hba := Lib.hid hba; have Hbw := Lib.hid hbw; have HT := Lib.hid hT; have HP := Lib.hid hP; have HPp := Lib.hid hPp; clear hrow hbr hy hys hnext hN hba hbw hT hP hPp
          go_wp2_with fail
          refine HT.out.mono ?_
          rintro e w5 ⟨rfl, hb5⟩
          have hb15 := Hbr.out.trans ((Hba.out.trans (hb5.mono Hba.out.size)).mono Hbr.out.size)
          have hrow5 := ownsRow_below (ownsRow_below Hrow.out Hba.out) hb5
          have hz5 := hb15.size
          have Hb5 := Lib.hid hb5; have Hb15 := Lib.hid hb15; have Hrow5 := Lib.hid hrow5; clear hb5 hb15 hrow5
          go_wp2_with (at_builtin; (refine wpList_append_lit elem_txts rfl (.tmp 26) (.tmp 29) rfl w1.heap.size (.slice ra k rc) k N rfl Hrow5.out 1 #[.string P] rfl rfl (by simp [Value.oneCell']) (by omega) (by unfold maxLen; omega) (by omega) ?_; intro v9 w9 hown9 hg9 hm9; obtain ⟨a9, c9, rfl⟩ := own_shape hown9; have hb9 := (bel_own Hb15.out Hrow5.out (Nat.le_refl _) hg9 (by omega) : Below w1.heap.size w1 w9); have Hown9 := Lib.hid hown9; have Hb9 := Lib.hid hb9; clear hown9 hg9 hm9 hb9))
          go_roundw
          case rel => exact ⟨k + 1, by omega, by go_num, by rw [Hnext.out]; exact Hown9.out, Hb9.out⟩
          case measure => (simp [RowKit.intOf]) <;> omega
        · obtain rfl : k = q := by omega
          rw [List.take_of_length_le (Nat.le_of_eq Hq.out.symm)] at hrow
          obtain ⟨gr, rc2, hra⟩ : ∃ g c, Value.slice ra k rc = .slice (some ⟨g, 0, none⟩) k c := by
            rcases hrow.2 with ⟨h1, h2⟩ | ⟨g, cap, _, h1, _⟩
            · omega
            · exact ⟨_, cap, h1⟩
          injection hra with hra _ hrc
          subst hra hrc
          have hJ := Tryz.strings_Join gr 0 rc (F.map pieceB) ⟨#[44]⟩ wr (fun j x hj => by
            have hjl := (List.getElem?_eq_some_iff.1 hj).1
            have := hrow.cells (g := gr) rfl j (.string x) (by
              rw [List.getElem?_map] at hj ⊢
              obtain ⟨z, hz, rfl⟩ := Option.map_eq_some_iff.1 hj
              rw [hz]; rfl)
            rw [Addr.add_lit] at this
            exact this) (hrow.lt gr rfl).2 (by rw [List.length_map]; have := Hq.out; omega) (by
              rw [List.length_map, ← Hq.out]
              rcases hrow.2 with ⟨e0, _⟩ | ⟨g', cap', cur, e0, _, _, hn9, _⟩
              · cases e0
              · injection e0 with _ _ e3
                omega) (join_small HFs.out (by have := Hq.out; omega))
          rw [List.length_map, ← Hq.out] at hJ
          have hbw := Hb1.out.trans (hbr.mono Hb1.out.size)
          obtain ⟨T, hT⟩ : ∃ T, T = joinF F := ⟨_, rfl⟩
          have hJ2 : Calls Tryz.prog 58 #[.slice (some ⟨gr, 0, none⟩) k rc, .string ⟨#[44]⟩] wr fun e w' => e = .returned (.string T) ∧ Below wr.heap.size wr w' := by rw [hT]; exact hJ
          clear hJ
          have Hrow := Lib.hid hrow; have Hbr := Lib.hid hbr; have Hbw := Lib.hid hbw; have HT := Lib.hid hT; have HJ2 := Lib.hid hJ2; clear hrow hbr hbw hT hJ2
          go_wp2_with fail
          refine HJ2.out.mono ?_
          rintro e w6 ⟨rfl, hb6⟩
          have Hb6 := Lib.hid hb6; clear hb6
          go_wp2_with fail
          go_ret
          exact ⟨by rw [Ht.out, ← HT.out]; rfl, Hbw.out.trans (Hb6.out.mono Hbw.out.size)⟩
end Go.Proofs.YteailgjiifdgcaaGreatDoor

/- The walk of spans.Read: the set of a text. Condition: the library's variables as they were laid, and a text of at most 20000 bytes. -/
namespace Go.Proofs.YteailgjiifdgcaaGreatDoor
open Go.RowKit Go.Shelf Go.Lib VerN

attribute [local go_sem] Oper.semAt_some

def rowsB (pre : List ByteArray) : List Value := pre.flatMap fun p => spCells (spV p)
theorem rowsB_snoc (pre : List ByteArray) (x : ByteArray) : rowsB (pre ++ [x]) = rowsB pre ++ spCells (spV x) := by simp [rowsB]
theorem rowsB_len (pre : List ByteArray) : (rowsB pre).length = pre.length * 2 := by
  induction pre with
  | nil => rfl
  | cons x r ih => simp only [rowsB, List.flatMap_cons, List.length_append, List.length_cons] at ih ⊢; rw [ih]; simp [spCells]; omega
theorem rowsB_map (pre : List ByteArray) : rowsB pre = (pre.map spV).flatMap spCells := by rw [List.flatMap_map]; rfl
/-- between two rounds -/
structure SI (w W : World) (pre : List ByteArray) : Prop where
  bel : Below w.heap.size w W
  r2 : W.heap[w.heap.size]? = some (.cells #[.slice none 0 0] 23 (0, 0))
  r3 : W.heap[w.heap.size + 1]? = some (.cells #[.bool false] 4 (0, 0))
  out : ∃ v, W.heap[w.heap.size + 1 + 1]? = some (.cells #[v] 23 (0, 0)) ∧ W.ownsRow (w.heap.size + 6) 34 2 v pre.length (rowsB pre)
  ok : ∀ p ∈ pre, spOk p.data.toList = true
/-- behind a round that told that it is no version -/
structure SX (w W : World) (pre : List ByteArray) : Prop where
  bel : Below w.heap.size w W
  r2 : W.heap[w.heap.size]? = some (.cells #[.slice none 0 0] 23 (0, 0))
  r3 : W.heap[w.heap.size + 1]? = some (.cells #[.bool false] 4 (0, 0))
  bad : ∃ p ∈ pre, spOk p.data.toList = false
theorem SI.own {w : World} {B : Nat} (hB : w.heap.size + 6 ≤ B) : OwnFrom B (fun (pre : List ByteArray) W => SI w W pre) := by
  rintro pre W W' row h hg hr
  have hr' : ∀ r, row = some r → B ≤ r := fun r e => (hr r e).1
  obtain ⟨v, hv, hrow⟩ := h.out
  refine ⟨h.bel.grown hg h.bel.size (fun k e => by have := hr' k e; omega), heap_kept hg hr' (by omega) h.r2, heap_kept hg hr' (by omega) h.r3, ⟨v, heap_kept hg hr' (by omega) hv, hrow.kept hg ?_⟩, h.ok⟩
  rcases hrow.2 with ⟨rfl, _⟩ | ⟨g, cap, cur, rfl, _, hgb, _⟩
  · exact .inl rfl
  · refine .inr fun e' => ?_
    obtain ⟨_, o, ho, hc⟩ := hr g (by simpa [Value.ownBlock] using e'.symm)
    rw [hgb] at ho
    cases ho
    cases hc
theorem SX.own {w : World} {B : Nat} (hB : w.heap.size + 6 ≤ B) : OwnFrom B (fun (pre : List ByteArray) W => SX w W pre) := by
  rintro pre W W' row h hg hr
  have hr' : ∀ r, row = some r → B ≤ r := fun r e => (hr r e).1
  exact ⟨h.bel.grown hg h.bel.size (fun k e => by have := hr' k e; omega), heap_kept hg hr' (by omega) h.r2, heap_kept hg hr' (by omega) h.r3, h.bad⟩
theorem SI.lets (w : World) : Lets (w.heap.size + 1 + 1 + 1) (fun (pre : List ByteArray) W => SI w W pre) := by
  rintro pre W i u h
  obtain ⟨v, hv, hrow⟩ := h.out
  exact ⟨h.bel.setCell (p := ⟨w.heap.size + 1 + 1 + 1, i, none⟩) (by show w.heap.size ≤ w.heap.size + 1 + 1 + 1; omega) _, heap_other h.r2 (by omega), heap_other h.r3 (by omega), ⟨v, heap_other hv (by omega), own_set hrow (by omega) i u⟩, h.ok⟩
theorem SX.lets (w : World) : Lets (w.heap.size + 1 + 1 + 1) (fun (pre : List ByteArray) W => SX w W pre) := by
  rintro pre W i u h
  exact ⟨h.bel.setCell (p := ⟨w.heap.size + 1 + 1 + 1, i, none⟩) (by show w.heap.size ≤ w.heap.size + 1 + 1 + 1; omega) _, heap_other h.r2 (by omega), heap_other h.r3 (by omega), h.bad⟩
theorem SI.size {w W : World} {pre : List ByteArray} (h : SI w W pre) (hs : w.heap.size + 6 ≤ W.heap.size) : ∀ k, sb w k → k < W.heap.size := by
  rintro k (rfl | rfl | rfl) <;> omega
/-- a part that is added -/
theorem SI.add {w W W3 w1 : World} {pre : List ByteArray} {x : ByteArray} {tmp : Obj} {B : Nat} (h : SI w W pre) (hs : w.heap.size + 6 ≤ W.heap.size) (hb : Below W.heap.size W W3) {v v' : Value}
    (hv : W.heap[w.heap.size + 1 + 1]? = some (.cells #[v] 23 (0, 0))) (hrow : W.ownsRow (w.heap.size + 6) 34 2 v pre.length (rowsB pre))
    (hown : w1.ownsRow (w.heap.size + 6) 34 2 v' (pre.length + 1) (rowsB pre ++ spCells (spV x))) (hg : (W3.alloc tmp).grownBy w1 v.ownBlock) (hx : spOk x.data.toList = true) :
    KeepsFrom B W (w1.setCell ⟨w.heap.size + 1 + 1, 0, none⟩ v') ∧ KeepS (sb w) W (w1.setCell ⟨w.heap.size + 1 + 1, 0, none⟩ v') ∧ SI w (w1.setCell ⟨w.heap.size + 1 + 1, 0, none⟩ v') (pre ++ [x]) ∧ w1.heap[w.heap.size + 1 + 1]? = some (.cells #[v] 23 (0, 0)) ∧ w.heap.size + 6 ≤ (w1.setCell ⟨w.heap.size + 1 + 1, 0, none⟩ v').heap.size := by
  have hb3 : Below W.heap.size W (W3.alloc tmp) := hb.alloc hb.size _
  have hrow3 : (W3.alloc tmp).ownsRow (w.heap.size + 6) 34 2 v pre.length (rowsB pre) := ownsRow_below hrow hb3
  have old : ∀ {k : Nat} {o : Obj}, k < w.heap.size + 6 → W.heap[k]? = some o → w1.heap[k]? = some o := fun {k o} hk ho =>
    (hg.block k (by have := hb3.size; have := (Array.getElem?_eq_some_iff.1 ho).1; omega) (fun e => by have := (hrow3.lt k e.symm).1; omega)).trans (heap_below hb3 ho)
  refine ⟨?_, ?_, ⟨?_, heap_other (old (by omega) h.r2) (by omega), heap_other (old (by omega) h.r3) (by omega), ⟨v', heap_setCell_same _ _ 0 _ _ _ (old (by omega) hv), ?_⟩, ?_⟩, old (by omega) hv, by have := hg.size; have := hb3.size; simp [World.setCell]; omega⟩
  · have k1 : KeepsFrom B W (W3.alloc tmp) := keepsFrom_below hb3
    have k2 : KeepsFrom B (W3.alloc tmp) w1 := ⟨hg.size, fun k o _ hk hc => (hg.block k (Array.getElem?_eq_some_iff.1 hk).1 (fun e => by
      obtain ⟨cs, hcs⟩ := own_type hrow3 k e.symm
      rw [hcs] at hk
      cases hk
      cases hc)).trans hk⟩
    exact (k1.trans k2).trans ((KeepsOthers.setCell _ _ _).from B)
  · intro k hk
    have hlt := h.size hs k hk
    have hlt6 : k < w.heap.size + 6 := by rcases hk with rfl | rfl | rfl <;> omega
    have hne : k ≠ w.heap.size + 1 + 1 := by rcases hk with h | h | h <;> omega
    rw [Below.heap_setCell _ _ _ _ hne]
    cases ho : W.heap[k]? with
    | none => exact absurd ho (by rw [Array.getElem?_eq_getElem hlt]; simp)
    | some o => exact old hlt6 ho
  · exact ((h.bel.trans (hb3.mono h.bel.size)).grown hg (by have := hb3.size; have := h.bel.size; omega) (fun k e => by have := (hrow3.lt k e).1; omega)).setCell (p := ⟨w.heap.size + 1 + 1, 0, none⟩) (by show w.heap.size ≤ w.heap.size + 1 + 1; omega) _
  · rw [rowsB_snoc, List.length_append]
    exact own_set hown (by omega) 0 v'
  · intro p hp
    rcases List.mem_append.1 hp with hp | hp
    · exact h.ok p hp
    · rw [List.mem_singleton] at hp; subst hp; exact hx
/-- a round that tells that it is no version -/
theorem SI.no {w W W3 : World} {pre : List ByteArray} {x : ByteArray} {B : Nat} (h : SI w W pre) (hs : w.heap.size + 6 ≤ W.heap.size) (hb : Below W.heap.size W W3) (hx : spOk x.data.toList = false) :
    KeepsFrom B W ((W3.setCell ⟨w.heap.size, 0, none⟩ (.slice none 0 0)).setCell ⟨w.heap.size + 1, 0, none⟩ (.bool false)) ∧ SX w ((W3.setCell ⟨w.heap.size, 0, none⟩ (.slice none 0 0)).setCell ⟨w.heap.size + 1, 0, none⟩ (.bool false)) (pre ++ [x]) := by
  refine ⟨((keepsFrom_below hb).trans ((KeepsOthers.setCell _ _ _).from B)).trans ((KeepsOthers.setCell _ _ _).from B), ?_, ?_, ?_, ?_⟩
  · exact (((h.bel.trans (hb.mono h.bel.size)).setCell (p := ⟨w.heap.size, 0, none⟩) (Nat.le_refl _) _).setCell (p := ⟨w.heap.size + 1, 0, none⟩) (by show w.heap.size ≤ w.heap.size + 1; omega) _)
  · exact heap_other (heap_setCell_same _ _ 0 _ _ _ (heap_below hb h.r2)) (by omega)
  · exact heap_setCell_same _ _ 0 _ _ _ (heap_other (heap_below hb h.r3) (by omega))
  · exact ⟨x, by simp, hx⟩
def rdSp (t : ByteArray) : List BSp := (cutS 44 t).map spV
theorem spV_size (s : ByteArray) : (spV s).1.size ≤ s.size ∧ (spV s).2.size ≤ s.size := by
  have h := cut_small s
  have e : ∀ l : List UInt8, (⟨l.toArray⟩ : ByteArray).size = l.length := fun l => rfl
  unfold spV spB
  split
  · split
    · exact ⟨by rw [e]; exact h.1, by rw [e]; exact h.2⟩
    · exact ⟨by rw [e]; exact h.1, by rw [e]; exact h.1⟩
  · exact ⟨Nat.zero_le _, Nat.zero_le _⟩
theorem rd_list (t : ByteArray) (ht : t.size ≤ 9000) : ∃ l : List Tp, tB l = rdSp t := by
  have hs : ∀ s ∈ cutS 44 t, (spV s).1.size ≤ 9000 ∧ (spV s).2.size ≤ 9000 := fun s h => by
    have h1 := cutS_piece h
    have h2 := spV_size s
    omega
  refine ⟨(cutS 44 t).pmap (fun s h => (⟨spV s, h⟩ : Tp)) hs, ?_⟩
  unfold rdSp tB
  rw [List.map_pmap]
  simp
theorem spV_small {p : ByteArray} (h : spOk p.data.toList = true) : (spV p).1.size ≤ 40 ∧ (spV p).2.size ≤ 40 := by
  have hm : mayS (spO p.data.toList) = true := by
    have h2 := h
    unfold spOk at h2
    simp only [Bool.and_eq_true] at h2
    exact h2.1
  have h1 := mayS_iff.1 hm
  have b40 : ∀ x : ByteArray, boundB x.data.toList = true → x.size ≤ 40 := fun x hx => by
    rw [← Txt.len]
    rcases bound_iff.1 hx with h | h
    · rw [h]; simp
    · exact ((may_iff _).1 h).2.1
  rw [← spB_data p] at h1
  unfold spV
  rw [if_pos h]
  exact ⟨b40 _ h1.1, b40 _ h1.2.1⟩
theorem rd_ok (t : ByteArray) (hok : ∀ p ∈ cutS 44 t, spOk p.data.toList = true) : ∃ l : List Tp, tB l = rdSp t := by
  have hs : ∀ s ∈ cutS 44 t, (spV s).1.size ≤ 9000 ∧ (spV s).2.size ≤ 9000 := fun s h => by
    have h1 := spV_small (hok s h)
    omega
  refine ⟨(cutS 44 t).pmap (fun s h => (⟨spV s, h⟩ : Tp)) hs, ?_⟩
  unfold rdSp tB
  rw [List.map_pmap]
  simp
theorem lit2 (w : World) (x y : Value) (t : TypeId) {n : Nat} (hn : w.heap.size = n) : ∀ j u, [x, y][j]? = some u → (w.alloc (.cells #[x, y] t)).cell? ((⟨n, 0, none⟩ : Addr).add j) = some u := by
  intro j u hu
  subst hn
  rw [Addr.add_lit, Nat.zero_add, World.cell?_alloc_new]
  simpa using hu
def RdPost (t : ByteArray) (w : World) (e : Ending) (w' : World) : Prop :=
  ((∃ v, e = .returned (.tuple #[v, .bool true]) ∧ ((t = ⟨#[33]⟩ ∧ v = .slice none 0 0) ∨ (t ≠ ⟨#[33]⟩ ∧ (∀ p ∈ cutS 44 t, spOk p.data.toList = true) ∧ (∀ l, tB l = rdSp t → spsText l = t) ∧ w'.ownsRow w.heap.size 34 2 v (rdSp t).length ((rdSp t).flatMap spCells)))) ∨
    (e = .returned (.tuple #[.slice none 0 0, .bool false]) ∧ t ≠ ⟨#[33]⟩ ∧ ((∃ p ∈ cutS 44 t, spOk p.data.toList = false) ∨ ∀ l, tB l = rdSp t → spsText l ≠ t))) ∧ Below w.heap.size w w'
theorem info_span : (Tryz.prog.info? 34).map (fun i => (i.zero, i.size, i.bytes)) = some (some (.agg #[.string ⟨#[]⟩, .string ⟨#[]⟩]), 2, 32) := by kernel_rfl
set_option maxRecDepth 100000 in
set_option maxHeartbeats 4000000 in
theorem spsRead_any (s : ByteArray) (hs : s.size ≤ 20000) {w : World} (hD : Doors w) : Calls Tryz.prog 16 #[.string s] w (RdPost s w) := by
  refine (callsIn_wide (n := 8)).1 ?_
  refine callsIn_of_wp_marks Tryz.func16 rfl trivial ?_ rfl
  simp only [Tryz.ntmps16, List.size_toArray, List.length_cons, List.length_nil, Nat.reduceAdd, Nat.reduceSub, Array.replicate_succ, Array.replicate_zero, List.push_toArray, List.append_toArray, List.nil_append, List.cons_append]
  have e33 : (⟨#[33]⟩ : ByteArray).toList = [33] := by rw [Lib.toList_data]
  by_cases h0 : s = ⟨#[33]⟩
  · have k1 : (s.toList == [33]) = true := by rw [← e33, Txt.eq_dec, decide_eq_true h0]
    clear e33
    have HD := Lib.hid hD; have H0 := Lib.hid h0; clear hD h0
    gi_wp2
    refine ⟨_, results_cells rfl rfl rfl (heap_below (below_alloc1 _ _) (heap_below (below_alloc1 _ _) (heap_new_at rfl))) (heap_below (below_alloc1 _ _) (heap_new_at (by simp))) (Tryz.isAgg23 _) (Tryz.isAgg4 _), ?_⟩
    exact ⟨.inl ⟨_, rfl, .inl ⟨H0.out, rfl⟩⟩, (((Below.refl _ w).alloc (Nat.le_refl _) _).alloc (by simp) _).alloc (by simp; omega) _⟩
  · have k1 : (s.toList == [33]) = false := by rw [← e33, Txt.eq_dec, decide_eq_false h0]
    clear e33
    have hq := splitSeq_any s 44 (((w.alloc (.cells #[.slice none 0 0] 23)).alloc (.cells #[.bool false] 4)).alloc (.cells #[.slice none 0 0] 23))
    have Hq := Lib.hid hq; have HD := Lib.hid hD; have H0 := Lib.hid h0; clear hq hD h0
    gi_wp2
    refine ⟨trivial, (callsIn_wide.2 Hq.out).mono ?_⟩
    rintro e w2 ⟨rfl, rfl⟩
    gi_wp2
    have hsb : SBox (w.heap.size + 1 + 1 + 1) (w.heap.size + 1 + 1 + 1 + 1) (w.heap.size + 1 + 1 + 1 + 1 + 1) 44 s ((((((w.alloc (.cells #[.slice none 0 0] 23)).alloc (.cells #[.bool false] 4)).alloc (.cells #[.slice none 0 0] 23)).alloc (.cells #[.string s] 9)).alloc (.cells #[.string ⟨#[44]⟩] 9)).alloc (.cells #[.int .i64 0] 3)) := by
      have a1 := heap_new_at (w := (((w.alloc (.cells #[.slice none 0 0] 23)).alloc (.cells #[.bool false] 4)).alloc (.cells #[.slice none 0 0] 23))) (o := .cells #[.string s] 9) (n := w.heap.size + 1 + 1 + 1) (by simp)
      have a2 := heap_new_at (w := ((((w.alloc (.cells #[.slice none 0 0] 23)).alloc (.cells #[.bool false] 4)).alloc (.cells #[.slice none 0 0] 23)).alloc (.cells #[.string s] 9))) (o := .cells #[.string ⟨#[44]⟩] 9) (n := w.heap.size + 1 + 1 + 1 + 1) (by simp)
      have a3 := heap_new_at (w := (((((w.alloc (.cells #[.slice none 0 0] 23)).alloc (.cells #[.bool false] 4)).alloc (.cells #[.slice none 0 0] 23)).alloc (.cells #[.string s] 9)).alloc (.cells #[.string ⟨#[44]⟩] 9))) (o := .cells #[.int .i64 0] 3) (n := w.heap.size + 1 + 1 + 1 + 1 + 1) (by simp)
      exact ⟨heap_below (below_alloc1 _ _) (heap_below (below_alloc1 _ _) a1), heap_below (below_alloc1 _ _) a2, a3⟩
    obtain ⟨W0, hW0⟩ : ∃ W0, W0 = ((((((w.alloc (.cells #[.slice none 0 0] 23)).alloc (.cells #[.bool false] 4)).alloc (.cells #[.slice none 0 0] 23)).alloc (.cells #[.string s] 9)).alloc (.cells #[.string ⟨#[44]⟩] 9)).alloc (.cells #[.int .i64 0] 3)) := ⟨_, rfl⟩
    have hs0 : W0.heap.size = w.heap.size + 6 := by rw [hW0]; simp
    rw [← hW0] at hsb ⊢
    have hSI : SI w W0 [] := by
      rw [hW0]
      have k1 : ∀ {w' : World} {o : Obj} {k : Nat} {o' : Obj}, w'.heap[k]? = some o → (w'.alloc o').heap[k]? = some o := fun h => heap_below (below_alloc1 _ _) h
      refine ⟨(((((((Below.refl _ w).alloc (Nat.le_refl _) _).alloc (by simp) _).alloc (by simp; omega) _).alloc (by simp; omega) _).alloc (by simp; omega) _).alloc (by simp; omega) _), k1 (k1 (k1 (k1 (k1 (heap_new_at rfl))))), k1 (k1 (k1 (k1 (heap_new_at (by simp))))), ⟨_, k1 (k1 (k1 (heap_new_at (by simp)))), World.ownsRow_nil _ _ _ _⟩, (fun p hp => by cases hp)⟩
    have HW0 := Lib.hid hW0; clear hW0
    refine wpIn_range_own rfl (by omega) (gf := fSplit) rfl trivial (enters_of Tryz.func167 (by kernel_rfl) rfl) (split_stops 7 (by omega) _ _ _ 44 s (by omega) W0 (by omega) (by omega) (by omega) (by omega) (by omega) hsb)
      (fun k hk => by rcases hk with h | h | h <;> omega) (by omega) (Below.refl _ _) rfl
      (fun pre W => w.heap.size + 6 ≤ W.heap.size ∧ SI w W pre) (fun pre W => w.heap.size + 6 ≤ W.heap.size ∧ SX w W pre) (OwnFrom.and (ownFrom_size _) (SI.own (by omega))) (OwnFrom.and (ownFrom_size _) (SX.own (by omega))) (fun pre W i u h => ⟨by simp [World.setCell]; exact h.1, SI.lets w pre W i u h.2⟩) (fun pre W i u h => ⟨by simp [World.setCell]; exact h.1, SX.lets w pre W i u h.2⟩) ⟨by omega, hSI⟩
      (fun x => { tmps := #[.string s, undef, .pointer (some ⟨w.heap.size, 0, none⟩), .pointer (some ⟨w.heap.size + 1, 0, none⟩), .pointer (some ⟨w.heap.size + 1 + 1, 0, none⟩), .string x, undef, undef, .string s, .bool false, .string s,
        .func (.func fSplit) #[] #[.pointer (some ⟨w.heap.size + 1 + 1 + 1 + 1, 0, none⟩), .pointer (some ⟨w.heap.size + 1 + 1 + 1, 0, none⟩), .pointer (some ⟨w.heap.size + 1 + 1 + 1 + 1 + 1, 0, none⟩)], .string x, undef, undef, undef, undef, undef, undef, undef, undef, undef, undef, undef, undef, undef, undef, undef, undef], defers := [] }) ?assign ?body ?done ?stop
    case assign =>
      intro l x W K hK
      gi_wp2
      exact hK
    case body =>
      rintro l pre x W ⟨hsz, h⟩ ⟨hx, hpx⟩
      obtain ⟨v, hv, hrow⟩ := h.out
      obtain ⟨a, cap, rfl⟩ := own_shape hrow
      have hR := spanRead_any x (by omega) (HD.out.below h.bel)
      obtain ⟨b, hb⟩ : ∃ b, b = spOk x.data.toList := ⟨_, rfl⟩
      obtain ⟨y1, hy1⟩ : ∃ y, y = (spV x).1 := ⟨_, rfl⟩
      obtain ⟨y2, hy2⟩ : ∃ y, y = (spV x).2 := ⟨_, rfl⟩
      have c0 : W.cell? ⟨w.heap.size + 1 + 1, 0, none⟩ = some (.slice a pre.length cap) := cells_at hv 0
      rw [← hb, ← hy1, ← hy2] at hR
      have hpl : pre.length ≤ 20000 := by
        have h1 := hpx.length_le
        have h2 : (cutS 44 s).length ≤ s.size + 1 := by rw [cutS_len, ← dlen s]; exact (cutL_len 44 _).2
        rw [List.length_append, List.length_singleton] at h1
        omega
      have Hv := Lib.hid hv; have Hrow := Lib.hid hrow; have HR := Lib.hid hR; have Hh := Lib.hid h; have Hc0 := Lib.hid c0; have Hx := Lib.hid hx; have Hpx := Lib.hid hpx; have Hy1 := Lib.hid hy1; have Hy2 := Lib.hid hy2; clear hv hrow hR h c0 hx hpx hy1 hy2
      gi_wp2
      refine ⟨trivial, (CallsIn.inRound l (callsIn_wide.2 HR.out)).mono ?_⟩
      rintro e W2 ⟨rfl, hb2⟩
      have hb3 : Below W.heap.size W (W2.alloc (.cells #[.string y1, .string y2] 34)) := hb2.alloc hb2.size _
      have r2 := heap_below hb3 Hh.out.r2
      have r3 := heap_below hb3 Hh.out.r3
      have d0 : (W2.alloc (.cells #[.string y1, .string y2] 34)).cell? ⟨w.heap.size + 1 + 1, 0, none⟩ = some (.slice a pre.length cap) := cell_later hb3 Hc0.out
      have d1 : (W2.alloc (.cells #[.string y1, .string y2] 34)).cell? ⟨w.heap.size, 0, none⟩ = some (.slice none 0 0) := cells_at r2 0
      have d2 : (W2.alloc (.cells #[.string y1, .string y2] 34)).cell? ⟨w.heap.size + 1, 0, none⟩ = some (.bool false) := cells_at r3 0
      have f1 := frozen_at r2 0
      have f2 := frozen_at r3 0
      have Hb2 := Lib.hid hb2; have Hb3 := Lib.hid hb3; have Hr2 := Lib.hid r2; have Hr3 := Lib.hid r3; have Hb := Lib.hid hb; clear hb2 hb3 r2 r3 hb
      clear Hq
      cases b with
      | false =>
        have hno := Hh.out.no (B := W0.heap.size) hsz Hb3.out Hb.out.symm
        have hs3 : w.heap.size + 6 ≤ (((W2.alloc (.cells #[.string y1, .string y2] 34)).setCell ⟨w.heap.size, 0, none⟩ (.slice none 0 0)).setCell ⟨w.heap.size + 1, 0, none⟩ (.bool false)).heap.size := by have := Hb3.out.size; simp [World.setCell] at this ⊢; omega
        have Hno := Lib.hid hno; clear hno
        gi_wp2
        exact ⟨Hno.out.1, hs3, Hno.out.2⟩
      | true =>
        have hrow3 := ownsRow_below Hrow.out Hb3.out
        obtain ⟨i0, hi, hz0, hz1, hz2⟩ := info_parts info_span
        have hadd := fun (w1 : World) (v' : Value) => Hh.out.add (B := W0.heap.size) hsz Hb3.out Hv.out Hrow.out (w1 := w1) (v' := v') (x := x) (tmp := .cells #[.string y1, .string y2] 34)
        have hsp : spCells (spV x) = [.string y1, .string y2] := by rw [Hy1.out, Hy2.out]; rfl
        rw [hsp] at hadd
        have hz9 : w.heap.size + 6 ≤ (W2.alloc (.cells #[.string y1, .string y2] 34)).heap.size := by have := Hb3.out.size; omega
        have g1 : pre.length + 1 ≤ maxLen := by unfold maxLen; omega
        have g2 : (pre.length + 1) * 32 ≤ 140737488355328 := by omega
        have g3 : w.heap.size + 6 ≤ ((W2.alloc (.cells #[.string y1, .string y2] 34)).alloc (.cells #[.string y1, .string y2] 34)).heap.size := by simp at hz9 ⊢; omega
        have g4 := lit2 (W2.alloc (.cells #[.string y1, .string y2] 34)) (.string y1) (.string y2) 34 (n := W2.heap.size + 1) (by simp)
        have g5 : ∀ u ∈ [Value.string y1, .string y2], u.oneCell' = true := by simp [Value.oneCell']
        have Hrow3 := Lib.hid hrow3; have Hsp := Lib.hid hsp; have Hadd := Lib.hid hadd; have Hz9 := Lib.hid hz9; have Hg1 := Lib.hid g1; have Hg2 := Lib.hid g2; have Hg3 := Lib.hid g3; have Hg4 := Lib.hid g4; have Hg5 := Lib.hid g5; clear hrow3 hsp hadd hz9 g1 g2 g3 g4 g5
        gi_wp2_with (gi_at_builtin; refine wpListIn_append_own _ rfl _ _ 23 rfl (w.heap.size + 6) 34 i0 (.agg #[.string ⟨#[]⟩, .string ⟨#[]⟩]) 2 32 Tryz.underlying23 hi hz0 hz1 hz2 rfl (by decide) _ _ _ rfl (Hrow3.out.alloc _) ⟨W2.heap.size + 1, 0, none⟩ 1 1 [.string y1, .string y2] rfl rfl Hg4.out Hg5.out Hg1.out Hg2.out Hg3.out ?_; intro v' w1 hown' hgrow _; obtain ⟨g', cap', rfl⟩ := ownsRow_succ hown'; have hfin := Hadd.out w1 _ hown' hgrow Hb.out.symm; clear hown' hgrow; refine Hid.out ?_)
        have e1 := cells_at hfin.2.2.2.1 0
        have e2 := frozen_at hfin.2.2.2.1 0
        simp only [List.getElem?_toArray, List.getElem?_cons_zero] at e1
        have Hfin := Lib.hid hfin; clear hfin
        refine Lib.hid ?_
        gi_wp2
        exact ⟨Hfin.out.1, Hfin.out.2.1, Hfin.out.2.2.2.2, Hfin.out.2.2.1⟩
    case done =>
      rintro D ys W hD rfl ⟨hsz, h⟩ hK
      obtain ⟨v, hv, hrow⟩ := h.out
      obtain ⟨a, cap, rfl⟩ := own_shape hrow
      have c0 : W.cell? ⟨w.heap.size + 1 + 1, 0, none⟩ = some (.slice a (cutS 44 s).length cap) := cells_at hv 0
      obtain ⟨l, hl⟩ := rd_ok s h.ok
      have hll : l.length = (cutS 44 s).length := by have := congrArg List.length hl; simpa [rdSp] using this
      have hn1 : (cutS 44 s).length ≤ s.size + 1 := by rw [cutS_len, ← dlen s]; exact (cutL_len 44 _).2
      have hrl : (rdSp s).length = (cutS 44 s).length := by simp [rdSp]
      have hrd : RSps W [.slice a (cutS 44 s).length cap] (tB l) := by
        rw [hl]
        refine sps_reads (B := w.heap.size + 6) (fun x hx => ?_) ?_
        · obtain ⟨p, hp, rfl⟩ := List.mem_map.1 hx
          have h1 := cutS_piece hp
          have h2 := spV_size p
          unfold maxLen; omega
        · rw [hrl]
          have h3 := hrow
          rw [rowsB_map] at h3
          exact h3
      have hT := spsText_any hrd (by omega) (HD.out.below h.bel)
      have hall := h.ok
      have hinj : ∀ l', tB l' = rdSp s → l' = l := fun l' h' => (List.map_inj_right fun _ _ e => Subtype.ext e).1 (h'.trans hl.symm)
      obtain ⟨T, hTT⟩ : ∃ T, T = spsText l := ⟨_, rfl⟩
      rw [← hTT] at hT
      have k2 : (T.toList == s.toList) = decide (T = s) := Txt.eq_dec _ _
      by_cases htx : T = s
      · have k3 : (T.toList == s.toList) = true := by rw [k2, decide_eq_true htx]
        clear k2
        have Hv := Lib.hid hv; have Hrow := Lib.hid hrow; have Hh := Lib.hid h; have HT := Lib.hid hT; have Hall := Lib.hid hall; have Hinj := Lib.hid hinj; have HTT := Lib.hid hTT; have Htx := Lib.hid htx; have Hrd := Lib.hid hrd; have Hl := Lib.hid hl; have Hll := Lib.hid hll; have Hrl := Lib.hid hrl; clear hv hrow h hT hall hinj hTT htx hrd hl hll hrl
        gi_wp2
        refine ⟨trivial, (callsIn_wide.2 HT.out).mono ?_⟩
        rintro e W5 ⟨rfl, hb5⟩
        have r2 := heap_below hb5 Hh.out.r2
        have r3 := heap_below hb5 Hh.out.r3
        have hK5 := heap_below hb5 hK
        have c5 := cell_later hb5 c0
        have hrow5 := ownsRow_below Hrow.out hb5
        have c1 := cells_at r2 0
        have c2 := cells_at r3 0
        have f1 := frozen_at r2 0
        have f2 := frozen_at r3 0
        simp only [List.getElem?_toArray, List.getElem?_cons_zero] at c1 c2
        have Hb5 := Lib.hid hb5; have Hr2 := Lib.hid r2; have Hr3 := Lib.hid r3; have Hrow5 := Lib.hid hrow5; clear hb5 r2 r3 hrow5
        gi_wp2
        have hK2 : ((W5.setCell ⟨w.heap.size, 0, none⟩ (.slice a (cutS 44 s).length cap)).setCell ⟨w.heap.size + 1, 0, none⟩ (.bool true)).heap[D]? = some (.deferred (some [])) := heap_other (heap_other hK5 (by omega)) (by omega)
        have x1 := heap_other (b := w.heap.size + 1) (i := 0) (u := .bool true) (heap_setCell_same W5 w.heap.size 0 _ _ (.slice a (cutS 44 s).length cap) Hr2.out) (by omega)
        have x2 := heap_setCell_same _ (w.heap.size + 1) 0 _ _ (.bool true) (heap_other (b := w.heap.size) (i := 0) (u := .slice a (cutS 44 s).length cap) Hr3.out (by omega))
        have hb9 : Below w.heap.size w ((W5.setCell ⟨w.heap.size, 0, none⟩ (.slice a (cutS 44 s).length cap)).setCell ⟨w.heap.size + 1, 0, none⟩ (.bool true)) := ((Hh.out.bel.trans (Hb5.out.mono Hh.out.bel.size)).setCell (p := ⟨w.heap.size, 0, none⟩) (Nat.le_refl _) _).setCell (p := ⟨w.heap.size + 1, 0, none⟩) (by show w.heap.size ≤ w.heap.size + 1; omega) _
        have ho : ((W5.setCell ⟨w.heap.size, 0, none⟩ (.slice a (cutS 44 s).length cap)).setCell ⟨w.heap.size + 1, 0, none⟩ (.bool true)).ownsRow (w.heap.size + 6) 34 2 (.slice a (cutS 44 s).length cap) (cutS 44 s).length (rowsB (cutS 44 s)) := own_set (own_set Hrow5.out (p := w.heap.size) (by omega) 0 (.slice a (cutS 44 s).length cap)) (p := w.heap.size + 1) (by omega) 0 (.bool true)
        refine ⟨by simp, .inl ⟨_, _, rfl, run_takeDeferred hK2, ?_⟩⟩
        refine ⟨_, results_cells rfl rfl rfl ((World.putObj_heap_other (by omega)).trans x1) ((World.putObj_heap_other (by omega)).trans x2) (Tryz.isAgg23 _) (Tryz.isAgg4 _), ?_⟩
        refine ⟨.inl ⟨_, rfl, .inr ⟨H0.out, Hall.out, fun l' h' => by rw [Hinj.out l' h', ← HTT.out, Htx.out], ?_⟩⟩, hb9.trans (belowK_b (w := w) (Nat.le_refl _) _ D _ _ (by omega) hK2 rfl rfl)⟩
        have e9 : (rdSp s).flatMap spCells = rowsB (cutS 44 s) := (rowsB_map _).symm
        rw [e9, Hrl.out]
        exact ownsRow_mono (ownsRow_putObj ho _ hK2 rfl) (by omega)
      · have k3 : (T.toList == s.toList) = false := by rw [k2, decide_eq_false htx]
        clear k2
        have Hv := Lib.hid hv; have Hrow := Lib.hid hrow; have Hh := Lib.hid h; have HT := Lib.hid hT; have Hall := Lib.hid hall; have Hinj := Lib.hid hinj; have HTT := Lib.hid hTT; have Htx := Lib.hid htx; have Hrd := Lib.hid hrd; have Hl := Lib.hid hl; have Hll := Lib.hid hll; have Hrl := Lib.hid hrl; clear hv hrow h hT hall hinj hTT htx hrd hl hll hrl
        gi_wp2
        refine ⟨trivial, (callsIn_wide.2 HT.out).mono ?_⟩
        rintro e W5 ⟨rfl, hb5⟩
        have r2 := heap_below hb5 Hh.out.r2
        have r3 := heap_below hb5 Hh.out.r3
        have hK5 := heap_below hb5 hK
        have c5 := cell_later hb5 c0
        have hrow5 := ownsRow_below Hrow.out hb5
        have c1 := cells_at r2 0
        have c2 := cells_at r3 0
        have f1 := frozen_at r2 0
        have f2 := frozen_at r3 0
        simp only [List.getElem?_toArray, List.getElem?_cons_zero] at c1 c2
        have Hb5 := Lib.hid hb5; have Hr2 := Lib.hid r2; have Hr3 := Lib.hid r3; have Hrow5 := Lib.hid hrow5; clear hb5 r2 r3 hrow5
        gi_wp2
        have hK2 : ((W5.setCell ⟨w.heap.size, 0, none⟩ (.slice none 0 0)).setCell ⟨w.heap.size + 1, 0, none⟩ (.bool false)).heap[D]? = some (.deferred (some [])) := heap_other (heap_other hK5 (by omega)) (by omega)
        have x1 := heap_other (b := w.heap.size + 1) (i := 0) (u := .bool false) (heap_setCell_same W5 w.heap.size 0 _ _ (.slice none 0 0) Hr2.out) (by omega)
        have x2 := heap_setCell_same _ (w.heap.size + 1) 0 _ _ (.bool false) (heap_other (b := w.heap.size) (i := 0) (u := .slice none 0 0) Hr3.out (by omega))
        have hb9 : Below w.heap.size w ((W5.setCell ⟨w.heap.size, 0, none⟩ (.slice none 0 0)).setCell ⟨w.heap.size + 1, 0, none⟩ (.bool false)) := ((Hh.out.bel.trans (Hb5.out.mono Hh.out.bel.size)).setCell (p := ⟨w.heap.size, 0, none⟩) (Nat.le_refl _) _).setCell (p := ⟨w.heap.size + 1, 0, none⟩) (by show w.heap.size ≤ w.heap.size + 1; omega) _
        have ho : ((W5.setCell ⟨w.heap.size, 0, none⟩ (.slice none 0 0)).setCell ⟨w.heap.size + 1, 0, none⟩ (.bool false)).ownsRow (w.heap.size + 6) 34 2 (.slice a (cutS 44 s).length cap) (cutS 44 s).length (rowsB (cutS 44 s)) := own_set (own_set Hrow5.out (p := w.heap.size) (by omega) 0 (.slice none 0 0)) (p := w.heap.size + 1) (by omega) 0 (.bool false)
        refine ⟨by simp, .inl ⟨_, _, rfl, run_takeDeferred hK2, ?_⟩⟩
        refine ⟨_, results_cells rfl rfl rfl ((World.putObj_heap_other (by omega)).trans x1) ((World.putObj_heap_other (by omega)).trans x2) (Tryz.isAgg23 _) (Tryz.isAgg4 _), ?_⟩
        refine ⟨.inr ⟨rfl, H0.out, .inr fun l' h' => by rw [Hinj.out l' h', ← HTT.out]; exact Htx.out⟩, hb9.trans (belowK_b (w := w) (Nat.le_refl _) _ D _ _ (by omega) hK2 rfl rfl)⟩
    case stop =>
      rintro D pre W hD hpre ⟨hsz, h⟩ hK
      obtain ⟨p, hp, hf⟩ := h.bad
      have hbad : ∃ p ∈ cutS 44 s, spOk p.data.toList = false := ⟨p, hpre.subset hp, hf⟩
      have Hbad := Lib.hid hbad; clear hbad
      gi_wp2
      refine ⟨by simp, .inl ⟨_, _, rfl, run_takeDeferred hK, ?_⟩⟩
      refine ⟨_, results_cells rfl rfl rfl ((World.putObj_heap_other (by omega)).trans h.r2) ((World.putObj_heap_other (by omega)).trans h.r3) (Tryz.isAgg23 _) (Tryz.isAgg4 _), ?_⟩
      exact ⟨.inr ⟨rfl, H0.out, .inl Hbad.out⟩, h.bel.trans (belowK_b (w := w) (Nat.le_refl _) _ D _ _ (by omega) hK rfl rfl)⟩
end Go.Proofs.YteailgjiifdgcaaGreatDoor
