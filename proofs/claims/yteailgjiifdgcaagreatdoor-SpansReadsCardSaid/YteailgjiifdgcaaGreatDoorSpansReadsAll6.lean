/- Walks and plain facts. Texts merged: StbSpanI, StbSpanT, SpsI, SpsJ, SpsT, SpsFx, SpsR, SpsK. Condition: none beyond what each says. -/
import Derived.Shelf.SlSortCmp.QuietGrown
import Derived.Deep.RegionHeld3
import Derived.Laws.EntriesVeiled
import Derived.Lib.Join
import Derived.Test.YteailgjiifdgcaaGreatDoorSpansReadsAll1
import Derived.Test.YteailgjiifdgcaaGreatDoorSpansReadsAll2
import Derived.Test.YteailgjiifdgcaaGreatDoorSpansReadsAll3
import Derived.Test.YteailgjiifdgcaaGreatDoorSpansReadsAll4
import Derived.Test.YteailgjiifdgcaaGreatDoorSpansReadsAll5
/- The walks of slices.SortStableFunc at api.Span: insertionSortCmpFunc. Printed by gen_stc.py. -/
namespace Go.Proofs.YteailgjiifdgcaaGreatDoor
open Go.Shelf Go.RowKit Go.Lib Go.Sort SortM StbA StbB
namespace StbSpan
variable {α : Type} [Inhabited α] {f0 : α → ByteArray} {f1 : α → ByteArray} {w0 : World} {blk off : Nat} {d0 : Array α}
variable {cf : α → α → Int} {g : Nat} {cb : Array Value}
set_option maxRecDepth 10000 in
set_option maxHeartbeats 8000000 in
theorem insertion_any {d : Array α} {w : World} (R : RowK (enc f0 f1) 2 w0 blk off d0) (S : SWK (enc f0 f1) 2 w0 blk off d w) (C : CmpLays Tryz.prog g cb (enc f0 f1) 2 cf blk off d0.size w0) (eg : ∀ args w, (callFunc g args).run Tryz.prog w = .ok (.enter g args) w)
    (hs : d.size = d0.size) {a b : Nat} (hab : a ≤ b) (hb : b ≤ d0.size) (cap : Nat) (hn : d0.size ≤ 1000000) :
    Calls Tryz.prog 195 #[.slice (some ⟨blk, off, none⟩) d0.size cap, .int .i64 a, .int .i64 b, .func (.func g) #[] cb] w fun e w' => e = .returned (.tuple #[]) ∧ SWK (enc f0 f1) 2 w0 blk off (Sort.insertionSort (ltOf cf) d a b) w' := by
  obtain ⟨N, hN⟩ : ∃ N, N = d0.size := ⟨_, rfl⟩
  rw [← hN] at hn hs hb ⊢
  have HS := Lib.hid S; have Hs := Lib.hid hs; have HN := Lib.hid hN; have HC := Lib.hid C; have HR := Lib.hid R; clear S hs hN C R
  go_enter Tryz.func195, Tryz.ntmps195
  go_wp2_with fail
  go_loopw [8] (fun x wr => ∃ (i : Nat) (dk : Array α), x = .int .i64 i ∧ a < i ∧ i ≤ b + 1 ∧ dk.size = N ∧ SWK (enc f0 f1) 2 w0 blk off dk wr ∧ insOuter (ltOf cf) a b i dk = insOuter (ltOf cf) a b (a + 1) d) (fun x _ => b + 1 - (intOf x).toNat)
  case atStart => exact ⟨a + 1, d, by go_num, by omega, by omega, Hs.out, HS.out, rfl⟩
  case round =>
    obtain ⟨i, dk, rfl, hai, hib, hsk, S, hO⟩ := hrel
    by_cases hlt : i < b
    · have w1 : IntKind.i64.wrap ((i : Int) + 1) = (i : Int) + 1 := IntWalk.i64_in _ (by omega)
      have hltz : (i : Int) < (b : Int) := by omega
      have HO := Lib.hid hO; have HS := Lib.hid S; have Hsk := Lib.hid hsk; clear hO S hsk
      go_wp2_with fail
      go_loopw [9] (fun x wq => ∃ (j : Nat) (dj : Array α), x = .int .i64 j ∧ a ≤ j ∧ j ≤ i ∧ dj.size = N ∧ SWK (enc f0 f1) 2 w0 blk off dj wq ∧ insInner (ltOf cf) a j dj = insInner (ltOf cf) a i dk) (fun x _ => (intOf x).toNat)
      case atStart => exact ⟨i, dk, rfl, by omega, Nat.le_refl _, Hsk.out, HS.out, rfl⟩
      case round =>
        obtain ⟨j, dj, rfl, haj, hji, hl, S, hI⟩ := hrel
        have out : (j ≤ a ∨ ltOf cf dj[j]! dj[j - 1]! = false) → insOuter (ltOf cf) a b (i + 1) dj = insOuter (ltOf cf) a b (a + 1) d := fun hs => by
          rw [← HO.out, insOuter_go _ _ _ _ _ hlt, ← hI, insInner_stop _ _ _ _ hs]
        by_cases hja : a < j
        · obtain ⟨jp, rfl⟩ : ∃ jp, j = jp + 1 := ⟨j - 1, by omega⟩
          have hlt2 := hlt
          have R := HR.out
          have C := HC.out
          rw [HN.out] at hl
          have hN' := HN.out
          obtain ⟨p0, _, p1, _⟩ := cells S R hl (jp + 1) (by omega)
          obtain ⟨x, hx⟩ : ∃ v, v = dj[jp + 1]! := ⟨_, rfl⟩
          rw [← hx] at p0 p1
          obtain ⟨x0, hx0⟩ : ∃ v, v = f0 x := ⟨_, rfl⟩
          rw [← hx0] at p0
          obtain ⟨x1, hx1⟩ : ∃ v, v = f1 x := ⟨_, rfl⟩
          rw [← hx1] at p1
          obtain ⟨q0, _, q1, _⟩ := cells S R hl (jp) (by omega)
          obtain ⟨y, hy⟩ : ∃ v, v = dj[jp]! := ⟨_, rfl⟩
          rw [← hy] at q0 q1
          obtain ⟨y0, hy0⟩ : ∃ v, v = f0 y := ⟨_, rfl⟩
          rw [← hy0] at q0
          obtain ⟨y1, hy1⟩ : ∃ v, v = f1 y := ⟨_, rfl⟩
          rw [← hy1] at q1
          have hcg : ∀ V, Below wr.heap.size wr V → Calls Tryz.prog g (#[.agg #[.string (x0), .string (x1)], .agg #[.string (y0), .string (y1)]] ++ cb) V fun e w' => e = .returned (.int .i64 (cf x y)) ∧ Below V.heap.size V w' := fun V hV => by rw [hx0, hy0, hx1, hy1]; exact C V (SortR.SRW.below S hV).frm x y
          have hczf : ∀ V, Below wr.heap.size wr V → V.cell? ⟨blk, off + (jp + 1) * 2, none⟩ = some (.string (x0)) ∧ V.cell? ⟨blk, off + (jp + 1) * 2 + 1, none⟩ = some (.string (x1)) ∧ V.cell? ⟨blk, off + (jp) * 2, none⟩ = some (.string (y0)) ∧ V.cell? ⟨blk, off + (jp) * 2 + 1, none⟩ = some (.string (y1)) := fun V hV => ⟨cell_later hV p0, cell_later hV p1, cell_later hV q0, cell_later hV q1⟩
          obtain ⟨cv, hcv⟩ : ∃ v, v = cf x y := ⟨_, rfl⟩
          rw [← hcv] at hcg
          have hGR := S
          have w2 : IntKind.i64.wrap (jp : Int) = (jp : Int) := IntWalk.i64_in _ (by omega)
          have n2 : ((jp : Int) + 1).toNat = jp + 1 := by omega
          have u2 : (0 : Int) ≤ (jp : Int) + 1 := by omega
          have v1 : (jp : Int) < (N : Int) := by omega
          have v2 : (jp : Int) + 1 < (N : Int) := by omega
          have v3 : (a : Int) < (jp : Int) + 1 := by omega
          clear S R C hN'
          cases hdec : decide (cv < 0) with
          | true =>
            have hlv : cv < 0 := of_decide_eq_true hdec
            have hI2 : insInner (ltOf cf) a jp (swp dj (jp + 1) jp) = insInner (ltOf cf) a i dk := by
              rw [← hI]
              have := insInner_go (ltOf cf) a (jp + 1) dj hja (by simp only [Nat.add_sub_cancel]; rw [← hx, ← hy]; unfold ltOf; rw [← hcv]; exact hdec)
              simp only [Nat.add_sub_cancel] at this
              exact this.symm
            have HI := Lib.hid hI; have HI2 := Lib.hid hI2; have Hl := Lib.hid hl; have Hout := Lib.hid out; have Hx := Lib.hid hx; have Hy := Lib.hid hy; have Hx0 := Lib.hid hx0; have Hy0 := Lib.hid hy0; have Hx1 := Lib.hid hx1; have Hy1 := Lib.hid hy1; have HGR := Lib.hid hGR; have Hcg := Lib.hid hcg; have Hczf := Lib.hid hczf; have Hcv := Lib.hid hcv; have Hdec := Lib.hid hdec; clear hI hI2 hl out hx hy hx0 hy0 hx1 hy1 hGR hcg hczf hcv hdec
            go_wp2_with fail
            have mixed : Tryz.prog.follows .mixedOrders = true := by kernel_rfl
            have hbz := bel_drewN (Below.refl wr.heap.size wr) 1
            have hcz := Hczf.out _ hbz
            go_region_held3 (fun w' => w'.cell? ⟨blk, off + (jp + 1) * 2, none⟩ = some (.string (x0)) ∧ w'.cell? ⟨blk, off + (jp + 1) * 2 + 1, none⟩ = some (.string (x1)) ∧ w'.cell? ⟨blk, off + (jp) * 2, none⟩ = some (.string (y0)) ∧ w'.cell? ⟨blk, off + (jp) * 2 + 1, none⟩ = some (.string (y1))) (first | exact hcz | go_keep) (first | (go_at_fn g; refine (Hcg.out _ (by exact hbz)).mono ?_; rintro e wz ⟨rfl, hsz⟩; replace hbz := hbz.trans (hsz.mono hbz.size); replace hcz := Hczf.out _ hbz))
            all_goals
              go_wp2_with fail
              have S := HGR.out.below hbz
              clear Hcg Hczf p0 q0 p1 q1
              obtain ⟨w2, hw2⟩ : ∃ w2, w2 = wz := ⟨_, rfl⟩
              rw [← hw2] at S ⊢
              have R := HR.out
              have hl := Hl.out
              have hN' := HN.out
              have hEX := exch S R (jp + 1) (jp) (by omega) (by omega)
              obtain ⟨p0, pf0, p1, pf1⟩ := cells S R hl (jp + 1) (by omega)
              obtain ⟨q0, qf0, q1, qf1⟩ := cells S R hl (jp) (by omega)
              obtain ⟨x, hx⟩ : ∃ x, x = dj[jp + 1]! := ⟨_, rfl⟩
              obtain ⟨y, hy⟩ : ∃ y, y = dj[jp]! := ⟨_, rfl⟩
              rw [← hx] at p0 p1 hEX
              rw [← hy] at q0 q1 hEX
              obtain ⟨x0, hx0⟩ : ∃ v, v = f0 x := ⟨_, rfl⟩
              obtain ⟨y0, hy0⟩ : ∃ v, v = f0 y := ⟨_, rfl⟩
              rw [← hx0] at p0 hEX
              rw [← hy0] at q0 hEX
              obtain ⟨x1, hx1⟩ : ∃ v, v = f1 x := ⟨_, rfl⟩
              obtain ⟨y1, hy1⟩ : ∃ v, v = f1 y := ⟨_, rfl⟩
              rw [← hx1] at p1 hEX
              rw [← hy1] at q1 hEX
              have na00 : ¬ off + (jp + 1) * 2 = off + (jp) * 2 := by omega
              have nb00 : ¬ off + (jp) * 2 = off + (jp + 1) * 2 := by omega
              have na01 : ¬ off + (jp + 1) * 2 = off + (jp) * 2 + 1 := by omega
              have nb01 : ¬ off + (jp) * 2 = off + (jp + 1) * 2 + 1 := by omega
              have na10 : ¬ off + (jp + 1) * 2 + 1 = off + (jp) * 2 := by omega
              have nb10 : ¬ off + (jp) * 2 + 1 = off + (jp + 1) * 2 := by omega
              have na11 : ¬ off + (jp + 1) * 2 + 1 = off + (jp) * 2 + 1 := by omega
              have nb11 : ¬ off + (jp) * 2 + 1 = off + (jp + 1) * 2 + 1 := by omega
              clear S R hN'
              have Hl := Lib.hid hl; have Hw2 := Lib.hid hw2; have Hx := Lib.hid hx; have Hy := Lib.hid hy; have Hx0 := Lib.hid hx0; have Hy0 := Lib.hid hy0; have Hx1 := Lib.hid hx1; have Hy1 := Lib.hid hy1; have HEX := Lib.hid hEX; clear hl hw2 hx hy hx0 hy0 hx1 hy1 hEX
              go_wp2_with fail
              go_region
              all_goals
                go_wp2_with fail
                go_roundw
                case rel => exact ⟨jp, _, rfl, by omega, by omega, by rw [size_swp, Hl.out, HN.out], HEX.out, HI2.out⟩
                case measure => simp [intOf] <;> omega
          | false =>
            have hlv : ¬ cv < 0 := of_decide_eq_false hdec
            have hO2 := out (Or.inr (by simp only [Nat.add_sub_cancel]; rw [← hx, ← hy]; unfold ltOf; rw [← hcv]; exact hdec))
            have HI := Lib.hid hI; have HO2 := Lib.hid hO2; have Hl := Lib.hid hl; have Hout := Lib.hid out; have Hx := Lib.hid hx; have Hy := Lib.hid hy; have Hx0 := Lib.hid hx0; have Hy0 := Lib.hid hy0; have Hx1 := Lib.hid hx1; have Hy1 := Lib.hid hy1; have HGR := Lib.hid hGR; have Hcg := Lib.hid hcg; have Hczf := Lib.hid hczf; have Hcv := Lib.hid hcv; have Hdec := Lib.hid hdec; clear hI hO2 hl out hx hy hx0 hy0 hx1 hy1 hGR hcg hczf hcv hdec
            go_wp2_with fail
            have mixed : Tryz.prog.follows .mixedOrders = true := by kernel_rfl
            have hbz := bel_drewN (Below.refl wr.heap.size wr) 1
            have hcz := Hczf.out _ hbz
            go_region_held3 (fun w' => w'.cell? ⟨blk, off + (jp + 1) * 2, none⟩ = some (.string (x0)) ∧ w'.cell? ⟨blk, off + (jp + 1) * 2 + 1, none⟩ = some (.string (x1)) ∧ w'.cell? ⟨blk, off + (jp) * 2, none⟩ = some (.string (y0)) ∧ w'.cell? ⟨blk, off + (jp) * 2 + 1, none⟩ = some (.string (y1))) (first | exact hcz | go_keep) (first | (go_at_fn g; refine (Hcg.out _ (by exact hbz)).mono ?_; rintro e wz ⟨rfl, hsz⟩; replace hbz := hbz.trans (hsz.mono hbz.size); replace hcz := Hczf.out _ hbz))
            all_goals
              go_wp2_with fail
              go_roundw
              case rel => exact ⟨i + 1, dj, by go_num, by omega, by omega, by rw [Hl.out, HN.out], HGR.out.below hbz, HO2.out⟩
              case measure => simp [intOf]; omega
        · have v3 : ¬ (a : Int) < (j : Int) := by omega
          have v4 : decide ((a : Int) < (j : Int)) = false := decide_eq_false v3
          have hO2 := out (Or.inl (by omega))
          have hGR := S.drew
          have HI := Lib.hid hI; have HO2 := Lib.hid hO2; have Hl := Lib.hid hl; have Hout := Lib.hid out; have HS := Lib.hid S; have HGR := Lib.hid hGR; clear hI hO2 hl out S hGR
          go_wp2_with fail
          go_region
          all_goals
            go_wp2_with fail
            go_roundw
            case rel => exact ⟨i + 1, dj, by go_num, by omega, by omega, Hl.out, HGR.out, HO2.out⟩
            case measure => simp [intOf]; omega
    · have hltz : ¬ (i : Int) < (b : Int) := by omega
      have hE : dk = Sort.insertionSort (ltOf cf) d a b := by unfold Sort.insertionSort; rw [← hO, insOuter_stop _ _ _ _ _ hlt]
      rw [hE] at S
      have HS := Lib.hid S; have HO := Lib.hid hO; have HE := Lib.hid hE; clear S hO hE
      go_wp2_with fail
      go_end0
      exact ⟨rfl, HS.out⟩
end StbSpan
end Go.Proofs.YteailgjiifdgcaaGreatDoor

/- The walks of slices.SortStableFunc at api.Span: stableCmpFunc and SortStableFunc. Printed by gen_stc.py. -/
namespace Go.Proofs.YteailgjiifdgcaaGreatDoor
open Go.Shelf Go.RowKit Go.Lib Go.Sort SortM StbA StbB
namespace StbSpan
variable {α : Type} [Inhabited α] {f0 : α → ByteArray} {f1 : α → ByteArray} {w0 : World} {blk off : Nat} {d0 : Array α}
variable {cf : α → α → Int} {g : Nat} {cb : Array Value}
theorem merge_any (R : RowK (enc f0 f1) 2 w0 blk off d0) (C : CmpLays Tryz.prog g cb (enc f0 f1) 2 cf blk off d0.size w0) (eg : ∀ args w, (callFunc g args).run Tryz.prog w = .ok (.enter g args) w) (hO : Swo (ltOf cf)) (cap : Nat) (hn : d0.size ≤ 1000000) : ∀ n, MergeOf cf (enc f0 f1) g cb w0 blk off cap d0 n := by
  intro n
  induction n with
  | zero => intro dk w p u v q a m b S hd hs hu hv ha hm hb h1 h2 hle; omega
  | succ n IH =>
    intro dk w p u v q a m b S hd hs hu hv ha hm hb h1 h2 hle
    match u, hd, hu, hm, h1 with
    | [], _, _, _, h1 => simp at h1
    | [x], hd, hu, hm, h1 => exact merge_left R S C eg hO (p := p) (v := v) (q := q) (x := x) (by rw [hd]; simp) hs hv ha (by simpa using hm) hb cap hn
    | x :: x2 :: u, hd, hu, hm, h1 =>
      match v, hd, hv, hb, h2 with
      | [], _, _, _, h2 => simp at h2
      | [y], hd, hv, hb, h2 => exact merge_right R S C eg hO (p := p) (u := x :: x2 :: u) (q := q) (x := y) (by rw [hd]; simp) hs hu ha hm (by simpa using hb) (by simp) cap hn
      | y :: y2 :: v, hd, hv, hb, h2 => exact merge_gen R S C eg hO hd hs hu hv ha hm hb (by simp) (by simp) hle cap hn IH
set_option maxRecDepth 10000 in
set_option maxHeartbeats 8000000 in
theorem stable_any (R : RowK (enc f0 f1) 2 w0 blk off d0) (C : CmpLays Tryz.prog g cb (enc f0 f1) 2 cf blk off d0.size w0) (eg : ∀ args w, (callFunc g args).run Tryz.prog w = .ok (.enter g args) w) (hO : Swo (ltOf cf)) (cap : Nat) (hn : d0.size ≤ 1000000) :
    Calls Tryz.prog 163 #[.slice (some ⟨blk, off, none⟩) d0.size cap, .int .i64 d0.size, .func (.func g) #[] cb] w0 (Now (enc f0 f1) 2 w0 blk off (ssort (ltOf cf) d0.toList)) := by
  have hM := merge_any R C eg hO cap hn d0.size
  have hS : SWK (enc f0 f1) 2 w0 blk off d0 w0 := R
  have hI := fun (dk : Array α) (wr : World) (a b : Nat) (S : SWK (enc f0 f1) 2 w0 blk off dk wr) (hs : dk.size = d0.size) (hab : a ≤ b) (hb : b ≤ d0.size) => insertion_any R S C eg hs hab hb cap hn
  obtain ⟨l0, hl0⟩ : ∃ l, l = d0.toList := ⟨_, rfl⟩
  have hlen : l0.length = d0.size := by rw [hl0, Array.length_toList]
  have hP0 : P1 (ltOf cf) l0 20 0 d0 := P1.start l0 20 hl0.symm
  rw [← hl0]
  unfold MergeOf at hM
  obtain ⟨N, hN⟩ : ∃ N, N = d0.size := ⟨_, rfl⟩
  rw [← hN] at hn hlen hI hM ⊢
  have HM := Lib.hid hM; have HS := Lib.hid hS; have HI := Lib.hid hI; have Hl0 := Lib.hid hl0; have Hlen := Lib.hid hlen; have HP0 := Lib.hid hP0; have HN := Lib.hid hN; have HC := Lib.hid C; have HR := Lib.hid R; have HO := Lib.hid hO; clear hM hS hI hl0 hlen hP0 hN C R hO
  go_enter Tryz.func163, Tryz.ntmps163
  go_wp2_with fail
  go_loopw [7, 8] (fun x y wr => ∃ (a : Nat) (dk : Array α), x = .int .i64 a ∧ y = .int .i64 ((a : Int) + 20) ∧ P1 (ltOf cf) l0 20 a dk ∧ SWK (enc f0 f1) 2 w0 blk off dk wr) (fun x _ _ => N + 20 - (intOf x).toNat)
  case atStart => exact ⟨0, d0, rfl, rfl, HP0.out, HS.out⟩
  case round =>
    obtain ⟨a, dk, rfl, rfl, hP, S⟩ := hrel
    have hle := hP.le
    rw [Hlen.out] at hle
    have hsz := hP.size HO.out
    rw [Hlen.out] at hsz
    by_cases hlt : a + 20 ≤ N
    · have v1 : decide ((a : Int) + 20 ≤ (N : Int)) = true := decide_eq_true (by omega)
      have v2 : (a : Int) + 20 ≤ (N : Int) := by omega
      have w1 : IntKind.i64.wrap ((a : Int) + 20 + 20) = (a : Int) + 20 + 20 := IntWalk.i64_in _ (by omega)
      have hc := HI.out dk wr a (a + 20) S (by rw [hsz]) (by omega) (by omega)
      rw [show ((a + 20 : Nat) : Int) = (a : Int) + 20 by omega] at hc
      have hP2 := hP.step HO.out (by rw [Hlen.out]; omega)
      have HP := Lib.hid hP; have HS := Lib.hid S; have HP2 := Lib.hid hP2; have Hc := Lib.hid hc; have Hsz := Lib.hid hsz; have Hle := Lib.hid hle; clear hP S hP2 hc hsz hle
      go_wp2_with fail
      refine Hc.out.mono ?_
      rintro e w2 ⟨rfl, S⟩
      have HS := Lib.hid S; clear S
      go_wp2_with fail
      go_roundw
      case rel => exact ⟨a + 20, _, by go_num, by go_num, HP2.out, HS.out⟩
      case measure => simp [intOf]; omega
    · have v1 : decide ((a : Int) + 20 ≤ (N : Int)) = false := decide_eq_false (by omega)
      have v2 : ¬ (a : Int) + 20 ≤ (N : Int) := by omega
      have hc := HI.out dk wr a N S (by rw [hsz]) (by omega) (by omega)
      have hP2 := hP.last HO.out (n := N) Hlen.out.symm (by omega)
      clear HI
      have HP := Lib.hid hP; have HS := Lib.hid S; have HP2 := Lib.hid hP2; have Hc := Lib.hid hc; have Hsz := Lib.hid hsz; have Hle := Lib.hid hle; clear hP S hP2 hc hsz hle
      go_wp2_with fail
      refine Hc.out.mono ?_
      rintro e w2 ⟨rfl, S⟩
      clear v1 v2
      have HS := Lib.hid S; clear S
      go_wp2_with fail
      go_loopw [6] (fun x wr => ∃ (bs : Nat) (dk : Array α), x = .int .i64 bs ∧ 20 ≤ bs ∧ bs ≤ 2 * N + 20 ∧ P2 (ltOf cf) l0 bs dk ∧ SWK (enc f0 f1) 2 w0 blk off dk wr) (fun x _ => N - (intOf x).toNat)
      case atStart => exact ⟨20, _, rfl, Nat.le_refl _, by omega, HP2.out, HS.out⟩
      case round =>
        obtain ⟨bs, dk, rfl, hb1, hb2, hP, S⟩ := hrel
        by_cases hlt2 : bs < N
        · have v2 : (bs : Int) < (N : Int) := by omega
          have w1 : IntKind.i64.wrap (2 * (bs : Int)) = 2 * (bs : Int) := IntWalk.i64_in _ (by omega)
          have w1' : IntKind.i64.wrap ((bs : Int) * 2) = 2 * (bs : Int) := by rw [IntWalk.i64_in _ (by omega)]; omega
          have hP3 := P3.start hP
          have HP := Lib.hid hP; have HS := Lib.hid S; have HP3 := Lib.hid hP3; clear hP S hP3
          go_wp2_with fail
          go_loopw [7, 8] (fun x y wr => ∃ (a : Nat) (dk : Array α), x = .int .i64 a ∧ y = .int .i64 ((a : Int) + 2 * (bs : Int)) ∧ P3 (ltOf cf) l0 bs a dk ∧ SWK (enc f0 f1) 2 w0 blk off dk wr) (fun x _ _ => N + 2 * bs - (intOf x).toNat)
          case atStart => exact ⟨0, dk, rfl, by go_num, HP3.out, HS.out⟩
          case round =>
            obtain ⟨a, dk, rfl, rfl, hP, S⟩ := hrel
            have hsz := hP.size HO.out
            rw [Hlen.out] at hsz
            obtain ⟨hsz, hle⟩ := hsz
            rw [hsz] at hle
            have w2 : IntKind.i64.wrap ((a : Int) + (bs : Int)) = (a : Int) + (bs : Int) := IntWalk.i64_in _ (by omega)
            by_cases hlt3 : a + 2 * bs ≤ N
            · have v3 : decide ((a : Int) + 2 * (bs : Int) ≤ (N : Int)) = true := decide_eq_true (by omega)
              have v4 : (a : Int) + 2 * (bs : Int) ≤ (N : Int) := by omega
              have w3 : IntKind.i64.wrap ((a : Int) + 2 * (bs : Int) + 2 * (bs : Int)) = (a : Int) + 2 * (bs : Int) + 2 * (bs : Int) := IntWalk.i64_in _ (by omega)
              obtain ⟨p, u, v, q, q1, q2, q3, q4, q5, q6, q7⟩ := hP.step HO.out (by rw [Hlen.out]; omega) (by omega)
              have hc := HM.out dk wr p u v q a (a + bs) (a + 2 * bs) S q1 (by rw [hsz, HN.out]) q2 q3 q4 (by omega) (by omega) (by omega) (by omega) (by omega)
              rw [show ((a + bs : Nat) : Int) = (a : Int) + (bs : Int) by omega, show ((a + 2 * bs : Nat) : Int) = (a : Int) + 2 * (bs : Int) by omega] at hc
              clear q1 q2 q3 q4 q5 q6
              have HP := Lib.hid hP; have HS := Lib.hid S; have Hc := Lib.hid hc; have Hsz := Lib.hid hsz; have Hle := Lib.hid hle; have Hq7 := Lib.hid q7; clear hP S hc hsz hle q7
              go_wp2_with fail
              refine Hc.out.mono ?_
              rintro e w2 ⟨rfl, d2, S, hd2⟩
              have hP2 := Hq7.out d2 hd2
              clear hd2
              have HS := Lib.hid S; have HP2 := Lib.hid hP2; clear S hP2
              go_wp2_with fail
              go_roundw
              case rel => exact ⟨a + 2 * bs, _, by go_num, by go_num, HP2.out, HS.out⟩
              case measure => simp [intOf]; omega
            · have v3 : decide ((a : Int) + 2 * (bs : Int) ≤ (N : Int)) = false := decide_eq_false (by omega)
              have v4 : ¬ (a : Int) + 2 * (bs : Int) ≤ (N : Int) := by omega
              by_cases hm : a + bs < N
              · have v5 : (a : Int) + (bs : Int) < (N : Int) := by omega
                obtain ⟨p, u, v, q1, q2, q3, q4, q5, q6, q7⟩ := hP.last1 HO.out (n := N) Hlen.out.symm (by omega) hm
                have hc := HM.out dk wr p u v [] a (a + bs) N S q1 (by rw [hsz, HN.out]) q2 q3 q4 (by omega) (by omega) (by omega) (by omega) (by omega)
                rw [show ((a + bs : Nat) : Int) = (a : Int) + (bs : Int) by omega] at hc
                clear q1 q2 q3 q4 q5 q6
                have HP := Lib.hid hP; have HS := Lib.hid S; have Hc := Lib.hid hc; have Hsz := Lib.hid hsz; have Hle := Lib.hid hle; have Hq7 := Lib.hid q7; clear hP S hc hsz hle q7
                go_wp2_with fail
                refine Hc.out.mono ?_
                rintro e w2 ⟨rfl, d2, S, hd2⟩
                have hP2 := Hq7.out d2 hd2
                clear hd2
                have HS := Lib.hid S; have HP2 := Lib.hid hP2; clear S hP2
                go_wp2_with fail
                go_roundw
                case rel => exact ⟨2 * bs, _, by go_num, by omega, by omega, HP2.out, HS.out⟩
                case measure => simp [intOf]; omega
              · have v5 : ¬ (a : Int) + (bs : Int) < (N : Int) := by omega
                have hP2 := hP.last2 (n := N) Hlen.out.symm (by omega) hm (by omega)
                have HP := Lib.hid hP; have HS := Lib.hid S; have Hsz := Lib.hid hsz; have Hle := Lib.hid hle; have HP2 := Lib.hid hP2; clear hP S hsz hle hP2
                go_wp2_with fail
                go_roundw
                case rel => exact ⟨2 * bs, _, by go_num, by omega, by omega, HP2.out, HS.out⟩
                case measure => simp [intOf]; omega
        · have v2 : ¬ (bs : Int) < (N : Int) := by omega
          have hD := hP.done (by rw [Hlen.out]; omega)
          have HP := Lib.hid hP; have HS := Lib.hid S; have HD := Lib.hid hD; clear hP S hD
          go_wp2_with fail
          go_end0
          exact ⟨rfl, dk, HS.out, HD.out⟩
set_option maxRecDepth 10000 in
set_option maxHeartbeats 1000000 in
theorem sortStable_any (R : RowK (enc f0 f1) 2 w0 blk off d0) (C : CmpLays Tryz.prog g cb (enc f0 f1) 2 cf blk off d0.size w0) (eg : ∀ args w, (callFunc g args).run Tryz.prog w = .ok (.enter g args) w) (hO : Swo (ltOf cf)) (cap : Nat) (hn : d0.size ≤ 1000000) :
    Calls Tryz.prog 106 #[.slice (some ⟨blk, off, none⟩) d0.size cap, .func (.func g) #[] cb] w0 (Now (enc f0 f1) 2 w0 blk off (ssort (ltOf cf) d0.toList)) := by
  have hc := stable_any R C eg hO cap hn
  obtain ⟨l, hl⟩ : ∃ l, l = ssort (ltOf cf) d0.toList := ⟨_, rfl⟩
  rw [← hl] at hc ⊢
  obtain ⟨N, hN⟩ : ∃ N, N = d0.size := ⟨_, rfl⟩
  rw [← hN] at hn hc ⊢
  have Hc := Lib.hid hc; have HN := Lib.hid hN; have Hl := Lib.hid hl; have HC := Lib.hid C; have HR := Lib.hid R; have HO := Lib.hid hO; clear hc hN hl C R hO
  go_enter Tryz.func106, Tryz.ntmps106
  go_wp2_with fail
  refine Hc.out.mono ?_
  rintro e w2 ⟨rfl, hw2⟩
  have Hw2 := Lib.hid hw2; clear hw2
  go_wp2_with fail
  go_end0
  exact ⟨rfl, Hw2.out⟩
end StbSpan
end Go.Proofs.YteailgjiifdgcaaGreatDoor

/- The sort of spans by their bounds below, and the closure of spans.Form. Condition: the library's variables as they were laid; at most a thousand spans of bounds of at most 9000 bytes. -/
namespace Go.Proofs.YteailgjiifdgcaaGreatDoor
open Go.Shelf Go.RowKit Go.Lib Go.Sort SortM VerN

abbrev tB (l : List Tp) : List BSp := l.map (·.1)
abbrev spEnc : Tp → List Value := StbSpan.enc (fun x : Tp => x.1.1) fun x => x.1.2
theorem spEnc_flat (l : List Tp) : l.flatMap spEnc = (tB l).flatMap spCells := by
  induction l with
  | nil => rfl
  | cons x l ih => rw [List.flatMap_cons, ih]; rfl
theorem enters_spc : ∀ args w, (callFunc 107 args).run Tryz.prog w = .ok (.enter 107 args) w := enters_of Tryz.func107 (by kernel_rfl) rfl
theorem sortSp_any {w w0 : World} {g cap : Nat} {l : List Tp} (h : w.ownsRow w0.heap.size 34 2 (.slice (some ⟨g, 0, none⟩) l.length cap) l.length ((tB l).flatMap spCells)) (hb : Below w0.heap.size w0 w) (hD : Doors w0) (hl : l.length ≤ 2000) :
    Calls Tryz.prog 106 #[.slice (some ⟨g, 0, none⟩) l.length cap, .func (.func 107) #[] #[]] w fun e w' => e = .returned (.tuple #[]) ∧ w'.ownsRow w0.heap.size 34 2 (.slice (some ⟨g, 0, none⟩) l.length cap) l.length ((tB (sortSp l)).flatMap spCells) ∧ Below w0.heap.size w0 w' := by
  rw [← spEnc_flat] at h
  have hR := SortR.srw_of_owns StbSpan.enc_len h rfl
  have hlow : w0.heap.size ≤ g := (h.lt g rfl).1
  have hC : StbSpan.CmpLays Tryz.prog 107 #[] spEnc 2 cfSp g 0 l.toArray.size w := fun W hW x y =>
    spsCompare_any x.1.1 x.1.2 y.1.1 y.1.2 (by have := x.2.1; omega) (by have := y.2.1; omega) (hD.below (hb.trans (hW.below hb.size (fun k e => by rw [e]; exact hlow))))
  have hs := StbSpan.sortStable_any hR hC enters_spc swoSp cap (by simpa using Nat.le_trans hl (by decide))
  have e : l.toArray.size = l.length := by simp
  rw [e] at hs
  refine hs.mono ?_
  rintro e w' ⟨rfl, d, S, hd⟩
  have hsz : d.size = l.length := by rw [← Array.length_toList, hd, ssort_len swoSp]
  have h2 := SortR.owns_of_srw StbSpan.enc_len (by decide) h S hsz
  rw [hd, spEnc_flat] at h2
  exact ⟨rfl, h2.1, h2.2 _ hb hb.size⟩
set_option maxRecDepth 10000 in
theorem notMay_any (lo hi : ByteArray) (hl : lo.size ≤ 1000000) (hh : hi.size ≤ 1000000) {w : World} (hD : Doors w) : Calls Tryz.prog 103 #[.agg #[.string lo, .string hi]] w fun e w' => e = .returned (.bool (!mayS (lo.data.toList, hi.data.toList))) ∧ Below w.heap.size w w' := by
  obtain ⟨W0, hW0⟩ : ∃ W0, W0 = w.alloc (.cells #[.string lo, .string hi] 34) := ⟨_, rfl⟩
  obtain ⟨nb, hnb⟩ : ∃ nb, nb = w.heap.size := ⟨_, rfl⟩
  have hw : Below w.heap.size w W0 := by rw [hW0]; exact below_alloc1 _ _
  have hn0 : W0.heap[nb]? = some (.cells #[.string lo, .string hi] 34 (0, 0)) := by rw [hW0, hnb]; exact heap_new_at rfl
  obtain ⟨b0, b1, _, _⟩ := pair_cells hn0
  have hM := calls_to hw (spanMay_any lo hi hl hh (hD.below hw))
  obtain ⟨p, hp⟩ : ∃ p, p = mayS (lo.data.toList, hi.data.toList) := ⟨_, rfl⟩
  rw [← hp] at hM ⊢
  have HM := Lib.hid hM; have Hw := Lib.hid hw; have Hn0 := Lib.hid hn0; have Hp := Lib.hid hp; have HD := Lib.hid hD; clear hM hw hn0 hp hD
  go_enter Tryz.func103, Tryz.ntmps103
  go_upto_region 1 with (fail)
  rw [← hW0, ← hnb]
  clear hW0 hnb
  go_wp2_with fail
  refine HM.out.mono ?_
  rintro e w1 ⟨rfl, hb1⟩
  have Hb1 := Lib.hid hb1; clear hb1
  go_wp2_with fail
  go_ret
  exact ⟨rfl, Hb1.out⟩
theorem enters_notMay : ∀ args w, (callFunc 103 args).run Tryz.prog w = .ok (.enter 103 args) w := enters_of Tryz.func103 (by kernel_rfl) rfl
theorem notMay_pred (l : List Tp) {w : World} (hD : Doors w) : IdxSpan.Pred RSpn (fun s => !mayS (dS s)) 103 #[] (tB l) w := by
  intro W u0 u1 s hb hs hr
  obtain ⟨h1, _, _⟩ := hr
  injection h1 with h1 h2
  injection h2 with h2 _
  subst h1 h2
  obtain ⟨x, _, rfl⟩ := List.mem_map.1 hs
  exact notMay_any _ _ (by have := x.2.1; omega) (by have := x.2.2; omega) (hD.below hb)
theorem any_notMay (l : List BSp) : (l.any fun s => !mayS (dS s)) = !allMay l := by
  unfold allMay
  rw [List.not_all_eq_any_not]
end Go.Proofs.YteailgjiifdgcaaGreatDoor

/- The walk of spans.Form. Condition: the library's variables as they were laid; at most a thousand spans of bounds of at most 9000 bytes. -/
namespace Go.Proofs.YteailgjiifdgcaaGreatDoor
open Go.Shelf Go.RowKit Go.Lib Go.Sort SortM VerN

theorem jn_size {a b : BSp} (ha : a.1.size ≤ 9000 ∧ a.2.size ≤ 9000) (hb : b.1.size ≤ 9000 ∧ b.2.size ≤ 9000) : (jnV a.1 a.2 b.1 b.2).1.size ≤ 9000 ∧ (jnV a.1 a.2 b.1 b.2).2.size ≤ 9000 := by
  have h0 : (ByteArray.mk #[]).size ≤ 9000 := by decide
  unfold jnV
  split
  · constructor
    · show (if _ then _ else _ : ByteArray).size ≤ 9000
      split
      · exact soonerS_size ha.1 hb.1
      · exact h0
    · show (if _ then _ else _ : ByteArray).size ≤ 9000
      split
      · exact laterS_size ha.2 hb.2
      · exact h0
  · exact ⟨h0, h0⟩
def SmallB (O : List BSp) : Prop := ∀ z ∈ O, z.1.size ≤ 9000 ∧ z.2.size ≤ 9000
theorem SmallB.add {O : List BSp} (h : SmallB O) {x : BSp} (hx : x.1.size ≤ 9000 ∧ x.2.size ≤ 9000) : SmallB (addB O x) := by
  rcases List.eq_nil_or_concat O with rfl | ⟨Q, z, rfl⟩
  · rw [addB_nil]
    intro y hy
    rw [List.mem_singleton.1 hy]; exact hx
  · rw [List.concat_eq_append] at *
    rw [addB_snoc]
    have hq : ∀ y ∈ Q, y.1.size ≤ 9000 ∧ y.2.size ≤ 9000 := fun y hy => h y (by simp [hy])
    have hz := h z (by simp)
    split
    · intro y hy
      rcases List.mem_append.1 hy with k | k
      · exact hq y k
      · rw [List.mem_singleton.1 k]; exact jn_size hz hx
    · intro y hy
      rcases List.mem_append.1 hy with k | k
      · exact h y k
      · rw [List.mem_singleton.1 k]; exact hx
theorem smallB_fold : ∀ (r O : List BSp), SmallB O → SmallB r → SmallB (r.foldl addB O)
  | [], _, h, _ => h
  | x :: r, O, h, hr => smallB_fold r (addB O x) (h.add (hr x (by simp))) fun y hy => hr y (by simp [hy])
theorem smallB_tB (l : List Tp) : SmallB (tB l) := fun z hz => by
  obtain ⟨x, _, rfl⟩ := List.mem_map.1 hz
  exact x.2
theorem merge_succ {r : List BSp} {k : Nat} (h : k < r.length) : mergeB (r.take (k + 1)) = addB (mergeB (r.take k)) r[k] := by
  unfold mergeB
  rw [List.take_succ_eq_append_getElem h, List.foldl_append]; rfl
theorem Mrg.below {w0 w w' : World} {x : Nat} {O : List BSp} (h : Mrg w0 x O w) (hb : Below w.heap.size w w') : Mrg w0 x O w' := by
  obtain ⟨v, h1, h2, h3, h4⟩ := h
  exact ⟨v, heap_below hb h1, ownsRow_below h2 hb, h3.trans (hb.mono h3.size), h4⟩
theorem sortRow_any {w w0 : World} {o : Value} {l : List Tp} (h : w.ownsRow w0.heap.size 34 2 o l.length ((tB l).flatMap spCells)) (hb : Below w0.heap.size w0 w) (hD : Doors w0) (hl : l.length ≤ 2000) :
    Calls Tryz.prog 106 #[o, .func (.func 107) #[] #[]] w fun e w' => e = .returned (.tuple #[]) ∧ w'.ownsRow w0.heap.size 34 2 o l.length ((tB (sortSp l)).flatMap spCells) ∧ Below w0.heap.size w0 w' := by
  rcases h.2 with ⟨rfl, h0⟩ | ⟨g, c, cur, rfl, _⟩
  · have hl0 : l = [] := List.length_eq_zero_iff.1 h0
    subst hl0
    exact (sortStableSp_nil _ w).mono fun e w' ⟨he, hw⟩ => ⟨he, hw ▸ World.ownsRow_nil _ _ _ _, hw ▸ hb⟩
  · exact sortSp_any h hb hD hl
theorem sorted_len (l : List Tp) : (tB (sortSp l)).length = l.length := by rw [List.length_map]; exact (sortSp_perm l).length_eq
theorem sps_at {w : World} {oa : Option Addr} {n oc : Nat} {R : List BSp} (h : RSps w [.slice oa n oc] R) : ∀ i x, R[i]? = some x → ∃ b off, oa = some ⟨b, off, none⟩ ∧ w.cell? ⟨b, off + i * 2, none⟩ = some (.string x.1) ∧ w.cell? ⟨b, off + i * 2 + 1, none⟩ = some (.string x.2) := by
  obtain ⟨a, cap, hv, _, hg⟩ := sps_open h
  injection hv with h1 _ _
  subst h1
  intro i x hi
  obtain ⟨b, off, e, c0, c1, _⟩ := hg i x hi
  exact ⟨b, off, e, c0, c1⟩
theorem mergeB_take_len (R : List BSp) (k : Nat) : (mergeB (R.take k)).length ≤ k := by
  have h := mergeB_len (R.take k) []
  rw [List.length_take] at h
  unfold mergeB
  simp only [List.length_nil] at h
  omega
/-- has the set a form? -/
def formOk (l : List Tp) : Bool := allMay (tB l) && decide ((formB l).length ≤ 16)
def FormPost (l : List Tp) (w : World) (e : Ending) (w' : World) : Prop :=
  ∃ o, e = .returned (.tuple #[o, .bool (formOk l)]) ∧ (formOk l = true → w'.ownsRow w.heap.size 34 2 o (formB l).length ((formB l).flatMap spCells)) ∧ (formOk l = false → o = .slice none 0 0) ∧ Below w.heap.size w w'
theorem form_no {l : List Tp} {w w' : World} (h : formOk l = false) (hb : Below w.heap.size w w') : FormPost l w (.returned (.tuple #[.slice none 0 0, .bool false])) w' :=
  ⟨_, by rw [h], (fun k => by rw [h] at k; cases k), (fun _ => rfl), hb⟩
set_option maxRecDepth 10000 in
set_option maxHeartbeats 4000000 in
theorem form_any {w : World} {v : Value} {l : List Tp} (h : RSps w [v] (tB l)) (hl : l.length ≤ 2000) (hD : Doors w) : Calls Tryz.prog 51 #[v] w (FormPost l w) := by
  have hC := IdxSpan.has_any stays_spn (fun s => !mayS (dS s)) 103 #[] enters_notMay h (notMay_pred l hD)
  rw [any_notMay] at hC
  have hK := fun (W : World) (k : Below w.heap.size w W) => cloneSpn_any (stays_slice stays_spn _ _ _ _ h k) (by rw [List.length_map]; omega)
  obtain ⟨a, cap, rfl⟩ := sps_shape h
  obtain ⟨n, hn⟩ : ∃ n, n = (tB l).length := ⟨_, rfl⟩
  have hnl : n = l.length := by rw [hn, List.length_map]
  rw [← hn] at hC hK h ⊢
  have hn1 : n ≤ 2000 := by omega
  obtain ⟨p, hp⟩ : ∃ p, p = allMay (tB l) := ⟨_, rfl⟩
  rw [← hp] at hC
  cases p with
  | false =>
    have hno : formOk l = false := by unfold formOk; rw [← hp]; rfl
    have Hh := Lib.hid h; have HC := Lib.hid hC; have HK := Lib.hid hK; have Hn := Lib.hid hn; have Hnl := Lib.hid hnl; have Hp := Lib.hid hp; have HD := Lib.hid hD; have Hno := Lib.hid hno; clear h hC hK hn hnl hp hD hno
    go_enter Tryz.func51, Tryz.ntmps51
    go_wp2_with fail
    refine HC.out.mono ?_
    rintro e w1 ⟨rfl, hb1⟩
    have Hb1 := Lib.hid hb1; clear hb1
    go_wp2_with fail
    go_ret2
    exact form_no Hno.out Hb1.out
  | true =>
    have Hh := Lib.hid h; have HC := Lib.hid hC; have HK := Lib.hid hK; have Hn := Lib.hid hn; have Hnl := Lib.hid hnl; have Hp := Lib.hid hp; have HD := Lib.hid hD; clear h hC hK hn hnl hp hD
    go_enter Tryz.func51, Tryz.ntmps51
    go_wp2_with fail
    refine HC.out.mono ?_
    rintro e w1 ⟨rfl, hb1⟩
    have hK1 := HK.out w1 hb1
    unfold CloneSpPost at hK1
    have Hb1 := Lib.hid hb1; have HK1 := Lib.hid hK1; clear hb1 hK1
    go_wp2_with fail
    refine HK1.out.mono ?_
    rintro e w2 ⟨o, rfl, ho, hb2⟩
    have ho2 : w2.ownsRow w1.heap.size 34 2 o l.length ((tB l).flatMap spCells) := by rw [← Hnl.out]; exact ho
    have hS := sortRow_any ho2 hb2 (HD.out.below Hb1.out) (by have := Hnl.out; omega)
    rw [← Hnl.out] at hS
    obtain ⟨oa, oc, rfl⟩ := own_shape ho
    clear ho2
    have Ho := Lib.hid ho; have Hb2 := Lib.hid hb2; have HS := Lib.hid hS; clear ho hb2 hS
    go_wp2_with fail
    refine HS.out.mono ?_
    rintro e w3 ⟨rfl, ho3, hb3⟩
    have hrl := sorted_len l
    rw [← Hnl.out] at hrl
    obtain ⟨R, hR⟩ : ∃ R, R = tB (sortSp l) := ⟨_, rfl⟩
    rw [← hR] at ho3 hrl
    have hRs : SmallB R := by rw [hR]; exact smallB_tB _
    have hrd : RSps w3 [.slice oa n oc] R := sps_reads (fun x hx => by have := hRs x hx; unfold maxLen; omega) (by rw [hrl]; exact ho3)
    have hat := sps_at hrd
    have hbw3 := Hb1.out.trans (hb3.mono Hb1.out.size)
    have hD3 := HD.out.below hbw3
    have hfr : mergeB R = formB l := by rw [hR]; rfl
    have Ho3 := Lib.hid ho3; have Hb3 := Lib.hid hb3; have Hrl := Lib.hid hrl; have HR := Lib.hid hR; have HRs := Lib.hid hRs; have Hrd := Lib.hid hrd; have Hat := Lib.hid hat; have Hbw3 := Lib.hid hbw3; have HD3 := Lib.hid hD3; have Hfr := Lib.hid hfr; clear ho3 hb3 hrl hR hRs hrd hat hbw3 hD3 hfr
    go_upto_region 6 with (fail)
    have hM0 : Mrg w3 w3.heap.size [] (w3.alloc (.cells #[.slice none 0 0, .func (.func 108) #[] #[], .func (.func 109) #[] #[]] 170)) := ⟨_, heap_alloc_new _ _, World.ownsRow_nil _ _ _ _, below_alloc1 _ _, Nat.le_refl _⟩
    have HM0 := Lib.hid hM0; clear hM0
    go_wp2_with fail
    go_loopw [17] (fun i wr => ∃ k : Nat, k ≤ n ∧ i = .int .i64 k ∧ Mrg w3 w3.heap.size (mergeB (R.take k)) wr) (fun i _ => n - (RowKit.intOf i).toNat)
    case atStart => exact ⟨0, Nat.zero_le _, rfl, HM0.out⟩
    case round =>
      obtain ⟨k, hk, rfl, hM⟩ := hrel
      have hbr : Below w3.heap.size w3 wr := by obtain ⟨_, _, _, hb, _⟩ := hM; exact hb
      by_cases hlt : k < n
      · have hkR : k < R.length := by have := Hrl.out; omega
        obtain ⟨y, hy⟩ : ∃ y, y = R[k] := ⟨_, rfl⟩
        obtain ⟨b, off, rfl, c0, c1⟩ := Hat.out k y (by rw [hy]; exact List.getElem?_eq_getElem hkR)
        have d0 := cell_later hbr c0
        have d1 := cell_later hbr c1
        have hys := HRs.out y (by rw [hy]; exact List.getElem_mem hkR)
        have hnext := merge_succ hkR
        rw [← hy] at hnext
        obtain ⟨O, hO⟩ : ∃ O, O = mergeB (R.take k) := ⟨_, rfl⟩
        rw [← hO] at hM hnext
        have hOs : SmallB O := by rw [hO]; exact smallB_fold _ _ (fun z hz => by simp at hz) fun z hz => HRs.out z (List.mem_of_mem_take hz)
        have hOl : O.length ≤ 100000 := by rw [hO]; have := mergeB_take_len R k; omega
        obtain ⟨y1, y2⟩ := y
        have hA := mergerAdd_any (hM.below (below_alloc1 wr (.cells #[.string y1, .string y2] 34))) hOs hOl (y1, y2) hys HD3.out
        have k5 : (0 : Int) ≤ (k : Int) := by omega
        have k6 : (k : Int) < (n : Int) := by omega
        clear c0 c1
        have HM := Lib.hid hM; have Hbr := Lib.hid hbr; have Hy := Lib.hid hy; have Hys := Lib.hid hys; have Hnext := Lib.hid hnext; have HO := Lib.hid hO; have HOs := Lib.hid hOs; have HA := Lib.hid hA; clear hM hbr hy hys hnext hO hOs hA
        go_wp2_with fail
        refine HA.out.mono ?_
        rintro e w5 ⟨rfl, hM5⟩
        rw [← Hnext.out] at hM5
        have HM5 := Lib.hid hM5; clear hM5
        go_wp2_with fail
        go_roundw
        case rel => exact ⟨k + 1, by omega, by go_num, HM5.out⟩
        case measure => simp [RowKit.intOf]; omega
      · obtain rfl : k = n := by omega
        rw [List.take_of_length_le (Nat.le_of_eq Hrl.out), Hfr.out] at hM
        obtain ⟨ov, hx, hown, _, _⟩ := hM
        obtain ⟨c0, _, _, _⟩ := trip_cells hx
        obtain ⟨oa2, oc2, rfl⟩ := own_shape hown
        have hbw := Hbw3.out.trans (hbr.mono Hbw3.out.size)
        obtain ⟨q, hq⟩ : ∃ q, q = (formB l).length := ⟨_, rfl⟩
        have hown2 := ownsRow_mono hown Hbw3.out.size
        rw [← hq] at c0
        by_cases h16 : 16 < q
        · have kk : decide ((16 : Int) < (q : Int)) = true := decide_eq_true (by omega)
          have hno : formOk l = false := by unfold formOk; rw [← Hp.out, ← hq, decide_eq_false (by omega)]; rfl
          have Hx := Lib.hid hx; have Hown := Lib.hid hown; have Hown2 := Lib.hid hown2; have Hbw := Lib.hid hbw; have Hq := Lib.hid hq; have Hno := Lib.hid hno; have Hbr := Lib.hid hbr; clear hx hown hown2 hbw hq hno hbr
          go_wp2_with fail
          go_ret2
          exact form_no Hno.out Hbw.out
        · have kk : decide ((16 : Int) < (q : Int)) = false := decide_eq_false (by omega)
          have hyes : formOk l = true := by unfold formOk; rw [← Hp.out, ← hq, decide_eq_true (by omega)]; rfl
          have Hx := Lib.hid hx; have Hown := Lib.hid hown; have Hown2 := Lib.hid hown2; have Hbw := Lib.hid hbw; have Hq := Lib.hid hq; have Hyes := Lib.hid hyes; have Hbr := Lib.hid hbr; clear hx hown hown2 hbw hq hyes hbr
          go_wp2_with fail
          go_ret2
          exact ⟨.slice oa2 q oc2, (by rw [Hyes.out]; rfl), (fun _ => by have h9 := Hown2.out; rw [← Hq.out] at h9 ⊢; exact h9), (fun k => by rw [Hyes.out] at k; cases k), Hbw.out⟩
end Go.Proofs.YteailgjiifdgcaaGreatDoor

/- The walk of spans.Text: a set's text. Condition: the library's variables as they were laid; at most a thousand spans of bounds of at most 9000 bytes. -/
namespace Go.Proofs.YteailgjiifdgcaaGreatDoor
open Go.Shelf Go.RowKit Go.Lib Go.Sort SortM VerN

theorem elem_txts : Elem Tryz.prog 88 9 (.string ⟨#[]⟩) 1 16 := ⟨Tryz.underlying88, by kernel_rfl, rfl, by decide⟩
def pieceB (s : BSp) : ByteArray := txS s.1 s.2
theorem pieceB_size {s : BSp} (h : s.1.size ≤ 9000 ∧ s.2.size ≤ 9000) : (pieceB s).size ≤ 18001 := by
  unfold pieceB txS
  split
  · have := txR_size s.1 s.2; omega
  · decide
def joinF (F : List BSp) : ByteArray := ⟨(Lib.join ((F.map pieceB).map (·.data.toList)) [44]).toArray⟩
theorem lens_le (B : Nat) : ∀ (L : List (List UInt8)), (∀ x ∈ L, x.length ≤ B) → Lib.lens L ≤ B * L.length
  | [], _ => by simp [Lib.lens]
  | x :: L, h => by
    have h1 := lens_le B L fun y hy => h y (by simp [hy])
    have h2 := h x (by simp)
    simp only [Lib.lens, List.map_cons, List.sum_cons, List.length_cons] at *
    rw [Nat.mul_add]
    omega
theorem join_small {F : List BSp} (h : SmallB F) (hl : F.length ≤ 2000) : (Lib.join ((F.map pieceB).map (·.data.toList)) [44]).length ≤ 140737488355328 := by
  have hb : ∀ x ∈ (F.map pieceB).map (·.data.toList), x.length ≤ 18001 := by
    intro x hx
    obtain ⟨y, hy, rfl⟩ := List.mem_map.1 hx
    obtain ⟨z, hz, rfl⟩ := List.mem_map.1 hy
    rw [Txt.len]
    exact pieceB_size (h z hz)
  have h1 := lens_le 18001 _ hb
  have h2 : ((F.map pieceB).map (·.data.toList)).length ≤ 2000 := by simpa using hl
  obtain ⟨L, hL⟩ : ∃ L, L = (F.map pieceB).map (·.data.toList) := ⟨_, rfl⟩
  rw [← hL] at h1 h2 ⊢
  cases L with
  | nil => simp [Lib.join_nil]
  | cons x r =>
    rw [Lib.join_length]
    simp only [List.length_cons, List.length_nil] at *
    omega
/-- a set's text -/
def spsText (l : List Tp) : ByteArray := if formOk l = false then ⟨#[]⟩ else if (formB l).length = 0 then ⟨#[33]⟩ else joinF (formB l)
theorem smallB_form (l : List Tp) : SmallB (formB l) := smallB_fold _ _ (fun z hz => by simp at hz) (smallB_tB _)
theorem pieces_take {F : List BSp} {k : Nat} (h : k < F.length) : ((F.take (k + 1)).map fun s => Value.string (pieceB s)) = ((F.take k).map fun s => Value.string (pieceB s)) ++ [Value.string (pieceB F[k])] := by
  rw [List.take_succ_eq_append_getElem h, List.map_append]; rfl
set_option maxRecDepth 10000 in
set_option maxHeartbeats 4000000 in
theorem spsText_any {w : World} {v : Value} {l : List Tp} (h : RSps w [v] (tB l)) (hl : l.length ≤ 2000) (hD : Doors w) : Calls Tryz.prog 19 #[v] w fun e w' => e = .returned (.string (spsText l)) ∧ Below w.heap.size w w' := by
  have hF := form_any h hl hD
  unfold FormPost at hF
  obtain ⟨a, cap, rfl⟩ := sps_shape h
  obtain ⟨ok, hok⟩ : ∃ b, b = formOk l := ⟨_, rfl⟩
  obtain ⟨n, hn⟩ : ∃ n, n = (tB l).length := ⟨_, rfl⟩
  obtain ⟨F, hFF⟩ : ∃ F, F = formB l := ⟨_, rfl⟩
  rw [← hok, ← hFF] at hF
  rw [← hn] at hF h ⊢
  cases ok with
  | false =>
    have ht : spsText l = ⟨#[]⟩ := by unfold spsText; rw [if_pos hok.symm]
    rw [ht]
    have Hh := Lib.hid h; have HF := Lib.hid hF; have Hok := Lib.hid hok; have Hn := Lib.hid hn; have HFF := Lib.hid hFF; have HD := Lib.hid hD; have Ht := Lib.hid ht; clear h hF hok hn hFF hD ht
    go_enter Tryz.func19, Tryz.ntmps19
    go_wp2_with fail
    refine HF.out.mono ?_
    rintro e w1 ⟨o, rfl, _, ho, hb1⟩
    have Ho := Lib.hid ho; have Hb1 := Lib.hid hb1; clear ho hb1
    go_wp2_with fail
    go_ret
    exact ⟨rfl, Hb1.out⟩
  | true =>
    have hlen : F.length ≤ 2000 := by rw [hFF]; have := form_len l; omega
    have hFs : SmallB F := by rw [hFF]; exact smallB_form l
    have Hh := Lib.hid h; have HF := Lib.hid hF; have Hok := Lib.hid hok; have Hn := Lib.hid hn; have HFF := Lib.hid hFF; have HD := Lib.hid hD; have HFs := Lib.hid hFs; clear h hF hok hn hFF hD hFs
    go_enter Tryz.func19, Tryz.ntmps19
    go_wp2_with fail
    refine HF.out.mono ?_
    rintro e w1 ⟨o, rfl, ho, _, hb1⟩
    have ho := ho trivial
    obtain ⟨oa, oc, rfl⟩ := own_shape ho
    have hrd : RSps w1 [.slice oa F.length oc] F := sps_reads (fun x hx => by have := HFs.out x hx; unfold maxLen; omega) ho
    have hat := sps_at hrd
    obtain ⟨q, hq⟩ : ∃ q, q = F.length := ⟨_, rfl⟩
    rw [← hq] at hlen ⊢
    by_cases h0 : q = 0
    · subst h0
      have ht : spsText l = ⟨#[33]⟩ := by unfold spsText; rw [if_neg (by rw [← Hok.out]; simp), ← HFF.out, if_pos hq.symm]
      have Ho := Lib.hid ho; have Hb1 := Lib.hid hb1; have Hrd := Lib.hid hrd; have Hat := Lib.hid hat; have Hq := Lib.hid hq; have Ht := Lib.hid ht; clear ho hb1 hrd hat hq ht
      go_wp2_with fail
      go_ret
      exact ⟨by rw [Ht.out]; rfl, Hb1.out⟩
    · have k0 : ((q : Int) == 0) = false := by rw [beq_eq_false_iff_ne]; omega
      have ht : spsText l = joinF F := by unfold spsText; rw [if_neg (by rw [← Hok.out]; simp), ← HFF.out, if_neg (by rw [← hq]; exact h0)]
      have hr0 : w1.ownsRow w1.heap.size 9 1 (.slice none 0 0) 0 ((F.take 0).map fun s => Value.string (pieceB s)) := World.ownsRow_nil _ _ _ _
      have Ho := Lib.hid ho; have Hb1 := Lib.hid hb1; have Hrd := Lib.hid hrd; have Hat := Lib.hid hat; have Hq := Lib.hid hq; have Ht := Lib.hid ht; have Hr0 := Lib.hid hr0; clear ho hb1 hrd hat hq ht hr0
      go_wp2_with fail
      go_loopw [5, 22] (fun v i wr => ∃ k : Nat, k ≤ q ∧ i = .int .i64 k ∧ wr.ownsRow w1.heap.size 9 1 v k ((F.take k).map fun s => Value.string (pieceB s)) ∧ Below w1.heap.size w1 wr) (fun _ i _ => q - (RowKit.intOf i).toNat)
      case atStart => exact ⟨0, Nat.zero_le _, rfl, Hr0.out, Below.refl _ _⟩
      case round =>
        obtain ⟨k, hk, rfl, hrow, hbr⟩ := hrel
        obtain ⟨ra, rc, rfl⟩ := own_shape hrow
        by_cases hlt : k < q
        · have hkF : k < F.length := by have := Hq.out; omega
          obtain ⟨y, hy⟩ : ∃ y, y = F[k] := ⟨_, rfl⟩
          obtain ⟨b, off, rfl, c0, c1⟩ := Hat.out k y (by rw [hy]; exact List.getElem?_eq_getElem hkF)
          have d0 := cell_later hbr c0
          have d1 := cell_later hbr c1
          have hys := HFs.out y (by rw [hy]; exact List.getElem_mem hkF)
          have hnext := pieces_take hkF
          rw [← hy] at hnext
          obtain ⟨N, hN⟩ : ∃ N, N = (F.take k).map fun s => Value.string (pieceB s) := ⟨_, rfl⟩
          rw [← hN] at hrow hnext
          obtain ⟨y1, y2⟩ := y
          have hba : Below wr.heap.size wr (wr.alloc (.cells #[.string y1, .string y2] 34)) := below_alloc1 _ _
          have hbw := Hb1.out.trans ((hbr.trans (hba.mono hbr.size)).mono Hb1.out.size)
          have hT := spanText_any y1 y2 (by have := hys.1; simp only at this; omega) (by have := hys.2; simp only at this; omega) (HD.out.below hbw)
          obtain ⟨P, hP⟩ : ∃ P, P = txS y1 y2 := ⟨_, rfl⟩
          rw [← hP] at hT
          have hPp : pieceB (y1, y2) = P := hP.symm
          rw [hPp] at hnext
          have k5 : (0 : Int) ≤ (k : Int) := by omega
          have k6 : (k : Int) < (q : Int) := by omega
          clear c0 c1
          have Hrow := Lib.hid hrow; have Hbr := Lib.hid hbr; have Hy := Lib.hid hy; have Hys := Lib.hid hys; have Hnext := Lib.hid hnext; have HN := Lib.hid hN; have Hba := Lib.hid hba; have Hbw := Lib.hid hbw; have HT := Lib.hid hT; have HP := Lib.hid hP; have HPp := Lib.hid hPp; clear hrow hbr hy hys hnext hN hba hbw hT hP hPp
          go_wp2_with fail
          refine HT.out.mono ?_
          rintro e w5 ⟨rfl, hb5⟩
          have hb15 := Hbr.out.trans ((Hba.out.trans (hb5.mono Hba.out.size)).mono Hbr.out.size)
          have hrow5 := ownsRow_below (ownsRow_below Hrow.out Hba.out) hb5
          have hz5 := hb15.size
          have Hb5 := Lib.hid hb5; have Hb15 := Lib.hid hb15; have Hrow5 := Lib.hid hrow5; clear hb5 hb15 hrow5
          go_wp2_with (at_builtin; (refine wpList_append_lit elem_txts rfl (.tmp 26) (.tmp 29) rfl w1.heap.size (.slice ra k rc) k N rfl Hrow5.out 1 #[.string P] rfl rfl (by simp [Value.oneCell']) (by omega) (by unfold maxLen; omega) (by omega) ?_; intro v9 w9 hown9 hg9 hm9; obtain ⟨a9, c9, rfl⟩ := own_shape hown9; have hb9 := (bel_own Hb15.out Hrow5.out (Nat.le_refl _) hg9 (by omega) : Below w1.heap.size w1 w9); have Hown9 := Lib.hid hown9; have Hb9 := Lib.hid hb9; clear hown9 hg9 hm9 hb9))
          go_roundw
          case rel => exact ⟨k + 1, by omega, by go_num, by rw [Hnext.out]; exact Hown9.out, Hb9.out⟩
          case measure => (simp [RowKit.intOf]) <;> omega
        · obtain rfl : k = q := by omega
          rw [List.take_of_length_le (Nat.le_of_eq Hq.out.symm)] at hrow
          obtain ⟨gr, rc2, hra⟩ : ∃ g c, Value.slice ra k rc = .slice (some ⟨g, 0, none⟩) k c := by
            rcases hrow.2 with ⟨h1, h2⟩ | ⟨g, cap, _, h1, _⟩
            · omega
            · exact ⟨_, cap, h1⟩
          injection hra with hra _ hrc
          subst hra hrc
          have hJ := Tryz.strings_Join gr 0 rc (F.map pieceB) ⟨#[44]⟩ wr (fun j x hj => by
            have hjl := (List.getElem?_eq_some_iff.1 hj).1
            have := hrow.cells (g := gr) rfl j (.string x) (by
              rw [List.getElem?_map] at hj ⊢
              obtain ⟨z, hz, rfl⟩ := Option.map_eq_some_iff.1 hj
              rw [hz]; rfl)
            rw [Addr.add_lit] at this
            exact this) (hrow.lt gr rfl).2 (by rw [List.length_map]; have := Hq.out; omega) (by
              rw [List.length_map, ← Hq.out]
              rcases hrow.2 with ⟨e0, _⟩ | ⟨g', cap', cur, e0, _, _, hn9, _⟩
              · cases e0
              · injection e0 with _ _ e3
                omega) (join_small HFs.out (by have := Hq.out; omega))
          rw [List.length_map, ← Hq.out] at hJ
          have hbw := Hb1.out.trans (hbr.mono Hb1.out.size)
          obtain ⟨T, hT⟩ : ∃ T, T = joinF F := ⟨_, rfl⟩
          have hJ2 : Calls Tryz.prog 58 #[.slice (some ⟨gr, 0, none⟩) k rc, .string ⟨#[44]⟩] wr fun e w' => e = .returned (.string T) ∧ Below wr.heap.size wr w' := by rw [hT]; exact hJ
          clear hJ
          have Hrow := Lib.hid hrow; have Hbr := Lib.hid hbr; have Hbw := Lib.hid hbw; have HT := Lib.hid hT; have HJ2 := Lib.hid hJ2; clear hrow hbr hbw hT hJ2
          go_wp2_with fail
          refine HJ2.out.mono ?_
          rintro e w6 ⟨rfl, hb6⟩
          have Hb6 := Lib.hid hb6; clear hb6
          go_wp2_with fail
          go_ret
          exact ⟨by rw [Ht.out, ← HT.out]; rfl, Hbw.out.trans (Hb6.out.mono Hbw.out.size)⟩
end Go.Proofs.YteailgjiifdgcaaGreatDoor

/- The walk of cooperlaw03.fixed. Condition: the library's variables as they were laid. -/
namespace Go.Proofs.YteailgjiifdgcaaGreatDoor
open Go.Shelf Go.RowKit Go.Lib VerN

def fx3 : List Tp := [⟨(⟨#[53]⟩, ⟨#[53]⟩), by decide⟩, ⟨(⟨#[50]⟩, ⟨#[51]⟩), by decide⟩, ⟨(⟨#[49]⟩, ⟨#[50]⟩), by decide⟩]
def fx4 : List Tp := [⟨(⟨#[49]⟩, ⟨#[51]⟩), by decide⟩, ⟨(⟨#[53]⟩, ⟨#[53]⟩), by decide⟩]
theorem fx3_form : formB fx3 = tB fx4 := by decide
theorem fx4_form : formB fx4 = tB fx4 := by decide
theorem fx3_ok : formOk fx3 = true := by decide
theorem fx4_ok : formOk fx4 = true := by decide
theorem fx4_text : spsText fx4 = ⟨#[49, 58, 51, 44, 53]⟩ := by decide
theorem fx_fixed : (⟨#[49, 58, 51, 44, 53]⟩ : ByteArray).toList = [49, 58, 51, 44, 53] := by rw [Lib.toList_data]
set_option maxRecDepth 10000 in
set_option maxHeartbeats 4000000 in
theorem fixed03_any {w : World} (hD : Doors w) : Calls Tryz.prog 15 #[] w fun e w' => e = .returned (.bool true) ∧ Below w.heap.size w w' := by
  obtain ⟨w0, hW0⟩ : ∃ W, W = w.alloc (.cells #[.string ⟨#[53]⟩, .string ⟨#[53]⟩, .string ⟨#[50]⟩, .string ⟨#[51]⟩, .string ⟨#[49]⟩, .string ⟨#[50]⟩] 34) := ⟨_, rfl⟩
  obtain ⟨nb, hnb⟩ : ∃ n, n = w.heap.size := ⟨_, rfl⟩
  have hw : Below w.heap.size w w0 := by rw [hW0]; exact below_alloc1 _ _
  have hown : w0.ownsRow w.heap.size 34 2 (.slice (some ⟨nb, 0, none⟩) 3 3) 3 ((tB fx3).flatMap spCells) := by
    rw [hW0, hnb]
    exact World.ownsRow_lit (base := w.heap.size) (e := 34) (size := 2) w #[.string ⟨#[53]⟩, .string ⟨#[53]⟩, .string ⟨#[50]⟩, .string ⟨#[51]⟩, .string ⟨#[49]⟩, .string ⟨#[50]⟩] 3 (Nat.le_refl _) (by decide) rfl
  have hrd : RSps w0 [.slice (some ⟨nb, 0, none⟩) 3 3] (tB fx3) := sps_reads (fun x hx => by have := smallB_tB fx3 x hx; unfold maxLen; omega) hown
  have hF := form_any hrd (by decide) (hD.below hw)
  unfold FormPost at hF
  rw [fx3_ok, fx3_form] at hF
  rw [show (tB fx4).length = 2 from rfl] at hF
  obtain ⟨tx, htx⟩ : ∃ t, t = spsText fx4 := ⟨_, rfl⟩
  have hte : (tx.toList == [49, 58, 51, 44, 53]) = true := by
    have h9 := Txt.eq_dec tx ⟨#[49, 58, 51, 44, 53]⟩
    rw [fx_fixed] at h9
    rw [h9, decide_eq_true]
    rw [htx, fx4_text]
  have Hw := Lib.hid hw; have Hown := Lib.hid hown; have Hrd := Lib.hid hrd; have HF := Lib.hid hF; have HD := Lib.hid hD; have Htx := Lib.hid htx; clear hw hown hrd hF hD htx
  go_enter Tryz.func15, Tryz.ntmps15
  go_upto_region 1 with (fail)
  go_wp2_with fail
  rw [← hW0, ← hnb]
  clear hW0 hnb
  refine HF.out.mono ?_
  rintro e w1 ⟨o, rfl, ho, _, hb1⟩
  have ho := ho trivial
  have hrd2 : RSps w1 [o] (tB fx4) := sps_reads (fun x hx => by have := smallB_tB fx4 x hx; unfold maxLen; omega) ho
  obtain ⟨a, c, rfl⟩ := own_shape ho
  have hbw := Hw.out.trans (hb1.mono Hw.out.size)
  have hT := spsText_any hrd2 (by decide) (HD.out.below hbw)
  rw [← Htx.out] at hT
  have Ho := Lib.hid ho; have Hrd2 := Lib.hid hrd2; have Hb1 := Lib.hid hb1; have Hbw := Lib.hid hbw; have HT := Lib.hid hT; clear ho hrd2 hb1 hbw hT
  go_wp2_with fail
  refine HT.out.mono ?_
  rintro e w2 ⟨rfl, hb2⟩
  have hbw2 := Hbw.out.trans (hb2.mono Hbw.out.size)
  have Hb2 := Lib.hid hb2; have Hbw2 := Lib.hid hbw2; clear hb2 hbw2
  go_wp2_with fail
  go_ret
  exact ⟨rfl, Hbw2.out⟩
end Go.Proofs.YteailgjiifdgcaaGreatDoor

/- Plain facts: the document's form of a set of spans (two that meet put together, until none do; then the row) is the program's. No condition. -/
namespace Go.Proofs.YteailgjiifdgcaaGreatDoor
open Go.Lib VerN SortM

def jnT (a b : Tp) : Tp := ⟨jnV a.1.1 a.1.2 b.1.1 b.1.2, by
  have ha := a.2
  have hb := b.2
  have h0 : (ByteArray.mk #[]).size ≤ 9000 := by decide
  unfold jnV
  split
  · constructor
    · show (if _ then _ else _ : ByteArray).size ≤ 9000
      split
      · exact soonerS_size ha.1 hb.1
      · exact h0
    · show (if _ then _ else _ : ByteArray).size ≤ 9000
      split
      · exact laterS_size ha.2 hb.2
      · exact h0
  · exact ⟨h0, h0⟩⟩
def mtT (a b : Tp) : Bool := meetOk (dS a.1) (dS b.1)
def mayT (l : List Tp) : Prop := ∀ s ∈ l, mayS (dS s.1) = true
def covT (l : List Tp) (p : Pt) : Prop := cov (l.map fun x => dS x.1) p
theorem mayT_iff {l : List Tp} : mayT l ↔ allMay (l.map (·.1)) = true := by
  rw [allMay_iff]
  unfold mayT
  rw [List.map_map]
  constructor
  · intro h s hs
    obtain ⟨x, hx, rfl⟩ := List.mem_map.1 hs
    exact h x hx
  · intro h x hx
    exact h _ (List.mem_map.2 ⟨x, hx, rfl⟩)
theorem mt_symm {a b : Tp} (ha : mayS (dS a.1) = true) (hb : mayS (dS b.1) = true) (h : mtT a b = false) : mtT b a = false := by
  unfold mtT at *
  rw [Bool.eq_false_iff] at *
  intro k
  have := (meet_iff hb ha).1 k
  exact h ((meet_iff ha hb).2 ⟨this.2, this.1⟩)
/-- two that meet put together -/
def MStep (l l' : List Tp) : Prop := ∃ a b r, l.Perm (a :: b :: r) ∧ mtT a b = true ∧ l' = jnT a b :: r
def NoMeet (l : List Tp) : Prop := l.Pairwise fun a b => mtT a b = false
theorem covT_cons (a : Tp) (l : List Tp) (p : Pt) : covT (a :: l) p ↔ covS (dS a.1) p ∨ covT l p := by
  unfold covT cov
  simp only [List.map_cons, List.mem_cons, or_and_right, exists_or, exists_eq_left]
theorem covT_perm {a b : List Tp} (h : a.Perm b) (p : Pt) : covT a p ↔ covT b p := cov_perm (h.map _) p
theorem step_facts {l l' : List Tp} (hm : mayT l) (h : MStep l l') : mayT l' ∧ (∀ p, covT l' p ↔ covT l p) ∧ l'.length + 1 = l.length := by
  obtain ⟨a, b, r, hp, hab, rfl⟩ := h
  have ha : mayS (dS a.1) = true := hm a (hp.mem_iff.2 (by simp))
  have hb : mayS (dS b.1) = true := hm b (hp.mem_iff.2 (by simp))
  have e : dS (jnT a b).1 = joinS (dS a.1) (dS b.1) := jn_dS a.1 b.1
  refine ⟨fun s hs => ?_, fun p => ?_, ?_⟩
  · rcases List.mem_cons.1 hs with rfl | hs
    · rw [e]; exact join_may ha hb
    · exact hm s (hp.mem_iff.2 (by simp [hs]))
  · rw [covT_perm hp, covT_cons, covT_cons, covT_cons, e, join_cov ha hb hab, or_assoc]
  · have := hp.length_eq
    simp only [List.length_cons] at *
    omega
/-- the document's form, when no two meet any more -/
theorem refForm_is {l L : List Tp} (hl : mayT l) (hL : mayT L) (hc : ∀ p, covT L p ↔ covT l p) (hn : NoMeet L) : formB l = (sortSp L).map (·.1) := by
  refine form_of (mayT_iff.1 hl) ?_ fun p => ?_
  · rw [List.map_map]
    refine sep_of (fun s hs => ?_) (sortSp_lo L) ?_
    · obtain ⟨x, hx, rfl⟩ := List.mem_map.1 hs
      exact hL x ((sortSp_perm L).mem_iff.1 hx)
    · rw [List.pairwise_map]
      have h2 : L.Pairwise fun a b => (mtT a b = false ∧ mayS (dS a.1) = true ∧ mayS (dS b.1) = true) := hn.imp_of_mem fun ha hb h => ⟨h, hL _ ha, hL _ hb⟩
      have h3 := ((sortSp_perm L).pairwise_iff (fun {a b} h => ⟨mt_symm h.2.1 h.2.2 h.1, h.2.2, h.2.1⟩)).2 h2
      exact h3.imp fun h => h.1
  · rw [List.map_map, List.map_map]
    exact (cov_perm ((sortSp_perm L).map _) p).trans (hc p)
/-- where no two meet of a row of texts, and what is found first is taken: the places -/
theorem pairs_none {l : List Tp} (h : ∀ i k (hi : i < l.length) (hk : k < l.length), i < k → mtT l[i] l[k] = false) : NoMeet l := by
  unfold NoMeet
  rw [List.pairwise_iff_getElem]
  intro i k hi hk hik
  exact h i k hi hk hik
/-- all but two places, of the first n -/
def pickL {α : Type} [Inhabited α] (l : List α) (i k : Nat) : Nat → List α
  | 0 => []
  | n + 1 => if n ≠ i ∧ n ≠ k then pickL l i k n ++ [l[n]!] else pickL l i k n
theorem pick_perm {α : Type} [Inhabited α] (l : List α) {i k : Nat} (hik : i < k) : ∀ n, n ≤ l.length → (l.take n).Perm ((if i < n then [l[i]!] else []) ++ (if k < n then [l[k]!] else []) ++ pickL l i k n)
  | 0, _ => by simp [pickL]
  | n + 1, hn => by
    have ih := pick_perm l hik n (by omega)
    have hl : n < l.length := by omega
    have e : l[n]! = l[n] := getElem!_pos l n hl
    rw [List.take_succ_eq_append_getElem hl]
    unfold pickL
    by_cases h1 : n = i
    · subst h1
      rw [if_neg (Nat.lt_irrefl _), if_neg (by omega)] at ih
      rw [if_pos (by omega), if_neg (by omega), if_neg (by simp), e]
      simp only [List.nil_append, List.append_nil] at ih ⊢
      exact (ih.append_right _).trans List.perm_append_comm
    · by_cases h2 : n = k
      · subst h2
        rw [if_pos hik, if_neg (Nat.lt_irrefl _)] at ih
        rw [if_pos (by omega), if_pos (by omega), if_neg (by simp), e]
        simp only [List.append_nil] at ih
        refine (ih.append_right _).trans ?_
        rw [List.append_assoc, List.append_assoc]
        exact List.Perm.append_left _ List.perm_append_comm
      · rw [if_pos (show n ≠ i ∧ n ≠ k from ⟨h1, h2⟩), e, ← List.append_assoc]
        have c1 : (i < n + 1) = (i < n) := by apply propext; omega
        have c2 : (k < n + 1) = (k < n) := by apply propext; omega
        simp only [c1, c2]
        exact ih.append_right _
theorem pick_all {α : Type} [Inhabited α] (l : List α) {i k : Nat} (hik : i < k) (hk : k < l.length) : l.Perm (l[i]'(by omega) :: l[k] :: pickL l i k l.length) := by
  have h := pick_perm l hik l.length (Nat.le_refl _)
  rw [List.take_length, if_pos (by omega), if_pos hk, getElem!_pos l i (by omega), getElem!_pos l k hk] at h
  exact h
theorem pick_len {α : Type} [Inhabited α] (l : List α) (i k : Nat) : ∀ n, (pickL l i k n).length ≤ n
  | 0 => by simp [pickL]
  | n + 1 => by
    have := pick_len l i k n
    unfold pickL
    split
    · simp; omega
    · omega
theorem step_of {l : List Tp} {i k : Nat} (hik : i < k) (hk : k < l.length) (h : mtT (l[i]'(by omega)) l[k] = true) : MStep l (jnT (l[i]'(by omega)) l[k] :: pickL l i k l.length) :=
  ⟨_, _, _, pick_all l hik hk, h, rfl⟩
end Go.Proofs.YteailgjiifdgcaaGreatDoor

/- The walk of cooperref03.join. Condition: texts of at most a million bytes; spans that may be. -/
namespace Go.Proofs.YteailgjiifdgcaaGreatDoor
open Go.RowKit Go.Lib VerN

set_option linter.unusedSimpArgs false
theorem size0 {s : ByteArray} (h : s.size = 0) : s = ⟨#[]⟩ := Txt.ext ((nil_size s).2 h)
theorem jn_lo (lo hi lp hj : ByteArray) (m1 : mayS (lo.data.toList, hi.data.toList) = true) (m2 : mayS (lp.data.toList, hj.data.toList) = true) : (jnV lo hi lp hj).1 = if lp.size = 0 ∨ (lo.size ≠ 0 ∧ lessL lp.data.toList lo.data.toList = true) then lp else lo := by
  unfold jnV
  rw [if_pos ⟨m1, m2⟩]
  show (if lo.size ≠ 0 ∧ lp.size ≠ 0 then soonerS lo lp else ⟨#[]⟩) = _
  by_cases h1 : lp.size = 0
  · rw [if_neg (fun h => h.2 h1), if_pos (.inl h1)]; exact (size0 h1).symm
  · by_cases h2 : lo.size = 0
    · rw [if_neg (fun h => h.1 h2), if_neg (by rintro (h | h); exact h1 h; exact h.1 h2)]; exact (size0 h2).symm
    · rw [if_pos ⟨h2, h1⟩]
      unfold soonerS
      have e : aheadB lp.data.toList lo.data.toList = lessL lp.data.toList lo.data.toList := by
        rw [ahead_less, decide_eq_true (show lp.data.toList ≠ [] from fun e => h1 ((nil_size lp).1 e)), decide_eq_true (show lo.data.toList ≠ [] from fun e => h2 ((nil_size lo).1 e))]; rfl
      rw [e]
      simp [h1, h2]
theorem jn_hi (lo hi lp hj : ByteArray) (m1 : mayS (lo.data.toList, hi.data.toList) = true) (m2 : mayS (lp.data.toList, hj.data.toList) = true) : (jnV lo hi lp hj).2 = if hj.size = 0 ∨ (hi.size ≠ 0 ∧ lessL hi.data.toList hj.data.toList = true) then hj else hi := by
  unfold jnV
  rw [if_pos ⟨m1, m2⟩]
  show (if hi.size ≠ 0 ∧ hj.size ≠ 0 then laterS hi hj else ⟨#[]⟩) = _
  by_cases h1 : hj.size = 0
  · rw [if_neg (fun h => h.2 h1), if_pos (.inl h1)]; exact (size0 h1).symm
  · by_cases h2 : hi.size = 0
    · rw [if_neg (fun h => h.1 h2), if_neg (by rintro (h | h); exact h1 h; exact h.1 h2)]; exact (size0 h2).symm
    · rw [if_pos ⟨h2, h1⟩]
      unfold laterS
      have e : aheadB hi.data.toList hj.data.toList = lessL hi.data.toList hj.data.toList := by
        rw [ahead_less, decide_eq_true (show hi.data.toList ≠ [] from fun e => h2 ((nil_size hi).1 e)), decide_eq_true (show hj.data.toList ≠ [] from fun e => h1 ((nil_size hj).1 e))]; rfl
      rw [e]
      simp [h1, h2]
set_option maxRecDepth 10000 in
set_option maxHeartbeats 8000000 in
theorem refJoin_any (lo hi lp hj : ByteArray) (hl : lo.size ≤ 1000000) (hh : hi.size ≤ 1000000) (hl2 : lp.size ≤ 1000000) (hh2 : hj.size ≤ 1000000) (m1 : mayS (lo.data.toList, hi.data.toList) = true) (m2 : mayS (lp.data.toList, hj.data.toList) = true) (w : World) : Calls Tryz.prog 119 #[.agg #[.string lo, .string hi], .agg #[.string lp, .string hj]] w fun e w' => e = .returned (.agg #[.string (jnV lo hi lp hj).1, .string (jnV lo hi lp hj).2]) ∧ Below w.heap.size w w' := by
  obtain ⟨w0, hW0⟩ : ∃ W0, W0 = ((w.alloc (.cells #[.string lo, .string hi] 34)).alloc (.cells #[.string lp, .string hj] 34)).alloc (.cells #[.string ⟨#[]⟩, .string ⟨#[]⟩] 34) := ⟨_, rfl⟩
  obtain ⟨nb, hnb⟩ : ∃ nb, nb = w.heap.size := ⟨_, rfl⟩
  have hw : Below w.heap.size w w0 := by rw [hW0]; exact ((below_alloc1 _ _).alloc (below_alloc1 _ _).size _).alloc ((below_alloc1 _ _).alloc (below_alloc1 _ _).size _).size _
  have hb0 : Below w0.heap.size w0 w0 := Below.refl _ _
  have ha : w0.heap[nb]? = some (.cells #[.string lo, .string hi] 34 (0, 0)) := by rw [hW0, hnb]; exact pbox3_0 _ _ _ _ _ _ _
  obtain ⟨a0, a1, a2, a3⟩ := pair_cells ha
  have hb : w0.heap[nb + 1]? = some (.cells #[.string lp, .string hj] 34 (0, 0)) := by rw [hW0, hnb]; exact pbox3_1 _ _ _ _ _ _ _
  obtain ⟨b0, b1, b2, b3⟩ := pair_cells hb
  have hr : w0.heap[nb + 1 + 1]? = some (.cells #[.string ⟨#[]⟩, .string ⟨#[]⟩] 34 (0, 0)) := by rw [hW0, hnb]; exact pbox3_2 _ _ _ _ _ _ _
  obtain ⟨r0, r1, r2, r3⟩ := pair_cells hr
  have hX := fun (W : World) (_ : Below w0.heap.size w0 W) => less1_any lp lo hl2 hl W
  have hY := fun (W : World) (_ : Below w0.heap.size w0 W) => less1_any hi hj hh hh2 W
  have hlv := jn_lo lo hi lp hj m1 m2
  have hsv := jn_hi lo hi lp hj m1 m2
  obtain ⟨rx, hrx⟩ : ∃ x, x = lessL lp.data.toList lo.data.toList := ⟨_, rfl⟩
  obtain ⟨ry, hry⟩ : ∃ x, x = lessL hi.data.toList hj.data.toList := ⟨_, rfl⟩
  obtain ⟨d1, k1⟩ : ∃ x, lp.toList.isEmpty = x := ⟨_, rfl⟩
  obtain ⟨d2, k2⟩ : ∃ x, lo.toList.isEmpty = x := ⟨_, rfl⟩
  obtain ⟨d3, k3⟩ : ∃ x, hj.toList.isEmpty = x := ⟨_, rfl⟩
  obtain ⟨d4, k4⟩ : ∃ x, hi.toList.isEmpty = x := ⟨_, rfl⟩
  rw [← hrx] at hlv
  rw [← hry] at hsv
  have hlv : (jnV lo hi lp hj).1 = if d1 = true ∨ (d2 = false ∧ rx = true) then lp else lo := by rw [hlv, ← k1, ← k2]; simp only [Txt.no_dec, decide_eq_false_iff_not, ne_eq, decide_eq_true_eq]
  have hsv : (jnV lo hi lp hj).2 = if d3 = true ∨ (d4 = false ∧ ry = true) then hj else hi := by rw [hsv, ← k3, ← k4]; simp only [Txt.no_dec, decide_eq_false_iff_not, ne_eq, decide_eq_true_eq]
  have hle : w.heap.size ≤ nb + 1 + 1 := by omega
  obtain ⟨vv1, hvv1⟩ : ∃ x, x = (jnV lo hi lp hj).1 := ⟨_, rfl⟩
  obtain ⟨vv2, hvv2⟩ : ∃ x, x = (jnV lo hi lp hj).2 := ⟨_, rfl⟩
  rw [← hvv1] at hlv ⊢
  rw [← hvv2] at hsv ⊢
  rw [← hrx] at hX
  rw [← hry] at hY
  clear hrx hry m1 m2 hvv1 hvv2
  have HX := Lib.hid hX; have HY := Lib.hid hY; have Hlv := Lib.hid hlv; have Hsv := Lib.hid hsv; have Hle := Lib.hid hle; have Hw := Lib.hid hw; have Hb0 := Lib.hid hb0; have Ha := Lib.hid ha; have Hb := Lib.hid hb; have Hr := Lib.hid hr; clear hX hY hlv hsv hle hw hb0 ha hb hr
  go_enter Tryz.func119, Tryz.ntmps119
  go_upto_region 1 with (fail)
  rw [← hW0, ← hnb]
  clear hW0 hnb
  go_upto_region 2 with (fail)
  obtain ⟨w1, hv⟩ : ∃ W, W = w0.alloc (.cells #[.string lo, .string hi] 34) := ⟨_, rfl⟩
  obtain ⟨go, hg⟩ : ∃ g, g = w0.heap.size := ⟨_, rfl⟩
  have hs : Below w0.heap.size w0 w1 := by rw [hv]; exact below_alloc1 _ _
  have hb1 := Hb0.out.trans (hs.mono Hb0.out.size)
  have hgeo : w0.heap.size ≤ go := by rw [hg]; exact Hb0.out.size
  have hneao : nb ≠ go := by have := (Array.getElem?_eq_some_iff.1 Ha.out).1; omega
  have hnebo : nb + 1 ≠ go := by have := (Array.getElem?_eq_some_iff.1 Hb.out).1; omega
  have hnero : nb + 1 + 1 ≠ go := by have := (Array.getElem?_eq_some_iff.1 Hr.out).1; omega
  have ha := heap_below hs Ha.out
  clear Ha a0 a1 a2 a3
  obtain ⟨a0, a1, a2, a3⟩ := pair_cells ha
  have hb := heap_below hs Hb.out
  clear Hb b0 b1 b2 b3
  obtain ⟨b0, b1, b2, b3⟩ := pair_cells hb
  have hr := heap_below hs Hr.out
  clear Hr r0 r1 r2 r3
  obtain ⟨r0, r1, r2, r3⟩ := pair_cells hr
  have ho : w1.heap[go]? = some (.cells #[.string lo, .string hi] 34 (0, 0)) := by rw [hv, hg]; exact heap_alloc_new _ _
  obtain ⟨o0, o1, o2, o3⟩ := pair_cells ho
  rw [← hv, ← hg]
  clear hv hg
  have Hs := Lib.hid hs; have Hb1 := Lib.hid hb1; have Hgeo := Lib.hid hgeo; have Ha := Lib.hid ha; have Hb := Lib.hid hb; have Hr := Lib.hid hr; have Ho := Lib.hid ho; have Hneao := Lib.hid hneao; have Hnebo := Lib.hid hnebo; have Hnero := Lib.hid hnero; clear hs hb1 hgeo ha hb hr ho hneao hnebo hnero
  cases d1 with
  | false =>
    cases d2 with
    | false =>
      go_wp2_with fail
      refine (HX.out _ Hb1.out).mono ?_
      rintro e w2 ⟨rfl, hs⟩
      have hb2 := Hb1.out.trans (hs.mono Hb1.out.size)
      have ha := heap_below hs Ha.out
      clear Ha a0 a1 a2 a3
      obtain ⟨a0, a1, a2, a3⟩ := pair_cells ha
      have hb := heap_below hs Hb.out
      clear Hb b0 b1 b2 b3
      obtain ⟨b0, b1, b2, b3⟩ := pair_cells hb
      have hr := heap_below hs Hr.out
      clear Hr r0 r1 r2 r3
      obtain ⟨r0, r1, r2, r3⟩ := pair_cells hr
      have ho := heap_below hs Ho.out
      clear Ho o0 o1 o2 o3
      obtain ⟨o0, o1, o2, o3⟩ := pair_cells ho
      have Hs := Lib.hid hs; have Hb2 := Lib.hid hb2; have Ha := Lib.hid ha; have Hb := Lib.hid hb; have Hr := Lib.hid hr; have Ho := Lib.hid ho; clear hs hb2 ha hb hr ho
      cases rx with
      | false =>
        cases d3 with
        | false =>
          cases d4 with
          | false =>
            go_wp2_with fail
            refine (HY.out _ Hb2.out).mono ?_
            rintro e w3 ⟨rfl, hs⟩
            have hb3 := Hb2.out.trans (hs.mono Hb2.out.size)
            have ha := heap_below hs Ha.out
            clear Ha a0 a1 a2 a3
            obtain ⟨a0, a1, a2, a3⟩ := pair_cells ha
            have hb := heap_below hs Hb.out
            clear Hb b0 b1 b2 b3
            obtain ⟨b0, b1, b2, b3⟩ := pair_cells hb
            have hr := heap_below hs Hr.out
            clear Hr r0 r1 r2 r3
            obtain ⟨r0, r1, r2, r3⟩ := pair_cells hr
            have ho := heap_below hs Ho.out
            clear Ho o0 o1 o2 o3
            obtain ⟨o0, o1, o2, o3⟩ := pair_cells ho
            have Hs := Lib.hid hs; have Hb3 := Lib.hid hb3; have Ha := Lib.hid ha; have Hb := Lib.hid hb; have Hr := Lib.hid hr; have Ho := Lib.hid ho; clear hs hb3 ha hb hr ho
            cases ry with
            | false =>
              go_wp2_with fail
              refine bodyPost_spn1 rfl rfl (pair_set _ _ Hr.out) rfl ?_
              exact ⟨ret_spn1 (by first | rfl | (rw [Hlv.out]; rfl)) (by first | rfl | (rw [Hsv.out]; rfl)), pair_bel _ _ (below_on Hw.out Hb3.out) Hle.out⟩
            | true =>
              go_upto_region 6 with (fail)
              obtain ⟨w4, hv⟩ : ∃ W, W = w3.setCell ⟨go, 1, none⟩ (.string hj) := ⟨_, rfl⟩
              have hb4 : Below w0.heap.size w0 w4 := by rw [hv]; exact Hb3.out.setCell (p := ⟨go, 1, none⟩) Hgeo.out _
              have ha : w4.heap[nb]? = some (.cells #[.string lo, .string hi] 34 (0, 0)) := by rw [hv, Below.heap_setCell _ _ _ _ Hneao.out]; exact Ha.out
              clear Ha a0 a1 a2 a3
              obtain ⟨a0, a1, a2, a3⟩ := pair_cells ha
              have hb : w4.heap[nb + 1]? = some (.cells #[.string lp, .string hj] 34 (0, 0)) := by rw [hv, Below.heap_setCell _ _ _ _ Hnebo.out]; exact Hb.out
              clear Hb b0 b1 b2 b3
              obtain ⟨b0, b1, b2, b3⟩ := pair_cells hb
              have hr : w4.heap[nb + 1 + 1]? = some (.cells #[.string ⟨#[]⟩, .string ⟨#[]⟩] 34 (0, 0)) := by rw [hv, Below.heap_setCell _ _ _ _ Hnero.out]; exact Hr.out
              clear Hr r0 r1 r2 r3
              obtain ⟨r0, r1, r2, r3⟩ := pair_cells hr
              have ho : w4.heap[go]? = some (.cells #[.string lo, .string hj] 34 (0, 0)) := by rw [hv]; exact heap_setCell_same _ go 1 _ _ _ Ho.out
              clear Ho o0 o1 o2 o3
              obtain ⟨o0, o1, o2, o3⟩ := pair_cells ho
              rw [← hv]
              clear hv
              have Hb4 := Lib.hid hb4; have Ha := Lib.hid ha; have Hb := Lib.hid hb; have Hr := Lib.hid hr; have Ho := Lib.hid ho; clear hb4 ha hb hr ho
              go_wp2_with fail
              refine bodyPost_spn1 rfl rfl (pair_set _ _ Hr.out) rfl ?_
              exact ⟨ret_spn1 (by first | rfl | (rw [Hlv.out]; rfl)) (by first | rfl | (rw [Hsv.out]; rfl)), pair_bel _ _ (below_on Hw.out Hb4.out) Hle.out⟩
          | true =>
            go_wp2_with fail
            refine bodyPost_spn1 rfl rfl (pair_set _ _ Hr.out) rfl ?_
            exact ⟨ret_spn1 (by first | rfl | (rw [Hlv.out]; rfl)) (by first | rfl | (rw [Hsv.out]; rfl)), pair_bel _ _ (below_on Hw.out Hb2.out) Hle.out⟩
        | true =>
          go_upto_region 6 with (fail)
          obtain ⟨w3, hv⟩ : ∃ W, W = w2.setCell ⟨go, 1, none⟩ (.string hj) := ⟨_, rfl⟩
          have hb3 : Below w0.heap.size w0 w3 := by rw [hv]; exact Hb2.out.setCell (p := ⟨go, 1, none⟩) Hgeo.out _
          have ha : w3.heap[nb]? = some (.cells #[.string lo, .string hi] 34 (0, 0)) := by rw [hv, Below.heap_setCell _ _ _ _ Hneao.out]; exact Ha.out
          clear Ha a0 a1 a2 a3
          obtain ⟨a0, a1, a2, a3⟩ := pair_cells ha
          have hb : w3.heap[nb + 1]? = some (.cells #[.string lp, .string hj] 34 (0, 0)) := by rw [hv, Below.heap_setCell _ _ _ _ Hnebo.out]; exact Hb.out
          clear Hb b0 b1 b2 b3
          obtain ⟨b0, b1, b2, b3⟩ := pair_cells hb
          have hr : w3.heap[nb + 1 + 1]? = some (.cells #[.string ⟨#[]⟩, .string ⟨#[]⟩] 34 (0, 0)) := by rw [hv, Below.heap_setCell _ _ _ _ Hnero.out]; exact Hr.out
          clear Hr r0 r1 r2 r3
          obtain ⟨r0, r1, r2, r3⟩ := pair_cells hr
          have ho : w3.heap[go]? = some (.cells #[.string lo, .string hj] 34 (0, 0)) := by rw [hv]; exact heap_setCell_same _ go 1 _ _ _ Ho.out
          clear Ho o0 o1 o2 o3
          obtain ⟨o0, o1, o2, o3⟩ := pair_cells ho
          rw [← hv]
          clear hv
          have Hb3 := Lib.hid hb3; have Ha := Lib.hid ha; have Hb := Lib.hid hb; have Hr := Lib.hid hr; have Ho := Lib.hid ho; clear hb3 ha hb hr ho
          go_wp2_with fail
          refine bodyPost_spn1 rfl rfl (pair_set _ _ Hr.out) rfl ?_
          exact ⟨ret_spn1 (by first | rfl | (rw [Hlv.out]; rfl)) (by first | rfl | (rw [Hsv.out]; rfl)), pair_bel _ _ (below_on Hw.out Hb3.out) Hle.out⟩
      | true =>
        go_upto_region 4 with (fail)
        obtain ⟨w3, hv⟩ : ∃ W, W = w2.setCell ⟨go, 0, none⟩ (.string lp) := ⟨_, rfl⟩
        have hb3 : Below w0.heap.size w0 w3 := by rw [hv]; exact Hb2.out.setCell (p := ⟨go, 0, none⟩) Hgeo.out _
        have ha : w3.heap[nb]? = some (.cells #[.string lo, .string hi] 34 (0, 0)) := by rw [hv, Below.heap_setCell _ _ _ _ Hneao.out]; exact Ha.out
        clear Ha a0 a1 a2 a3
        obtain ⟨a0, a1, a2, a3⟩ := pair_cells ha
        have hb : w3.heap[nb + 1]? = some (.cells #[.string lp, .string hj] 34 (0, 0)) := by rw [hv, Below.heap_setCell _ _ _ _ Hnebo.out]; exact Hb.out
        clear Hb b0 b1 b2 b3
        obtain ⟨b0, b1, b2, b3⟩ := pair_cells hb
        have hr : w3.heap[nb + 1 + 1]? = some (.cells #[.string ⟨#[]⟩, .string ⟨#[]⟩] 34 (0, 0)) := by rw [hv, Below.heap_setCell _ _ _ _ Hnero.out]; exact Hr.out
        clear Hr r0 r1 r2 r3
        obtain ⟨r0, r1, r2, r3⟩ := pair_cells hr
        have ho : w3.heap[go]? = some (.cells #[.string lp, .string hi] 34 (0, 0)) := by rw [hv]; exact heap_setCell_same _ go 0 _ _ _ Ho.out
        clear Ho o0 o1 o2 o3
        obtain ⟨o0, o1, o2, o3⟩ := pair_cells ho
        rw [← hv]
        clear hv
        have Hb3 := Lib.hid hb3; have Ha := Lib.hid ha; have Hb := Lib.hid hb; have Hr := Lib.hid hr; have Ho := Lib.hid ho; clear hb3 ha hb hr ho
        cases d3 with
        | false =>
          cases d4 with
          | false =>
            go_wp2_with fail
            refine (HY.out _ Hb3.out).mono ?_
            rintro e w4 ⟨rfl, hs⟩
            have hb4 := Hb3.out.trans (hs.mono Hb3.out.size)
            have ha := heap_below hs Ha.out
            clear Ha a0 a1 a2 a3
            obtain ⟨a0, a1, a2, a3⟩ := pair_cells ha
            have hb := heap_below hs Hb.out
            clear Hb b0 b1 b2 b3
            obtain ⟨b0, b1, b2, b3⟩ := pair_cells hb
            have hr := heap_below hs Hr.out
            clear Hr r0 r1 r2 r3
            obtain ⟨r0, r1, r2, r3⟩ := pair_cells hr
            have ho := heap_below hs Ho.out
            clear Ho o0 o1 o2 o3
            obtain ⟨o0, o1, o2, o3⟩ := pair_cells ho
            have Hs := Lib.hid hs; have Hb4 := Lib.hid hb4; have Ha := Lib.hid ha; have Hb := Lib.hid hb; have Hr := Lib.hid hr; have Ho := Lib.hid ho; clear hs hb4 ha hb hr ho
            cases ry with
            | false =>
              go_wp2_with fail
              refine bodyPost_spn1 rfl rfl (pair_set _ _ Hr.out) rfl ?_
              exact ⟨ret_spn1 (by first | rfl | (rw [Hlv.out]; rfl)) (by first | rfl | (rw [Hsv.out]; rfl)), pair_bel _ _ (below_on Hw.out Hb4.out) Hle.out⟩
            | true =>
              go_upto_region 6 with (fail)
              obtain ⟨w5, hv⟩ : ∃ W, W = w4.setCell ⟨go, 1, none⟩ (.string hj) := ⟨_, rfl⟩
              have hb5 : Below w0.heap.size w0 w5 := by rw [hv]; exact Hb4.out.setCell (p := ⟨go, 1, none⟩) Hgeo.out _
              have ha : w5.heap[nb]? = some (.cells #[.string lo, .string hi] 34 (0, 0)) := by rw [hv, Below.heap_setCell _ _ _ _ Hneao.out]; exact Ha.out
              clear Ha a0 a1 a2 a3
              obtain ⟨a0, a1, a2, a3⟩ := pair_cells ha
              have hb : w5.heap[nb + 1]? = some (.cells #[.string lp, .string hj] 34 (0, 0)) := by rw [hv, Below.heap_setCell _ _ _ _ Hnebo.out]; exact Hb.out
              clear Hb b0 b1 b2 b3
              obtain ⟨b0, b1, b2, b3⟩ := pair_cells hb
              have hr : w5.heap[nb + 1 + 1]? = some (.cells #[.string ⟨#[]⟩, .string ⟨#[]⟩] 34 (0, 0)) := by rw [hv, Below.heap_setCell _ _ _ _ Hnero.out]; exact Hr.out
              clear Hr r0 r1 r2 r3
              obtain ⟨r0, r1, r2, r3⟩ := pair_cells hr
              have ho : w5.heap[go]? = some (.cells #[.string lp, .string hj] 34 (0, 0)) := by rw [hv]; exact heap_setCell_same _ go 1 _ _ _ Ho.out
              clear Ho o0 o1 o2 o3
              obtain ⟨o0, o1, o2, o3⟩ := pair_cells ho
              rw [← hv]
              clear hv
              have Hb5 := Lib.hid hb5; have Ha := Lib.hid ha; have Hb := Lib.hid hb; have Hr := Lib.hid hr; have Ho := Lib.hid ho; clear hb5 ha hb hr ho
              go_wp2_with fail
              refine bodyPost_spn1 rfl rfl (pair_set _ _ Hr.out) rfl ?_
              exact ⟨ret_spn1 (by first | rfl | (rw [Hlv.out]; rfl)) (by first | rfl | (rw [Hsv.out]; rfl)), pair_bel _ _ (below_on Hw.out Hb5.out) Hle.out⟩
          | true =>
            go_wp2_with fail
            refine bodyPost_spn1 rfl rfl (pair_set _ _ Hr.out) rfl ?_
            exact ⟨ret_spn1 (by first | rfl | (rw [Hlv.out]; rfl)) (by first | rfl | (rw [Hsv.out]; rfl)), pair_bel _ _ (below_on Hw.out Hb3.out) Hle.out⟩
        | true =>
          go_upto_region 6 with (fail)
          obtain ⟨w4, hv⟩ : ∃ W, W = w3.setCell ⟨go, 1, none⟩ (.string hj) := ⟨_, rfl⟩
          have hb4 : Below w0.heap.size w0 w4 := by rw [hv]; exact Hb3.out.setCell (p := ⟨go, 1, none⟩) Hgeo.out _
          have ha : w4.heap[nb]? = some (.cells #[.string lo, .string hi] 34 (0, 0)) := by rw [hv, Below.heap_setCell _ _ _ _ Hneao.out]; exact Ha.out
          clear Ha a0 a1 a2 a3
          obtain ⟨a0, a1, a2, a3⟩ := pair_cells ha
          have hb : w4.heap[nb + 1]? = some (.cells #[.string lp, .string hj] 34 (0, 0)) := by rw [hv, Below.heap_setCell _ _ _ _ Hnebo.out]; exact Hb.out
          clear Hb b0 b1 b2 b3
          obtain ⟨b0, b1, b2, b3⟩ := pair_cells hb
          have hr : w4.heap[nb + 1 + 1]? = some (.cells #[.string ⟨#[]⟩, .string ⟨#[]⟩] 34 (0, 0)) := by rw [hv, Below.heap_setCell _ _ _ _ Hnero.out]; exact Hr.out
          clear Hr r0 r1 r2 r3
          obtain ⟨r0, r1, r2, r3⟩ := pair_cells hr
          have ho : w4.heap[go]? = some (.cells #[.string lp, .string hj] 34 (0, 0)) := by rw [hv]; exact heap_setCell_same _ go 1 _ _ _ Ho.out
          clear Ho o0 o1 o2 o3
          obtain ⟨o0, o1, o2, o3⟩ := pair_cells ho
          rw [← hv]
          clear hv
          have Hb4 := Lib.hid hb4; have Ha := Lib.hid ha; have Hb := Lib.hid hb; have Hr := Lib.hid hr; have Ho := Lib.hid ho; clear hb4 ha hb hr ho
          go_wp2_with fail
          refine bodyPost_spn1 rfl rfl (pair_set _ _ Hr.out) rfl ?_
          exact ⟨ret_spn1 (by first | rfl | (rw [Hlv.out]; rfl)) (by first | rfl | (rw [Hsv.out]; rfl)), pair_bel _ _ (below_on Hw.out Hb4.out) Hle.out⟩
    | true =>
      cases d3 with
      | false =>
        cases d4 with
        | false =>
          go_wp2_with fail
          refine (HY.out _ Hb1.out).mono ?_
          rintro e w2 ⟨rfl, hs⟩
          have hb2 := Hb1.out.trans (hs.mono Hb1.out.size)
          have ha := heap_below hs Ha.out
          clear Ha a0 a1 a2 a3
          obtain ⟨a0, a1, a2, a3⟩ := pair_cells ha
          have hb := heap_below hs Hb.out
          clear Hb b0 b1 b2 b3
          obtain ⟨b0, b1, b2, b3⟩ := pair_cells hb
          have hr := heap_below hs Hr.out
          clear Hr r0 r1 r2 r3
          obtain ⟨r0, r1, r2, r3⟩ := pair_cells hr
          have ho := heap_below hs Ho.out
          clear Ho o0 o1 o2 o3
          obtain ⟨o0, o1, o2, o3⟩ := pair_cells ho
          have Hs := Lib.hid hs; have Hb2 := Lib.hid hb2; have Ha := Lib.hid ha; have Hb := Lib.hid hb; have Hr := Lib.hid hr; have Ho := Lib.hid ho; clear hs hb2 ha hb hr ho
          cases ry with
          | false =>
            go_wp2_with fail
            refine bodyPost_spn1 rfl rfl (pair_set _ _ Hr.out) rfl ?_
            exact ⟨ret_spn1 (by first | rfl | (rw [Hlv.out]; rfl)) (by first | rfl | (rw [Hsv.out]; rfl)), pair_bel _ _ (below_on Hw.out Hb2.out) Hle.out⟩
          | true =>
            go_upto_region 6 with (fail)
            obtain ⟨w3, hv⟩ : ∃ W, W = w2.setCell ⟨go, 1, none⟩ (.string hj) := ⟨_, rfl⟩
            have hb3 : Below w0.heap.size w0 w3 := by rw [hv]; exact Hb2.out.setCell (p := ⟨go, 1, none⟩) Hgeo.out _
            have ha : w3.heap[nb]? = some (.cells #[.string lo, .string hi] 34 (0, 0)) := by rw [hv, Below.heap_setCell _ _ _ _ Hneao.out]; exact Ha.out
            clear Ha a0 a1 a2 a3
            obtain ⟨a0, a1, a2, a3⟩ := pair_cells ha
            have hb : w3.heap[nb + 1]? = some (.cells #[.string lp, .string hj] 34 (0, 0)) := by rw [hv, Below.heap_setCell _ _ _ _ Hnebo.out]; exact Hb.out
            clear Hb b0 b1 b2 b3
            obtain ⟨b0, b1, b2, b3⟩ := pair_cells hb
            have hr : w3.heap[nb + 1 + 1]? = some (.cells #[.string ⟨#[]⟩, .string ⟨#[]⟩] 34 (0, 0)) := by rw [hv, Below.heap_setCell _ _ _ _ Hnero.out]; exact Hr.out
            clear Hr r0 r1 r2 r3
            obtain ⟨r0, r1, r2, r3⟩ := pair_cells hr
            have ho : w3.heap[go]? = some (.cells #[.string lo, .string hj] 34 (0, 0)) := by rw [hv]; exact heap_setCell_same _ go 1 _ _ _ Ho.out
            clear Ho o0 o1 o2 o3
            obtain ⟨o0, o1, o2, o3⟩ := pair_cells ho
            rw [← hv]
            clear hv
            have Hb3 := Lib.hid hb3; have Ha := Lib.hid ha; have Hb := Lib.hid hb; have Hr := Lib.hid hr; have Ho := Lib.hid ho; clear hb3 ha hb hr ho
            go_wp2_with fail
            refine bodyPost_spn1 rfl rfl (pair_set _ _ Hr.out) rfl ?_
            exact ⟨ret_spn1 (by first | rfl | (rw [Hlv.out]; rfl)) (by first | rfl | (rw [Hsv.out]; rfl)), pair_bel _ _ (below_on Hw.out Hb3.out) Hle.out⟩
        | true =>
          go_wp2_with fail
          refine bodyPost_spn1 rfl rfl (pair_set _ _ Hr.out) rfl ?_
          exact ⟨ret_spn1 (by first | rfl | (rw [Hlv.out]; rfl)) (by first | rfl | (rw [Hsv.out]; rfl)), pair_bel _ _ (below_on Hw.out Hb1.out) Hle.out⟩
      | true =>
        go_upto_region 6 with (fail)
        obtain ⟨w2, hv⟩ : ∃ W, W = w1.setCell ⟨go, 1, none⟩ (.string hj) := ⟨_, rfl⟩
        have hb2 : Below w0.heap.size w0 w2 := by rw [hv]; exact Hb1.out.setCell (p := ⟨go, 1, none⟩) Hgeo.out _
        have ha : w2.heap[nb]? = some (.cells #[.string lo, .string hi] 34 (0, 0)) := by rw [hv, Below.heap_setCell _ _ _ _ Hneao.out]; exact Ha.out
        clear Ha a0 a1 a2 a3
        obtain ⟨a0, a1, a2, a3⟩ := pair_cells ha
        have hb : w2.heap[nb + 1]? = some (.cells #[.string lp, .string hj] 34 (0, 0)) := by rw [hv, Below.heap_setCell _ _ _ _ Hnebo.out]; exact Hb.out
        clear Hb b0 b1 b2 b3
        obtain ⟨b0, b1, b2, b3⟩ := pair_cells hb
        have hr : w2.heap[nb + 1 + 1]? = some (.cells #[.string ⟨#[]⟩, .string ⟨#[]⟩] 34 (0, 0)) := by rw [hv, Below.heap_setCell _ _ _ _ Hnero.out]; exact Hr.out
        clear Hr r0 r1 r2 r3
        obtain ⟨r0, r1, r2, r3⟩ := pair_cells hr
        have ho : w2.heap[go]? = some (.cells #[.string lo, .string hj] 34 (0, 0)) := by rw [hv]; exact heap_setCell_same _ go 1 _ _ _ Ho.out
        clear Ho o0 o1 o2 o3
        obtain ⟨o0, o1, o2, o3⟩ := pair_cells ho
        rw [← hv]
        clear hv
        have Hb2 := Lib.hid hb2; have Ha := Lib.hid ha; have Hb := Lib.hid hb; have Hr := Lib.hid hr; have Ho := Lib.hid ho; clear hb2 ha hb hr ho
        go_wp2_with fail
        refine bodyPost_spn1 rfl rfl (pair_set _ _ Hr.out) rfl ?_
        exact ⟨ret_spn1 (by first | rfl | (rw [Hlv.out]; rfl)) (by first | rfl | (rw [Hsv.out]; rfl)), pair_bel _ _ (below_on Hw.out Hb2.out) Hle.out⟩
  | true =>
    go_upto_region 4 with (fail)
    obtain ⟨w2, hv⟩ : ∃ W, W = w1.setCell ⟨go, 0, none⟩ (.string lp) := ⟨_, rfl⟩
    have hb2 : Below w0.heap.size w0 w2 := by rw [hv]; exact Hb1.out.setCell (p := ⟨go, 0, none⟩) Hgeo.out _
    have ha : w2.heap[nb]? = some (.cells #[.string lo, .string hi] 34 (0, 0)) := by rw [hv, Below.heap_setCell _ _ _ _ Hneao.out]; exact Ha.out
    clear Ha a0 a1 a2 a3
    obtain ⟨a0, a1, a2, a3⟩ := pair_cells ha
    have hb : w2.heap[nb + 1]? = some (.cells #[.string lp, .string hj] 34 (0, 0)) := by rw [hv, Below.heap_setCell _ _ _ _ Hnebo.out]; exact Hb.out
    clear Hb b0 b1 b2 b3
    obtain ⟨b0, b1, b2, b3⟩ := pair_cells hb
    have hr : w2.heap[nb + 1 + 1]? = some (.cells #[.string ⟨#[]⟩, .string ⟨#[]⟩] 34 (0, 0)) := by rw [hv, Below.heap_setCell _ _ _ _ Hnero.out]; exact Hr.out
    clear Hr r0 r1 r2 r3
    obtain ⟨r0, r1, r2, r3⟩ := pair_cells hr
    have ho : w2.heap[go]? = some (.cells #[.string lp, .string hi] 34 (0, 0)) := by rw [hv]; exact heap_setCell_same _ go 0 _ _ _ Ho.out
    clear Ho o0 o1 o2 o3
    obtain ⟨o0, o1, o2, o3⟩ := pair_cells ho
    rw [← hv]
    clear hv
    have Hb2 := Lib.hid hb2; have Ha := Lib.hid ha; have Hb := Lib.hid hb; have Hr := Lib.hid hr; have Ho := Lib.hid ho; clear hb2 ha hb hr ho
    cases d3 with
    | false =>
      cases d4 with
      | false =>
        go_wp2_with fail
        refine (HY.out _ Hb2.out).mono ?_
        rintro e w3 ⟨rfl, hs⟩
        have hb3 := Hb2.out.trans (hs.mono Hb2.out.size)
        have ha := heap_below hs Ha.out
        clear Ha a0 a1 a2 a3
        obtain ⟨a0, a1, a2, a3⟩ := pair_cells ha
        have hb := heap_below hs Hb.out
        clear Hb b0 b1 b2 b3
        obtain ⟨b0, b1, b2, b3⟩ := pair_cells hb
        have hr := heap_below hs Hr.out
        clear Hr r0 r1 r2 r3
        obtain ⟨r0, r1, r2, r3⟩ := pair_cells hr
        have ho := heap_below hs Ho.out
        clear Ho o0 o1 o2 o3
        obtain ⟨o0, o1, o2, o3⟩ := pair_cells ho
        have Hs := Lib.hid hs; have Hb3 := Lib.hid hb3; have Ha := Lib.hid ha; have Hb := Lib.hid hb; have Hr := Lib.hid hr; have Ho := Lib.hid ho; clear hs hb3 ha hb hr ho
        cases ry with
        | false =>
          go_wp2_with fail
          refine bodyPost_spn1 rfl rfl (pair_set _ _ Hr.out) rfl ?_
          exact ⟨ret_spn1 (by first | rfl | (rw [Hlv.out]; rfl)) (by first | rfl | (rw [Hsv.out]; rfl)), pair_bel _ _ (below_on Hw.out Hb3.out) Hle.out⟩
        | true =>
          go_upto_region 6 with (fail)
          obtain ⟨w4, hv⟩ : ∃ W, W = w3.setCell ⟨go, 1, none⟩ (.string hj) := ⟨_, rfl⟩
          have hb4 : Below w0.heap.size w0 w4 := by rw [hv]; exact Hb3.out.setCell (p := ⟨go, 1, none⟩) Hgeo.out _
          have ha : w4.heap[nb]? = some (.cells #[.string lo, .string hi] 34 (0, 0)) := by rw [hv, Below.heap_setCell _ _ _ _ Hneao.out]; exact Ha.out
          clear Ha a0 a1 a2 a3
          obtain ⟨a0, a1, a2, a3⟩ := pair_cells ha
          have hb : w4.heap[nb + 1]? = some (.cells #[.string lp, .string hj] 34 (0, 0)) := by rw [hv, Below.heap_setCell _ _ _ _ Hnebo.out]; exact Hb.out
          clear Hb b0 b1 b2 b3
          obtain ⟨b0, b1, b2, b3⟩ := pair_cells hb
          have hr : w4.heap[nb + 1 + 1]? = some (.cells #[.string ⟨#[]⟩, .string ⟨#[]⟩] 34 (0, 0)) := by rw [hv, Below.heap_setCell _ _ _ _ Hnero.out]; exact Hr.out
          clear Hr r0 r1 r2 r3
          obtain ⟨r0, r1, r2, r3⟩ := pair_cells hr
          have ho : w4.heap[go]? = some (.cells #[.string lp, .string hj] 34 (0, 0)) := by rw [hv]; exact heap_setCell_same _ go 1 _ _ _ Ho.out
          clear Ho o0 o1 o2 o3
          obtain ⟨o0, o1, o2, o3⟩ := pair_cells ho
          rw [← hv]
          clear hv
          have Hb4 := Lib.hid hb4; have Ha := Lib.hid ha; have Hb := Lib.hid hb; have Hr := Lib.hid hr; have Ho := Lib.hid ho; clear hb4 ha hb hr ho
          go_wp2_with fail
          refine bodyPost_spn1 rfl rfl (pair_set _ _ Hr.out) rfl ?_
          exact ⟨ret_spn1 (by first | rfl | (rw [Hlv.out]; rfl)) (by first | rfl | (rw [Hsv.out]; rfl)), pair_bel _ _ (below_on Hw.out Hb4.out) Hle.out⟩
      | true =>
        go_wp2_with fail
        refine bodyPost_spn1 rfl rfl (pair_set _ _ Hr.out) rfl ?_
        exact ⟨ret_spn1 (by first | rfl | (rw [Hlv.out]; rfl)) (by first | rfl | (rw [Hsv.out]; rfl)), pair_bel _ _ (below_on Hw.out Hb2.out) Hle.out⟩
    | true =>
      go_upto_region 6 with (fail)
      obtain ⟨w3, hv⟩ : ∃ W, W = w2.setCell ⟨go, 1, none⟩ (.string hj) := ⟨_, rfl⟩
      have hb3 : Below w0.heap.size w0 w3 := by rw [hv]; exact Hb2.out.setCell (p := ⟨go, 1, none⟩) Hgeo.out _
      have ha : w3.heap[nb]? = some (.cells #[.string lo, .string hi] 34 (0, 0)) := by rw [hv, Below.heap_setCell _ _ _ _ Hneao.out]; exact Ha.out
      clear Ha a0 a1 a2 a3
      obtain ⟨a0, a1, a2, a3⟩ := pair_cells ha
      have hb : w3.heap[nb + 1]? = some (.cells #[.string lp, .string hj] 34 (0, 0)) := by rw [hv, Below.heap_setCell _ _ _ _ Hnebo.out]; exact Hb.out
      clear Hb b0 b1 b2 b3
      obtain ⟨b0, b1, b2, b3⟩ := pair_cells hb
      have hr : w3.heap[nb + 1 + 1]? = some (.cells #[.string ⟨#[]⟩, .string ⟨#[]⟩] 34 (0, 0)) := by rw [hv, Below.heap_setCell _ _ _ _ Hnero.out]; exact Hr.out
      clear Hr r0 r1 r2 r3
      obtain ⟨r0, r1, r2, r3⟩ := pair_cells hr
      have ho : w3.heap[go]? = some (.cells #[.string lp, .string hj] 34 (0, 0)) := by rw [hv]; exact heap_setCell_same _ go 1 _ _ _ Ho.out
      clear Ho o0 o1 o2 o3
      obtain ⟨o0, o1, o2, o3⟩ := pair_cells ho
      rw [← hv]
      clear hv
      have Hb3 := Lib.hid hb3; have Ha := Lib.hid ha; have Hb := Lib.hid hb; have Hr := Lib.hid hr; have Ho := Lib.hid ho; clear hb3 ha hb hr ho
      go_wp2_with fail
      refine bodyPost_spn1 rfl rfl (pair_set _ _ Hr.out) rfl ?_
      exact ⟨ret_spn1 (by first | rfl | (rw [Hlv.out]; rfl)) (by first | rfl | (rw [Hsv.out]; rfl)), pair_bel _ _ (below_on Hw.out Hb3.out) Hle.out⟩
end Go.Proofs.YteailgjiifdgcaaGreatDoor
