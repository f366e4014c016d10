/- The walks of slices.SortStableFunc at luby.Note: symMergeCmpFunc where the first run has one element. Printed by gen_stb.py. -/
import Derived.Test.YtoljhahmmdibfaaStbNoteM
import Derived.Shelf.SlSortCmp.QuietGrown
set_option linter.unusedVariables false
set_option linter.unusedSimpArgs false
namespace Go.Proofs.Ytoljhahmmdibfaa
open Go.Shelf Go.RowKit Go.Lib Go.Sort SortM StbA StbB
namespace StbNote
variable {α : Type} [Inhabited α] {f0 : α → Int} {f1 : α → Int} {f2 : α → Int} {f3 : α → Bool} {w0 : World} {blk off : Nat} {d0 : Array α}
variable {cf : α → α → Int} {g : Nat} {cb : Array Value}
set_option maxRecDepth 10000 in
set_option maxHeartbeats 4000000 in
theorem merge_left {dk : Array α} {w : World} (R : RowK (enc f0 f1 f2 f3) 4 w0 blk off d0) (S : SWK (enc f0 f1 f2 f3) 4 w0 blk off dk w) (C : CmpLays Try.prog g cb (enc f0 f1 f2 f3) 4 cf blk off d0.size w0) (eg : ∀ args w, (callFunc g args).run Try.prog w = .ok (.enter g args) w) (hO : Swo (ltOf cf))
    {p v q : List α} {x : α} (hd : dk.toList = p ++ x :: (v ++ q)) (hs : dk.size = d0.size) (hv : Sorted (ltOf cf) v) {a m b : Nat} (ha : a = p.length) (hm : m = a + 1) (hb : b = m + v.length) (cap : Nat) (hn : d0.size ≤ 1000000) :
    Calls Try.prog 75 #[.slice (some ⟨blk, off, none⟩) d0.size cap, .int .i64 a, .int .i64 m, .int .i64 b, .func (.func g) #[] cb] w (Now (enc f0 f1 f2 f3) 4 w0 blk off (p ++ ssort (ltOf cf) (x :: v) ++ q)) := by
  have hbn : b ≤ d0.size := by rw [← hs, ← Array.length_toList, hd]; simp; omega
  have hix : SortedIx (ltOf cf) m b dk := sortedIx_of hO (p := p ++ [x]) (u := v) (q := q) (by rw [hd]; simp) hv (by simp; omega) (by simp; omega)
  have hM := mono_left hO (a := a) hix
  have hend := fun i (hB : BS (fun c => ltOf cf dk[c]! dk[a]!) m b i i) => one_left hO hd hv ha hm hb hB
  have hmb : m ≤ b := by omega
  have hB0 := BS.start (fun c => ltOf cf dk[c]! dk[a]!) hmb
  have hk1 : IntKind.i64.wrap ((m : Int) - (a : Int)) = 1 := by rw [IntWalk.i64_in _ (by omega)]; omega
  have hk2 : ((1 : Int) == 1) = true := by simp
  obtain ⟨tgt, htg⟩ : ∃ l, l = p ++ ssort (ltOf cf) (x :: v) ++ q := ⟨_, rfl⟩
  rw [← htg] at hend ⊢
  obtain ⟨N, hN⟩ : ∃ N, N = d0.size := ⟨_, rfl⟩
  rw [← hN] at hn hs hbn ⊢
  have ham : a < m := by omega
  clear hix hd hv ha hm hb
  have HS := Lib.hid S; have HM := Lib.hid hM; have HB0 := Lib.hid hB0; have Hend := Lib.hid hend; have Htg := Lib.hid htg; have Hs := Lib.hid hs; have HN := Lib.hid hN; have Hmb := Lib.hid hmb; have HC := Lib.hid C; have HR := Lib.hid R; have HO := Lib.hid hO; clear S hM hB0 hend htg hs hN hmb C R hO
  go_enter Try.func75, Try.ntmps75
  go_wp2_with fail
  clear hk1
  go_loopw [10, 11] (fun x y wr => ∃ (i j : Nat), x = .int .i64 i ∧ y = .int .i64 j ∧ BS (fun c => ltOf cf dk[c]! dk[a]!) m b i j ∧ SWK (enc f0 f1 f2 f3) 4 w0 blk off dk wr) (fun x y _ => (intOf y).toNat - (intOf x).toNat)
  case atStart => exact ⟨m, b, rfl, rfl, HB0.out, HS.out⟩
  case round =>
    obtain ⟨i, j, rfl, rfl, hB, S⟩ := hrel
    have l1 := hB.l1
    have l2 := hB.l2
    have l3 := hB.l3
    by_cases hlt : i < j
    · have R := HR.out
      have C := HC.out
      have hs := Hs.out
      rw [HN.out] at hs
      have hN' := HN.out
      obtain ⟨h, hh⟩ : ∃ h, h = (i + j) / 2 := ⟨_, rfl⟩
      have w1 : IntKind.i64.wrap ((i : Int) + (j : Int)) = (i : Int) + (j : Int) := IntWalk.i64_in _ (by omega)
      have w2 : ((i : Int) + (j : Int)) / 2 = (h : Int) := by omega
      have hGR := fun n os => SWK.grown S n os
      have hp := fun n os => cells (SWK.grown S n os) R hs (h) (by omega)
      obtain ⟨x, hx⟩ : ∃ v, v = dk[h]! := ⟨_, rfl⟩
      have hq := fun n os => cells (SWK.grown S n os) R hs (a) (by omega)
      obtain ⟨y, hy⟩ : ∃ v, v = dk[a]! := ⟨_, rfl⟩
      have hc := fun n os => SWK.cmp S C hs x y n os
      rw [← hx] at hp
      rw [← hy] at hq
      obtain ⟨x0, hx0⟩ : ∃ v, v = f0 x := ⟨_, rfl⟩
      obtain ⟨x1, hx1⟩ : ∃ v, v = f1 x := ⟨_, rfl⟩
      obtain ⟨x2, hx2⟩ : ∃ v, v = f2 x := ⟨_, rfl⟩
      obtain ⟨x3, hx3⟩ : ∃ v, v = f3 x := ⟨_, rfl⟩
      obtain ⟨y0, hy0⟩ : ∃ v, v = f0 y := ⟨_, rfl⟩
      obtain ⟨y1, hy1⟩ : ∃ v, v = f1 y := ⟨_, rfl⟩
      obtain ⟨y2, hy2⟩ : ∃ v, v = f2 y := ⟨_, rfl⟩
      obtain ⟨y3, hy3⟩ : ∃ v, v = f3 y := ⟨_, rfl⟩
      rw [← hx0, ← hx1, ← hx2, ← hx3] at hp
      rw [← hy0, ← hy1, ← hy2, ← hy3] at hq
      have p0 := fun n os => (hp n os).1
      have p1 := fun n os => (hp n os).2.2.1
      have p2 := fun n os => (hp n os).2.2.2.2.1
      have p3 := fun n os => (hp n os).2.2.2.2.2.2.1
      have q0 := fun n os => (hq n os).1
      have q1 := fun n os => (hq n os).2.2.1
      have q2 := fun n os => (hq n os).2.2.2.2.1
      have q3 := fun n os => (hq n os).2.2.2.2.2.2.1
      clear hp hq
      have hcg : ∀ n os, Calls Try.prog g (#[.agg #[.int .i64 (x0), .int .i64 (x1), .int .i64 (x2), .bool (x3)], .agg #[.int .i64 (y0), .int .i64 (y1), .int .i64 (y2), .bool (y3)]] ++ cb) (grow (wr.drewN n) os) fun e w' => e = .returned (.int .i64 (cf x y)) ∧ ∃ q os', w' = grow ((grow (wr.drewN n) os).drewN q) os' := by rw [hx0, hy0, hx1, hy1, hx2, hy2, hx3, hy3]; exact hc
      clear hc
      obtain ⟨cv, hcv⟩ : ∃ v, v = cf x y := ⟨_, rfl⟩
      rw [← hcv] at hcg
      have hl : (h : Int) < (N : Int) := by omega
      have al : (a : Int) < (N : Int) := by omega
      have hij1 : i ≤ h := by omega
      have hij2 : h < j := by omega
      clear S hs R C hN'
      cases hdec : decide (cv < 0) with
      | true =>
        have hB2 := hB.left HM.out hij1 hij2 (by rw [← hx, ← hy]; unfold ltOf; rw [← hcv]; exact hdec)
        have hlv : cv < 0 := of_decide_eq_true hdec
        have HB := Lib.hid hB; have HB2 := Lib.hid hB2; have Hx := Lib.hid hx; have Hy := Lib.hid hy; have Hx0 := Lib.hid hx0; have Hy0 := Lib.hid hy0; have Hx1 := Lib.hid hx1; have Hy1 := Lib.hid hy1; have Hx2 := Lib.hid hx2; have Hy2 := Lib.hid hy2; have Hx3 := Lib.hid hx3; have Hy3 := Lib.hid hy3; have HGR := Lib.hid hGR; have Hcv := Lib.hid hcv; have Hh := Lib.hid hh; have Hdec := Lib.hid hdec; clear hB hB2 hx hy hx0 hy0 hx1 hy1 hx2 hy2 hx3 hy3 hGR hcv hh hdec
        go_wp2_with fail
        go_quiet_grown (first | (go_at_fn g; refine Calls.grown_of (hcg _ _)))
        go_wp2_with fail
        go_roundw
        case rel => exact ⟨h + 1, j, by go_num, rfl, HB2.out, HGR.out _ _⟩
        case measure => simp [intOf]; omega
      | false =>
        have hB2 := hB.right HM.out hij1 hij2 (by rw [← hx, ← hy]; unfold ltOf; rw [← hcv]; exact hdec)
        have hlv : ¬ cv < 0 := of_decide_eq_false hdec
        have HB := Lib.hid hB; have HB2 := Lib.hid hB2; have Hx := Lib.hid hx; have Hy := Lib.hid hy; have Hx0 := Lib.hid hx0; have Hy0 := Lib.hid hy0; have Hx1 := Lib.hid hx1; have Hy1 := Lib.hid hy1; have Hx2 := Lib.hid hx2; have Hy2 := Lib.hid hy2; have Hx3 := Lib.hid hx3; have Hy3 := Lib.hid hy3; have HGR := Lib.hid hGR; have Hcv := Lib.hid hcv; have Hh := Lib.hid hh; have Hdec := Lib.hid hdec; clear hB hB2 hx hy hx0 hy0 hx1 hy1 hx2 hy2 hx3 hy3 hGR hcv hh hdec
        go_wp2_with fail
        go_quiet_grown (first | (go_at_fn g; refine Calls.grown_of (hcg _ _)))
        go_wp2_with fail
        go_roundw
        case rel => exact ⟨i, h, rfl, rfl, HB2.out, HGR.out _ _⟩
        case measure => simp [intOf]; omega
    · obtain rfl : i = j := by omega
      have hE := Hend.out i hB
      have him : m ≤ i := l1
      have hib : i ≤ b := l3
      clear l1 l2 l3
      have HB := Lib.hid hB; have HS := Lib.hid S; have HE := Lib.hid hE; clear hB S hE
      have w1 : IntKind.i64.wrap ((i : Int) - 1) = (i : Int) - 1 := IntWalk.i64_in _ (by omega)
      go_wp2_with fail
      clear w1
      go_loopw [13] (fun x wr => ∃ kk : Nat, x = .int .i64 kk ∧ a ≤ kk ∧ kk ≤ i - 1 ∧ SWK (enc f0 f1 f2 f3) 4 w0 blk off (upN dk a (kk - a)) wr) (fun x _ => i - (intOf x).toNat)
      case atStart => exact ⟨a, rfl, Nat.le_refl _, by omega, by rw [Nat.sub_self]; exact HS.out⟩
      case round =>
        obtain ⟨kk, rfl, k1, k2, S⟩ := hrel
        by_cases hlt : kk < i - 1
        · obtain ⟨ek, hek⟩ : ∃ e, e = upN dk a (kk - a) := ⟨_, rfl⟩
          rw [← hek] at S
          have hnx : upN dk a (kk + 1 - a) = swp ek kk (kk + 1) := by
            rw [show kk + 1 - a = (kk - a) + 1 by omega, upN, ← hek, show a + (kk - a) = kk by omega]
          have R := HR.out
          have hl : ek.size = d0.size := by rw [hek, size_upN, Hs.out, HN.out]
          have hN' := HN.out
          have hEX := exch S R (kk) (kk + 1) (by omega) (by omega)
          obtain ⟨p0, pf0, p1, pf1, p2, pf2, p3, pf3⟩ := cells S R hl (kk) (by omega)
          obtain ⟨q0, qf0, q1, qf1, q2, qf2, q3, qf3⟩ := cells S R hl (kk + 1) (by omega)
          obtain ⟨x, hx⟩ : ∃ x, x = ek[kk]! := ⟨_, rfl⟩
          obtain ⟨y, hy⟩ : ∃ y, y = ek[kk + 1]! := ⟨_, rfl⟩
          rw [← hx] at p0 p1 p2 p3 hEX
          rw [← hy] at q0 q1 q2 q3 hEX
          obtain ⟨x0, hx0⟩ : ∃ v, v = f0 x := ⟨_, rfl⟩
          obtain ⟨y0, hy0⟩ : ∃ v, v = f0 y := ⟨_, rfl⟩
          rw [← hx0] at p0 hEX
          rw [← hy0] at q0 hEX
          obtain ⟨x1, hx1⟩ : ∃ v, v = f1 x := ⟨_, rfl⟩
          obtain ⟨y1, hy1⟩ : ∃ v, v = f1 y := ⟨_, rfl⟩
          rw [← hx1] at p1 hEX
          rw [← hy1] at q1 hEX
          obtain ⟨x2, hx2⟩ : ∃ v, v = f2 x := ⟨_, rfl⟩
          obtain ⟨y2, hy2⟩ : ∃ v, v = f2 y := ⟨_, rfl⟩
          rw [← hx2] at p2 hEX
          rw [← hy2] at q2 hEX
          obtain ⟨x3, hx3⟩ : ∃ v, v = f3 x := ⟨_, rfl⟩
          obtain ⟨y3, hy3⟩ : ∃ v, v = f3 y := ⟨_, rfl⟩
          rw [← hx3] at p3 hEX
          rw [← hy3] at q3 hEX
          have na00 : ¬ off + (kk) * 4 = off + (kk + 1) * 4 := by omega
          have nb00 : ¬ off + (kk + 1) * 4 = off + (kk) * 4 := by omega
          have na01 : ¬ off + (kk) * 4 = off + (kk + 1) * 4 + 1 := by omega
          have nb01 : ¬ off + (kk + 1) * 4 = off + (kk) * 4 + 1 := by omega
          have na02 : ¬ off + (kk) * 4 = off + (kk + 1) * 4 + 2 := by omega
          have nb02 : ¬ off + (kk + 1) * 4 = off + (kk) * 4 + 2 := by omega
          have na03 : ¬ off + (kk) * 4 = off + (kk + 1) * 4 + 3 := by omega
          have nb03 : ¬ off + (kk + 1) * 4 = off + (kk) * 4 + 3 := by omega
          have na10 : ¬ off + (kk) * 4 + 1 = off + (kk + 1) * 4 := by omega
          have nb10 : ¬ off + (kk + 1) * 4 + 1 = off + (kk) * 4 := by omega
          have na11 : ¬ off + (kk) * 4 + 1 = off + (kk + 1) * 4 + 1 := by omega
          have nb11 : ¬ off + (kk + 1) * 4 + 1 = off + (kk) * 4 + 1 := by omega
          have na12 : ¬ off + (kk) * 4 + 1 = off + (kk + 1) * 4 + 2 := by omega
          have nb12 : ¬ off + (kk + 1) * 4 + 1 = off + (kk) * 4 + 2 := by omega
          have na13 : ¬ off + (kk) * 4 + 1 = off + (kk + 1) * 4 + 3 := by omega
          have nb13 : ¬ off + (kk + 1) * 4 + 1 = off + (kk) * 4 + 3 := by omega
          have na20 : ¬ off + (kk) * 4 + 2 = off + (kk + 1) * 4 := by omega
          have nb20 : ¬ off + (kk + 1) * 4 + 2 = off + (kk) * 4 := by omega
          have na21 : ¬ off + (kk) * 4 + 2 = off + (kk + 1) * 4 + 1 := by omega
          have nb21 : ¬ off + (kk + 1) * 4 + 2 = off + (kk) * 4 + 1 := by omega
          have na22 : ¬ off + (kk) * 4 + 2 = off + (kk + 1) * 4 + 2 := by omega
          have nb22 : ¬ off + (kk + 1) * 4 + 2 = off + (kk) * 4 + 2 := by omega
          have na23 : ¬ off + (kk) * 4 + 2 = off + (kk + 1) * 4 + 3 := by omega
          have nb23 : ¬ off + (kk + 1) * 4 + 2 = off + (kk) * 4 + 3 := by omega
          have na30 : ¬ off + (kk) * 4 + 3 = off + (kk + 1) * 4 := by omega
          have nb30 : ¬ off + (kk + 1) * 4 + 3 = off + (kk) * 4 := by omega
          have na31 : ¬ off + (kk) * 4 + 3 = off + (kk + 1) * 4 + 1 := by omega
          have nb31 : ¬ off + (kk + 1) * 4 + 3 = off + (kk) * 4 + 1 := by omega
          have na32 : ¬ off + (kk) * 4 + 3 = off + (kk + 1) * 4 + 2 := by omega
          have nb32 : ¬ off + (kk + 1) * 4 + 3 = off + (kk) * 4 + 2 := by omega
          have na33 : ¬ off + (kk) * 4 + 3 = off + (kk + 1) * 4 + 3 := by omega
          have nb33 : ¬ off + (kk + 1) * 4 + 3 = off + (kk) * 4 + 3 := by omega
          have w1 : IntKind.i64.wrap ((kk : Int) + 1) = (kk : Int) + 1 := IntWalk.i64_in _ (by omega)
          have w2 : IntKind.i64.wrap ((i : Int) - 1) = (i : Int) - 1 := IntWalk.i64_in _ (by omega)
          have n2 : ((kk : Int) + 1).toNat = kk + 1 := by omega
          have u2 : (0 : Int) ≤ (kk : Int) + 1 := by omega
          have v1 : (kk : Int) < (N : Int) := by omega
          have v2 : (kk : Int) + 1 < (N : Int) := by omega
          have v3 : (kk : Int) < (i : Int) - 1 := by omega
          rw [← hnx] at hEX
          clear S R hN'
          have Hek := Lib.hid hek; have Hnx := Lib.hid hnx; have Hl := Lib.hid hl; have Hx := Lib.hid hx; have Hy := Lib.hid hy; have Hx0 := Lib.hid hx0; have Hy0 := Lib.hid hy0; have Hx1 := Lib.hid hx1; have Hy1 := Lib.hid hy1; have Hx2 := Lib.hid hx2; have Hy2 := Lib.hid hy2; have Hx3 := Lib.hid hx3; have Hy3 := Lib.hid hy3; have HEX := Lib.hid hEX; clear hek hnx hl hx hy hx0 hy0 hx1 hy1 hx2 hy2 hx3 hy3 hEX
          go_wp2_with fail
          go_region
          all_goals
            go_wp2_with fail
            go_roundw
            case rel => exact ⟨kk + 1, by go_num, by omega, by omega, HEX.out⟩
            case measure => simp [intOf]; omega
        · obtain rfl : kk = i - 1 := by omega
          have v3 : ¬ ((i - 1 : Nat) : Int) < (i : Int) - 1 := by omega
          have w2 : IntKind.i64.wrap ((i : Int) - 1) = (i : Int) - 1 := IntWalk.i64_in _ (by omega)
          have HS := Lib.hid S; clear S
          go_wp2_with fail
          go_end0
          exact ⟨rfl, _, HS.out, HE.out⟩
end StbNote
end Go.Proofs.Ytoljhahmmdibfaa
