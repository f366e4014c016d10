/- Walks and plain facts. Texts merged: StbSetN3, StbSetI, StbSetT, BothP, Mem, Row, Seq, TwiceM, Twice, VarM, VarN, IdxM, IdxStr. Condition: none beyond what each says. -/
import Derived.Deep.CutRange
import Derived.Shelf.SlSortCmp.QuietGrown
import Derived.Sort.Walk0
import Derived.RangeFuncBox
import Derived.RangeFuncLeaves
import Derived.RangeFuncNested
import Derived.Shelf.Abstract
import Derived.WalkKit
import Derived.OwnWalkIn
import Derived.TacticsInMore
import Derived.LoopNIn
import Derived.LoopIn
import Derived.Maps.AppendAt
import Derived.Test.YtnelgellbabkoaaRows
import Derived.Lib.SlicesCompact
import Derived.Sort.KeysCollected
import Derived.Test.YtnelgellbabkoaaShelf
import Derived.Lib.OwnBridge
import Derived.Lib.Small
import Derived.Lib.Strings
import Derived.Test.YtnelgellbabkoaaVariantBothAll1
/- The walks of slices.SortStableFunc at api.Setting: symMergeCmpFunc in general. Printed by gen_stb.py. -/
namespace Go.Proofs.Ytnelgellbabkoaa
open Go.Shelf Go.RowKit Go.Lib Go.Sort SortM StbA StbB
namespace StbSet
variable {α : Type} [Inhabited α] {f0 : α → ByteArray} {f1 : α → ByteArray} {w0 : World} {blk off : Nat} {d0 : Array α}
variable {cf : α → α → Int} {g : Nat} {cb : Array Value}
theorem and_no {P Q : Prop} [Decidable P] [Decidable Q] {x y : Bool} (hx : x = decide P) (hy : y = decide Q) (h : (x && y) = false) : ¬ P ∨ ¬ Q := by
  subst hx hy
  by_cases hP : P
  · by_cases hQ : Q
    · simp [hP, hQ] at h
    · exact .inr hQ
  · exact .inl hP
theorem and_yes {P Q : Prop} [Decidable P] [Decidable Q] {x y : Bool} (hx : x = decide P) (hy : y = decide Q) (h : (x && y) = true) : P ∧ Q := by
  subst hx hy
  simp only [Bool.and_eq_true, decide_eq_true_eq] at h
  exact h
/-- what a merge does -/
def MergeOf (cf : α → α → Int) (f : α → List Value) (g : Nat) (cb : Array Value) (w0 : World) (blk off cap : Nat) (d0 : Array α) (n : Nat) : Prop :=
  ∀ (dk : Array α) (w : World) (p u v q : List α) (a m b : Nat), SWK f 2 w0 blk off dk w → dk.toList = p ++ u ++ v ++ q → dk.size = d0.size → Sorted (ltOf cf) u → Sorted (ltOf cf) v → a = p.length → m = a + u.length → b = m + v.length → 0 < u.length → 0 < v.length → b - a ≤ n →
    Calls Try.prog 145 #[.slice (some ⟨blk, off, none⟩) d0.size cap, .int .i64 a, .int .i64 m, .int .i64 b, .func (.func g) #[] cb] w (Now f 2 w0 blk off (p ++ ssort (ltOf cf) (u ++ v) ++ q))
/-- the row is that list -/
def At (f : α → List Value) (w0 : World) (blk off : Nat) (l : List α) (w : World) : Prop := ∃ d : Array α, SWK f 2 w0 blk off d w ∧ d.toList = l
set_option maxRecDepth 10000 in
set_option maxHeartbeats 8000000 in
theorem merge_gen {nn : Nat} {dk : Array α} {w : World} (R : RowK (enc f0 f1) 2 w0 blk off d0) (S : SWK (enc f0 f1) 2 w0 blk off dk w) (C : CmpLays Try.prog g cb (enc f0 f1) 2 cf blk off d0.size w0) (eg : ∀ args w, (callFunc g args).run Try.prog w = .ok (.enter g args) w) (hO : Swo (ltOf cf))
    {p u v q : List α} (hd : dk.toList = p ++ u ++ v ++ q) (hs : dk.size = d0.size) (hu : Sorted (ltOf cf) u) (hv : Sorted (ltOf cf) v) {a m b : Nat} (ha : a = p.length) (hm : m = a + u.length) (hb : b = m + v.length) (h2 : 2 ≤ u.length) (h3 : 2 ≤ v.length) (hn1 : b - a ≤ nn + 1) (cap : Nat) (hn : d0.size ≤ 1000000)
    (IH : MergeOf cf (enc f0 f1) g cb w0 blk off cap d0 nn) :
    Calls Try.prog 145 #[.slice (some ⟨blk, off, none⟩) d0.size cap, .int .i64 a, .int .i64 m, .int .i64 b, .func (.func g) #[] cb] w (Now (enc f0 f1) 2 w0 blk off (p ++ ssort (ltOf cf) (u ++ v) ++ q)) := by
  have hbn : b ≤ d0.size := by rw [← hs, ← Array.length_toList, hd]; simp; omega
  obtain ⟨mid, hmid⟩ : ∃ x, x = (a + b) / 2 := ⟨_, rfl⟩
  obtain ⟨n, hnn⟩ : ∃ x, x = mid + m := ⟨_, rfl⟩
  obtain ⟨pn, hpn⟩ : ∃ x, x = n - 1 := ⟨_, rfl⟩
  obtain ⟨lo, hi, hlo⟩ : ∃ lo hi, (mid < m → lo = n - b ∧ hi = mid) ∧ (¬ mid < m → lo = a ∧ hi = m) := by
    by_cases h : mid < m
    · exact ⟨n - b, mid, fun _ => ⟨rfl, rfl⟩, fun h' => absurd h h'⟩
    · exact ⟨a, m, fun h' => absurd h' h, fun _ => ⟨rfl, rfl⟩⟩
  have hb1 : a ≤ lo ∧ lo ≤ hi ∧ hi ≤ m ∧ hi ≤ n ∧ m ≤ n - hi ∧ n - 1 - lo < b ∧ 0 < lo + m := by
    by_cases h : mid < m
    · have := hlo.1 h; omega
    · have := hlo.2 h; omega
  have hM := mono_sym hO (d := dk) (a := a) (m := m) (b := b) (n := n) (lo := lo) (hi := hi) (sortedIx_of hO (p := p) (u := u) (q := v ++ q) (by rw [hd]; simp) hu ha (by omega)) (sortedIx_of hO (p := p ++ u) (u := v) (q := q) hd hv (by simp; omega) (by simp; omega)) hb1.1 hb1.2.2.1 hb1.2.2.2.2.1 hb1.2.2.2.2.2.1 hb1.2.2.2.1
  have hend := fun s (hB : BS (fun c => !ltOf cf dk[n - 1 - c]! dk[c]!) lo hi s s) => sym_cut hO hd hu hv ha hm hb hmid hnn (by omega) hlo hB
  rw [← hpn] at hM hend
  have hB0 := BS.start (fun c => !ltOf cf dk[pn - c]! dk[c]!) hb1.2.1
  obtain ⟨tgt, htg⟩ : ∃ l, l = p ++ ssort (ltOf cf) (u ++ v) ++ q := ⟨_, rfl⟩
  have k1 : IntKind.i64.wrap ((m : Int) - (a : Int)) = (m : Int) - (a : Int) := IntWalk.i64_in _ (by omega)
  have k2 : ((m : Int) - (a : Int) == 1) = false := by rw [beq_eq_false_iff_ne]; omega
  have k3 : IntKind.i64.wrap ((b : Int) - (m : Int)) = (b : Int) - (m : Int) := IntWalk.i64_in _ (by omega)
  have k4 : ((b : Int) - (m : Int) == 1) = false := by rw [beq_eq_false_iff_ne]; omega
  have k5 : IntKind.i64.wrap ((a : Int) + (b : Int)) = (a : Int) + (b : Int) := IntWalk.i64_in _ (by omega)
  have k6 : ((a : Int) + (b : Int)) / 2 = (mid : Int) := by omega
  have k7 : IntKind.i64.wrap ((mid : Int) + (m : Int)) = (n : Int) := by rw [IntWalk.i64_in _ (by omega)]; omega
  have k8 : IntKind.i64.wrap ((n : Int) - 1) = (pn : Int) := by rw [IntWalk.i64_in _ (by omega)]; omega
  have ham : a < m := by omega
  have hmb : m < b := by omega
  have amid : a < mid := by omega
  have midb : mid < b := by omega
  rw [← htg]
  obtain ⟨N, hN⟩ : ∃ N, N = d0.size := ⟨_, rfl⟩
  rw [← hN] at hn hs hbn ⊢
  have IH' : MergeOf cf (enc f0 f1) g cb w0 blk off cap d0 nn := IH
  clear IH
  have hpp : p.length = a := ha.symm
  have HS := Lib.hid S; have HM := Lib.hid hM; have HB0 := Lib.hid hB0; have Hend := Lib.hid hend; have Htg := Lib.hid htg; have Hs := Lib.hid hs; have HN := Lib.hid hN; have HC := Lib.hid C; have HR := Lib.hid R; have HO := Lib.hid hO; have HIH' := Lib.hid IH'; have Hd := Lib.hid hd; have Hu := Lib.hid hu; have Hv := Lib.hid hv; have Ha := Lib.hid ha; have Hm := Lib.hid hm; have Hb := Lib.hid hb; have Hpp := Lib.hid hpp; have Hmid := Lib.hid hmid; have Hnn := Lib.hid hnn; have Hpn := Lib.hid hpn; have Hlo := Lib.hid hlo; have Hb1 := Lib.hid hb1; have Hn1 := Lib.hid hn1; clear S hM hB0 hend htg hs hN C R hO IH' hd hu hv ha hm hb hpp hmid hnn hpn hlo hb1 hn1
  go_enter Try.func145, Try.ntmps145
  go_upto_if 140 with fail
  clear k1 k2 k3 k4 k5 k6
  go_cut [20, 21] from 141 to 146 (fun x y wx => x = .int .i64 lo ∧ y = .int .i64 hi ∧ wx = w)
  case first =>
    by_cases hc : mid < m
    · obtain ⟨e1, e2⟩ := Hlo.out.1 hc
      have k9 : IntKind.i64.wrap ((n : Int) - (b : Int)) = (lo : Int) := by rw [IntWalk.i64_in _ (by have := Hmid.out; have := Hnn.out; omega)]; have := Hmid.out; have := Hnn.out; omega
      have k10 : decide ((mid : Int) < (m : Int)) = true := decide_eq_true (by omega)
      have He1 := Lib.hid e1; have He2 := Lib.hid e2; clear e1 e2
      go_wp2_with fail
      go_meet
      exact ⟨by rw [He1.out], by rw [He2.out], rfl⟩
    · obtain ⟨e1, e2⟩ := Hlo.out.2 hc
      have k10 : decide ((mid : Int) < (m : Int)) = false := decide_eq_false (by omega)
      have He1 := Lib.hid e1; have He2 := Lib.hid e2; clear e1 e2
      go_wp2_with fail
      go_meet
      exact ⟨by rw [He1.out], by rw [He2.out], rfl⟩
  case rest =>
    obtain ⟨rfl, rfl, rfl⟩ := hcut
    go_wp2_with fail
    clear k8
    go_loopw [20, 21] (fun x y wr => ∃ (i j : Nat), x = .int .i64 i ∧ y = .int .i64 j ∧ BS (fun c => !ltOf cf dk[pn - c]! dk[c]!) lo hi i j ∧ SWK (enc f0 f1) 2 w0 blk off dk wr) (fun x y _ => (intOf y).toNat - (intOf x).toNat)
    case atStart => exact ⟨lo, hi, rfl, rfl, HB0.out, HS.out⟩
    case round =>
      obtain ⟨i, j, rfl, rfl, hB, S⟩ := hrel
      have l1 := hB.l1
      have l2 := hB.l2
      have l3 := hB.l3
      by_cases hlt : i < j
      · have R := HR.out
        have C := HC.out
        have hs := Hs.out
        rw [HN.out] at hs
        have hN' := HN.out
        have hbb := Hb1.out
        have hpn := Hpn.out
        have hdks : dk.size = N := Hs.out
        obtain ⟨h, hh⟩ : ∃ h, h = (i + j) / 2 := ⟨_, rfl⟩
        have w1 : IntKind.i64.wrap ((i : Int) + (j : Int)) = (i : Int) + (j : Int) := IntWalk.i64_in _ (by omega)
        have w2 : ((i : Int) + (j : Int)) / 2 = (h : Int) := by omega
        have hpc : pn - h < N := by omega
        have hhc : h < N := by omega
        have hGR := fun n os => SWK.grown S n os
        have hp := fun n os => cells (SWK.grown S n os) R hs (pn - h) (by omega)
        obtain ⟨x, hx⟩ : ∃ v, v = dk[pn - h]! := ⟨_, rfl⟩
        have hq := fun n os => cells (SWK.grown S n os) R hs (h) (by omega)
        obtain ⟨y, hy⟩ : ∃ v, v = dk[h]! := ⟨_, rfl⟩
        have hc := fun n os => SWK.cmp S C hs x y n os
        rw [← hx] at hp
        rw [← hy] at hq
        obtain ⟨x0, hx0⟩ : ∃ v, v = f0 x := ⟨_, rfl⟩
        obtain ⟨x1, hx1⟩ : ∃ v, v = f1 x := ⟨_, rfl⟩
        obtain ⟨y0, hy0⟩ : ∃ v, v = f0 y := ⟨_, rfl⟩
        obtain ⟨y1, hy1⟩ : ∃ v, v = f1 y := ⟨_, rfl⟩
        rw [← hx0, ← hx1] at hp
        rw [← hy0, ← hy1] at hq
        have p0 := fun n os => (hp n os).1
        have p1 := fun n os => (hp n os).2.2.1
        have q0 := fun n os => (hq n os).1
        have q1 := fun n os => (hq n os).2.2.1
        clear hp hq
        have hcg : ∀ n os, Calls Try.prog g (#[.agg #[.string (x0), .string (x1)], .agg #[.string (y0), .string (y1)]] ++ cb) (grow (wr.drewN n) os) fun e w' => e = .returned (.int .i64 (cf x y)) ∧ ∃ q os', w' = grow ((grow (wr.drewN n) os).drewN q) os' := by rw [hx0, hy0, hx1, hy1]; exact hc
        clear hc
        obtain ⟨cv, hcv⟩ : ∃ v, v = cf x y := ⟨_, rfl⟩
        rw [← hcv] at hcg
        have hl : (h : Int) < (N : Int) := by omega
        have w3 : IntKind.i64.wrap ((pn : Int) - (h : Int)) = ((pn - h : Nat) : Int) := by rw [IntWalk.i64_in _ (by omega)]; omega
        obtain ⟨ph, hph⟩ : ∃ x, x = pn - h := ⟨_, rfl⟩
        have al : (ph : Int) < (N : Int) := by omega
        rw [← hph] at w3
        rw [← hph] at p0 p1
        have hij1 : i ≤ h := by omega
        have hij2 : h < j := by omega
        clear S hs R C hN' hbb hpn hdks hpc hhc
        cases hdec : decide (cv < 0) with
        | true =>
          have hB2 := hB.right HM.out hij1 hij2 (by show (!ltOf cf dk[pn - h]! dk[h]!) = false; rw [← hx, ← hy]; unfold ltOf; rw [← hcv, hdec]; rfl)
          have hlv : cv < 0 := of_decide_eq_true hdec
          have hdn : (!decide (cv < 0)) = false := by rw [hdec]; rfl
          have HB := Lib.hid hB; have HB2 := Lib.hid hB2; have Hx := Lib.hid hx; have Hy := Lib.hid hy; have Hx0 := Lib.hid hx0; have Hy0 := Lib.hid hy0; have Hx1 := Lib.hid hx1; have Hy1 := Lib.hid hy1; have HGR := Lib.hid hGR; have Hcv := Lib.hid hcv; have Hh := Lib.hid hh; have Hdec := Lib.hid hdec; have Hph := Lib.hid hph; clear hB hB2 hx hy hx0 hy0 hx1 hy1 hGR hcv hh hdec hph
          go_wp2_with fail
          have mixed : Try.prog.follows .mixedOrders = true := by kernel_rfl
          go_quiet_grown (first | (go_at_fn g; refine Calls.grown_of (hcg _ _)))
          go_wp2_with fail
          go_roundw
          case rel => exact ⟨i, h, rfl, rfl, HB2.out, HGR.out _ _⟩
          case measure => simp [intOf]; omega
        | false =>
          have hB2 := hB.left HM.out hij1 hij2 (by show (!ltOf cf dk[pn - h]! dk[h]!) = true; rw [← hx, ← hy]; unfold ltOf; rw [← hcv, hdec]; rfl)
          have hlv : ¬ cv < 0 := of_decide_eq_false hdec
          have hdn : (!decide (cv < 0)) = true := by rw [hdec]; rfl
          have HB := Lib.hid hB; have HB2 := Lib.hid hB2; have Hx := Lib.hid hx; have Hy := Lib.hid hy; have Hx0 := Lib.hid hx0; have Hy0 := Lib.hid hy0; have Hx1 := Lib.hid hx1; have Hy1 := Lib.hid hy1; have HGR := Lib.hid hGR; have Hcv := Lib.hid hcv; have Hh := Lib.hid hh; have Hdec := Lib.hid hdec; have Hph := Lib.hid hph; clear hB hB2 hx hy hx0 hy0 hx1 hy1 hGR hcv hh hdec hph
          go_wp2_with fail
          have mixed : Try.prog.follows .mixedOrders = true := by kernel_rfl
          go_quiet_grown (first | (go_at_fn g; refine Calls.grown_of (hcg _ _)))
          go_wp2_with fail
          go_roundw
          case rel => exact ⟨h + 1, j, by go_num, rfl, HB2.out, HGR.out _ _⟩
          case measure => simp [intOf]; omega
      · obtain rfl : i = j := by omega
        have hE := Hend.out i hB
        have HB := Lib.hid hB; have HS := Lib.hid S; have HE := Lib.hid hE; clear hB S hE
        obtain ⟨x1, x2, y1, y2, e1, e2, e3, e4, e5⟩ := HE.out
        have hwn : IntKind.i64.wrap ((n : Int) - (i : Int)) = ((n - i : Nat) : Int) := by
          have := Hb1.out; have := Hnn.out; have := Hmid.out
          rw [IntWalk.i64_in _ (by omega)]; omega
        have c1 : i < m ↔ 0 < x2.length := by
          have := Hm.out; rw [e1, List.length_append] at this; omega
        have c2 : m < n - i ↔ 0 < y1.length := by omega
        have hln : x1.length + y1.length = mid - a := by have := Hnn.out; omega
        have c3 : a < i ↔ 0 < x1.length := by omega
        have c4 : i < mid ↔ 0 < y1.length := by omega
        have hlv : m + (y1.length + y2.length) = b := by have := Hb.out; rw [e2, List.length_append] at this; omega
        have hlu : a + (x1.length + x2.length) = m := by have := Hm.out; rw [e1, List.length_append] at this; omega
        have c5 : mid < n - i ↔ 0 < x2.length := by have := Hnn.out; omega
        have c6 : n - i < b ↔ 0 < y2.length := by omega
        obtain ⟨en, hen⟩ : ∃ x, x = n - i := ⟨_, rfl⟩
        rw [← hen] at hwn c2 c5 c6 e4
        -- the rotation
        have A0 : ∀ wr, SWK (enc f0 f1) 2 w0 blk off dk wr → 0 < x2.length → 0 < y1.length → Calls Try.prog 156 #[.slice (some ⟨blk, off, none⟩) N cap, .int .i64 i, .int .i64 m, .int .i64 en, .func (.func g) #[] cb] wr (Now (enc f0 f1) 2 w0 blk off (p ++ x1 ++ y1 ++ x2 ++ (y2 ++ q))) := fun wr S h1 h2 => by
          have := rotate_any (p := p ++ x1) (u := x2) (v := y1) (q := y2 ++ q) (a := i) (m := m) (b := en) HR.out S (by rw [Hd.out, e1, e2]; simp) (by rw [Hs.out, HN.out]) (by rw [List.length_append, Hpp.out]; omega) (by omega) (by omega) h1 h2 cap (by rw [← HN.out]; exact hn) (.func (.func g) #[] cb)
          rw [← HN.out] at this
          exact this
        have A1 : (¬ 0 < x2.length ∨ ¬ 0 < y1.length) → At (enc f0 f1) w0 blk off (p ++ x1 ++ y1 ++ x2 ++ (y2 ++ q)) wr := fun h => by
          refine ⟨dk, HS.out, ?_⟩
          rw [Hd.out, e1, e2]
          rcases h with h | h
          · have : x2 = [] := List.eq_nil_of_length_eq_zero (by omega)
            subst this; simp
          · have : y1 = [] := List.eq_nil_of_length_eq_zero (by omega)
            subst this; simp
        have hsz : ∀ d : Array α, d.toList = p ++ x1 ++ y1 ++ x2 ++ (y2 ++ q) → d.size = d0.size := fun d h => by
          rw [← HN.out, ← Hs.out, ← Array.length_toList, ← Array.length_toList, h, Hd.out, e1, e2]
          simp only [List.length_append]; omega
        have hsz2 : ∀ d : Array α, d.toList = p ++ ssort (ltOf cf) (x1 ++ y1) ++ x2 ++ (y2 ++ q) → d.size = d0.size := fun d h => by
          rw [← HN.out, ← Hs.out, ← Array.length_toList, ← Array.length_toList, h, Hd.out, e1, e2]
          simp only [List.length_append, ssort_len HO.out]; omega
        have su : Sorted (ltOf cf) x1 ∧ Sorted (ltOf cf) x2 := by have := Hu.out; rw [e1] at this; exact ⟨(List.pairwise_append.1 this).1, (List.pairwise_append.1 this).2.1⟩
        have sv : Sorted (ltOf cf) y1 ∧ Sorted (ltOf cf) y2 := by have := Hv.out; rw [e2] at this; exact ⟨(List.pairwise_append.1 this).1, (List.pairwise_append.1 this).2.1⟩
        have B0 : ∀ wr, At (enc f0 f1) w0 blk off (p ++ x1 ++ y1 ++ x2 ++ (y2 ++ q)) wr → 0 < x1.length → 0 < y1.length → Calls Try.prog 145 #[.slice (some ⟨blk, off, none⟩) N cap, .int .i64 a, .int .i64 i, .int .i64 mid, .func (.func g) #[] cb] wr (Now (enc f0 f1) 2 w0 blk off (p ++ ssort (ltOf cf) (x1 ++ y1) ++ (x2 ++ (y2 ++ q)))) := fun wr ⟨d, S, h⟩ h1 h2 => by
          have := HIH'.out d wr p x1 y1 (x2 ++ (y2 ++ q)) a i mid S (by rw [h]; simp) (hsz d h) su.1 sv.1 Hpp.out.symm (by omega) (by omega) h1 h2 (by have := Hn1.out; omega)
          rw [← HN.out] at this
          exact this
        have B1 : ∀ wr, At (enc f0 f1) w0 blk off (p ++ x1 ++ y1 ++ x2 ++ (y2 ++ q)) wr → (¬ 0 < x1.length ∨ ¬ 0 < y1.length) → At (enc f0 f1) w0 blk off (p ++ ssort (ltOf cf) (x1 ++ y1) ++ (x2 ++ (y2 ++ q))) wr := fun wr ⟨d, S, h⟩ h1 => by
          refine ⟨d, S, ?_⟩
          rw [h]
          rcases h1 with h1 | h1
          · have : x1 = [] := List.eq_nil_of_length_eq_zero (by omega)
            subst this; simp only [List.append_nil, List.nil_append, ssort_id HO.out sv.1, List.append_assoc]
          · have : y1 = [] := List.eq_nil_of_length_eq_zero (by omega)
            subst this; simp only [List.append_nil, List.nil_append, ssort_id HO.out su.1, List.append_assoc]
        have D0 : ∀ wr, At (enc f0 f1) w0 blk off (p ++ ssort (ltOf cf) (x1 ++ y1) ++ (x2 ++ (y2 ++ q))) wr → 0 < x2.length → 0 < y2.length → Calls Try.prog 145 #[.slice (some ⟨blk, off, none⟩) N cap, .int .i64 mid, .int .i64 en, .int .i64 b, .func (.func g) #[] cb] wr (Now (enc f0 f1) 2 w0 blk off tgt) := fun wr ⟨d, S, h⟩ h1 h2 => by
          have := HIH'.out d wr (p ++ ssort (ltOf cf) (x1 ++ y1)) x2 y2 q mid en b S (by rw [h]; simp) (hsz2 d (by rw [h]; simp)) su.2 sv.2 (by rw [List.length_append, ssort_len HO.out, List.length_append, Hpp.out]; omega) (by omega) (by omega) h1 h2 (by have := Hn1.out; omega)
          rw [← HN.out] at this
          rw [Htg.out, e5]
          simpa using this
        have D1 : ∀ wr, At (enc f0 f1) w0 blk off (p ++ ssort (ltOf cf) (x1 ++ y1) ++ (x2 ++ (y2 ++ q))) wr → (¬ 0 < x2.length ∨ ¬ 0 < y2.length) → At (enc f0 f1) w0 blk off tgt wr := fun wr ⟨d, S, h⟩ h1 => by
          refine ⟨d, S, ?_⟩
          rw [h, Htg.out, e5]
          rcases h1 with h1 | h1
          · have : x2 = [] := List.eq_nil_of_length_eq_zero (by omega)
            subst this; simp only [List.append_nil, List.nil_append, ssort_id HO.out sv.2, List.append_assoc]
          · have : y2 = [] := List.eq_nil_of_length_eq_zero (by omega)
            subst this; simp only [List.append_nil, List.nil_append, ssort_id HO.out su.2, List.append_assoc]
        -- which of the parts hold elements
        obtain ⟨X1, hX1⟩ : ∃ c, c = decide (0 < x1.length) := ⟨_, rfl⟩
        obtain ⟨X2, hX2⟩ : ∃ c, c = decide (0 < x2.length) := ⟨_, rfl⟩
        obtain ⟨Y1, hY1⟩ : ∃ c, c = decide (0 < y1.length) := ⟨_, rfl⟩
        obtain ⟨Y2, hY2⟩ : ∃ c, c = decide (0 < y2.length) := ⟨_, rfl⟩
        have g1 : decide ((i : Int) < (m : Int)) = X2 := by rw [hX2]; exact decide_eq_decide.2 (by omega)
        have g2 : decide ((m : Int) < (en : Int)) = Y1 := by rw [hY1]; exact decide_eq_decide.2 (by omega)
        have g3 : decide ((a : Int) < (i : Int)) = X1 := by rw [hX1]; exact decide_eq_decide.2 (by omega)
        have g4 : decide ((i : Int) < (mid : Int)) = Y1 := by rw [hY1]; exact decide_eq_decide.2 (by omega)
        have g5 : decide ((mid : Int) < (en : Int)) = X2 := by rw [hX2]; exact decide_eq_decide.2 (by omega)
        have g6 : decide ((en : Int) < (b : Int)) = Y2 := by rw [hY2]; exact decide_eq_decide.2 (by omega)
        have r1 : decide (i < m) = X2 := by rw [hX2]; exact decide_eq_decide.2 (by omega)
        have r2 : decide (m < en) = Y1 := by rw [hY1]; exact decide_eq_decide.2 (by omega)
        have r3 : decide (a < i) = X1 := by rw [hX1]; exact decide_eq_decide.2 (by omega)
        have r4 : decide (i < mid) = Y1 := by rw [hY1]; exact decide_eq_decide.2 (by omega)
        have r5 : decide (mid < en) = X2 := by rw [hX2]; exact decide_eq_decide.2 (by omega)
        have r6 : decide (en < b) = Y2 := by rw [hY2]; exact decide_eq_decide.2 (by omega)
        clear c1 c2 c3 c4 c5 c6 e1 e2 e3 e4 e5 hln hlv hlu l1 l2 l3 hlt
        have HA0 := Lib.hid A0; have HA1 := Lib.hid A1; have HB0 := Lib.hid B0; have HB1 := Lib.hid B1; have HD0 := Lib.hid D0; have HD1 := Lib.hid D1; have HX1 := Lib.hid hX1; have HX2 := Lib.hid hX2; have HY1 := Lib.hid hY1; have HY2 := Lib.hid hY2; have Hsz := Lib.hid hsz; have Hsz2 := Lib.hid hsz2; have Hsu := Lib.hid su; have Hsv := Lib.hid sv; have Hen := Lib.hid hen; clear A0 A1 B0 B1 D0 D1 hX1 hX2 hY1 hY2 hsz hsz2 su sv hen
        go_upto_region 39 with fail
        go_cut [185] from 178 to 185 (fun x wx => x = .bool (X2 && Y1) ∧ wx = wr)
        case first => cases X2 <;> cases Y1 <;> (go_wp2_with fail; go_meet; exact ⟨rfl, rfl⟩)
        case rest =>
        obtain ⟨rfl, rfl⟩ := hcut
        go_upto_if 185 with fail
        go_cut [] from 178 to 191 (fun wx => At (enc f0 f1) w0 blk off (p ++ x1 ++ y1 ++ x2 ++ (y2 ++ q)) wx)
        case first =>
          cases hc : (X2 && Y1) with
          | true =>
            have hc2 := HA0.out _ HS.out (and_yes HX2.out HY1.out hc).1 (and_yes HX2.out HY1.out hc).2
            have Hc := Lib.hid hc; have Hc2 := Lib.hid hc2; clear hc hc2
            go_wp2_with fail
            refine Hc2.out.mono ?_
            rintro e w2 ⟨rfl, hw2⟩
            have Hw2 := Lib.hid hw2; clear hw2
            go_wp2_with fail
            go_meet
            exact Hw2.out
          | false =>
            have hc2 := HA1.out (and_no HX2.out HY1.out hc)
            have Hc := Lib.hid hc; have Hc2 := Lib.hid hc2; clear hc hc2
            go_wp2_with fail
            go_meet
            exact Hc2.out
        case rest =>
        have hA := hcut
        clear hcut
        have HA := Lib.hid hA; clear hA
        go_upto_region 41 with fail
        go_cut [199] from 192 to 199 (fun x wx => x = .bool (X1 && Y1) ∧ wx = wc)
        case first => cases X1 <;> cases Y1 <;> (go_wp2_with fail; go_meet; exact ⟨rfl, rfl⟩)
        case rest =>
        obtain ⟨rfl, rfl⟩ := hcut
        go_upto_if 199 with fail
        go_cut [] from 192 to 205 (fun wx => At (enc f0 f1) w0 blk off (p ++ ssort (ltOf cf) (x1 ++ y1) ++ (x2 ++ (y2 ++ q))) wx)
        case first =>
          cases hc : (X1 && Y1) with
          | true =>
            have hc2 := HB0.out _ HA.out (and_yes HX1.out HY1.out hc).1 (and_yes HX1.out HY1.out hc).2
            have Hc := Lib.hid hc; have Hc2 := Lib.hid hc2; clear hc hc2
            go_wp2_with fail
            refine Hc2.out.mono ?_
            rintro e w2 ⟨rfl, hw2⟩
            have Hw2 := Lib.hid hw2; clear hw2
            go_wp2_with fail
            go_meet
            exact Hw2.out
          | false =>
            have hc2 := HB1.out _ HA.out (and_no HX1.out HY1.out hc)
            have Hc := Lib.hid hc; have Hc2 := Lib.hid hc2; clear hc hc2
            go_wp2_with fail
            go_meet
            exact Hc2.out
        case rest =>
        have hB := hcut
        clear hcut
        have HB := Lib.hid hB; clear hB
        go_upto_region 43 with fail
        go_cut [213] from 206 to 213 (fun x wx => x = .bool (X2 && Y2) ∧ wx = wc)
        case first => cases X2 <;> cases Y2 <;> (go_wp2_with fail; go_meet; exact ⟨rfl, rfl⟩)
        case rest =>
        obtain ⟨rfl, rfl⟩ := hcut
        go_upto_if 213 with fail
        cases hc : (X2 && Y2) with
        | true =>
          have hc2 := HD0.out _ HB.out (and_yes HX2.out HY2.out hc).1 (and_yes HX2.out HY2.out hc).2
          have Hc := Lib.hid hc; have Hc2 := Lib.hid hc2; clear hc hc2
          go_wp2_with fail
          refine Hc2.out.mono ?_
          rintro e w2 ⟨rfl, hw2⟩
          have Hw2 := Lib.hid hw2; clear hw2
          go_wp2_with fail
          go_end0
          exact ⟨rfl, Hw2.out⟩
        | false =>
          have hc2 := HD1.out _ HB.out (and_no HX2.out HY2.out hc)
          have Hc := Lib.hid hc; have Hc2 := Lib.hid hc2; clear hc hc2
          go_wp2_with fail
          go_end0
          exact ⟨rfl, Hc2.out⟩
end StbSet
end Go.Proofs.Ytnelgellbabkoaa

/- The walks of slices.SortStableFunc at api.Setting: insertionSortCmpFunc. Printed by gen_stb.py. -/
namespace Go.Proofs.Ytnelgellbabkoaa
open Go.Shelf Go.RowKit Go.Lib Go.Sort SortM StbA StbB
namespace StbSet
variable {α : Type} [Inhabited α] {f0 : α → ByteArray} {f1 : α → ByteArray} {w0 : World} {blk off : Nat} {d0 : Array α}
variable {cf : α → α → Int} {g : Nat} {cb : Array Value}
set_option maxRecDepth 10000 in
set_option maxHeartbeats 8000000 in
theorem insertion_any {d : Array α} {w : World} (R : RowK (enc f0 f1) 2 w0 blk off d0) (S : SWK (enc f0 f1) 2 w0 blk off d w) (C : CmpLays Try.prog g cb (enc f0 f1) 2 cf blk off d0.size w0) (eg : ∀ args w, (callFunc g args).run Try.prog w = .ok (.enter g args) w)
    (hs : d.size = d0.size) {a b : Nat} (hab : a ≤ b) (hb : b ≤ d0.size) (cap : Nat) (hn : d0.size ≤ 1000000) :
    Calls Try.prog 144 #[.slice (some ⟨blk, off, none⟩) d0.size cap, .int .i64 a, .int .i64 b, .func (.func g) #[] cb] w fun e w' => e = .returned (.tuple #[]) ∧ SWK (enc f0 f1) 2 w0 blk off (Sort.insertionSort (ltOf cf) d a b) w' := by
  obtain ⟨N, hN⟩ : ∃ N, N = d0.size := ⟨_, rfl⟩
  rw [← hN] at hn hs hb ⊢
  have HS := Lib.hid S; have Hs := Lib.hid hs; have HN := Lib.hid hN; have HC := Lib.hid C; have HR := Lib.hid R; clear S hs hN C R
  go_enter Try.func144, Try.ntmps144
  go_wp2_with fail
  go_loopw [8] (fun x wr => ∃ (i : Nat) (dk : Array α), x = .int .i64 i ∧ a < i ∧ i ≤ b + 1 ∧ dk.size = N ∧ SWK (enc f0 f1) 2 w0 blk off dk wr ∧ insOuter (ltOf cf) a b i dk = insOuter (ltOf cf) a b (a + 1) d) (fun x _ => b + 1 - (intOf x).toNat)
  case atStart => exact ⟨a + 1, d, by go_num, by omega, by omega, Hs.out, HS.out, rfl⟩
  case round =>
    obtain ⟨i, dk, rfl, hai, hib, hsk, S, hO⟩ := hrel
    by_cases hlt : i < b
    · have w1 : IntKind.i64.wrap ((i : Int) + 1) = (i : Int) + 1 := IntWalk.i64_in _ (by omega)
      have hltz : (i : Int) < (b : Int) := by omega
      have HO := Lib.hid hO; have HS := Lib.hid S; have Hsk := Lib.hid hsk; clear hO S hsk
      go_wp2_with fail
      go_loopw [9] (fun x wq => ∃ (j : Nat) (dj : Array α), x = .int .i64 j ∧ a ≤ j ∧ j ≤ i ∧ dj.size = N ∧ SWK (enc f0 f1) 2 w0 blk off dj wq ∧ insInner (ltOf cf) a j dj = insInner (ltOf cf) a i dk) (fun x _ => (intOf x).toNat)
      case atStart => exact ⟨i, dk, rfl, by omega, Nat.le_refl _, Hsk.out, HS.out, rfl⟩
      case round =>
        obtain ⟨j, dj, rfl, haj, hji, hl, S, hI⟩ := hrel
        have out : (j ≤ a ∨ ltOf cf dj[j]! dj[j - 1]! = false) → insOuter (ltOf cf) a b (i + 1) dj = insOuter (ltOf cf) a b (a + 1) d := fun hs => by
          rw [← HO.out, insOuter_go _ _ _ _ _ hlt, ← hI, insInner_stop _ _ _ _ hs]
        by_cases hja : a < j
        · obtain ⟨jp, rfl⟩ : ∃ jp, j = jp + 1 := ⟨j - 1, by omega⟩
          have hlt2 := hlt
          have R := HR.out
          have C := HC.out
          rw [HN.out] at hl
          have hN' := HN.out
          have hGR := fun n os => SWK.grown S n os
          have hp := fun n os => cells (SWK.grown S n os) R hl (jp + 1) (by omega)
          obtain ⟨x, hx⟩ : ∃ v, v = dj[jp + 1]! := ⟨_, rfl⟩
          have hq := fun n os => cells (SWK.grown S n os) R hl (jp) (by omega)
          obtain ⟨y, hy⟩ : ∃ v, v = dj[jp]! := ⟨_, rfl⟩
          have hc := fun n os => SWK.cmp S C hl x y n os
          rw [← hx] at hp
          rw [← hy] at hq
          obtain ⟨x0, hx0⟩ : ∃ v, v = f0 x := ⟨_, rfl⟩
          obtain ⟨x1, hx1⟩ : ∃ v, v = f1 x := ⟨_, rfl⟩
          obtain ⟨y0, hy0⟩ : ∃ v, v = f0 y := ⟨_, rfl⟩
          obtain ⟨y1, hy1⟩ : ∃ v, v = f1 y := ⟨_, rfl⟩
          rw [← hx0, ← hx1] at hp
          rw [← hy0, ← hy1] at hq
          have p0 := fun n os => (hp n os).1
          have p1 := fun n os => (hp n os).2.2.1
          have q0 := fun n os => (hq n os).1
          have q1 := fun n os => (hq n os).2.2.1
          clear hp hq
          have hcg : ∀ n os, Calls Try.prog g (#[.agg #[.string (x0), .string (x1)], .agg #[.string (y0), .string (y1)]] ++ cb) (grow (wr.drewN n) os) fun e w' => e = .returned (.int .i64 (cf x y)) ∧ ∃ q os', w' = grow ((grow (wr.drewN n) os).drewN q) os' := by rw [hx0, hy0, hx1, hy1]; exact hc
          clear hc
          obtain ⟨cv, hcv⟩ : ∃ v, v = cf x y := ⟨_, rfl⟩
          rw [← hcv] at hcg
          have w2 : IntKind.i64.wrap (jp : Int) = (jp : Int) := IntWalk.i64_in _ (by omega)
          have n2 : ((jp : Int) + 1).toNat = jp + 1 := by omega
          have u2 : (0 : Int) ≤ (jp : Int) + 1 := by omega
          have v1 : (jp : Int) < (N : Int) := by omega
          have v2 : (jp : Int) + 1 < (N : Int) := by omega
          have v3 : (a : Int) < (jp : Int) + 1 := by omega
          clear S R C hN'
          cases hdec : decide (cv < 0) with
          | true =>
            have hlv : cv < 0 := of_decide_eq_true hdec
            have hI2 : insInner (ltOf cf) a jp (swp dj (jp + 1) jp) = insInner (ltOf cf) a i dk := by
              rw [← hI]
              have := insInner_go (ltOf cf) a (jp + 1) dj hja (by simp only [Nat.add_sub_cancel]; rw [← hx, ← hy]; unfold ltOf; rw [← hcv]; exact hdec)
              simp only [Nat.add_sub_cancel] at this
              exact this.symm
            have HI := Lib.hid hI; have HI2 := Lib.hid hI2; have Hl := Lib.hid hl; have Hout := Lib.hid out; have Hx := Lib.hid hx; have Hy := Lib.hid hy; have Hx0 := Lib.hid hx0; have Hy0 := Lib.hid hy0; have Hx1 := Lib.hid hx1; have Hy1 := Lib.hid hy1; have HGR := Lib.hid hGR; have Hcv := Lib.hid hcv; have Hdec := Lib.hid hdec; clear hI hI2 hl out hx hy hx0 hy0 hx1 hy1 hGR hcv hdec
            go_wp2_with fail
            have mixed : Try.prog.follows .mixedOrders = true := by kernel_rfl
            go_quiet_grown (first | (go_at_fn g; refine Calls.grown_of (hcg _ _)))
            go_wp2_with fail
            have S := HGR.out nq osq
            clear hcg p0 q0 p1 q1
            obtain ⟨w2, hw2⟩ : ∃ w2, w2 = grow (wr.drewN nq) osq := ⟨_, rfl⟩
            rw [← hw2] at S ⊢
            have R := HR.out
            have hl := Hl.out
            have hN' := HN.out
            have hEX := exch S R (jp + 1) (jp) (by omega) (by omega)
            obtain ⟨p0, pf0, p1, pf1⟩ := cells S R hl (jp + 1) (by omega)
            obtain ⟨q0, qf0, q1, qf1⟩ := cells S R hl (jp) (by omega)
            obtain ⟨x, hx⟩ : ∃ x, x = dj[jp + 1]! := ⟨_, rfl⟩
            obtain ⟨y, hy⟩ : ∃ y, y = dj[jp]! := ⟨_, rfl⟩
            rw [← hx] at p0 p1 hEX
            rw [← hy] at q0 q1 hEX
            obtain ⟨x0, hx0⟩ : ∃ v, v = f0 x := ⟨_, rfl⟩
            obtain ⟨y0, hy0⟩ : ∃ v, v = f0 y := ⟨_, rfl⟩
            rw [← hx0] at p0 hEX
            rw [← hy0] at q0 hEX
            obtain ⟨x1, hx1⟩ : ∃ v, v = f1 x := ⟨_, rfl⟩
            obtain ⟨y1, hy1⟩ : ∃ v, v = f1 y := ⟨_, rfl⟩
            rw [← hx1] at p1 hEX
            rw [← hy1] at q1 hEX
            have na00 : ¬ off + (jp + 1) * 2 = off + (jp) * 2 := by omega
            have nb00 : ¬ off + (jp) * 2 = off + (jp + 1) * 2 := by omega
            have na01 : ¬ off + (jp + 1) * 2 = off + (jp) * 2 + 1 := by omega
            have nb01 : ¬ off + (jp) * 2 = off + (jp + 1) * 2 + 1 := by omega
            have na10 : ¬ off + (jp + 1) * 2 + 1 = off + (jp) * 2 := by omega
            have nb10 : ¬ off + (jp) * 2 + 1 = off + (jp + 1) * 2 := by omega
            have na11 : ¬ off + (jp + 1) * 2 + 1 = off + (jp) * 2 + 1 := by omega
            have nb11 : ¬ off + (jp) * 2 + 1 = off + (jp + 1) * 2 + 1 := by omega
            clear S R hN'
            have Hl := Lib.hid hl; have Hw2 := Lib.hid hw2; have Hx := Lib.hid hx; have Hy := Lib.hid hy; have Hx0 := Lib.hid hx0; have Hy0 := Lib.hid hy0; have Hx1 := Lib.hid hx1; have Hy1 := Lib.hid hy1; have HEX := Lib.hid hEX; clear hl hw2 hx hy hx0 hy0 hx1 hy1 hEX
            go_wp2_with fail
            go_region
            all_goals
              go_wp2_with fail
              go_roundw
              case rel => exact ⟨jp, _, rfl, by omega, by omega, by rw [size_swp, Hl.out, HN.out], HEX.out, HI2.out⟩
              case measure => simp [intOf] <;> omega
          | false =>
            have hlv : ¬ cv < 0 := of_decide_eq_false hdec
            have hO2 := out (Or.inr (by simp only [Nat.add_sub_cancel]; rw [← hx, ← hy]; unfold ltOf; rw [← hcv]; exact hdec))
            have HI := Lib.hid hI; have HO2 := Lib.hid hO2; have Hl := Lib.hid hl; have Hout := Lib.hid out; have Hx := Lib.hid hx; have Hy := Lib.hid hy; have Hx0 := Lib.hid hx0; have Hy0 := Lib.hid hy0; have Hx1 := Lib.hid hx1; have Hy1 := Lib.hid hy1; have HGR := Lib.hid hGR; have Hcv := Lib.hid hcv; have Hdec := Lib.hid hdec; clear hI hO2 hl out hx hy hx0 hy0 hx1 hy1 hGR hcv hdec
            go_wp2_with fail
            have mixed : Try.prog.follows .mixedOrders = true := by kernel_rfl
            go_quiet_grown (first | (go_at_fn g; refine Calls.grown_of (hcg _ _)))
            go_wp2_with fail
            go_roundw
            case rel => exact ⟨i + 1, dj, by go_num, by omega, by omega, by rw [Hl.out, HN.out], HGR.out _ _, HO2.out⟩
            case measure => simp [intOf]; omega
        · have v3 : ¬ (a : Int) < (j : Int) := by omega
          have v4 : decide ((a : Int) < (j : Int)) = false := decide_eq_false v3
          have hO2 := out (Or.inl (by omega))
          have hGR := S.drew
          have HI := Lib.hid hI; have HO2 := Lib.hid hO2; have Hl := Lib.hid hl; have Hout := Lib.hid out; have HS := Lib.hid S; have HGR := Lib.hid hGR; clear hI hO2 hl out S hGR
          go_wp2_with fail
          go_region
          all_goals
            go_wp2_with fail
            go_roundw
            case rel => exact ⟨i + 1, dj, by go_num, by omega, by omega, Hl.out, HGR.out, HO2.out⟩
            case measure => simp [intOf]; omega
    · have hltz : ¬ (i : Int) < (b : Int) := by omega
      have hE : dk = Sort.insertionSort (ltOf cf) d a b := by unfold Sort.insertionSort; rw [← hO, insOuter_stop _ _ _ _ _ hlt]
      rw [hE] at S
      have HS := Lib.hid S; have HO := Lib.hid hO; have HE := Lib.hid hE; clear S hO hE
      go_wp2_with fail
      go_end0
      exact ⟨rfl, HS.out⟩
end StbSet
end Go.Proofs.Ytnelgellbabkoaa

/- The walks of slices.SortStableFunc at api.Setting: stableCmpFunc and SortStableFunc. Printed by gen_stb.py. -/
namespace Go.Proofs.Ytnelgellbabkoaa
open Go.Shelf Go.RowKit Go.Lib Go.Sort SortM StbA StbB
namespace StbSet
variable {α : Type} [Inhabited α] {f0 : α → ByteArray} {f1 : α → ByteArray} {w0 : World} {blk off : Nat} {d0 : Array α}
variable {cf : α → α → Int} {g : Nat} {cb : Array Value}
theorem merge_any (R : RowK (enc f0 f1) 2 w0 blk off d0) (C : CmpLays Try.prog g cb (enc f0 f1) 2 cf blk off d0.size w0) (eg : ∀ args w, (callFunc g args).run Try.prog w = .ok (.enter g args) w) (hO : Swo (ltOf cf)) (cap : Nat) (hn : d0.size ≤ 1000000) : ∀ n, MergeOf cf (enc f0 f1) g cb w0 blk off cap d0 n := by
  intro n
  induction n with
  | zero => intro dk w p u v q a m b S hd hs hu hv ha hm hb h1 h2 hle; omega
  | succ n IH =>
    intro dk w p u v q a m b S hd hs hu hv ha hm hb h1 h2 hle
    match u, hd, hu, hm, h1 with
    | [], _, _, _, h1 => simp at h1
    | [x], hd, hu, hm, h1 => exact merge_left R S C eg hO (p := p) (v := v) (q := q) (x := x) (by rw [hd]; simp) hs hv ha (by simpa using hm) hb cap hn
    | x :: x2 :: u, hd, hu, hm, h1 =>
      match v, hd, hv, hb, h2 with
      | [], _, _, _, h2 => simp at h2
      | [y], hd, hv, hb, h2 => exact merge_right R S C eg hO (p := p) (u := x :: x2 :: u) (q := q) (x := y) (by rw [hd]; simp) hs hu ha hm (by simpa using hb) (by simp) cap hn
      | y :: y2 :: v, hd, hv, hb, h2 => exact merge_gen R S C eg hO hd hs hu hv ha hm hb (by simp) (by simp) hle cap hn IH
set_option maxRecDepth 10000 in
set_option maxHeartbeats 8000000 in
theorem stable_any (R : RowK (enc f0 f1) 2 w0 blk off d0) (C : CmpLays Try.prog g cb (enc f0 f1) 2 cf blk off d0.size w0) (eg : ∀ args w, (callFunc g args).run Try.prog w = .ok (.enter g args) w) (hO : Swo (ltOf cf)) (cap : Nat) (hn : d0.size ≤ 1000000) :
    Calls Try.prog 122 #[.slice (some ⟨blk, off, none⟩) d0.size cap, .int .i64 d0.size, .func (.func g) #[] cb] w0 (Now (enc f0 f1) 2 w0 blk off (ssort (ltOf cf) d0.toList)) := by
  have hM := merge_any R C eg hO cap hn d0.size
  have hS : SWK (enc f0 f1) 2 w0 blk off d0 w0 := SWK.start R.hH
  have hI := fun (dk : Array α) (wr : World) (a b : Nat) (S : SWK (enc f0 f1) 2 w0 blk off dk wr) (hs : dk.size = d0.size) (hab : a ≤ b) (hb : b ≤ d0.size) => insertion_any R S C eg hs hab hb cap hn
  obtain ⟨l0, hl0⟩ : ∃ l, l = d0.toList := ⟨_, rfl⟩
  have hlen : l0.length = d0.size := by rw [hl0, Array.length_toList]
  have hP0 : P1 (ltOf cf) l0 20 0 d0 := P1.start l0 20 hl0.symm
  rw [← hl0]
  unfold MergeOf at hM
  obtain ⟨N, hN⟩ : ∃ N, N = d0.size := ⟨_, rfl⟩
  rw [← hN] at hn hlen hI hM ⊢
  have HM := Lib.hid hM; have HS := Lib.hid hS; have HI := Lib.hid hI; have Hl0 := Lib.hid hl0; have Hlen := Lib.hid hlen; have HP0 := Lib.hid hP0; have HN := Lib.hid hN; have HC := Lib.hid C; have HR := Lib.hid R; have HO := Lib.hid hO; clear hM hS hI hl0 hlen hP0 hN C R hO
  go_enter Try.func122, Try.ntmps122
  go_wp2_with fail
  go_loopw [7, 8] (fun x y wr => ∃ (a : Nat) (dk : Array α), x = .int .i64 a ∧ y = .int .i64 ((a : Int) + 20) ∧ P1 (ltOf cf) l0 20 a dk ∧ SWK (enc f0 f1) 2 w0 blk off dk wr) (fun x _ _ => N + 20 - (intOf x).toNat)
  case atStart => exact ⟨0, d0, rfl, rfl, HP0.out, HS.out⟩
  case round =>
    obtain ⟨a, dk, rfl, rfl, hP, S⟩ := hrel
    have hle := hP.le
    rw [Hlen.out] at hle
    have hsz := hP.size HO.out
    rw [Hlen.out] at hsz
    by_cases hlt : a + 20 ≤ N
    · have v1 : decide ((a : Int) + 20 ≤ (N : Int)) = true := decide_eq_true (by omega)
      have v2 : (a : Int) + 20 ≤ (N : Int) := by omega
      have w1 : IntKind.i64.wrap ((a : Int) + 20 + 20) = (a : Int) + 20 + 20 := IntWalk.i64_in _ (by omega)
      have hc := HI.out dk wr a (a + 20) S (by rw [hsz]) (by omega) (by omega)
      rw [show ((a + 20 : Nat) : Int) = (a : Int) + 20 by omega] at hc
      have hP2 := hP.step HO.out (by rw [Hlen.out]; omega)
      have HP := Lib.hid hP; have HS := Lib.hid S; have HP2 := Lib.hid hP2; have Hc := Lib.hid hc; have Hsz := Lib.hid hsz; have Hle := Lib.hid hle; clear hP S hP2 hc hsz hle
      go_wp2_with fail
      refine Hc.out.mono ?_
      rintro e w2 ⟨rfl, S⟩
      have HS := Lib.hid S; clear S
      go_wp2_with fail
      go_roundw
      case rel => exact ⟨a + 20, _, by go_num, by go_num, HP2.out, HS.out⟩
      case measure => simp [intOf]; omega
    · have v1 : decide ((a : Int) + 20 ≤ (N : Int)) = false := decide_eq_false (by omega)
      have v2 : ¬ (a : Int) + 20 ≤ (N : Int) := by omega
      have hc := HI.out dk wr a N S (by rw [hsz]) (by omega) (by omega)
      have hP2 := hP.last HO.out (n := N) Hlen.out.symm (by omega)
      clear HI
      have HP := Lib.hid hP; have HS := Lib.hid S; have HP2 := Lib.hid hP2; have Hc := Lib.hid hc; have Hsz := Lib.hid hsz; have Hle := Lib.hid hle; clear hP S hP2 hc hsz hle
      go_wp2_with fail
      refine Hc.out.mono ?_
      rintro e w2 ⟨rfl, S⟩
      clear v1 v2
      have HS := Lib.hid S; clear S
      go_wp2_with fail
      go_loopw [6] (fun x wr => ∃ (bs : Nat) (dk : Array α), x = .int .i64 bs ∧ 20 ≤ bs ∧ bs ≤ 2 * N + 20 ∧ P2 (ltOf cf) l0 bs dk ∧ SWK (enc f0 f1) 2 w0 blk off dk wr) (fun x _ => N - (intOf x).toNat)
      case atStart => exact ⟨20, _, rfl, Nat.le_refl _, by omega, HP2.out, HS.out⟩
      case round =>
        obtain ⟨bs, dk, rfl, hb1, hb2, hP, S⟩ := hrel
        by_cases hlt2 : bs < N
        · have v2 : (bs : Int) < (N : Int) := by omega
          have w1 : IntKind.i64.wrap (2 * (bs : Int)) = 2 * (bs : Int) := IntWalk.i64_in _ (by omega)
          have w1' : IntKind.i64.wrap ((bs : Int) * 2) = 2 * (bs : Int) := by rw [IntWalk.i64_in _ (by omega)]; omega
          have hP3 := P3.start hP
          have HP := Lib.hid hP; have HS := Lib.hid S; have HP3 := Lib.hid hP3; clear hP S hP3
          go_wp2_with fail
          go_loopw [7, 8] (fun x y wr => ∃ (a : Nat) (dk : Array α), x = .int .i64 a ∧ y = .int .i64 ((a : Int) + 2 * (bs : Int)) ∧ P3 (ltOf cf) l0 bs a dk ∧ SWK (enc f0 f1) 2 w0 blk off dk wr) (fun x _ _ => N + 2 * bs - (intOf x).toNat)
          case atStart => exact ⟨0, dk, rfl, by go_num, HP3.out, HS.out⟩
          case round =>
            obtain ⟨a, dk, rfl, rfl, hP, S⟩ := hrel
            have hsz := hP.size HO.out
            rw [Hlen.out] at hsz
            obtain ⟨hsz, hle⟩ := hsz
            rw [hsz] at hle
            have w2 : IntKind.i64.wrap ((a : Int) + (bs : Int)) = (a : Int) + (bs : Int) := IntWalk.i64_in _ (by omega)
            by_cases hlt3 : a + 2 * bs ≤ N
            · have v3 : decide ((a : Int) + 2 * (bs : Int) ≤ (N : Int)) = true := decide_eq_true (by omega)
              have v4 : (a : Int) + 2 * (bs : Int) ≤ (N : Int) := by omega
              have w3 : IntKind.i64.wrap ((a : Int) + 2 * (bs : Int) + 2 * (bs : Int)) = (a : Int) + 2 * (bs : Int) + 2 * (bs : Int) := IntWalk.i64_in _ (by omega)
              obtain ⟨p, u, v, q, q1, q2, q3, q4, q5, q6, q7⟩ := hP.step HO.out (by rw [Hlen.out]; omega) (by omega)
              have hc := HM.out dk wr p u v q a (a + bs) (a + 2 * bs) S q1 (by rw [hsz, HN.out]) q2 q3 q4 (by omega) (by omega) (by omega) (by omega) (by omega)
              rw [show ((a + bs : Nat) : Int) = (a : Int) + (bs : Int) by omega, show ((a + 2 * bs : Nat) : Int) = (a : Int) + 2 * (bs : Int) by omega] at hc
              clear q1 q2 q3 q4 q5 q6
              have HP := Lib.hid hP; have HS := Lib.hid S; have Hc := Lib.hid hc; have Hsz := Lib.hid hsz; have Hle := Lib.hid hle; have Hq7 := Lib.hid q7; clear hP S hc hsz hle q7
              go_wp2_with fail
              refine Hc.out.mono ?_
              rintro e w2 ⟨rfl, d2, S, hd2⟩
              have hP2 := Hq7.out d2 hd2
              clear hd2
              have HS := Lib.hid S; have HP2 := Lib.hid hP2; clear S hP2
              go_wp2_with fail
              go_roundw
              case rel => exact ⟨a + 2 * bs, _, by go_num, by go_num, HP2.out, HS.out⟩
              case measure => simp [intOf]; omega
            · have v3 : decide ((a : Int) + 2 * (bs : Int) ≤ (N : Int)) = false := decide_eq_false (by omega)
              have v4 : ¬ (a : Int) + 2 * (bs : Int) ≤ (N : Int) := by omega
              by_cases hm : a + bs < N
              · have v5 : (a : Int) + (bs : Int) < (N : Int) := by omega
                obtain ⟨p, u, v, q1, q2, q3, q4, q5, q6, q7⟩ := hP.last1 HO.out (n := N) Hlen.out.symm (by omega) hm
                have hc := HM.out dk wr p u v [] a (a + bs) N S q1 (by rw [hsz, HN.out]) q2 q3 q4 (by omega) (by omega) (by omega) (by omega) (by omega)
                rw [show ((a + bs : Nat) : Int) = (a : Int) + (bs : Int) by omega] at hc
                clear q1 q2 q3 q4 q5 q6
                have HP := Lib.hid hP; have HS := Lib.hid S; have Hc := Lib.hid hc; have Hsz := Lib.hid hsz; have Hle := Lib.hid hle; have Hq7 := Lib.hid q7; clear hP S hc hsz hle q7
                go_wp2_with fail
                refine Hc.out.mono ?_
                rintro e w2 ⟨rfl, d2, S, hd2⟩
                have hP2 := Hq7.out d2 hd2
                clear hd2
                have HS := Lib.hid S; have HP2 := Lib.hid hP2; clear S hP2
                go_wp2_with fail
                go_roundw
                case rel => exact ⟨2 * bs, _, by go_num, by omega, by omega, HP2.out, HS.out⟩
                case measure => simp [intOf]; omega
              · have v5 : ¬ (a : Int) + (bs : Int) < (N : Int) := by omega
                have hP2 := hP.last2 (n := N) Hlen.out.symm (by omega) hm (by omega)
                have HP := Lib.hid hP; have HS := Lib.hid S; have Hsz := Lib.hid hsz; have Hle := Lib.hid hle; have HP2 := Lib.hid hP2; clear hP S hsz hle hP2
                go_wp2_with fail
                go_roundw
                case rel => exact ⟨2 * bs, _, by go_num, by omega, by omega, HP2.out, HS.out⟩
                case measure => simp [intOf]; omega
        · have v2 : ¬ (bs : Int) < (N : Int) := by omega
          have hD := hP.done (by rw [Hlen.out]; omega)
          have HP := Lib.hid hP; have HS := Lib.hid S; have HD := Lib.hid hD; clear hP S hD
          go_wp2_with fail
          go_end0
          exact ⟨rfl, dk, HS.out, HD.out⟩
set_option maxRecDepth 10000 in
set_option maxHeartbeats 1000000 in
theorem sortStable_any (R : RowK (enc f0 f1) 2 w0 blk off d0) (C : CmpLays Try.prog g cb (enc f0 f1) 2 cf blk off d0.size w0) (eg : ∀ args w, (callFunc g args).run Try.prog w = .ok (.enter g args) w) (hO : Swo (ltOf cf)) (cap : Nat) (hn : d0.size ≤ 1000000) :
    Calls Try.prog 95 #[.slice (some ⟨blk, off, none⟩) d0.size cap, .func (.func g) #[] cb] w0 (Now (enc f0 f1) 2 w0 blk off (ssort (ltOf cf) d0.toList)) := by
  have hc := stable_any R C eg hO cap hn
  obtain ⟨l, hl⟩ : ∃ l, l = ssort (ltOf cf) d0.toList := ⟨_, rfl⟩
  rw [← hl] at hc ⊢
  obtain ⟨N, hN⟩ : ∃ N, N = d0.size := ⟨_, rfl⟩
  rw [← hN] at hn hc ⊢
  have Hc := Lib.hid hc; have HN := Lib.hid hN; have Hl := Lib.hid hl; have HC := Lib.hid C; have HR := Lib.hid R; have HO := Lib.hid hO; clear hc hN hl C R hO
  go_enter Try.func95, Try.ntmps95
  go_wp2_with fail
  refine Hc.out.mono ?_
  rintro e w2 ⟨rfl, hw2⟩
  have Hw2 := Lib.hid hw2; clear hw2
  go_wp2_with fail
  go_end0
  exact ⟨rfl, Hw2.out⟩
end StbSet
end Go.Proofs.Ytnelgellbabkoaa

/- Plain facts: what two wishes make together: sorted by name, without doubles. -/
namespace Go.Proofs.Ytnelgellbabkoaa.BothP
open Go.Proofs.Ytnelgellbabkoaa.SortM

abbrev S := ByteArray × ByteArray
def ltN (x y : S) : Bool := Op.bytesLess x.1.toList y.1.toList
theorem ltN_is (x y : S) : ltN x y = decide (x.1.data.toList < y.1.data.toList) := by unfold ltN; rw [bytesLess_eq, Lib.toList_data, Lib.toList_data]
theorem ltN_irrefl (x : S) : ltN x x = false := by rw [ltN_is]; exact decide_eq_false (List.lt_irrefl _)
theorem ltN_trans {x y z : S} (h1 : ltN x y = true) (h2 : ltN y z = true) : ltN x z = true := by
  rw [ltN_is] at *
  exact decide_eq_true (List.lt_trans (of_decide_eq_true h1) (of_decide_eq_true h2))
theorem ltN_swo : Swo ltN := ⟨fun a b h => by
    rw [ltN_is] at *
    exact decide_eq_false (List.lt_asymm (of_decide_eq_true h)), fun a b c h1 h2 => by
    rw [ltN_is] at *
    have k1 := List.not_lt.1 (of_decide_eq_false h1)
    have k2 := List.not_lt.1 (of_decide_eq_false h2)
    exact decide_eq_false (List.not_lt.2 (List.le_trans k1 k2))⟩
theorem ltN_tri {x y : S} (h1 : ltN x y = false) (h2 : ltN y x = false) : x.1 = y.1 := by
  rw [ltN_is] at *
  have k1 := List.not_lt.1 (of_decide_eq_false h1)
  have k2 := List.not_lt.1 (of_decide_eq_false h2)
  exact ByteArray.ext (Array.ext' (List.le_antisymm k2 k1))
theorem ltN_congr {x y z : S} (h : x.1 = y.1) : ltN x z = ltN y z ∧ ltN z x = ltN z y := by unfold ltN; rw [h]; exact ⟨rfl, rfl⟩

def Str (l : List S) : Prop := l.Pairwise fun x y => ltN x y = true
theorem Str.inj {l : List S} (h : Str l) {x y : S} (hx : x ∈ l) (hy : y ∈ l) (e : x.1 = y.1) : x = y := by
  induction l with
  | nil => cases hx
  | cons z l ih =>
    have hp := List.pairwise_cons.1 h
    rcases List.mem_cons.1 hx with e1 | h1 <;> rcases List.mem_cons.1 hy with e2 | h2
    · rw [e1, e2]
    · have := hp.1 y h2; rw [← e1, (ltN_congr e).1, ltN_irrefl] at this; cases this
    · have := hp.1 x h1; rw [← e2, (ltN_congr e).2, ltN_irrefl] at this; cases this
    · exact ih hp.2 h1 h2
theorem str_uniq : ∀ (a b : List S), Str a → Str b → (∀ x, x ∈ a ↔ x ∈ b) → a = b := by
  intro a
  induction a with
  | nil =>
    intro b _ _ h
    match b with
    | [] => rfl
    | y :: b => exact absurd ((h y).2 (by simp)) (by simp)
  | cons x a ih =>
    intro b ha hb h
    match b with
    | [] => exact absurd ((h x).1 (by simp)) (by simp)
    | y :: b =>
      have pa := List.pairwise_cons.1 ha
      have pb := List.pairwise_cons.1 hb
      have exy : x = y := by
        rcases List.mem_cons.1 ((h x).1 (by simp)) with e | hx
        · exact e
        · rcases List.mem_cons.1 ((h y).2 (by simp)) with e | hy
          · exact e.symm
          · have h1 := pb.1 x hx
            have h2 := ltN_swo.asymm _ _ (pa.1 y hy)
            rw [h1] at h2; cases h2
      subst exy
      congr 1
      refine ih b pa.2 pb.2 fun z => ⟨fun hz => ?_, fun hz => ?_⟩
      · rcases List.mem_cons.1 ((h z).1 (by simp [hz])) with e | hb'
        · subst e; have := pa.1 z hz; rw [ltN_irrefl] at this; cases this
        · exact hb'
      · rcases List.mem_cons.1 ((h z).2 (by simp [hz])) with e | ha'
        · subst e; have := pb.1 z hz; rw [ltN_irrefl] at this; cases this
        · exact ha'

/-- of neighbours that are equal the first ones are dropped -/
def cmpct : List S → List S
  | [] => []
  | [x] => [x]
  | x :: y :: l => if x = y then cmpct (y :: l) else x :: cmpct (y :: l)
theorem mem_cmpct (z : S) : ∀ l : List S, z ∈ cmpct l ↔ z ∈ l
  | [] => Iff.rfl
  | [x] => Iff.rfl
  | x :: y :: l => by
    have ih := mem_cmpct z (y :: l)
    unfold cmpct
    split
    · rename_i e
      subst e
      rw [ih]; simp
    · rw [List.mem_cons, ih]; exact List.mem_cons.symm
theorem cmpct_str : ∀ l : List S, Sorted ltN l → (∀ x ∈ l, ∀ y ∈ l, x.1 = y.1 → x = y) → Str (cmpct l)
  | [], _, _ => List.Pairwise.nil
  | [x], _, _ => List.pairwise_singleton _ _
  | x :: y :: l, hs, he => by
    have hp := List.pairwise_cons.1 hs
    have ih := cmpct_str (y :: l) hp.2 fun a ha b hb => he a (by simp at ha ⊢; exact .inr ha) b (by simp at hb ⊢; exact .inr hb)
    unfold cmpct
    split
    · exact ih
    · rename_i hne
      refine List.pairwise_cons.2 ⟨fun z hz => ?_, ih⟩
      have hz' := (mem_cmpct z _).1 hz
      have hzx := hp.1 z hz'
      cases e : ltN x z
      · exfalso
        have hn := ltN_tri e hzx
        have exz := he x (by simp) z (List.mem_cons_of_mem _ hz') hn
        apply hne
        -- y lies between x and z = x
        have h1 := hp.1 y (by simp)
        have h2 : ltN z y = false := by
          rcases List.mem_cons.1 hz' with e2 | hz2
          · rw [e2]; exact ltN_irrefl _
          · exact (List.pairwise_cons.1 hp.2).1 z hz2
        rw [← exz] at h2
        exact he x (by simp) y (by simp) (ltN_tri h2 h1)
      · rfl

def bothOf (a b : List S) : List S := cmpct (ssort ltN (a ++ b))
theorem mem_both {a b : List S} (x : S) : x ∈ bothOf a b ↔ x ∈ a ∨ x ∈ b := by
  unfold bothOf
  rw [mem_cmpct, mem_ssort ltN_swo, List.mem_append]
/-- of one name there are two values -/
def twoOf (a b : List S) : Bool := a.any fun x => b.any fun y => decide (x.1 = y.1) && !decide (x.2 = y.2)
theorem two_true {a b : List S} : twoOf a b = true ↔ ∃ x ∈ a, ∃ y ∈ b, x.1 = y.1 ∧ x.2 ≠ y.2 := by
  unfold twoOf
  simp only [List.any_eq_true, Bool.and_eq_true, decide_eq_true_eq, Bool.not_eq_true', decide_eq_false_iff_not]
theorem two_comm (a b : List S) : twoOf a b = twoOf b a := by
  have : twoOf a b = true ↔ twoOf b a = true := by
    rw [two_true, two_true]
    exact ⟨fun ⟨x, hx, y, hy, h1, h2⟩ => ⟨y, hy, x, hx, h1.symm, fun e => h2 e.symm⟩, fun ⟨x, hx, y, hy, h1, h2⟩ => ⟨y, hy, x, hx, h1.symm, fun e => h2 e.symm⟩⟩
  exact Bool.eq_iff_iff.2 this
theorem both_str {a b : List S} (ha : Str a) (hb : Str b) (h : twoOf a b = false) : Str (bothOf a b) := by
  unfold bothOf
  refine cmpct_str _ (ssort_sorted ltN_swo _) fun x hx y hy e => ?_
  have hn : ∀ x ∈ a, ∀ y ∈ b, x.1 = y.1 → x = y := fun x hx y hy e => by
    by_cases e2 : x.2 = y.2
    · exact Prod.ext e e2
    · rw [two_true.2 ⟨x, hx, y, hy, e, e2⟩] at h; cases h
  rw [mem_ssort ltN_swo, List.mem_append] at hx hy
  rcases hx with hx | hx <;> rcases hy with hy | hy
  · exact ha.inj hx hy e
  · exact hn x hx y hy e
  · exact (hn y hy x hx e.symm).symm
  · exact hb.inj hx hy e
theorem both_not {a b : List S} (h : twoOf a b = true) : ¬ Str (bothOf a b) := fun hs => by
  obtain ⟨x, hx, y, hy, e1, e2⟩ := two_true.1 h
  have := hs.inj ((mem_both x).2 (.inl hx)) ((mem_both y).2 (.inr hy)) e1
  exact e2 (by rw [this])
theorem both_comm {a b : List S} (ha : Str a) (hb : Str b) (h : twoOf a b = false) : bothOf a b = bothOf b a :=
  str_uniq _ _ (both_str ha hb h) (both_str hb ha (by rw [two_comm]; exact h)) fun x => by rw [mem_both, mem_both]; exact Or.comm
end Go.Proofs.Ytnelgellbabkoaa.BothP

/- Laws for blocks and rows that a call owns. No condition. -/
namespace Go.Proofs.Ytnelgellbabkoaa
open Go.RowKit

theorem own_type {w : World} {B : Nat} {e : TypeId} {size : Nat} {v : Value} {n : Nat} {xs : List Value} (h : w.ownsRow B e size v n xs) : ∀ k, v.ownBlock = some k → ∃ cs, w.heap[k]? = some (.cells cs e (0, 0)) := by
  intro k hk
  rcases h.2 with ⟨h1, _⟩ | ⟨g, cap, cur, h1, _, hg, _⟩
  · rw [h1] at hk; simp [Value.ownBlock] at hk
  · rw [h1] at hk
    simp [Value.ownBlock] at hk
    subst hk
    exact ⟨_, hg⟩
theorem apart_type {w : World} {B B' : Nat} {e e' : TypeId} {size size' : Nat} {v v' : Value} {n n' : Nat} {xs xs' : List Value} (h : w.ownsRow B e size v n xs) (h' : w.ownsRow B' e' size' v' n' xs') (hne : e ≠ e') : ∀ k, v.ownBlock = some k → v'.ownBlock ≠ some k := by
  intro k hk hk'
  obtain ⟨c, hc⟩ := own_type h k hk
  obtain ⟨c', hc'⟩ := own_type h' k hk'
  rw [hc] at hc'
  simp at hc'
  exact hne hc'.2
theorem apart_block {w : World} {B : Nat} {e t : TypeId} {size : Nat} {v : Value} {n : Nat} {xs : List Value} {x : Nat} {cs : Array Value} {fr : Nat × Nat} (h : w.ownsRow B e size v n xs) (hx : w.heap[x]? = some (.cells cs t fr)) (hne : e ≠ t) : v.ownBlock ≠ some x := by
  intro hk
  obtain ⟨c, hc⟩ := own_type h x hk
  rw [hc] at hx
  simp at hx
  exact hne hx.2.1
theorem cells_at {w : World} {p : Nat} {cs : Array Value} {t : TypeId} {fr : Nat × Nat} (h : w.heap[p]? = some (.cells cs t fr)) (i : Nat) : w.cell? ⟨p, i, none⟩ = cs[i]? := cell_of_row w p i cs t fr h
theorem frozen_at {w : World} {p : Nat} {cs : Array Value} {t : TypeId} (h : w.heap[p]? = some (.cells cs t (0, 0))) (i : Nat) : w.frozen? ⟨p, i, none⟩ = false := frozen_of_row w p i cs t h
theorem heap_to {w w' : World} {S : Nat → Prop} {f : Nat} {o : Obj} (h : w.heap[f]? = some o) (hf : Frm S w w') (hS : ¬ S f) : w'.heap[f]? = some o :=
  (hf.block f (Array.getElem?_eq_some_iff.1 h).1 hS).trans h

theorem own_shape {w : World} {B : Nat} {e : TypeId} {size : Nat} {v : Value} {n : Nat} {xs : List Value} (h : w.ownsRow B e size v n xs) : ∃ a cap, v = .slice a n cap := by
  rcases h.2 with ⟨h1, h2⟩ | ⟨g, cap, _, h1, _⟩
  · exact ⟨none, 0, by rw [h1, h2]⟩
  · exact ⟨_, cap, h1⟩
theorem frm_cell {x : Nat} {a w : World} (h : Frm (fun k => k = x) a w) (i : Nat) (u : Value) : Frm (fun k => k = x) a (w.setCell ⟨x, i, none⟩ u) := Frm.setCell (S := fun k => k = x) h (p := ⟨x, i, none⟩) (.inr rfl) u
theorem grown_drew {w w' : World} {row : Option Nat} (h : w.drew.grownBy w' row) : w.grownBy w' row := ⟨h.os, h.tape, h.output, h.size, h.block⟩
/-- a block stays where memory only grows -/
theorem heap_below {w w' : World} (h : Below w.heap.size w w') {k : Nat} {o : Obj} (hk : w.heap[k]? = some o) : w'.heap[k]? = some o := (h.block k (Array.getElem?_eq_some_iff.1 hk).1).trans hk
/-- a row of one cell an element, that grows by one -/
theorem frm_of_grown {w w' : World} {v : Value} (h : w.grownBy w' v.ownBlock) : Frm (fun k => v.ownBlock = some k) w w' := ⟨h.os, h.tape, h.output, h.size, fun k hk hne => h.block k hk (fun e => hne e.symm)⟩
theorem below_alloc1 (w : World) (o : Obj) : Below w.heap.size w (w.alloc o) := (Below.refl _ _).alloc (Nat.le_refl _) _
/-- blocks of one type are as they were -/
def KeepT (t : TypeId) (w w' : World) : Prop := ∀ (k : Nat) (cs : Array Value) (fr : Nat × Nat), w.heap[k]? = some (.cells cs t fr) → w'.heap[k]? = some (.cells cs t fr)
theorem KeepT.refl (t : TypeId) (w : World) : KeepT t w w := fun _ _ _ h => h
theorem KeepT.trans {t : TypeId} {a b c : World} (h : KeepT t a b) (k : KeepT t b c) : KeepT t a c := fun i cs fr h1 => k i cs fr (h i cs fr h1)
theorem keepT_below {t : TypeId} {w w' : World} (h : Below w.heap.size w w') : KeepT t w w' := fun _ _ _ h1 => heap_below h h1
theorem keepT_grown {t e : TypeId} {w w' : World} {B size : Nat} {v : Value} {n : Nat} {xs : List Value} (hg : w.grownBy w' v.ownBlock) (hown : w.ownsRow B e size v n xs) (hne : e ≠ t) : KeepT t w w' :=
  fun k _ _ h => (hg.block k (Array.getElem?_eq_some_iff.1 h).1 (fun hk => apart_block hown h hne hk.symm)).trans h
theorem keepT_set {t e : TypeId} {w : World} {b : Nat} {cs : Array Value} {fr : Nat × Nat} (hb : w.heap[b]? = some (.cells cs e fr)) (hne : e ≠ t) (i : Nat) (u : Value) : KeepT t w (w.setCell ⟨b, i, none⟩ u) := by
  intro k cs' fr' h
  have hk : k ≠ b := by
    rintro rfl
    rw [hb] at h
    simp at h
    exact hne h.2.1
  rw [Below.heap_setCell _ _ _ _ hk]
  exact h
theorem heap_new_at {w : World} {o : Obj} {n : Nat} (h : w.heap.size = n) : (w.alloc o).heap[n]? = some o := by subst h; exact heap_alloc_new w o
end Go.Proofs.Ytnelgellbabkoaa

/- A slice's elements as values, and a row that a call owns read as a slice. No condition. -/
namespace Go.Proofs.Ytnelgellbabkoaa
open Go.RowKit

/-- the elements of a slice, one cell each, as values -/
theorem slice_vals {α : Type} {R : Rd α} {w : World} {v : Value} {l : List α} (h : RSlice 1 R w [v] l) : ∃ (a : Option Addr) (cap : Nat) (vs : List Value), v = .slice a l.length cap ∧ l.length ≤ cap ∧ cap ≤ maxLen ∧ vs.length = l.length ∧ (∀ (i : Nat) u, vs[i]? = some u → ∃ b off, a = some ⟨b, off, none⟩ ∧ w.cell? ⟨b, off + i, none⟩ = some u) ∧ ∀ (i : Nat) u x, vs[i]? = some u → l[i]? = some x → R w [u] x := by
  obtain ⟨a, cap, hv, hcap, hmax, hel⟩ := h
  simp only [List.cons.injEq, and_true] at hv
  have hex : ∀ i (hi : i < l.length), ∃ u, (∃ b off, a = some ⟨b, off, none⟩ ∧ w.cell? ⟨b, off + i, none⟩ = some u) ∧ R w [u] l[i] := by
    intro i hi
    obtain ⟨b, off, ecs, h1, h2, h3, h4⟩ := hel i l[i] (List.getElem?_eq_getElem hi)
    match ecs, h2 with
    | [u], _ => exact ⟨u, ⟨b, off, h1, by simpa using h3 0 u rfl⟩, h4⟩
  have build : ∀ k, k ≤ l.length → ∃ vs : List Value, vs.length = k ∧ (∀ (i : Nat) u, vs[i]? = some u → ∃ b off, a = some ⟨b, off, none⟩ ∧ w.cell? ⟨b, off + i, none⟩ = some u) ∧ ∀ (i : Nat) u x, vs[i]? = some u → l[i]? = some x → R w [u] x := by
    intro k
    induction k with
    | zero => exact fun _ => ⟨[], rfl, fun i u h => by simp at h, fun i u x h => by simp at h⟩
    | succ k ih =>
      intro hk
      obtain ⟨vs, h1, h2, h3⟩ := ih (by omega)
      obtain ⟨u, h4, h5⟩ := hex k (by omega)
      refine ⟨vs ++ [u], by simp [h1], fun i x hx => ?_, fun i x y hx hy => ?_⟩
      · by_cases hi : i < vs.length
        · rw [List.getElem?_append_left hi] at hx; exact h2 i x hx
        · have hlt := (List.getElem?_eq_some_iff.1 hx).1
          have e : i = vs.length := by simp at hlt; omega
          rw [List.getElem?_append_right (by omega), e, Nat.sub_self] at hx
          simp at hx; subst hx
          rw [e, h1]; exact h4
      · by_cases hi : i < vs.length
        · rw [List.getElem?_append_left hi] at hx; exact h3 i x y hx hy
        · have hlt := (List.getElem?_eq_some_iff.1 hx).1
          have e : i = vs.length := by simp at hlt; omega
          rw [List.getElem?_append_right (by omega), e, Nat.sub_self] at hx
          simp at hx; subst hx
          rw [e, h1, List.getElem?_eq_getElem (by omega)] at hy
          simp at hy; subst hy
          exact h5
  obtain ⟨vs, h1, h2, h3⟩ := build l.length (Nat.le_refl _)
  exact ⟨a, cap, vs, hv, hcap, hmax, h1, h2, h3⟩
/-- a row that the call owns, each of whose cells reads, reads as a slice -/
theorem slice_of_owns {α : Type} {R : Rd α} {w : World} {B : Nat} {e : TypeId} {v : Value} {vs : List Value} {l : List α} (hlen : vs.length = l.length) (h : w.ownsRow B e 1 v l.length vs) (hr : ∀ (i : Nat) u x, vs[i]? = some u → l[i]? = some x → R w [u] x) : RSlice 1 R w [v] l := by
  obtain ⟨a, cap, rfl, h1, h2, h3⟩ := Sl.of_owns h
  refine ⟨a, cap, rfl, h1, h2, fun i f hi => ?_⟩
  have hil := (List.getElem?_eq_some_iff.1 hi).1
  have hiv : i < vs.length := by omega
  obtain ⟨b, off, ha, hc⟩ := h3 i vs[i] (List.getElem?_eq_getElem hiv)
  refine ⟨b, off, [vs[i]], ha, rfl, fun j u hu => ?_, hr i _ f (List.getElem?_eq_getElem hiv) hi⟩
  have hj : j = 0 := by have := (List.getElem?_eq_some_iff.1 hu).1; simp at this; omega
  subst hj
  simp at hu
  subst hu
  simpa using hc
end Go.Proofs.Ytnelgellbabkoaa

/- The walks of slices.Values, AppendSeq, Collect, Sorted and Compact at texts: a sorted row without what stands twice. Condition: at most a million texts. -/
namespace Go.Proofs.Ytnelgellbabkoaa
open Go.RowKit Go.Shelf

attribute [local go_sem] Oper.semAt_some

abbrev RSs : Rd (List ByteArray) := RSlice 1 RStr
theorem strs_open {w : World} {v : Value} {l : List ByteArray} (h : RSs w [v] l) : ∃ a cap, v = .slice a l.length cap ∧ l.length ≤ 9223372036854775807 ∧ ∀ i (hi : i < l.length), ∃ b off, a = some ⟨b, off, none⟩ ∧ w.cell? ⟨b, off + i, none⟩ = some (.string l[i]) ∧ l[i].size ≤ maxLen := by
  obtain ⟨a, cap, hv, hcap, hmax, hel⟩ := h
  simp only [List.cons.injEq, and_true] at hv
  unfold maxLen at hmax
  refine ⟨a, cap, hv, by omega, fun i hi => ?_⟩
  obtain ⟨b, off, ecs, h1, h2, h3, h4, h5⟩ := hel i l[i] (List.getElem?_eq_getElem hi)
  subst h4
  exact ⟨b, off, h1, by simpa using h3 0 _ rfl, h5⟩
set_option maxRecDepth 100000 in
set_option maxHeartbeats 2000000 in
/-- the iterator's rounds -/
theorem vals_rounds (F : Fence) (n : Nat) (h7 : F.fn 154) (hro : F.round = none) (hn : 1 ≤ n) (l Bs n₀ len cap : Nat) (a : Option Addr) (zs : List ByteArray) (hz : len = zs.length) (hreach : len ≤ 1000000) (J Jx : List ByteArray → World → Prop)
    (hY : ∀ pre x W, J pre W → pre.length < len → YieldAt F (n - 1) Try.prog l #[.string x] W fun e W' =>
      (e = .returned (.bool true) ∧ J (pre ++ [x]) W' ∧ Below n₀ W W') ∨ (e = .returned (.bool false) ∧ Jx (pre ++ [x]) W'))
    (W : World) (hBs : W.cell? ⟨Bs, 0, none⟩ = some (.slice a len cap)) (hc : ∀ j (hj : j < zs.length), ∃ b off, a = some ⟨b, off, none⟩ ∧ b < n₀ ∧ W.cell? ⟨b, off + j, none⟩ = some (.string zs[j])) (h0 : J [] W) :
    CallsIn F n Try.prog 154 #[.func (.yield l) #[] #[], .pointer (some ⟨Bs, 0, none⟩)] W fun e W' => (∃ v, e = .returned v) ∧
      ((∃ ys, ys = zs ∧ J ys W') ∨ (∃ pre, pre <+: zs ∧ Jx pre W')) := by
  have HC := Lib.hid hc
  have HZ := Lib.hid hz
  clear hc hz
  refine callsIn_of_wp Try.func154 rfl h7 ?_ hro
  simp only [Try.ntmps154, List.size_toArray, List.length_cons, List.length_nil, Nat.reduceAdd, Nat.reduceSub, Array.replicate_succ, Array.replicate_zero, List.push_toArray, List.append_toArray, List.nil_append, List.cons_append]
  gi_wp2
  gi_loopw [7] (fun i wr => ∃ k : Nat, k ≤ len ∧ i = .int .i64 k ∧ J (zs.take k) wr ∧ Below n₀ W wr) (fun i _ => len - (intOf i).toNat)
  case atStart => exact ⟨0, Nat.zero_le _, rfl, by simpa using h0, Below.refl _ _⟩
  case round =>
    obtain ⟨k, hk, rfl, hJs, hnx⟩ := hrel
    by_cases hlt : k < len
    · have hkz : k < zs.length := by have := HZ.out; omega
      obtain ⟨b, off, rfl, hb, hcx⟩ := HC.out k hkz
      obtain ⟨x, hx⟩ : ∃ x, x = zs[k] := ⟨_, rfl⟩
      rw [← hx] at hcx
      have hcx' : wr.cell? ⟨b, off + k, none⟩ = some (.string x) := (hnx.cell (p := ⟨b, off + k, none⟩) hb).trans hcx
      have hsn : zs.take k ++ [x] = zs.take (k + 1) := by rw [List.take_succ_eq_append_getElem hkz, hx]
      obtain ⟨fn, tmps, assign, body, hy, hR⟩ := hY _ x wr hJs (by rw [List.length_take]; omega)
      rw [hsn] at hR
      have k5 : (0 : Int) ≤ (k : Int) := by omega
      have k6 : (k : Int) < (len : Int) := by omega
      clear hx hcx
      have HSN := Lib.hid hsn
      clear hsn hkz
      gi_wp2
      refine hR.mono ?_
      rintro e W3 (⟨rfl, hJ3, hk3⟩ | ⟨rfl, hJx3⟩)
      · gi_wp2
        go_roundw
        case rel => exact ⟨k + 1, by omega, by simp, hJ3, hnx.trans hk3⟩
        case measure => simp [intOf]; omega
      · gi_wp2
        refine bodyPost_ret (results_none rfl _ _ _) rfl ?_
        exact ⟨⟨_, rfl⟩, .inr ⟨_, List.take_prefix _ _, hJx3⟩⟩
    · obtain rfl : k = len := by omega
      have e : zs.take k = zs := List.take_of_length_le (by have := HZ.out; omega)
      rw [e] at hJs
      clear e
      gi_wp2
      go_end0
      exact ⟨⟨_, rfl⟩, .inl ⟨_, rfl, hJs⟩⟩
theorem vals_stops (F : Fence) (n : Nat) (h7 : F.fn 154) (hro : F.round = none) (hn : 1 ≤ n) (Bs n₀ : Nat) (sv : Value) (zs : List ByteArray) (hreach : zs.length ≤ 1000000) (w : World) (hBs : Bs < w.heap.size) (_ : n₀ ≤ w.heap.size)
    (hc : w.cell? ⟨Bs, 0, none⟩ = some sv) (w0 : World) (hw0 : w0.heap.size ≤ n₀) (hI : RSs w0 [sv] zs) (hb0 : Below w0.heap.size w0 w) :
    SeqStopsK F n Try.prog 154 #[.pointer (some ⟨Bs, 0, none⟩)] (fun x : ByteArray => #[Value.string x]) (Below n₀) (fun ys => ys = zs) (fun pre => pre <+: zs) zs.length w := fun l J Jx W hW _ _ hY h0 => by
  have hc' := (hW.cell (p := ⟨Bs, 0, none⟩) hBs).trans hc
  obtain ⟨a, cap, rfl, hz, g⟩ := strs_open hI
  refine vals_rounds F n h7 hro hn l Bs n₀ zs.length cap a zs rfl hreach J Jx hY W hc' (fun j hj => ?_) h0
  obtain ⟨b, off, h1, h2, _⟩ := g j hj
  have hlt := World.block_lt_of_cell? w0 _ h2
  exact ⟨b, off, h1, by simp at hlt; omega, cell_later (hb0.trans (hW.mono hb0.size)) h2⟩

theorem info_str : (Try.prog.info? 9).map (fun i => (i.zero, i.size, i.bytes)) = some (some (.string ⟨#[]⟩), 1, 16) := by kernel_rfl
abbrev strv : ByteArray → Value := Value.string
set_option maxRecDepth 100000 in
set_option maxHeartbeats 2000000 in
/-- slices.AppendSeq(nil, slices.Values(zs)) -/
theorem appendSeq_in (F : Fence) (n : Nat) (h3 : F.fn 158) (h5 : F.fn 154) (hro : F.round = none) (hn : 3 ≤ n) (Bs : Nat) (sv : Value) (zs : List ByteArray) (hreach : zs.length ≤ 1000000) (w : World) (hBs : Bs < w.heap.size) (hc : w.cell? ⟨Bs, 0, none⟩ = some sv) (hI : RSs w [sv] zs) :
    CallsIn F n Try.prog 158 #[.slice none 0 0, .func (.func 154) #[] #[.pointer (some ⟨Bs, 0, none⟩)]] w fun e W' => ∃ v, e = .returned v ∧ W'.ownsRow w.heap.size 9 1 v zs.length (zs.map strv) ∧ Below w.heap.size w W' := by
  have h1 : 1 ≤ n := by omega
  obtain ⟨i0, hi, hz0, hz1, hz2⟩ := info_parts info_str
  refine callsIn_of_wp_marks Try.func158 rfl h3 ?_ hro
  simp only [Try.ntmps158, List.size_toArray, List.length_cons, List.length_nil, Nat.reduceAdd, Nat.reduceSub, Array.replicate_succ, Array.replicate_zero, List.push_toArray, List.append_toArray, List.nil_append, List.cons_append]
  have HI := Lib.hid hI
  clear hI
  gi_wp2
  have bO := Boxed.new w 33 (.slice none 0 0)
  have hB0 : Below w.heap.size w (w.alloc (.cells #[.slice none 0 0] 33)) := (Below.refl _ w).alloc (Nat.le_refl _) _
  refine wpIn_rangeFunc_ownG hro h1 (gf := 154) (lb := #[.pointer (some ⟨Bs, 0, none⟩)]) rfl h5 (enters_of Try.func154 (by kernel_rfl) rfl)
    (vals_stops F (n - 1) h5 hro (by omega) Bs w.heap.size sv zs hreach _ (by simp; omega) (by simp) ((hB0.cell (p := ⟨Bs, 0, none⟩) hBs).trans hc) w (Nat.le_refl _) HI.out hB0) belowK_t (belowK_b (by simp)) (Below.refl _ _) (fun _ => rfl)
    (fun (pre : List ByteArray) W => (∃ v, Boxed W w.heap.size 33 v ∧ W.ownsRow w.heap.size 9 1 v pre.length (pre.map strv) ∧ True) ∧ Below w.heap.size w W)
    (fun _ _ _ => False)
    (OwnFrom.and (Own.from (holdsRow_own w.heap.size w.heap.size 33 9 1 (fun (pre : List ByteArray) => pre.length) (fun (pre : List ByteArray) => pre.map strv) (fun _ _ => True)) _) (ownFrom_below (Nat.le_refl _) (by simp)))
    (fun _ _ _ _ _ hs _ _ => hs)
    ⟨⟨_, bO, World.ownsRow_nil _ _ _ _, trivial⟩, hB0⟩
    (fun x => { tmps := #[.slice none 0 0, .func (.func 154) #[] #[.pointer (some ⟨Bs, 0, none⟩)], .pointer (some ⟨w.heap.size, 0, none⟩), undef, .slice none 0 0, .string x, .func (.func 154) #[] #[.pointer (some ⟨Bs, 0, none⟩)], .string x, undef, undef, undef, undef, undef], defers := [] }) ?assign ?body ?done ?stop
  case assign =>
    intro l x W K hK
    gi_wp2
    exact hK
  case body =>
    rintro l pre x W ⟨⟨v, hv, hrow, _⟩, hB⟩ hlt
    have hc1 := hv.cell
    gi_wp2_with (gi_at_builtin; refine wpListIn_append_own _ rfl _ _ 33 rfl w.heap.size 9 i0 (.string ⟨#[]⟩) 1 16 Try.underlying33 hi hz0 hz1 hz2 rfl (by decide) _ _ _ rfl (hrow.alloc _) ⟨W.heap.size, 0, none⟩ 1 1 [.string x] rfl rfl (cell_one_new _ _ _) (by simp [Value.oneCell']) (by unfold maxLen; omega) (by omega) (by have := hB.size; simp; omega) ?_; intro v' w1 hown' hgrow _; obtain ⟨g', cap', rfl⟩ := ownsRow_succ hown'; obtain ⟨hv1, hv2, hr2, hk2, hb2⟩ := hv.appended (by decide) hrow hB.size (Nat.le_refl _) hown' hgrow; have hc1 := hv1.cell; have hf1 := hv1.frozen)
    exact ⟨hk2.from _, hb2, ⟨_, hv2, by simpa using hr2, trivial⟩, hB.trans hb2⟩
  case done =>
    rintro D ys W hD rfl ⟨⟨v, hv, hrow, _⟩, hB⟩ hK
    have hc1 := hv.cell
    gi_wp2
    refine ⟨by simp, .inl ⟨_, _, rfl, run_takeDeferred hK, ?_⟩⟩
    exact ⟨_, results_tmp rfl _ _ _, v, rfl, ownsRow_putObj hrow _ hK rfl, hB.trans (belowK_b (w := w) (Nat.le_refl _) W D _ _ (by simp at hD; omega) hK rfl rfl)⟩
  case stop =>
    rintro D c pre W _ _ h _
    exact h.elim
end Go.Proofs.Ytnelgellbabkoaa

/- Plain facts: a sorted row without what stands twice is shorter just if two are alike. No condition. -/
namespace Go.Proofs.Ytnelgellbabkoaa.TwiceM
open Go.Lib

theorem compact_lt {α : Type} [Inhabited α] [DecidableEq α] (S : List α) : (compact S).length < S.length ↔ ∃ j, 0 < j ∧ j < S.length ∧ S.toArray[j]! = S.toArray[j - 1]! := by
  unfold compact compactUpTo
  rw [List.length_map]
  have h : (List.filter (keeps S.toArray) (List.range S.length)).length < (List.range S.length).length ↔ ∃ x ∈ List.range S.length, ¬ keeps S.toArray x = true := List.length_filter_lt_length_iff_exists
  rw [List.length_range] at h
  rw [h]
  constructor
  · rintro ⟨j, hj, hk⟩
    simp only [List.mem_range] at hj
    unfold keeps at hk
    simp only [decide_eq_true_eq, not_or, Classical.not_not] at hk
    exact ⟨j, by omega, hj, hk.2⟩
  · rintro ⟨j, h0, hj, he⟩
    refine ⟨j, by simpa using hj, ?_⟩
    unfold keeps
    simp only [decide_eq_true_eq, not_or, Classical.not_not]
    exact ⟨by omega, he⟩
abbrev leB (x y : List UInt8) : Bool := decide (x ≤ y)
theorem sorted (L : List (List UInt8)) : (L.mergeSort leB).Pairwise fun x y => x ≤ y := by
  have := List.pairwise_mergeSort (le := leB) (fun a b c h1 h2 => by simp only [leB, decide_eq_true_eq] at *; exact List.le_trans h1 h2) (fun a b => by simp only [leB, Bool.or_eq_true, decide_eq_true_eq]; exact List.le_total a b) L
  exact this.imp fun h => by simpa [leB] using h
theorem compact_sort (L : List (List UInt8)) : (compact (L.mergeSort leB)).length < L.length ↔ ¬ L.Nodup := by
  have hp : (L.mergeSort leB).Perm L := List.mergeSort_perm _ _
  obtain ⟨S, hS⟩ : ∃ S, S = L.mergeSort leB := ⟨_, rfl⟩
  have hs := sorted L
  rw [← hS] at hs hp ⊢
  rw [← hp.length_eq, compact_lt, ← hp.nodup_iff]
  constructor
  · rintro ⟨j, h0, hj, he⟩ hn
    rw [getElem!_pos S.toArray j (by simpa using hj), getElem!_pos S.toArray (j - 1) (by simp; omega)] at he
    simp only [List.getElem_toArray] at he
    have := List.pairwise_iff_getElem.1 hn (j - 1) j (by omega) hj (by omega)
    exact this he.symm
  · intro hn
    have hex : ∃ i j, ∃ (hi : i < S.length) (hj : j < S.length), i < j ∧ S[i] = S[j] := by
      apply Classical.byContradiction
      intro hno
      refine hn (List.pairwise_iff_getElem.2 fun i j hi hj hij e => hno ⟨i, j, hi, hj, hij, e⟩)
    obtain ⟨i, j, hi, hj, hij, e⟩ := hex
    refine ⟨j, by omega, hj, ?_⟩
    rw [getElem!_pos S.toArray j (by simpa using hj), getElem!_pos S.toArray (j - 1) (by simp; omega)]
    simp only [List.getElem_toArray]
    by_cases h1 : i = j - 1
    · subst h1; exact e.symm
    · have q1 := List.pairwise_iff_getElem.1 hs i (j - 1) hi (by omega) (by omega)
      have q2 := List.pairwise_iff_getElem.1 hs (j - 1) j (by omega) hj (by omega)
      rw [e] at q1
      exact List.le_antisymm q1 q2
/-- whether two of texts are alike -/
def twiceOf (l : List ByteArray) : Bool := decide ((compact ((l.map (·.data.toList)).mergeSort leB)).length < l.length)
theorem bytes_inj {a b : ByteArray} (h : a.data.toList = b.data.toList) : a = b := by
  cases a; cases b
  simp only [ByteArray.mk.injEq]
  exact Array.toList_inj.1 h
theorem twice_iff (l : List ByteArray) : twiceOf l = !decide l.Nodup := by
  unfold twiceOf
  have h := compact_sort (l.map (·.data.toList))
  rw [List.length_map] at h
  have h2 : (l.map (·.data.toList)).Nodup ↔ l.Nodup := by
    unfold List.Nodup
    rw [List.pairwise_map]
    constructor
    · exact fun h => h.imp fun h e => h (by rw [e])
    · exact fun h => h.imp fun h e => h (bytes_inj e)
  rw [h2] at h
  rw [Bool.eq_iff_iff]
  simp only [decide_eq_true_eq, Bool.not_eq_true', decide_eq_false_iff_not]
  exact h
end Go.Proofs.Ytnelgellbabkoaa.TwiceM

/- The walk of variant.twice: whether two of texts are alike. Condition: at most a million texts. -/
namespace Go.Proofs.Ytnelgellbabkoaa
open Go.RowKit Go.Lib Go.Sort Go.Shelf
open TwiceM (twiceOf leB)

theorem appendSeq_any (Bs : Nat) (sv : Value) (zs : List ByteArray) (hreach : zs.length ≤ 1000000) (w : World) (hBs : Bs < w.heap.size) (hc : w.cell? ⟨Bs, 0, none⟩ = some sv) (hI : RSs w [sv] zs) :
    Calls Try.prog 158 #[.slice none 0 0, .func (.func 154) #[] #[.pointer (some ⟨Bs, 0, none⟩)]] w fun e W' => ∃ v, e = .returned v ∧ W'.ownsRow w.heap.size 9 1 v zs.length (zs.map strv) ∧ Below w.heap.size w W' :=
  (callsIn_wide (n := 6)).1 (appendSeq_in Fence.wide 6 trivial trivial rfl (by omega) Bs sv zs hreach w hBs hc hI)
set_option maxRecDepth 10000 in
theorem collect_any (Bs : Nat) (sv : Value) (zs : List ByteArray) (hreach : zs.length ≤ 1000000) (w : World) (hBs : Bs < w.heap.size) (hc : w.cell? ⟨Bs, 0, none⟩ = some sv) (hI : RSs w [sv] zs) :
    Calls Try.prog 152 #[.func (.func 154) #[] #[.pointer (some ⟨Bs, 0, none⟩)]] w fun e W' => ∃ v, e = .returned v ∧ W'.ownsRow w.heap.size 9 1 v zs.length (zs.map strv) ∧ Below w.heap.size w W' := by
  have hA := appendSeq_any Bs sv zs hreach w hBs hc hI
  have HA := Lib.hid hA; have Hc := Lib.hid hc; have HI := Lib.hid hI; have HBs := Lib.hid hBs; clear hA hc hI hBs
  go_enter Try.func152, Try.ntmps152
  go_wp2_with fail
  refine HA.out.mono ?_
  rintro e w1 ⟨v, rfl, h1, h2⟩
  have H1 := Lib.hid h1; have H2 := Lib.hid h2; clear h1 h2
  go_wp2_with fail
  go_ret
  exact ⟨v, rfl, H1.out, H2.out⟩
theorem str_nil_or {w : World} {B : Nat} {v : Value} {n : Nat} {xs : List Value} (h : w.ownsRow B 9 1 v n xs) (hn : n = 0) : ∃ a cap, v = .slice a 0 cap := by
  rcases h.2 with ⟨h1, _⟩ | ⟨g, cap, cur, h1, _⟩
  · exact ⟨none, 0, h1⟩
  · exact ⟨_, cap, by rw [h1, hn]⟩
theorem grownBy_grow' {w w' : World} {row : Option Nat} (h : w.grownBy w' row) (os : Array Obj) : w.grownBy (grow w' os) row :=
  ⟨h.os, h.tape, h.output, by have := h.size; simp; omega, fun k hk hne => by rw [heap_grow_old w' os (by have := h.size; omega)]; exact h.block k hk hne⟩
theorem grownBy_put' {α : Type} [Inhabited α] (enc : α → Value) (w : World) (g q : Nat) (d : Array α) : w.grownBy (putRow enc (Sort.ahead w q) g 0 d) (some g) :=
  ⟨rfl, rfl, rfl, by simp [putRow, mapBlock, Sort.ahead], fun k _ hne => by
    have : g ≠ k := fun e => hne (by rw [e])
    simp [putRow, mapBlock, Sort.ahead, Array.getElem?_modify, this]⟩
theorem sortStr_own {W : World} {B : Nat} {v : Value} {L : List (List UInt8)} (hown : W.ownsRow B 9 1 v L.length (L.map encStr)) (hn : L.length ≤ 1000000) :
    Calls Try.prog 153 #[v] W fun e w' => e = .returned (.tuple #[]) ∧ w'.ownsRow B 9 1 v L.length ((L.mergeSort leB).map encStr) ∧ W.grownBy w' v.ownBlock := by
  by_cases h0 : L.length = 0
  · obtain ⟨a, cap, rfl⟩ := str_nil_or hown h0
    have hl : L = [] := List.eq_nil_of_length_eq_zero h0
    subst hl
    exact (Try.slices_Sort_string_none a cap W).mono fun e w' ⟨he, hw⟩ => ⟨he, by rw [hw]; simpa using hown, by rw [hw]; exact World.grownBy.refl _ _⟩
  · have hv : v ≠ .slice none 0 0 := by
      rintro rfl
      rcases hown.2 with ⟨_, h2⟩ | ⟨g, cap, cur, h1, _⟩
      · exact h0 (by simpa using h2)
      · cases h1
    obtain ⟨g, cap, rfl, hb, hlt, hnc, hcm, hl, hH⟩ := holds_of_ownsRow hown hv
    have hC := Try.slices_Sort_string g 0 cap L W hH hlt (by omega)
    have hlen : (L.mergeSort leB).length = L.length := (List.mergeSort_perm L leB).length_eq
    refine hC.mono fun e w' ⟨he, n, os, hw⟩ => ⟨he, ?_, ?_⟩
    · rw [hw]
      have h1 := ownsRow_putRow (q := n) (ys := L.mergeSort leB) hown hlen (Nat.le_refl _)
      rw [List.take_of_length_le (Nat.le_of_eq hlen)] at h1
      exact h1.kept (grownBy_grow' (World.grownBy.refl _ none) os) (.inr (by simp [Value.ownBlock]))
    · rw [hw]
      exact grownBy_grow' (grownBy_put' _ _ _ _ _) os
theorem compactStr_own {W : World} {B : Nat} {v : Value} {L : List (List UInt8)} (hown : W.ownsRow B 9 1 v L.length (L.map encStr)) (hn : L.length ≤ 1000000) :
    Calls Try.prog 137 #[v] W fun e w' => ∃ a c, e = .returned (.slice a (Lib.compact L).length c) ∧ W.grownBy w' v.ownBlock := by
  by_cases h0 : L.length = 0
  · have hl : L = [] := List.eq_nil_of_length_eq_zero h0
    subst hl
    obtain ⟨a, cap, rfl⟩ := str_nil_or hown rfl
    exact (Try.slices_Compact_string_empty a cap W).mono fun e w' ⟨he, hw⟩ => ⟨a, cap, he, by rw [hw]; exact World.grownBy.refl _ _⟩
  · have hv : v ≠ .slice none 0 0 := by
      rintro rfl
      rcases hown.2 with ⟨_, h2⟩ | ⟨g, cap, cur, h1, _⟩
      · exact h0 (by simpa using h2)
      · cases h1
    obtain ⟨g, cap, rfl, hb, hlt, hnc, hcm, hl, hH⟩ := holds_of_ownsRow hown hv
    exact (Try.slices_Compact_string g 0 cap L W hH (by omega) hnc).mono fun e w' ⟨he, q, hw⟩ => ⟨_, _, he, by rw [hw]; exact grownBy_put' _ _ _ _ _⟩
set_option maxRecDepth 10000 in
theorem sorted_any (Bs : Nat) (sv : Value) (zs : List ByteArray) (hreach : zs.length ≤ 1000000) (w : World) (hBs : Bs < w.heap.size) (hc : w.cell? ⟨Bs, 0, none⟩ = some sv) (hI : RSs w [sv] zs) :
    Calls Try.prog 135 #[.func (.func 154) #[] #[.pointer (some ⟨Bs, 0, none⟩)]] w fun e W' => ∃ v, e = .returned v ∧ W'.ownsRow w.heap.size 9 1 v zs.length (((zs.map (·.data.toList)).mergeSort leB).map encStr) ∧ Below w.heap.size w W' := by
  have hA := collect_any Bs sv zs hreach w hBs hc hI
  have HA := Lib.hid hA; have Hc := Lib.hid hc; have HI := Lib.hid hI; have HBs := Lib.hid hBs; clear hA hc hI hBs
  go_enter Try.func135, Try.ntmps135
  go_wp2_with fail
  refine HA.out.mono ?_
  rintro e w1 ⟨v, rfl, h1, h2⟩
  rw [← map_encStr] at h1
  have h1' : w1.ownsRow w.heap.size 9 1 v (zs.map (·.data.toList)).length ((zs.map (·.data.toList)).map encStr) := by rw [List.length_map]; exact h1
  have hS := sortStr_own h1' (by rw [List.length_map]; exact hreach)
  rw [List.length_map] at hS
  have H1 := Lib.hid h1; have H1' := Lib.hid h1'; have H2 := Lib.hid h2; have HS := Lib.hid hS; clear h1 h1' h2 hS
  go_wp2_with fail
  refine HS.out.mono ?_
  rintro e w2 ⟨rfl, h3, h4⟩
  have hb := bel_own H2.out H1'.out (Nat.le_refl _) h4 H2.out.size
  have H3 := Lib.hid h3; have H4 := Lib.hid h4; have Hb := Lib.hid hb; clear h3 h4 hb
  go_wp2_with fail
  go_ret
  exact ⟨v, rfl, H3.out, Hb.out⟩
set_option maxRecDepth 10000 in
theorem values_any (a : Option Addr) (n c : Nat) (w : World) : Calls Try.prog 136 #[.slice a n c] w fun e w' => e = .returned (.func (.func 154) #[] #[.pointer (some ⟨w.heap.size, 0, none⟩)]) ∧ w' = w.alloc (.cells #[.slice a n c] 33) := by
  go_enter Try.func136, Try.ntmps136
  go_wp2_with fail
  go_ret
  exact ⟨rfl, rfl⟩
set_option maxRecDepth 10000 in
theorem twice_any {w : World} {v : Value} {l : List ByteArray} (h : RSs w [v] l) (hn : l.length ≤ 1000000) : Calls Try.prog 105 #[v] w fun e w' => e = .returned (.bool (!decide l.Nodup)) ∧ Below w.heap.size w w' := by
  obtain ⟨a, cap, rfl, hz, g⟩ := strs_open h
  have hbx : Below w.heap.size w (w.alloc (.cells #[.slice a l.length cap] 33)) := below_alloc1 _ _
  have hS := sorted_any w.heap.size (.slice a l.length cap) l hn (w.alloc (.cells #[.slice a l.length cap] 33)) (by simp) (by rw [World.cell?_alloc_new]; rfl) (stays_slice stays_str _ _ _ _ h hbx)
  rw [← TwiceM.twice_iff]
  obtain ⟨n, hnn⟩ : ∃ n, n = l.length := ⟨_, rfl⟩
  obtain ⟨r, hr⟩ : ∃ r, r = twiceOf l := ⟨_, rfl⟩
  have hr2 : r = decide ((Lib.compact ((l.map (·.data.toList)).mergeSort leB)).length < n) := by rw [hr, hnn]; rfl
  rw [← hnn] at hS hn hz hbx ⊢
  rw [← hr]
  have Hh := Lib.hid h; have Hg := Lib.hid g; have HS := Lib.hid hS; have Hbx := Lib.hid hbx; have Hnn := Lib.hid hnn; have Hr := Lib.hid hr; have Hr2 := Lib.hid hr2; clear h g hS hbx hnn hr hr2
  go_enter Try.func105, Try.ntmps105
  go_wp2_with fail
  refine (values_any a n cap w).mono ?_
  rintro e w1 ⟨rfl, rfl⟩
  go_wp2_with fail
  refine HS.out.mono ?_
  rintro e w2 ⟨v2, rfl, h2, hb2⟩
  have hlen : ((l.map (·.data.toList)).mergeSort leB).length = n := by rw [(List.mergeSort_perm _ _).length_eq, List.length_map, Hnn.out]
  have h2' := h2
  rw [← hlen] at h2'
  have hC := compactStr_own h2' (by rw [hlen]; exact hn)
  obtain ⟨m, hm⟩ : ∃ m, m = (Lib.compact ((l.map (·.data.toList)).mergeSort leB)).length := ⟨_, rfl⟩
  rw [← hm] at hC
  have hr3 : r = decide (m < n) := by rw [hm]; exact Hr2.out
  have hbw := Hbx.out.trans (hb2.mono Hbx.out.size)
  have H2 := Lib.hid h2; have H2' := Lib.hid h2'; have Hb2 := Lib.hid hb2; have HC := Lib.hid hC; have Hm := Lib.hid hm; have Hlen := Lib.hid hlen; have Hr3 := Lib.hid hr3; have Hbw := Lib.hid hbw; clear h2 h2' hb2 hC hm hlen hr3 hbw
  go_wp2_with fail
  refine HC.out.mono ?_
  rintro e w3 ⟨a3, c3, rfl, hg3⟩
  have hb3 := bel_own Hbw.out (ownsRow_mono H2.out Hbx.out.size) (Nat.le_refl _) hg3 Hbw.out.size
  have Hg3 := Lib.hid hg3; have Hb3 := Lib.hid hb3; clear hg3 hb3
  go_wp2_with fail
  go_ret
  exact ⟨ret_bool (by rw [Hr3.out, decide_eq_decide]), Hb3.out⟩
end Go.Proofs.Ytnelgellbabkoaa

/- Plain facts: names and values of variants. No condition. -/
namespace Go.Proofs.Ytnelgellbabkoaa.VarM

def letN (n : Nat) : Bool := decide (97 ≤ n) && decide (n ≤ 122)
def digN (n : Nat) : Bool := decide (48 ≤ n) && decide (n ≤ 57)
def okN (n : Nat) : Bool := letN n || digN n || decide (n = 45)
abbrev Bs := List UInt8
def okB (c : UInt8) : Bool := okN c.toNat
def digB (c : UInt8) : Bool := digN c.toNat
def headN (l : Bs) : Nat := (l.headD 0).toNat
/-- whether a text is a name -/
def nameOf (l : Bs) : Bool := l.all okB && (decide (0 < l.length) && (decide (l.length ≤ 24) && letN (headN l)))
def digsOf (l : Bs) : Bool := l.all digB && decide (0 < l.length)
/-- whether a text may be a value -/
def valueOf (l : Bs) : Bool := nameOf l || (digsOf l && decide (l.length ≤ 3))
theorem all_succ {p : UInt8 → Bool} {l : Bs} {k : Nat} (h : k < l.length) (h1 : (l.take k).all p = true) (h2 : p l[k] = true) : (l.take (k + 1)).all p = true := by
  rw [List.take_succ_eq_append_getElem h, List.all_append, h1]; simp [h2]
theorem all_no {p : UInt8 → Bool} {l : Bs} {k : Nat} (h : k < l.length) (h2 : p l[k] = false) : l.all p = false := by
  rw [Bool.eq_false_iff]; intro h3
  have := List.all_eq_true.1 h3 _ (List.getElem_mem h)
  rw [h2] at this; cases this
theorem name_no {l : Bs} (h : l.all okB = false) : nameOf l = false := by unfold nameOf; rw [h]; rfl
theorem name_all {l : Bs} (h : l.all okB = true) : nameOf l = (decide (0 < l.length) && (decide (l.length ≤ 24) && letN (headN l))) := by unfold nameOf; rw [h]; rfl
theorem name_pos {l : Bs} (h : nameOf l = true) : 0 < l.length ∧ l.length ≤ 24 := by
  unfold nameOf at h
  simp only [Bool.and_eq_true, decide_eq_true_eq] at h
  exact ⟨h.2.1, h.2.2.1⟩
theorem okN_let {n : Nat} (h : letN n = true) : okN n = true := by unfold okN; rw [h]; rfl
theorem okN_dig {n : Nat} (h : digN n = true) : okN n = true := by unfold okN; rw [h]; simp
theorem okN_no {n : Nat} (h1 : letN n = false) (h2 : digN n = false) (h3 : n ≠ 45) : okN n = false := by unfold okN; rw [h1, h2]; simp [h3]
theorem name_head {l : Bs} (h : letN (headN l) = false) : nameOf l = false := by unfold nameOf; rw [h]; simp
end Go.Proofs.Ytnelgellbabkoaa.VarM

/- The walks of variant.Name, variant.Value and the reference's. Condition: the text's reach. -/
namespace Go.Proofs.Ytnelgellbabkoaa
open Go.RowKit
open VarM (letN digN okN okB digB nameOf valueOf digsOf headN)

theorem dl (s : ByteArray) : s.data.toList.length = s.size := by rw [Array.length_toList]; rfl
theorem dget (s : ByteArray) (k : Nat) (h : k < s.size) : s.data.toList[k]'(by rw [dl]; exact h) = s[k] := rfl
set_option maxRecDepth 10000 in
theorem letter_any (n : Nat) (h : n < 256) (w : World) : Calls Try.prog 63 #[.int .u8 (n : Int)] w fun e w' => e = .returned (.bool (letN n)) ∧ w = w' := by
  obtain ⟨r, hr⟩ : ∃ r, r = letN n := ⟨_, rfl⟩
  rw [← hr]
  rcases Nat.lt_or_ge n 97 with h1 | h1
  · have hf : r = false := by rw [hr]; unfold letN; rw [decide_eq_false (by omega)]; rfl
    have Hr := Lib.hid hr; have Hf := Lib.hid hf; clear hr hf
    go_enter Try.func63, Try.ntmps63
    go_wp2_with fail
    go_ret
    exact ⟨ret_bool Hf.out.symm, rfl⟩
  · rcases Nat.lt_or_ge 122 n with h2 | h2
    · have hf : r = false := by rw [hr]; unfold letN; rw [decide_eq_false (p := n ≤ 122) (by omega)]; simp
      have k2 : decide ((n : Int) ≤ 122) = false := by simp; omega
      have Hr := Lib.hid hr; have Hf := Lib.hid hf; clear hr hf
      go_enter Try.func63, Try.ntmps63
      go_wp2_with fail
      go_ret
      exact ⟨ret_bool Hf.out.symm, rfl⟩
    · have hf : r = true := by rw [hr]; unfold letN; rw [decide_eq_true h1, decide_eq_true h2]; rfl
      have k2 : decide ((n : Int) ≤ 122) = true := by simp; omega
      have Hr := Lib.hid hr; have Hf := Lib.hid hf; clear hr hf
      go_enter Try.func63, Try.ntmps63
      go_wp2_with fail
      go_ret
      exact ⟨ret_bool Hf.out.symm, rfl⟩
set_option maxRecDepth 10000 in
theorem digit_any (n : Nat) (h : n < 256) (w : World) : Calls Try.prog 64 #[.int .u8 (n : Int)] w fun e w' => e = .returned (.bool (digN n)) ∧ w = w' := by
  obtain ⟨r, hr⟩ : ∃ r, r = digN n := ⟨_, rfl⟩
  rw [← hr]
  rcases Nat.lt_or_ge n 48 with h1 | h1
  · have hf : r = false := by rw [hr]; unfold digN; rw [decide_eq_false (by omega)]; rfl
    have Hr := Lib.hid hr; have Hf := Lib.hid hf; clear hr hf
    go_enter Try.func64, Try.ntmps64
    go_wp2_with fail
    go_ret
    exact ⟨ret_bool Hf.out.symm, rfl⟩
  · rcases Nat.lt_or_ge 57 n with h2 | h2
    · have hf : r = false := by rw [hr]; unfold digN; rw [decide_eq_false (p := n ≤ 57) (by omega)]; simp
      have k2 : decide ((n : Int) ≤ 57) = false := by simp; omega
      have Hr := Lib.hid hr; have Hf := Lib.hid hf; clear hr hf
      go_enter Try.func64, Try.ntmps64
      go_wp2_with fail
      go_ret
      exact ⟨ret_bool Hf.out.symm, rfl⟩
    · have hf : r = true := by rw [hr]; unfold digN; rw [decide_eq_true h1, decide_eq_true h2]; rfl
      have k2 : decide ((n : Int) ≤ 57) = true := by simp; omega
      have Hr := Lib.hid hr; have Hf := Lib.hid hf; clear hr hf
      go_enter Try.func64, Try.ntmps64
      go_wp2_with fail
      go_ret
      exact ⟨ret_bool Hf.out.symm, rfl⟩
theorem head_is (s : ByteArray) (h : 0 < s.size) : headN s.data.toList = s[0].toNat := by
  unfold headN
  have e : s.data.toList = s[0] :: s.data.toList.drop 1 := by
    have := List.drop_eq_getElem_cons (l := s.data.toList) (i := 0) (by rw [dl]; exact h)
    rw [List.drop_zero] at this
    exact this
  rw [e]; rfl
set_option maxRecDepth 10000 in
set_option maxHeartbeats 1000000 in
theorem name_any (s : ByteArray) (hs : s.size ≤ 9223372036854775807) (w : World) : Calls Try.prog 17 #[.string s] w fun e w' => e = .returned (.bool (nameOf s.data.toList)) ∧ w = w' := by
  obtain ⟨l, hl⟩ : ∃ l, l = s.data.toList := ⟨_, rfl⟩
  have hln : l.length = s.size := by rw [hl]; exact dl s
  obtain ⟨r, hr⟩ : ∃ r, r = nameOf l := ⟨_, rfl⟩
  rw [← hl, ← hr]
  have hh := head_is s
  rw [← hl] at hh
  have Hl := Lib.hid hl; have Hln := Lib.hid hln; have Hr := Lib.hid hr; have Hh := Lib.hid hh; clear hl hln hr hh
  go_enter Try.func17, Try.ntmps17
  go_wp2_with fail
  go_loop [6] (fun i => ∃ k : Nat, k ≤ s.size ∧ i = .int .i64 k ∧ (l.take k).all okB = true) (fun i => s.size - (intOf i).toNat)
  case atStart => exact ⟨0, Nat.zero_le _, rfl, by simp⟩
  case round =>
    obtain ⟨k, hk, rfl, hall⟩ := hrel
    by_cases hlt : k < s.size
    · have hkl : k < l.length := by have := Hln.out; omega
      obtain ⟨n, hn⟩ : ∃ n, n = s[k].toNat := ⟨_, rfl⟩
      have hn256 : n < 256 := by rw [hn]; exact s[k].toNat_lt
      have hck : okB l[k] = okN n := by
        have e : l[k] = s[k] := by simp only [Hl.out]; rfl
        unfold okB
        rw [e, hn]
      have hL := fun W => letter_any n hn256 W
      have hD := fun W => digit_any n hn256 W
      have hsk : s[k].toNat = n := hn.symm
      have hyes : okN n = true → (l.take (k + 1)).all okB = true := fun h => VarM.all_succ hkl hall (by rw [hck]; exact h)
      have hno : okN n = false → r = false := fun h => by rw [Hr.out]; exact VarM.name_no (VarM.all_no hkl (by rw [hck]; exact h))
      clear hn hck
      clear hkl
      cases h1 : letN n with
      | true =>
        have hnext := hyes (VarM.okN_let h1)
        rw [h1] at hL
        have Hall := Lib.hid hall; have HL := Lib.hid hL; have HD := Lib.hid hD; have Hyes := Lib.hid hyes; have Hno := Lib.hid hno; have Hnext := Lib.hid hnext; have H1 := Lib.hid h1; clear hall hL hD hyes hno hnext h1
        go_wp2_with fail
        refine (HL.out _).mono ?_
        rintro e w1 ⟨rfl, rfl⟩
        go_wp2_with fail
        go_round
        case rel => exact ⟨k + 1, by omega, by go_num, Hnext.out⟩
        case measure => simp [intOf]; omega
      | false =>
        rw [h1] at hL
        cases h2 : digN n with
        | true =>
          have hnext := hyes (VarM.okN_dig h2)
          rw [h2] at hD
          have Hall := Lib.hid hall; have HL := Lib.hid hL; have HD := Lib.hid hD; have Hyes := Lib.hid hyes; have Hno := Lib.hid hno; have Hnext := Lib.hid hnext; have H1 := Lib.hid h1; have H2 := Lib.hid h2; clear hall hL hD hyes hno hnext h1 h2
          go_wp2_with fail
          refine (HL.out _).mono ?_
          rintro e w1 ⟨rfl, rfl⟩
          go_wp2_with fail
          refine (HD.out _).mono ?_
          rintro e w1 ⟨rfl, rfl⟩
          go_wp2_with fail
          go_round
          case rel => exact ⟨k + 1, by omega, by go_num, Hnext.out⟩
          case measure => simp [intOf]; omega
        | false =>
          rw [h2] at hD
          by_cases h3 : n = 45
          · have hnext := hyes (by unfold okN; simp [h3])
            have e3 : ((n : Int) != 45) = false := by rw [h3]; rfl
            have Hall := Lib.hid hall; have HL := Lib.hid hL; have HD := Lib.hid hD; have Hyes := Lib.hid hyes; have Hno := Lib.hid hno; have Hnext := Lib.hid hnext; have H1 := Lib.hid h1; have H2 := Lib.hid h2; have H3 := Lib.hid h3; clear hall hL hD hyes hno hnext h1 h2 h3
            go_wp2_with fail
            refine (HL.out _).mono ?_
            rintro e w1 ⟨rfl, rfl⟩
            go_wp2_with fail
            refine (HD.out _).mono ?_
            rintro e w1 ⟨rfl, rfl⟩
            go_wp2_with fail
            go_round
            case rel => exact ⟨k + 1, by omega, by go_num, Hnext.out⟩
            case measure => simp [intOf]; omega
          · have hf := hno (VarM.okN_no h1 h2 h3)
            have e3 : ((n : Int) != 45) = true := by rw [bne_iff_ne]; omega
            have Hall := Lib.hid hall; have HL := Lib.hid hL; have HD := Lib.hid hD; have Hyes := Lib.hid hyes; have Hno := Lib.hid hno; have Hf := Lib.hid hf; have H1 := Lib.hid h1; have H2 := Lib.hid h2; have H3 := Lib.hid h3; clear hall hL hD hyes hno hf h1 h2 h3
            go_wp2_with fail
            refine (HL.out _).mono ?_
            rintro e w1 ⟨rfl, rfl⟩
            go_wp2_with fail
            refine (HD.out _).mono ?_
            rintro e w1 ⟨rfl, rfl⟩
            go_wp2_with fail
            go_ret
            exact ⟨ret_bool Hf.out.symm, rfl⟩
    · obtain rfl : k = s.size := by omega
      have hall2 : l.all okB = true := by rw [List.take_of_length_le (by have := Hln.out; omega)] at hall; exact hall
      have hrr : r = (decide (0 < s.size) && (decide (s.size ≤ 24) && letN (headN l))) := by rw [Hr.out, VarM.name_all hall2, Hln.out]
      by_cases h0 : 0 < s.size
      · by_cases h24 : s.size ≤ 24
        · have hf : r = letN (headN l) := by rw [hrr, decide_eq_true h0, decide_eq_true h24]; rfl
          rw [Hh.out h0] at hf
          obtain ⟨n, hn⟩ : ∃ n, n = s[0].toNat := ⟨_, rfl⟩
          have hn256 : n < 256 := by rw [hn]; exact s[0].toNat_lt
          have hL := fun W => letter_any n hn256 W
          rw [← hn] at hf
          rw [← hf] at hL
          have hsk : s[0].toNat = n := hn.symm
          have k1 : (0 : Int) < (s.size : Int) := by omega
          have k2 : (s.size : Int) ≤ 24 := by omega
          have k3 : decide ((s.size : Int) ≤ 24) = true := by simpa using k2
          clear hn
          have Hall := Lib.hid hall; have Hall2 := Lib.hid hall2; have Hrr := Lib.hid hrr; have Hf := Lib.hid hf; have HL := Lib.hid hL; clear hall hall2 hrr hf hL
          go_wp2_with fail
          refine (HL.out _).mono ?_
          rintro e w1 ⟨rfl, rfl⟩
          go_wp2_with fail
          go_ret
          exact ⟨rfl, rfl⟩
        · have hf : r = false := by rw [hrr, decide_eq_false h24]; simp
          have k2 : (24 : Int) < (s.size : Int) := by omega
          have k3 : decide ((s.size : Int) ≤ 24) = false := by simpa using k2
          have Hall := Lib.hid hall; have Hall2 := Lib.hid hall2; have Hrr := Lib.hid hrr; have Hf := Lib.hid hf; clear hall hall2 hrr hf
          go_wp2_with fail
          go_ret
          exact ⟨ret_bool Hf.out.symm, rfl⟩
      · have hf : r = false := by rw [hrr, decide_eq_false h0]; rfl
        have k2 : s.size ≤ 0 := by omega
        have k3 : decide (0 < (s.size : Int)) = false := decide_eq_false (by omega)
        have Hall := Lib.hid hall; have Hall2 := Lib.hid hall2; have Hrr := Lib.hid hrr; have Hf := Lib.hid hf; clear hall hall2 hrr hf
        go_wp2_with fail
        go_ret
        exact ⟨ret_bool Hf.out.symm, rfl⟩
set_option maxRecDepth 10000 in
set_option maxHeartbeats 1000000 in
theorem value_any (s : ByteArray) (hs : s.size ≤ 9223372036854775807) (w : World) : Calls Try.prog 19 #[.string s] w fun e w' => e = .returned (.bool (valueOf s.data.toList)) ∧ w = w' := by
  have hN := fun W => name_any s hs W
  obtain ⟨l, hl⟩ : ∃ l, l = s.data.toList := ⟨_, rfl⟩
  have hln : l.length = s.size := by rw [hl]; exact dl s
  obtain ⟨r, hr⟩ : ∃ r, r = valueOf l := ⟨_, rfl⟩
  rw [← hl] at hN
  rw [← hl, ← hr]
  cases hq : nameOf l with
  | true =>
    rw [hq] at hN
    have hf : r = true := by rw [hr]; unfold valueOf; rw [hq]; rfl
    have Hl := Lib.hid hl; have Hln := Lib.hid hln; have Hr := Lib.hid hr; have HN := Lib.hid hN; have Hf := Lib.hid hf; have Hq := Lib.hid hq; clear hl hln hr hN hf hq
    go_enter Try.func19, Try.ntmps19
    go_wp2_with fail
    refine (HN.out _).mono ?_
    rintro e w1 ⟨rfl, rfl⟩
    go_wp2_with fail
    go_ret
    exact ⟨ret_bool Hf.out.symm, rfl⟩
  | false =>
    rw [hq] at hN
    have hv : r = (l.all digB && decide (0 < l.length) && decide (l.length ≤ 3)) := by rw [hr]; unfold valueOf digsOf; rw [hq]; rfl
    have Hl := Lib.hid hl; have Hln := Lib.hid hln; have Hr := Lib.hid hr; have HN := Lib.hid hN; have Hv := Lib.hid hv; have Hq := Lib.hid hq; clear hl hln hr hN hv hq
    go_enter Try.func19, Try.ntmps19
    go_wp2_with fail
    refine (HN.out _).mono ?_
    rintro e w1 ⟨rfl, rfl⟩
    go_wp2_with fail
    go_loop [8] (fun i => ∃ k : Nat, k ≤ s.size ∧ i = .int .i64 k ∧ (l.take k).all digB = true) (fun i => s.size - (intOf i).toNat)
    case atStart => exact ⟨0, Nat.zero_le _, rfl, by simp⟩
    case round =>
      obtain ⟨k, hk, rfl, hall⟩ := hrel
      by_cases hlt : k < s.size
      · have hkl : k < l.length := by have := Hln.out; omega
        obtain ⟨n, hn⟩ : ∃ n, n = s[k].toNat := ⟨_, rfl⟩
        have hn256 : n < 256 := by rw [hn]; exact s[k].toNat_lt
        have hck : digB l[k] = digN n := by
          have e : l[k] = s[k] := by simp only [Hl.out]; rfl
          unfold digB
          rw [e, hn]
        have hD := fun W => digit_any n hn256 W
        have hsk : s[k].toNat = n := hn.symm
        have hyes : digN n = true → (l.take (k + 1)).all digB = true := fun h => VarM.all_succ hkl hall (by rw [hck]; exact h)
        have hno : digN n = false → r = false := fun h => by rw [Hv.out, VarM.all_no hkl (by rw [hck]; exact h)]; rfl
        clear hn hck
        clear hkl
        cases h2 : digN n with
        | true =>
          have hnext := hyes h2
          rw [h2] at hD
          have Hall := Lib.hid hall; have HD := Lib.hid hD; have Hyes := Lib.hid hyes; have Hno := Lib.hid hno; have Hnext := Lib.hid hnext; have H2 := Lib.hid h2; clear hall hD hyes hno hnext h2
          go_wp2_with fail
          refine (HD.out _).mono ?_
          rintro e w1 ⟨rfl, rfl⟩
          go_wp2_with fail
          go_round
          case rel => exact ⟨k + 1, by omega, by go_num, Hnext.out⟩
          case measure => simp [intOf]; omega
        | false =>
          have hf := hno h2
          rw [h2] at hD
          have Hall := Lib.hid hall; have HD := Lib.hid hD; have Hyes := Lib.hid hyes; have Hno := Lib.hid hno; have Hf := Lib.hid hf; have H2 := Lib.hid h2; clear hall hD hyes hno hf h2
          go_wp2_with fail
          refine (HD.out _).mono ?_
          rintro e w1 ⟨rfl, rfl⟩
          go_wp2_with fail
          go_ret
          exact ⟨ret_bool Hf.out.symm, rfl⟩
      · obtain rfl : k = s.size := by omega
        have hall2 : l.all digB = true := by rw [List.take_of_length_le (by have := Hln.out; omega)] at hall; exact hall
        have hrr : r = (decide (0 < s.size) && decide (s.size ≤ 3)) := by rw [Hv.out, hall2, Hln.out]; rfl
        by_cases h0 : 0 < s.size
        · by_cases h3 : s.size ≤ 3
          · have hf : r = true := by rw [hrr, decide_eq_true h0, decide_eq_true h3]; rfl
            have k1 : (0 : Int) < (s.size : Int) := by omega
            have k2 : (s.size : Int) ≤ 3 := by omega
            have k3 : decide ((s.size : Int) ≤ 3) = true := by simpa using k2
            have Hall := Lib.hid hall; have Hall2 := Lib.hid hall2; have Hrr := Lib.hid hrr; have Hf := Lib.hid hf; clear hall hall2 hrr hf
            go_wp2_with fail
            go_ret
            exact ⟨ret_bool Hf.out.symm, rfl⟩
          · have hf : r = false := by rw [hrr, decide_eq_false h3]; simp
            have k2 : (3 : Int) < (s.size : Int) := by omega
            have k3 : decide ((s.size : Int) ≤ 3) = false := by simpa using k2
            have Hall := Lib.hid hall; have Hall2 := Lib.hid hall2; have Hrr := Lib.hid hrr; have Hf := Lib.hid hf; clear hall hall2 hrr hf
            go_wp2_with fail
            go_ret
            exact ⟨ret_bool Hf.out.symm, rfl⟩
        · have hf : r = false := by rw [hrr, decide_eq_false h0]; rfl
          have k2 : s.size ≤ 0 := by omega
          have k3 : decide (0 < (s.size : Int)) = false := decide_eq_false (by omega)
          have Hall := Lib.hid hall; have Hall2 := Lib.hid hall2; have Hrr := Lib.hid hrr; have Hf := Lib.hid hf; clear hall hall2 hrr hf
          go_wp2_with fail
          go_ret
          exact ⟨ret_bool Hf.out.symm, rfl⟩
theorem empty_iff (s : ByteArray) : s.toList = [] ↔ s.size = 0 := by
  rw [Lib.toList_data, ← dl]
  exact List.length_eq_zero_iff.symm
set_option maxRecDepth 10000 in
set_option maxHeartbeats 1000000 in
theorem digits_any (s : ByteArray) (hs : s.size ≤ 9223372036854775807) (w : World) : Calls Try.prog 65 #[.string s] w fun e w' => e = .returned (.bool (digsOf s.data.toList)) ∧ w = w' := by
  obtain ⟨l, hl⟩ : ∃ l, l = s.data.toList := ⟨_, rfl⟩
  have hln : l.length = s.size := by rw [hl]; exact dl s
  obtain ⟨r, hr⟩ : ∃ r, r = digsOf l := ⟨_, rfl⟩
  rw [← hl, ← hr]
  have hv : r = (l.all digB && decide (0 < l.length)) := hr
  have Hl := Lib.hid hl; have Hln := Lib.hid hln; have Hr := Lib.hid hr; have Hv := Lib.hid hv; clear hl hln hr hv
  go_enter Try.func65, Try.ntmps65
  go_wp2_with fail
  go_loop [3] (fun i => ∃ k : Nat, k ≤ s.size ∧ i = .int .i64 k ∧ (l.take k).all digB = true) (fun i => s.size - (intOf i).toNat)
  case atStart => exact ⟨0, Nat.zero_le _, rfl, by simp⟩
  case round =>
    obtain ⟨k, hk, rfl, hall⟩ := hrel
    by_cases hlt : k < s.size
    · have hkl : k < l.length := by have := Hln.out; omega
      obtain ⟨n, hn⟩ : ∃ n, n = s[k].toNat := ⟨_, rfl⟩
      have hn256 : n < 256 := by rw [hn]; exact s[k].toNat_lt
      have hck : digB l[k] = digN n := by
        have e : l[k] = s[k] := by simp only [Hl.out]; rfl
        unfold digB
        rw [e, hn]
      have hsk : s[k].toNat = n := hn.symm
      have hyes : digN n = true → (l.take (k + 1)).all digB = true := fun h => VarM.all_succ hkl hall (by rw [hck]; exact h)
      have hno : digN n = false → r = false := fun h => by rw [Hv.out, VarM.all_no hkl (by rw [hck]; exact h)]; rfl
      clear hn hck
      clear hkl
      rcases Nat.lt_or_ge n 48 with h1 | h1
      · have hf := hno (by unfold digN; rw [decide_eq_false (by omega)]; rfl)
        have k1 : decide ((n : Int) < 48) = true := decide_eq_true (by omega)
        have Hall := Lib.hid hall; have Hyes := Lib.hid hyes; have Hno := Lib.hid hno; have Hf := Lib.hid hf; clear hall hyes hno hf
        go_wp2_with fail
        go_ret
        exact ⟨ret_bool Hf.out.symm, rfl⟩
      · rcases Nat.lt_or_ge 57 n with h2 | h2
        · have hf := hno (by unfold digN; rw [decide_eq_false (p := n ≤ 57) (by omega)]; simp)
          have k1 : decide ((n : Int) < 48) = false := decide_eq_false (by omega)
          have k2 : decide (57 < (n : Int)) = true := decide_eq_true (by omega)
          have Hall := Lib.hid hall; have Hyes := Lib.hid hyes; have Hno := Lib.hid hno; have Hf := Lib.hid hf; clear hall hyes hno hf
          go_wp2_with fail
          go_ret
          exact ⟨ret_bool Hf.out.symm, rfl⟩
        · have hnext := hyes (by unfold digN; rw [decide_eq_true h1, decide_eq_true h2]; rfl)
          have k1 : decide ((n : Int) < 48) = false := decide_eq_false (by omega)
          have k2 : decide (57 < (n : Int)) = false := decide_eq_false (by omega)
          have Hall := Lib.hid hall; have Hyes := Lib.hid hyes; have Hno := Lib.hid hno; have Hnext := Lib.hid hnext; clear hall hyes hno hnext
          go_wp2_with fail
          go_round
          case rel => exact ⟨k + 1, by omega, by go_num, Hnext.out⟩
          case measure => simp [intOf]; omega
    · obtain rfl : k = s.size := by omega
      have hall2 : l.all digB = true := by rw [List.take_of_length_le (by have := Hln.out; omega)] at hall; exact hall
      have hrr : r = decide (0 < s.size) := by rw [Hv.out, hall2, Hln.out]; rfl
      by_cases h0 : 0 < s.size
      · have hf : r = true := by rw [hrr, decide_eq_true h0]
        have k1 : s.toList.isEmpty = false := by rw [Bool.eq_false_iff]; intro h; rw [List.isEmpty_iff, empty_iff] at h; omega
        have k2 : (!s.toList.isEmpty) = true := by rw [k1]; rfl
        have k3 : ¬ s.toList = [] := by rw [empty_iff]; omega
        have Hall := Lib.hid hall; have Hall2 := Lib.hid hall2; have Hrr := Lib.hid hrr; have Hf := Lib.hid hf; clear hall hall2 hrr hf
        go_wp2_with fail
        go_ret
        exact ⟨ret_bool Hf.out.symm, rfl⟩
      · have hf : r = false := by rw [hrr, decide_eq_false h0]
        have k3 : s.toList = [] := by rw [empty_iff]; omega
        have k1 : s.toList.isEmpty = true := by rw [k3]; rfl
        have Hall := Lib.hid hall; have Hall2 := Lib.hid hall2; have Hrr := Lib.hid hrr; have Hf := Lib.hid hf; clear hall hall2 hrr hf
        go_wp2_with fail
        go_ret
        exact ⟨ret_bool Hf.out.symm, rfl⟩
end Go.Proofs.Ytnelgellbabkoaa

/- Plain facts: the place of the first element of which a predicate holds. No condition. -/
namespace Go.Proofs.Ytnelgellbabkoaa

def idxOf {α : Type} (p : α → Bool) (l : List α) : Int := match l.findIdx? p with
  | some i => i
  | none => -1
/-- it holds of none of the first k -/
def NoneIn {α : Type} (p : α → Bool) (l : List α) (k : Nat) : Prop := ∀ i (h : i < l.length), i < k → p l[i] = false
theorem noneIn_zero {α : Type} (p : α → Bool) (l : List α) : NoneIn p l 0 := fun _ _ h => by omega
theorem noneIn_succ {α : Type} {p : α → Bool} {l : List α} {k : Nat} (h : k < l.length) (hn : NoneIn p l k) (hk : p l[k] = false) : NoneIn p l (k + 1) := fun i hi hik => by
  by_cases e : i = k
  · subst e; exact hk
  · exact hn i hi (by omega)
theorem idxOf_at {α : Type} {p : α → Bool} {l : List α} {k : Nat} (h : k < l.length) (hn : NoneIn p l k) (hk : p l[k] = true) : idxOf p l = k := by
  have : l.findIdx? p = some k := by
    rw [List.findIdx?_eq_some_iff_getElem]
    exact ⟨h, hk, fun j hj => by simpa using hn j (by omega) hj⟩
  unfold idxOf; rw [this]
theorem idxOf_none {α : Type} {p : α → Bool} {l : List α} {k : Nat} (h : l.length ≤ k) (hn : NoneIn p l k) : idxOf p l = -1 := by
  have : l.findIdx? p = none := by
    rw [List.findIdx?_eq_none_iff]
    intro x hx
    obtain ⟨i, hi, e⟩ := List.mem_iff_getElem.1 hx
    rw [← e]; exact hn i hi (by omega)
  unfold idxOf; rw [this]
theorem idxOf_any {α : Type} (p : α → Bool) (l : List α) : l.any p = true ↔ 0 ≤ idxOf p l := by
  unfold idxOf
  cases h : l.findIdx? p with
  | none =>
    rw [List.findIdx?_eq_none_iff] at h
    simp only [List.any_eq_true]
    constructor
    · rintro ⟨x, hx, hp⟩; rw [h x hx] at hp; cases hp
    · intro h2; omega
  | some i =>
    rw [List.findIdx?_eq_some_iff_getElem] at h
    obtain ⟨hi, hp, _⟩ := h
    simp only [List.any_eq_true]
    exact ⟨fun _ => by omega, fun _ => ⟨l[i], List.getElem_mem hi, hp⟩⟩
theorem idxOf_bd {α : Type} (p : α → Bool) (l : List α) : -1 ≤ idxOf p l ∧ idxOf p l < l.length + 1 := by
  unfold idxOf
  cases h : l.findIdx? p with
  | none => simp; omega
  | some i =>
    rw [List.findIdx?_eq_some_iff_getElem] at h
    obtain ⟨hi, _⟩ := h
    simp only; omega
end Go.Proofs.Ytnelgellbabkoaa

/- The walks of slices.IndexFunc and slices.ContainsFunc at Str: the first element of which a predicate holds; whether it holds of one. Condition: what the predicate gives is read off its contract. -/
namespace Go.Proofs.Ytnelgellbabkoaa
open Go.RowKit
namespace IdxStr
theorem cells_1 {ecs : List Value} (h : ecs.length = 1) : ∃ u0, ecs = [u0] := by
  match ecs, h with
  | [u0], _ => exact ⟨u0, rfl⟩

/-- what the predicate is -/
def Pred {α : Type} (R : Rd α) (p : α → Bool) (g : Nat) (cb : Array Value) (l : List α) (w : World) : Prop :=
  ∀ W u0 x, Below w.heap.size w W → x ∈ l → R W [u0] x → Calls Try.prog g (#[u0] ++ cb) W fun e w' => e = .returned (.bool (p x)) ∧ Below W.heap.size W w'
set_option maxRecDepth 10000 in
set_option maxHeartbeats 400000 in
theorem idx_any {α : Type} {R : Rd α} (hR : Stays R) (p : α → Bool) (g : Nat) (cb : Array Value) (eg : ∀ args w, (callFunc g args).run Try.prog w = .ok (.enter g args) w) {w : World} {v : Value} {l : List α} (hl : RSlice 1 R w [v] l) (hp : Pred R p g cb l w) :
    Calls Try.prog 143 #[v, .func (.func g) #[] cb] w fun e w' => e = .returned (.int .i64 (idxOf p l)) ∧ Below w.heap.size w w' := by
  obtain ⟨a, cap, hv, hcap, hmax, hel⟩ := hl
  simp only [List.cons.injEq, and_true] at hv
  subst hv
  unfold maxLen at hmax
  obtain ⟨n, hn⟩ : ∃ n, n = l.length := ⟨_, rfl⟩
  rw [← hn] at hcap ⊢
  have hn63 : n ≤ 9223372036854775807 := by omega
  have Hn := Lib.hid hn; have Hel := Lib.hid hel; have Hp := Lib.hid hp; clear hn hel hp
  go_enter Try.func143, Try.ntmps143
  go_wp2_with fail
  go_loopw [8] (fun i wr => ∃ k : Nat, k ≤ n ∧ i = .int .i64 k ∧ NoneIn p l k ∧ Below w.heap.size w wr) (fun i _ => n - (intOf i).toNat)
  case atStart => exact ⟨0, Nat.zero_le _, rfl, noneIn_zero p l, Below.refl _ _⟩
  case round =>
    obtain ⟨k, hk, rfl, hno, hb⟩ := hrel
    by_cases hlt : k < n
    · have hkl : k < l.length := by have := Hn.out; omega
      obtain ⟨x, hx⟩ : ∃ x, x = l[k]'hkl := ⟨_, rfl⟩
      obtain ⟨b, off, ecs, rfl, h4, h5, h6⟩ := Hel.out k x (by rw [hx]; exact List.getElem?_eq_getElem hkl)
      obtain ⟨u0, rfl⟩ : ∃ u0, ecs = [u0] := cells_1 h4
      have hxl : x ∈ l := by rw [hx]; exact List.getElem_mem hkl
      have c0 : wr.cell? ⟨b, off + k, none⟩ = some u0 := cell_later hb (by simpa using h5 0 u0 rfl)
      have hcall := Hp.out wr u0 x hb hxl (hR _ _ _ _ h6 hb)
      have q0 : (0 : Int) ≤ (k : Int) := by omega
      have q1 : (k : Int) < (n : Int) := by omega
      by_cases hpx : p x = true
      · rw [hpx] at hcall
        have hi : idxOf p l = k := idxOf_at hkl hno (by rw [← hx]; exact hpx)
        have Hx := Lib.hid hx; have Hno := Lib.hid hno; have Hcall := Lib.hid hcall; have H5 := Lib.hid h5; have H6 := Lib.hid h6; have Hpx := Lib.hid hpx; have Hi := Lib.hid hi; have Hb := Lib.hid hb; have Hxl := Lib.hid hxl; clear hx hno hcall h5 h6 hpx hi hb hxl
        clear h4
        go_wp2_with fail
        refine Hcall.out.mono ?_
        rintro e w2 ⟨rfl, hb2⟩
        have hb3 := Hb.out.trans (hb2.mono Hb.out.size)
        have Hb2 := Lib.hid hb2; have Hb3 := Lib.hid hb3; clear hb2 hb3
        go_wp2_with fail
        go_ret
        exact ⟨ret_int Hi.out.symm, Hb3.out⟩
      · have hpx' : p x = false := by simpa using hpx
        rw [hpx'] at hcall
        have hno2 := noneIn_succ hkl hno (by rw [← hx]; exact hpx')
        have Hx := Lib.hid hx; have Hno := Lib.hid hno; have Hcall := Lib.hid hcall; have H5 := Lib.hid h5; have H6 := Lib.hid h6; have Hpx := Lib.hid hpx; have Hpx' := Lib.hid hpx'; have Hno2 := Lib.hid hno2; have Hb := Lib.hid hb; have Hxl := Lib.hid hxl; clear hx hno hcall h5 h6 hpx hpx' hno2 hb hxl
        clear h4
        go_wp2_with fail
        refine Hcall.out.mono ?_
        rintro e w2 ⟨rfl, hb2⟩
        have hb3 := Hb.out.trans (hb2.mono Hb.out.size)
        have Hb2 := Lib.hid hb2; have Hb3 := Lib.hid hb3; clear hb2 hb3
        go_wp2_with fail
        go_roundw
        case rel => exact ⟨k + 1, by omega, by go_num, Hno2.out, Hb3.out⟩
        case measure => simp [intOf]; omega
    · have hi : idxOf p l = -1 := idxOf_none (by have := Hn.out; omega) hno
      have Hno := Lib.hid hno; have Hi := Lib.hid hi; have Hb := Lib.hid hb; clear hno hi hb
      go_wp2_with fail
      go_ret
      exact ⟨ret_int Hi.out.symm, Hb.out⟩
set_option maxRecDepth 10000 in
set_option maxHeartbeats 400000 in
theorem has_any {α : Type} {R : Rd α} (hR : Stays R) (p : α → Bool) (g : Nat) (cb : Array Value) (eg : ∀ args w, (callFunc g args).run Try.prog w = .ok (.enter g args) w) {w : World} {v : Value} {l : List α} (hl : RSlice 1 R w [v] l) (hp : Pred R p g cb l w) :
    Calls Try.prog 115 #[v, .func (.func g) #[] cb] w fun e w' => e = .returned (.bool (l.any p)) ∧ Below w.heap.size w w' := by
  have hI := idx_any hR p g cb eg hl hp
  have hab := idxOf_any p l
  obtain ⟨i, hi⟩ : ∃ i, i = idxOf p l := ⟨_, rfl⟩
  rw [← hi] at hI hab
  have Hl := Lib.hid hl; have Hp := Lib.hid hp; have HI := Lib.hid hI; have Hi := Lib.hid hi; have HR := Lib.hid hR; clear hl hp hI hi hR
  cases hq : l.any p with
  | true =>
    have hpos : 0 ≤ i := hab.1 hq
    have Hq := Lib.hid hq; have Hab := Lib.hid hab; clear hq hab
    go_enter Try.func115, Try.ntmps115
    go_wp2_with fail
    refine HI.out.mono ?_
    rintro e w2 ⟨rfl, hb2⟩
    have Hb2 := Lib.hid hb2; clear hb2
    go_wp2_with fail
    go_ret
    exact ⟨rfl, Hb2.out⟩
  | false =>
    have hneg : i < 0 := by
      rcases Int.lt_or_le i 0 with h | h
      · exact h
      · have := hab.2 h; rw [hq] at this; cases this
    have Hq := Lib.hid hq; have Hab := Lib.hid hab; clear hq hab
    go_enter Try.func115, Try.ntmps115
    go_wp2_with fail
    refine HI.out.mono ?_
    rintro e w2 ⟨rfl, hb2⟩
    have Hb2 := Lib.hid hb2; clear hb2
    go_wp2_with fail
    go_ret
    exact ⟨ret_bool (by simpa using hneg), Hb2.out⟩
end IdxStr
end Go.Proofs.Ytnelgellbabkoaa
