/- The walks of slices.SortStableFunc at luby.Note: symMergeCmpFunc in general. Printed by gen_stb.py. -/
import Derived.Test.YtoljhahmmdibfaaStbNoteN1
import Derived.Test.YtoljhahmmdibfaaStbNoteN2
import Derived.Deep.CutRange
set_option linter.unusedVariables false
set_option linter.unusedSimpArgs false
namespace Go.Proofs.Ytoljhahmmdibfaa
open Go.Shelf Go.RowKit Go.Lib Go.Sort SortM StbA StbB
namespace StbNote
variable {α : Type} [Inhabited α] {f0 : α → Int} {f1 : α → Int} {f2 : α → Int} {f3 : α → Bool} {w0 : World} {blk off : Nat} {d0 : Array α}
variable {cf : α → α → Int} {g : Nat} {cb : Array Value}
theorem and_no {P Q : Prop} [Decidable P] [Decidable Q] {x y : Bool} (hx : x = decide P) (hy : y = decide Q) (h : (x && y) = false) : ¬ P ∨ ¬ Q := by
  subst hx hy
  by_cases hP : P
  · by_cases hQ : Q
    · simp [hP, hQ] at h
    · exact .inr hQ
  · exact .inl hP
theorem and_yes {P Q : Prop} [Decidable P] [Decidable Q] {x y : Bool} (hx : x = decide P) (hy : y = decide Q) (h : (x && y) = true) : P ∧ Q := by
  subst hx hy
  simp only [Bool.and_eq_true, decide_eq_true_eq] at h
  exact h
/-- what a merge does -/
def MergeOf (cf : α → α → Int) (f : α → List Value) (g : Nat) (cb : Array Value) (w0 : World) (blk off cap : Nat) (d0 : Array α) (n : Nat) : Prop :=
  ∀ (dk : Array α) (w : World) (p u v q : List α) (a m b : Nat), SWK f 4 w0 blk off dk w → dk.toList = p ++ u ++ v ++ q → dk.size = d0.size → Sorted (ltOf cf) u → Sorted (ltOf cf) v → a = p.length → m = a + u.length → b = m + v.length → 0 < u.length → 0 < v.length → b - a ≤ n →
    Calls Try.prog 75 #[.slice (some ⟨blk, off, none⟩) d0.size cap, .int .i64 a, .int .i64 m, .int .i64 b, .func (.func g) #[] cb] w (Now f 4 w0 blk off (p ++ ssort (ltOf cf) (u ++ v) ++ q))
/-- the row is that list -/
def At (f : α → List Value) (w0 : World) (blk off : Nat) (l : List α) (w : World) : Prop := ∃ d : Array α, SWK f 4 w0 blk off d w ∧ d.toList = l
set_option maxRecDepth 10000 in
set_option maxHeartbeats 8000000 in
theorem merge_gen {nn : Nat} {dk : Array α} {w : World} (R : RowK (enc f0 f1 f2 f3) 4 w0 blk off d0) (S : SWK (enc f0 f1 f2 f3) 4 w0 blk off dk w) (C : CmpLays Try.prog g cb (enc f0 f1 f2 f3) 4 cf blk off d0.size w0) (eg : ∀ args w, (callFunc g args).run Try.prog w = .ok (.enter g args) w) (hO : Swo (ltOf cf))
    {p u v q : List α} (hd : dk.toList = p ++ u ++ v ++ q) (hs : dk.size = d0.size) (hu : Sorted (ltOf cf) u) (hv : Sorted (ltOf cf) v) {a m b : Nat} (ha : a = p.length) (hm : m = a + u.length) (hb : b = m + v.length) (h2 : 2 ≤ u.length) (h3 : 2 ≤ v.length) (hn1 : b - a ≤ nn + 1) (cap : Nat) (hn : d0.size ≤ 1000000)
    (IH : MergeOf cf (enc f0 f1 f2 f3) g cb w0 blk off cap d0 nn) :
    Calls Try.prog 75 #[.slice (some ⟨blk, off, none⟩) d0.size cap, .int .i64 a, .int .i64 m, .int .i64 b, .func (.func g) #[] cb] w (Now (enc f0 f1 f2 f3) 4 w0 blk off (p ++ ssort (ltOf cf) (u ++ v) ++ q)) := by
  have hbn : b ≤ d0.size := by rw [← hs, ← Array.length_toList, hd]; simp; omega
  obtain ⟨mid, hmid⟩ : ∃ x, x = (a + b) / 2 := ⟨_, rfl⟩
  obtain ⟨n, hnn⟩ : ∃ x, x = mid + m := ⟨_, rfl⟩
  obtain ⟨pn, hpn⟩ : ∃ x, x = n - 1 := ⟨_, rfl⟩
  obtain ⟨lo, hi, hlo⟩ : ∃ lo hi, (mid < m → lo = n - b ∧ hi = mid) ∧ (¬ mid < m → lo = a ∧ hi = m) := by
    by_cases h : mid < m
    · exact ⟨n - b, mid, fun _ => ⟨rfl, rfl⟩, fun h' => absurd h h'⟩
    · exact ⟨a, m, fun h' => absurd h' h, fun _ => ⟨rfl, rfl⟩⟩
  have hb1 : a ≤ lo ∧ lo ≤ hi ∧ hi ≤ m ∧ hi ≤ n ∧ m ≤ n - hi ∧ n - 1 - lo < b ∧ 0 < lo + m := by
    by_cases h : mid < m
    · have := hlo.1 h; omega
    · have := hlo.2 h; omega
  have hM := mono_sym hO (d := dk) (a := a) (m := m) (b := b) (n := n) (lo := lo) (hi := hi) (sortedIx_of hO (p := p) (u := u) (q := v ++ q) (by rw [hd]; simp) hu ha (by omega)) (sortedIx_of hO (p := p ++ u) (u := v) (q := q) hd hv (by simp; omega) (by simp; omega)) hb1.1 hb1.2.2.1 hb1.2.2.2.2.1 hb1.2.2.2.2.2.1 hb1.2.2.2.1
  have hend := fun s (hB : BS (fun c => !ltOf cf dk[n - 1 - c]! dk[c]!) lo hi s s) => sym_cut hO hd hu hv ha hm hb hmid hnn (by omega) hlo hB
  rw [← hpn] at hM hend
  have hB0 := BS.start (fun c => !ltOf cf dk[pn - c]! dk[c]!) hb1.2.1
  obtain ⟨tgt, htg⟩ : ∃ l, l = p ++ ssort (ltOf cf) (u ++ v) ++ q := ⟨_, rfl⟩
  have k1 : IntKind.i64.wrap ((m : Int) - (a : Int)) = (m : Int) - (a : Int) := IntWalk.i64_in _ (by omega)
  have k2 : ((m : Int) - (a : Int) == 1) = false := by rw [beq_eq_false_iff_ne]; omega
  have k3 : IntKind.i64.wrap ((b : Int) - (m : Int)) = (b : Int) - (m : Int) := IntWalk.i64_in _ (by omega)
  have k4 : ((b : Int) - (m : Int) == 1) = false := by rw [beq_eq_false_iff_ne]; omega
  have k5 : IntKind.i64.wrap ((a : Int) + (b : Int)) = (a : Int) + (b : Int) := IntWalk.i64_in _ (by omega)
  have k6 : ((a : Int) + (b : Int)) / 2 = (mid : Int) := by omega
  have k7 : IntKind.i64.wrap ((mid : Int) + (m : Int)) = (n : Int) := by rw [IntWalk.i64_in _ (by omega)]; omega
  have k8 : IntKind.i64.wrap ((n : Int) - 1) = (pn : Int) := by rw [IntWalk.i64_in _ (by omega)]; omega
  have ham : a < m := by omega
  have hmb : m < b := by omega
  have amid : a < mid := by omega
  have midb : mid < b := by omega
  rw [← htg]
  obtain ⟨N, hN⟩ : ∃ N, N = d0.size := ⟨_, rfl⟩
  rw [← hN] at hn hs hbn ⊢
  have IH' : MergeOf cf (enc f0 f1 f2 f3) g cb w0 blk off cap d0 nn := IH
  clear IH
  have hpp : p.length = a := ha.symm
  have HS := Lib.hid S; have HM := Lib.hid hM; have HB0 := Lib.hid hB0; have Hend := Lib.hid hend; have Htg := Lib.hid htg; have Hs := Lib.hid hs; have HN := Lib.hid hN; have HC := Lib.hid C; have HR := Lib.hid R; have HO := Lib.hid hO; have HIH' := Lib.hid IH'; have Hd := Lib.hid hd; have Hu := Lib.hid hu; have Hv := Lib.hid hv; have Ha := Lib.hid ha; have Hm := Lib.hid hm; have Hb := Lib.hid hb; have Hpp := Lib.hid hpp; have Hmid := Lib.hid hmid; have Hnn := Lib.hid hnn; have Hpn := Lib.hid hpn; have Hlo := Lib.hid hlo; have Hb1 := Lib.hid hb1; have Hn1 := Lib.hid hn1; clear S hM hB0 hend htg hs hN C R hO IH' hd hu hv ha hm hb hpp hmid hnn hpn hlo hb1 hn1
  go_enter Try.func75, Try.ntmps75
  go_upto_if 140 with fail
  clear k1 k2 k3 k4 k5 k6
  go_cut [20, 21] from 141 to 146 (fun x y wx => x = .int .i64 lo ∧ y = .int .i64 hi ∧ wx = w)
  case first =>
    by_cases hc : mid < m
    · obtain ⟨e1, e2⟩ := Hlo.out.1 hc
      have k9 : IntKind.i64.wrap ((n : Int) - (b : Int)) = (lo : Int) := by rw [IntWalk.i64_in _ (by have := Hmid.out; have := Hnn.out; omega)]; have := Hmid.out; have := Hnn.out; omega
      have k10 : decide ((mid : Int) < (m : Int)) = true := decide_eq_true (by omega)
      have He1 := Lib.hid e1; have He2 := Lib.hid e2; clear e1 e2
      go_wp2_with fail
      go_meet
      exact ⟨by rw [He1.out], by rw [He2.out], rfl⟩
    · obtain ⟨e1, e2⟩ := Hlo.out.2 hc
      have k10 : decide ((mid : Int) < (m : Int)) = false := decide_eq_false (by omega)
      have He1 := Lib.hid e1; have He2 := Lib.hid e2; clear e1 e2
      go_wp2_with fail
      go_meet
      exact ⟨by rw [He1.out], by rw [He2.out], rfl⟩
  case rest =>
    obtain ⟨rfl, rfl, rfl⟩ := hcut
    go_wp2_with fail
    clear k8
    go_loopw [20, 21] (fun x y wr => ∃ (i j : Nat), x = .int .i64 i ∧ y = .int .i64 j ∧ BS (fun c => !ltOf cf dk[pn - c]! dk[c]!) lo hi i j ∧ SWK (enc f0 f1 f2 f3) 4 w0 blk off dk wr) (fun x y _ => (intOf y).toNat - (intOf x).toNat)
    case atStart => exact ⟨lo, hi, rfl, rfl, HB0.out, HS.out⟩
    case round =>
      obtain ⟨i, j, rfl, rfl, hB, S⟩ := hrel
      have l1 := hB.l1
      have l2 := hB.l2
      have l3 := hB.l3
      by_cases hlt : i < j
      · have R := HR.out
        have C := HC.out
        have hs := Hs.out
        rw [HN.out] at hs
        have hN' := HN.out
        have hbb := Hb1.out
        have hpn := Hpn.out
        have hdks : dk.size = N := Hs.out
        obtain ⟨h, hh⟩ : ∃ h, h = (i + j) / 2 := ⟨_, rfl⟩
        have w1 : IntKind.i64.wrap ((i : Int) + (j : Int)) = (i : Int) + (j : Int) := IntWalk.i64_in _ (by omega)
        have w2 : ((i : Int) + (j : Int)) / 2 = (h : Int) := by omega
        have hpc : pn - h < N := by omega
        have hhc : h < N := by omega
        have hGR := fun n os => SWK.grown S n os
        have hp := fun n os => cells (SWK.grown S n os) R hs (pn - h) (by omega)
        obtain ⟨x, hx⟩ : ∃ v, v = dk[pn - h]! := ⟨_, rfl⟩
        have hq := fun n os => cells (SWK.grown S n os) R hs (h) (by omega)
        obtain ⟨y, hy⟩ : ∃ v, v = dk[h]! := ⟨_, rfl⟩
        have hc := fun n os => SWK.cmp S C hs x y n os
        rw [← hx] at hp
        rw [← hy] at hq
        obtain ⟨x0, hx0⟩ : ∃ v, v = f0 x := ⟨_, rfl⟩
        obtain ⟨x1, hx1⟩ : ∃ v, v = f1 x := ⟨_, rfl⟩
        obtain ⟨x2, hx2⟩ : ∃ v, v = f2 x := ⟨_, rfl⟩
        obtain ⟨x3, hx3⟩ : ∃ v, v = f3 x := ⟨_, rfl⟩
        obtain ⟨y0, hy0⟩ : ∃ v, v = f0 y := ⟨_, rfl⟩
        obtain ⟨y1, hy1⟩ : ∃ v, v = f1 y := ⟨_, rfl⟩
        obtain ⟨y2, hy2⟩ : ∃ v, v = f2 y := ⟨_, rfl⟩
        obtain ⟨y3, hy3⟩ : ∃ v, v = f3 y := ⟨_, rfl⟩
        rw [← hx0, ← hx1, ← hx2, ← hx3] at hp
        rw [← hy0, ← hy1, ← hy2, ← hy3] at hq
        have p0 := fun n os => (hp n os).1
        have p1 := fun n os => (hp n os).2.2.1
        have p2 := fun n os => (hp n os).2.2.2.2.1
        have p3 := fun n os => (hp n os).2.2.2.2.2.2.1
        have q0 := fun n os => (hq n os).1
        have q1 := fun n os => (hq n os).2.2.1
        have q2 := fun n os => (hq n os).2.2.2.2.1
        have q3 := fun n os => (hq n os).2.2.2.2.2.2.1
        clear hp hq
        have hcg : ∀ n os, Calls Try.prog g (#[.agg #[.int .i64 (x0), .int .i64 (x1), .int .i64 (x2), .bool (x3)], .agg #[.int .i64 (y0), .int .i64 (y1), .int .i64 (y2), .bool (y3)]] ++ cb) (grow (wr.drewN n) os) fun e w' => e = .returned (.int .i64 (cf x y)) ∧ ∃ q os', w' = grow ((grow (wr.drewN n) os).drewN q) os' := by rw [hx0, hy0, hx1, hy1, hx2, hy2, hx3, hy3]; exact hc
        clear hc
        obtain ⟨cv, hcv⟩ : ∃ v, v = cf x y := ⟨_, rfl⟩
        rw [← hcv] at hcg
        have hl : (h : Int) < (N : Int) := by omega
        have w3 : IntKind.i64.wrap ((pn : Int) - (h : Int)) = ((pn - h : Nat) : Int) := by rw [IntWalk.i64_in _ (by omega)]; omega
        obtain ⟨ph, hph⟩ : ∃ x, x = pn - h := ⟨_, rfl⟩
        have al : (ph : Int) < (N : Int) := by omega
        rw [← hph] at w3
        rw [← hph] at p0 p1 p2 p3
        have hij1 : i ≤ h := by omega
        have hij2 : h < j := by omega
        clear S hs R C hN' hbb hpn hdks hpc hhc
        cases hdec : decide (cv < 0) with
        | true =>
          have hB2 := hB.right HM.out hij1 hij2 (by show (!ltOf cf dk[pn - h]! dk[h]!) = false; rw [← hx, ← hy]; unfold ltOf; rw [← hcv, hdec]; rfl)
          have hlv : cv < 0 := of_decide_eq_true hdec
          have hdn : (!decide (cv < 0)) = false := by rw [hdec]; rfl
          have HB := Lib.hid hB; have HB2 := Lib.hid hB2; have Hx := Lib.hid hx; have Hy := Lib.hid hy; have Hx0 := Lib.hid hx0; have Hy0 := Lib.hid hy0; have Hx1 := Lib.hid hx1; have Hy1 := Lib.hid hy1; have Hx2 := Lib.hid hx2; have Hy2 := Lib.hid hy2; have Hx3 := Lib.hid hx3; have Hy3 := Lib.hid hy3; have HGR := Lib.hid hGR; have Hcv := Lib.hid hcv; have Hh := Lib.hid hh; have Hdec := Lib.hid hdec; have Hph := Lib.hid hph; clear hB hB2 hx hy hx0 hy0 hx1 hy1 hx2 hy2 hx3 hy3 hGR hcv hh hdec hph
          go_wp2_with fail
          have mixed : Try.prog.follows .mixedOrders = true := by kernel_rfl
          go_quiet_grown (first | (go_at_fn g; refine Calls.grown_of (hcg _ _)))
          go_wp2_with fail
          go_roundw
          case rel => exact ⟨i, h, rfl, rfl, HB2.out, HGR.out _ _⟩
          case measure => simp [intOf]; omega
        | false =>
          have hB2 := hB.left HM.out hij1 hij2 (by show (!ltOf cf dk[pn - h]! dk[h]!) = true; rw [← hx, ← hy]; unfold ltOf; rw [← hcv, hdec]; rfl)
          have hlv : ¬ cv < 0 := of_decide_eq_false hdec
          have hdn : (!decide (cv < 0)) = true := by rw [hdec]; rfl
          have HB := Lib.hid hB; have HB2 := Lib.hid hB2; have Hx := Lib.hid hx; have Hy := Lib.hid hy; have Hx0 := Lib.hid hx0; have Hy0 := Lib.hid hy0; have Hx1 := Lib.hid hx1; have Hy1 := Lib.hid hy1; have Hx2 := Lib.hid hx2; have Hy2 := Lib.hid hy2; have Hx3 := Lib.hid hx3; have Hy3 := Lib.hid hy3; have HGR := Lib.hid hGR; have Hcv := Lib.hid hcv; have Hh := Lib.hid hh; have Hdec := Lib.hid hdec; have Hph := Lib.hid hph; clear hB hB2 hx hy hx0 hy0 hx1 hy1 hx2 hy2 hx3 hy3 hGR hcv hh hdec hph
          go_wp2_with fail
          have mixed : Try.prog.follows .mixedOrders = true := by kernel_rfl
          go_quiet_grown (first | (go_at_fn g; refine Calls.grown_of (hcg _ _)))
          go_wp2_with fail
          go_roundw
          case rel => exact ⟨h + 1, j, by go_num, rfl, HB2.out, HGR.out _ _⟩
          case measure => simp [intOf]; omega
      · obtain rfl : i = j := by omega
        have hE := Hend.out i hB
        have HB := Lib.hid hB; have HS := Lib.hid S; have HE := Lib.hid hE; clear hB S hE
        obtain ⟨x1, x2, y1, y2, e1, e2, e3, e4, e5⟩ := HE.out
        have hwn : IntKind.i64.wrap ((n : Int) - (i : Int)) = ((n - i : Nat) : Int) := by
          have := Hb1.out; have := Hnn.out; have := Hmid.out
          rw [IntWalk.i64_in _ (by omega)]; omega
        have c1 : i < m ↔ 0 < x2.length := by
          have := Hm.out; rw [e1, List.length_append] at this; omega
        have c2 : m < n - i ↔ 0 < y1.length := by omega
        have hln : x1.length + y1.length = mid - a := by have := Hnn.out; omega
        have c3 : a < i ↔ 0 < x1.length := by omega
        have c4 : i < mid ↔ 0 < y1.length := by omega
        have hlv : m + (y1.length + y2.length) = b := by have := Hb.out; rw [e2, List.length_append] at this; omega
        have hlu : a + (x1.length + x2.length) = m := by have := Hm.out; rw [e1, List.length_append] at this; omega
        have c5 : mid < n - i ↔ 0 < x2.length := by have := Hnn.out; omega
        have c6 : n - i < b ↔ 0 < y2.length := by omega
        obtain ⟨en, hen⟩ : ∃ x, x = n - i := ⟨_, rfl⟩
        rw [← hen] at hwn c2 c5 c6 e4
        -- the rotation
        have A0 : ∀ wr, SWK (enc f0 f1 f2 f3) 4 w0 blk off dk wr → 0 < x2.length → 0 < y1.length → Calls Try.prog 86 #[.slice (some ⟨blk, off, none⟩) N cap, .int .i64 i, .int .i64 m, .int .i64 en, .func (.func g) #[] cb] wr (Now (enc f0 f1 f2 f3) 4 w0 blk off (p ++ x1 ++ y1 ++ x2 ++ (y2 ++ q))) := fun wr S h1 h2 => by
          have := rotate_any (p := p ++ x1) (u := x2) (v := y1) (q := y2 ++ q) (a := i) (m := m) (b := en) HR.out S (by rw [Hd.out, e1, e2]; simp) (by rw [Hs.out, HN.out]) (by rw [List.length_append, Hpp.out]; omega) (by omega) (by omega) h1 h2 cap (by rw [← HN.out]; exact hn) (.func (.func g) #[] cb)
          rw [← HN.out] at this
          exact this
        have A1 : (¬ 0 < x2.length ∨ ¬ 0 < y1.length) → At (enc f0 f1 f2 f3) w0 blk off (p ++ x1 ++ y1 ++ x2 ++ (y2 ++ q)) wr := fun h => by
          refine ⟨dk, HS.out, ?_⟩
          rw [Hd.out, e1, e2]
          rcases h with h | h
          · have : x2 = [] := List.eq_nil_of_length_eq_zero (by omega)
            subst this; simp
          · have : y1 = [] := List.eq_nil_of_length_eq_zero (by omega)
            subst this; simp
        have hsz : ∀ d : Array α, d.toList = p ++ x1 ++ y1 ++ x2 ++ (y2 ++ q) → d.size = d0.size := fun d h => by
          rw [← HN.out, ← Hs.out, ← Array.length_toList, ← Array.length_toList, h, Hd.out, e1, e2]
          simp only [List.length_append]; omega
        have hsz2 : ∀ d : Array α, d.toList = p ++ ssort (ltOf cf) (x1 ++ y1) ++ x2 ++ (y2 ++ q) → d.size = d0.size := fun d h => by
          rw [← HN.out, ← Hs.out, ← Array.length_toList, ← Array.length_toList, h, Hd.out, e1, e2]
          simp only [List.length_append, ssort_len HO.out]; omega
        have su : Sorted (ltOf cf) x1 ∧ Sorted (ltOf cf) x2 := by have := Hu.out; rw [e1] at this; exact ⟨(List.pairwise_append.1 this).1, (List.pairwise_append.1 this).2.1⟩
        have sv : Sorted (ltOf cf) y1 ∧ Sorted (ltOf cf) y2 := by have := Hv.out; rw [e2] at this; exact ⟨(List.pairwise_append.1 this).1, (List.pairwise_append.1 this).2.1⟩
        have B0 : ∀ wr, At (enc f0 f1 f2 f3) w0 blk off (p ++ x1 ++ y1 ++ x2 ++ (y2 ++ q)) wr → 0 < x1.length → 0 < y1.length → Calls Try.prog 75 #[.slice (some ⟨blk, off, none⟩) N cap, .int .i64 a, .int .i64 i, .int .i64 mid, .func (.func g) #[] cb] wr (Now (enc f0 f1 f2 f3) 4 w0 blk off (p ++ ssort (ltOf cf) (x1 ++ y1) ++ (x2 ++ (y2 ++ q)))) := fun wr ⟨d, S, h⟩ h1 h2 => by
          have := HIH'.out d wr p x1 y1 (x2 ++ (y2 ++ q)) a i mid S (by rw [h]; simp) (hsz d h) su.1 sv.1 Hpp.out.symm (by omega) (by omega) h1 h2 (by have := Hn1.out; omega)
          rw [← HN.out] at this
          exact this
        have B1 : ∀ wr, At (enc f0 f1 f2 f3) w0 blk off (p ++ x1 ++ y1 ++ x2 ++ (y2 ++ q)) wr → (¬ 0 < x1.length ∨ ¬ 0 < y1.length) → At (enc f0 f1 f2 f3) w0 blk off (p ++ ssort (ltOf cf) (x1 ++ y1) ++ (x2 ++ (y2 ++ q))) wr := fun wr ⟨d, S, h⟩ h1 => by
          refine ⟨d, S, ?_⟩
          rw [h]
          rcases h1 with h1 | h1
          · have : x1 = [] := List.eq_nil_of_length_eq_zero (by omega)
            subst this; simp only [List.append_nil, List.nil_append, ssort_id HO.out sv.1, List.append_assoc]
          · have : y1 = [] := List.eq_nil_of_length_eq_zero (by omega)
            subst this; simp only [List.append_nil, List.nil_append, ssort_id HO.out su.1, List.append_assoc]
        have D0 : ∀ wr, At (enc f0 f1 f2 f3) w0 blk off (p ++ ssort (ltOf cf) (x1 ++ y1) ++ (x2 ++ (y2 ++ q))) wr → 0 < x2.length → 0 < y2.length → Calls Try.prog 75 #[.slice (some ⟨blk, off, none⟩) N cap, .int .i64 mid, .int .i64 en, .int .i64 b, .func (.func g) #[] cb] wr (Now (enc f0 f1 f2 f3) 4 w0 blk off tgt) := fun wr ⟨d, S, h⟩ h1 h2 => by
          have := HIH'.out d wr (p ++ ssort (ltOf cf) (x1 ++ y1)) x2 y2 q mid en b S (by rw [h]; simp) (hsz2 d (by rw [h]; simp)) su.2 sv.2 (by rw [List.length_append, ssort_len HO.out, List.length_append, Hpp.out]; omega) (by omega) (by omega) h1 h2 (by have := Hn1.out; omega)
          rw [← HN.out] at this
          rw [Htg.out, e5]
          simpa using this
        have D1 : ∀ wr, At (enc f0 f1 f2 f3) w0 blk off (p ++ ssort (ltOf cf) (x1 ++ y1) ++ (x2 ++ (y2 ++ q))) wr → (¬ 0 < x2.length ∨ ¬ 0 < y2.length) → At (enc f0 f1 f2 f3) w0 blk off tgt wr := fun wr ⟨d, S, h⟩ h1 => by
          refine ⟨d, S, ?_⟩
          rw [h, Htg.out, e5]
          rcases h1 with h1 | h1
          · have : x2 = [] := List.eq_nil_of_length_eq_zero (by omega)
            subst this; simp only [List.append_nil, List.nil_append, ssort_id HO.out sv.2, List.append_assoc]
          · have : y2 = [] := List.eq_nil_of_length_eq_zero (by omega)
            subst this; simp only [List.append_nil, List.nil_append, ssort_id HO.out su.2, List.append_assoc]
        -- which of the parts hold elements
        obtain ⟨X1, hX1⟩ : ∃ c, c = decide (0 < x1.length) := ⟨_, rfl⟩
        obtain ⟨X2, hX2⟩ : ∃ c, c = decide (0 < x2.length) := ⟨_, rfl⟩
        obtain ⟨Y1, hY1⟩ : ∃ c, c = decide (0 < y1.length) := ⟨_, rfl⟩
        obtain ⟨Y2, hY2⟩ : ∃ c, c = decide (0 < y2.length) := ⟨_, rfl⟩
        have g1 : decide ((i : Int) < (m : Int)) = X2 := by rw [hX2]; exact decide_eq_decide.2 (by omega)
        have g2 : decide ((m : Int) < (en : Int)) = Y1 := by rw [hY1]; exact decide_eq_decide.2 (by omega)
        have g3 : decide ((a : Int) < (i : Int)) = X1 := by rw [hX1]; exact decide_eq_decide.2 (by omega)
        have g4 : decide ((i : Int) < (mid : Int)) = Y1 := by rw [hY1]; exact decide_eq_decide.2 (by omega)
        have g5 : decide ((mid : Int) < (en : Int)) = X2 := by rw [hX2]; exact decide_eq_decide.2 (by omega)
        have g6 : decide ((en : Int) < (b : Int)) = Y2 := by rw [hY2]; exact decide_eq_decide.2 (by omega)
        have r1 : decide (i < m) = X2 := by rw [hX2]; exact decide_eq_decide.2 (by omega)
        have r2 : decide (m < en) = Y1 := by rw [hY1]; exact decide_eq_decide.2 (by omega)
        have r3 : decide (a < i) = X1 := by rw [hX1]; exact decide_eq_decide.2 (by omega)
        have r4 : decide (i < mid) = Y1 := by rw [hY1]; exact decide_eq_decide.2 (by omega)
        have r5 : decide (mid < en) = X2 := by rw [hX2]; exact decide_eq_decide.2 (by omega)
        have r6 : decide (en < b) = Y2 := by rw [hY2]; exact decide_eq_decide.2 (by omega)
        clear c1 c2 c3 c4 c5 c6 e1 e2 e3 e4 e5 hln hlv hlu l1 l2 l3 hlt
        have HA0 := Lib.hid A0; have HA1 := Lib.hid A1; have HB0 := Lib.hid B0; have HB1 := Lib.hid B1; have HD0 := Lib.hid D0; have HD1 := Lib.hid D1; have HX1 := Lib.hid hX1; have HX2 := Lib.hid hX2; have HY1 := Lib.hid hY1; have HY2 := Lib.hid hY2; have Hsz := Lib.hid hsz; have Hsz2 := Lib.hid hsz2; have Hsu := Lib.hid su; have Hsv := Lib.hid sv; have Hen := Lib.hid hen; clear A0 A1 B0 B1 D0 D1 hX1 hX2 hY1 hY2 hsz hsz2 su sv hen
        go_upto_region 39 with fail
        go_cut [185] from 178 to 185 (fun x wx => x = .bool (X2 && Y1) ∧ wx = wr)
        case first => cases X2 <;> cases Y1 <;> (go_wp2_with fail; go_meet; exact ⟨rfl, rfl⟩)
        case rest =>
        obtain ⟨rfl, rfl⟩ := hcut
        go_upto_if 185 with fail
        go_cut [] from 178 to 191 (fun wx => At (enc f0 f1 f2 f3) w0 blk off (p ++ x1 ++ y1 ++ x2 ++ (y2 ++ q)) wx)
        case first =>
          cases hc : (X2 && Y1) with
          | true =>
            have hc2 := HA0.out _ HS.out (and_yes HX2.out HY1.out hc).1 (and_yes HX2.out HY1.out hc).2
            have Hc := Lib.hid hc; have Hc2 := Lib.hid hc2; clear hc hc2
            go_wp2_with fail
            refine Hc2.out.mono ?_
            rintro e w2 ⟨rfl, hw2⟩
            have Hw2 := Lib.hid hw2; clear hw2
            go_wp2_with fail
            go_meet
            exact Hw2.out
          | false =>
            have hc2 := HA1.out (and_no HX2.out HY1.out hc)
            have Hc := Lib.hid hc; have Hc2 := Lib.hid hc2; clear hc hc2
            go_wp2_with fail
            go_meet
            exact Hc2.out
        case rest =>
        have hA := hcut
        clear hcut
        have HA := Lib.hid hA; clear hA
        go_upto_region 41 with fail
        go_cut [199] from 192 to 199 (fun x wx => x = .bool (X1 && Y1) ∧ wx = wc)
        case first => cases X1 <;> cases Y1 <;> (go_wp2_with fail; go_meet; exact ⟨rfl, rfl⟩)
        case rest =>
        obtain ⟨rfl, rfl⟩ := hcut
        go_upto_if 199 with fail
        go_cut [] from 192 to 205 (fun wx => At (enc f0 f1 f2 f3) w0 blk off (p ++ ssort (ltOf cf) (x1 ++ y1) ++ (x2 ++ (y2 ++ q))) wx)
        case first =>
          cases hc : (X1 && Y1) with
          | true =>
            have hc2 := HB0.out _ HA.out (and_yes HX1.out HY1.out hc).1 (and_yes HX1.out HY1.out hc).2
            have Hc := Lib.hid hc; have Hc2 := Lib.hid hc2; clear hc hc2
            go_wp2_with fail
            refine Hc2.out.mono ?_
            rintro e w2 ⟨rfl, hw2⟩
            have Hw2 := Lib.hid hw2; clear hw2
            go_wp2_with fail
            go_meet
            exact Hw2.out
          | false =>
            have hc2 := HB1.out _ HA.out (and_no HX1.out HY1.out hc)
            have Hc := Lib.hid hc; have Hc2 := Lib.hid hc2; clear hc hc2
            go_wp2_with fail
            go_meet
            exact Hc2.out
        case rest =>
        have hB := hcut
        clear hcut
        have HB := Lib.hid hB; clear hB
        go_upto_region 43 with fail
        go_cut [213] from 206 to 213 (fun x wx => x = .bool (X2 && Y2) ∧ wx = wc)
        case first => cases X2 <;> cases Y2 <;> (go_wp2_with fail; go_meet; exact ⟨rfl, rfl⟩)
        case rest =>
        obtain ⟨rfl, rfl⟩ := hcut
        go_upto_if 213 with fail
        cases hc : (X2 && Y2) with
        | true =>
          have hc2 := HD0.out _ HB.out (and_yes HX2.out HY2.out hc).1 (and_yes HX2.out HY2.out hc).2
          have Hc := Lib.hid hc; have Hc2 := Lib.hid hc2; clear hc hc2
          go_wp2_with fail
          refine Hc2.out.mono ?_
          rintro e w2 ⟨rfl, hw2⟩
          have Hw2 := Lib.hid hw2; clear hw2
          go_wp2_with fail
          go_end0
          exact ⟨rfl, Hw2.out⟩
        | false =>
          have hc2 := HD1.out _ HB.out (and_no HX2.out HY2.out hc)
          have Hc := Lib.hid hc; have Hc2 := Lib.hid hc2; clear hc hc2
          go_wp2_with fail
          go_end0
          exact ⟨rfl, Hc2.out⟩
end StbNote
end Go.Proofs.Ytoljhahmmdibfaa
