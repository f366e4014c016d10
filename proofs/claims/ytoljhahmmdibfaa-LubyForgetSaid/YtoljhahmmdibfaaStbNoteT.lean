/- The walks of slices.SortStableFunc at luby.Note: stableCmpFunc and SortStableFunc. Printed by gen_stb.py. -/
import Derived.Test.YtoljhahmmdibfaaStbNoteN3
import Derived.Test.YtoljhahmmdibfaaStbNoteI
set_option linter.unusedVariables false
set_option linter.unusedSimpArgs false
namespace Go.Proofs.Ytoljhahmmdibfaa
open Go.Shelf Go.RowKit Go.Lib Go.Sort SortM StbA StbB
namespace StbNote
variable {α : Type} [Inhabited α] {f0 : α → Int} {f1 : α → Int} {f2 : α → Int} {f3 : α → Bool} {w0 : World} {blk off : Nat} {d0 : Array α}
variable {cf : α → α → Int} {g : Nat} {cb : Array Value}
theorem merge_any (R : RowK (enc f0 f1 f2 f3) 4 w0 blk off d0) (C : CmpLays Try.prog g cb (enc f0 f1 f2 f3) 4 cf blk off d0.size w0) (eg : ∀ args w, (callFunc g args).run Try.prog w = .ok (.enter g args) w) (hO : Swo (ltOf cf)) (cap : Nat) (hn : d0.size ≤ 1000000) : ∀ n, MergeOf cf (enc f0 f1 f2 f3) g cb w0 blk off cap d0 n := by
  intro n
  induction n with
  | zero => intro dk w p u v q a m b S hd hs hu hv ha hm hb h1 h2 hle; omega
  | succ n IH =>
    intro dk w p u v q a m b S hd hs hu hv ha hm hb h1 h2 hle
    match u, hd, hu, hm, h1 with
    | [], _, _, _, h1 => simp at h1
    | [x], hd, hu, hm, h1 => exact merge_left R S C eg hO (p := p) (v := v) (q := q) (x := x) (by rw [hd]; simp) hs hv ha (by simpa using hm) hb cap hn
    | x :: x2 :: u, hd, hu, hm, h1 =>
      match v, hd, hv, hb, h2 with
      | [], _, _, _, h2 => simp at h2
      | [y], hd, hv, hb, h2 => exact merge_right R S C eg hO (p := p) (u := x :: x2 :: u) (q := q) (x := y) (by rw [hd]; simp) hs hu ha hm (by simpa using hb) (by simp) cap hn
      | y :: y2 :: v, hd, hv, hb, h2 => exact merge_gen R S C eg hO hd hs hu hv ha hm hb (by simp) (by simp) hle cap hn IH
set_option maxRecDepth 10000 in
set_option maxHeartbeats 8000000 in
theorem stable_any (R : RowK (enc f0 f1 f2 f3) 4 w0 blk off d0) (C : CmpLays Try.prog g cb (enc f0 f1 f2 f3) 4 cf blk off d0.size w0) (eg : ∀ args w, (callFunc g args).run Try.prog w = .ok (.enter g args) w) (hO : Swo (ltOf cf)) (cap : Nat) (hn : d0.size ≤ 1000000) :
    Calls Try.prog 69 #[.slice (some ⟨blk, off, none⟩) d0.size cap, .int .i64 d0.size, .func (.func g) #[] cb] w0 (Now (enc f0 f1 f2 f3) 4 w0 blk off (ssort (ltOf cf) d0.toList)) := by
  have hM := merge_any R C eg hO cap hn d0.size
  have hS : SWK (enc f0 f1 f2 f3) 4 w0 blk off d0 w0 := SWK.start R.hH
  have hI := fun (dk : Array α) (wr : World) (a b : Nat) (S : SWK (enc f0 f1 f2 f3) 4 w0 blk off dk wr) (hs : dk.size = d0.size) (hab : a ≤ b) (hb : b ≤ d0.size) => insertion_any R S C eg hs hab hb cap hn
  obtain ⟨l0, hl0⟩ : ∃ l, l = d0.toList := ⟨_, rfl⟩
  have hlen : l0.length = d0.size := by rw [hl0, Array.length_toList]
  have hP0 : P1 (ltOf cf) l0 20 0 d0 := P1.start l0 20 hl0.symm
  rw [← hl0]
  unfold MergeOf at hM
  obtain ⟨N, hN⟩ : ∃ N, N = d0.size := ⟨_, rfl⟩
  rw [← hN] at hn hlen hI hM ⊢
  have HM := Lib.hid hM; have HS := Lib.hid hS; have HI := Lib.hid hI; have Hl0 := Lib.hid hl0; have Hlen := Lib.hid hlen; have HP0 := Lib.hid hP0; have HN := Lib.hid hN; have HC := Lib.hid C; have HR := Lib.hid R; have HO := Lib.hid hO; clear hM hS hI hl0 hlen hP0 hN C R hO
  go_enter Try.func69, Try.ntmps69
  go_wp2_with fail
  go_loopw [7, 8] (fun x y wr => ∃ (a : Nat) (dk : Array α), x = .int .i64 a ∧ y = .int .i64 ((a : Int) + 20) ∧ P1 (ltOf cf) l0 20 a dk ∧ SWK (enc f0 f1 f2 f3) 4 w0 blk off dk wr) (fun x _ _ => N + 20 - (intOf x).toNat)
  case atStart => exact ⟨0, d0, rfl, rfl, HP0.out, HS.out⟩
  case round =>
    obtain ⟨a, dk, rfl, rfl, hP, S⟩ := hrel
    have hle := hP.le
    rw [Hlen.out] at hle
    have hsz := hP.size HO.out
    rw [Hlen.out] at hsz
    by_cases hlt : a + 20 ≤ N
    · have v1 : decide ((a : Int) + 20 ≤ (N : Int)) = true := decide_eq_true (by omega)
      have v2 : (a : Int) + 20 ≤ (N : Int) := by omega
      have w1 : IntKind.i64.wrap ((a : Int) + 20 + 20) = (a : Int) + 20 + 20 := IntWalk.i64_in _ (by omega)
      have hc := HI.out dk wr a (a + 20) S (by rw [hsz]) (by omega) (by omega)
      rw [show ((a + 20 : Nat) : Int) = (a : Int) + 20 by omega] at hc
      have hP2 := hP.step HO.out (by rw [Hlen.out]; omega)
      have HP := Lib.hid hP; have HS := Lib.hid S; have HP2 := Lib.hid hP2; have Hc := Lib.hid hc; have Hsz := Lib.hid hsz; have Hle := Lib.hid hle; clear hP S hP2 hc hsz hle
      go_wp2_with fail
      refine Hc.out.mono ?_
      rintro e w2 ⟨rfl, S⟩
      have HS := Lib.hid S; clear S
      go_wp2_with fail
      go_roundw
      case rel => exact ⟨a + 20, _, by go_num, by go_num, HP2.out, HS.out⟩
      case measure => simp [intOf]; omega
    · have v1 : decide ((a : Int) + 20 ≤ (N : Int)) = false := decide_eq_false (by omega)
      have v2 : ¬ (a : Int) + 20 ≤ (N : Int) := by omega
      have hc := HI.out dk wr a N S (by rw [hsz]) (by omega) (by omega)
      have hP2 := hP.last HO.out (n := N) Hlen.out.symm (by omega)
      clear HI
      have HP := Lib.hid hP; have HS := Lib.hid S; have HP2 := Lib.hid hP2; have Hc := Lib.hid hc; have Hsz := Lib.hid hsz; have Hle := Lib.hid hle; clear hP S hP2 hc hsz hle
      go_wp2_with fail
      refine Hc.out.mono ?_
      rintro e w2 ⟨rfl, S⟩
      clear v1 v2
      have HS := Lib.hid S; clear S
      go_wp2_with fail
      go_loopw [6] (fun x wr => ∃ (bs : Nat) (dk : Array α), x = .int .i64 bs ∧ 20 ≤ bs ∧ bs ≤ 2 * N + 20 ∧ P2 (ltOf cf) l0 bs dk ∧ SWK (enc f0 f1 f2 f3) 4 w0 blk off dk wr) (fun x _ => N - (intOf x).toNat)
      case atStart => exact ⟨20, _, rfl, Nat.le_refl _, by omega, HP2.out, HS.out⟩
      case round =>
        obtain ⟨bs, dk, rfl, hb1, hb2, hP, S⟩ := hrel
        by_cases hlt2 : bs < N
        · have v2 : (bs : Int) < (N : Int) := by omega
          have w1 : IntKind.i64.wrap (2 * (bs : Int)) = 2 * (bs : Int) := IntWalk.i64_in _ (by omega)
          have w1' : IntKind.i64.wrap ((bs : Int) * 2) = 2 * (bs : Int) := by rw [IntWalk.i64_in _ (by omega)]; omega
          have hP3 := P3.start hP
          have HP := Lib.hid hP; have HS := Lib.hid S; have HP3 := Lib.hid hP3; clear hP S hP3
          go_wp2_with fail
          go_loopw [7, 8] (fun x y wr => ∃ (a : Nat) (dk : Array α), x = .int .i64 a ∧ y = .int .i64 ((a : Int) + 2 * (bs : Int)) ∧ P3 (ltOf cf) l0 bs a dk ∧ SWK (enc f0 f1 f2 f3) 4 w0 blk off dk wr) (fun x _ _ => N + 2 * bs - (intOf x).toNat)
          case atStart => exact ⟨0, dk, rfl, by go_num, HP3.out, HS.out⟩
          case round =>
            obtain ⟨a, dk, rfl, rfl, hP, S⟩ := hrel
            have hsz := hP.size HO.out
            rw [Hlen.out] at hsz
            obtain ⟨hsz, hle⟩ := hsz
            rw [hsz] at hle
            have w2 : IntKind.i64.wrap ((a : Int) + (bs : Int)) = (a : Int) + (bs : Int) := IntWalk.i64_in _ (by omega)
            by_cases hlt3 : a + 2 * bs ≤ N
            · have v3 : decide ((a : Int) + 2 * (bs : Int) ≤ (N : Int)) = true := decide_eq_true (by omega)
              have v4 : (a : Int) + 2 * (bs : Int) ≤ (N : Int) := by omega
              have w3 : IntKind.i64.wrap ((a : Int) + 2 * (bs : Int) + 2 * (bs : Int)) = (a : Int) + 2 * (bs : Int) + 2 * (bs : Int) := IntWalk.i64_in _ (by omega)
              obtain ⟨p, u, v, q, q1, q2, q3, q4, q5, q6, q7⟩ := hP.step HO.out (by rw [Hlen.out]; omega) (by omega)
              have hc := HM.out dk wr p u v q a (a + bs) (a + 2 * bs) S q1 (by rw [hsz, HN.out]) q2 q3 q4 (by omega) (by omega) (by omega) (by omega) (by omega)
              rw [show ((a + bs : Nat) : Int) = (a : Int) + (bs : Int) by omega, show ((a + 2 * bs : Nat) : Int) = (a : Int) + 2 * (bs : Int) by omega] at hc
              clear q1 q2 q3 q4 q5 q6
              have HP := Lib.hid hP; have HS := Lib.hid S; have Hc := Lib.hid hc; have Hsz := Lib.hid hsz; have Hle := Lib.hid hle; have Hq7 := Lib.hid q7; clear hP S hc hsz hle q7
              go_wp2_with fail
              refine Hc.out.mono ?_
              rintro e w2 ⟨rfl, d2, S, hd2⟩
              have hP2 := Hq7.out d2 hd2
              clear hd2
              have HS := Lib.hid S; have HP2 := Lib.hid hP2; clear S hP2
              go_wp2_with fail
              go_roundw
              case rel => exact ⟨a + 2 * bs, _, by go_num, by go_num, HP2.out, HS.out⟩
              case measure => simp [intOf]; omega
            · have v3 : decide ((a : Int) + 2 * (bs : Int) ≤ (N : Int)) = false := decide_eq_false (by omega)
              have v4 : ¬ (a : Int) + 2 * (bs : Int) ≤ (N : Int) := by omega
              by_cases hm : a + bs < N
              · have v5 : (a : Int) + (bs : Int) < (N : Int) := by omega
                obtain ⟨p, u, v, q1, q2, q3, q4, q5, q6, q7⟩ := hP.last1 HO.out (n := N) Hlen.out.symm (by omega) hm
                have hc := HM.out dk wr p u v [] a (a + bs) N S q1 (by rw [hsz, HN.out]) q2 q3 q4 (by omega) (by omega) (by omega) (by omega) (by omega)
                rw [show ((a + bs : Nat) : Int) = (a : Int) + (bs : Int) by omega] at hc
                clear q1 q2 q3 q4 q5 q6
                have HP := Lib.hid hP; have HS := Lib.hid S; have Hc := Lib.hid hc; have Hsz := Lib.hid hsz; have Hle := Lib.hid hle; have Hq7 := Lib.hid q7; clear hP S hc hsz hle q7
                go_wp2_with fail
                refine Hc.out.mono ?_
                rintro e w2 ⟨rfl, d2, S, hd2⟩
                have hP2 := Hq7.out d2 hd2
                clear hd2
                have HS := Lib.hid S; have HP2 := Lib.hid hP2; clear S hP2
                go_wp2_with fail
                go_roundw
                case rel => exact ⟨2 * bs, _, by go_num, by omega, by omega, HP2.out, HS.out⟩
                case measure => simp [intOf]; omega
              · have v5 : ¬ (a : Int) + (bs : Int) < (N : Int) := by omega
                have hP2 := hP.last2 (n := N) Hlen.out.symm (by omega) hm (by omega)
                have HP := Lib.hid hP; have HS := Lib.hid S; have Hsz := Lib.hid hsz; have Hle := Lib.hid hle; have HP2 := Lib.hid hP2; clear hP S hsz hle hP2
                go_wp2_with fail
                go_roundw
                case rel => exact ⟨2 * bs, _, by go_num, by omega, by omega, HP2.out, HS.out⟩
                case measure => simp [intOf]; omega
        · have v2 : ¬ (bs : Int) < (N : Int) := by omega
          have hD := hP.done (by rw [Hlen.out]; omega)
          have HP := Lib.hid hP; have HS := Lib.hid S; have HD := Lib.hid hD; clear hP S hD
          go_wp2_with fail
          go_end0
          exact ⟨rfl, dk, HS.out, HD.out⟩
set_option maxRecDepth 10000 in
set_option maxHeartbeats 1000000 in
theorem sortStable_any (R : RowK (enc f0 f1 f2 f3) 4 w0 blk off d0) (C : CmpLays Try.prog g cb (enc f0 f1 f2 f3) 4 cf blk off d0.size w0) (eg : ∀ args w, (callFunc g args).run Try.prog w = .ok (.enter g args) w) (hO : Swo (ltOf cf)) (cap : Nat) (hn : d0.size ≤ 1000000) :
    Calls Try.prog 55 #[.slice (some ⟨blk, off, none⟩) d0.size cap, .func (.func g) #[] cb] w0 (Now (enc f0 f1 f2 f3) 4 w0 blk off (ssort (ltOf cf) d0.toList)) := by
  have hc := stable_any R C eg hO cap hn
  obtain ⟨l, hl⟩ : ∃ l, l = ssort (ltOf cf) d0.toList := ⟨_, rfl⟩
  rw [← hl] at hc ⊢
  obtain ⟨N, hN⟩ : ∃ N, N = d0.size := ⟨_, rfl⟩
  rw [← hN] at hn hc ⊢
  have Hc := Lib.hid hc; have HN := Lib.hid hN; have Hl := Lib.hid hl; have HC := Lib.hid C; have HR := Lib.hid R; have HO := Lib.hid hO; clear hc hN hl C R hO
  go_enter Try.func55, Try.ntmps55
  go_wp2_with fail
  refine Hc.out.mono ?_
  rintro e w2 ⟨rfl, hw2⟩
  have Hw2 := Lib.hid hw2; clear hw2
  go_wp2_with fail
  go_end0
  exact ⟨rfl, Hw2.out⟩
end StbNote
end Go.Proofs.Ytoljhahmmdibfaa
