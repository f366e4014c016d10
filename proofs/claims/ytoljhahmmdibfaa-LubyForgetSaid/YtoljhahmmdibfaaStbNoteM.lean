/- The walks of slices.SortStableFunc at luby.Note: rotateCmpFunc: two runs are turned about. Printed by gen_stb.py. -/
import Derived.Test.YtoljhahmmdibfaaStbNoteR
set_option linter.unusedVariables false
set_option linter.unusedSimpArgs false
namespace Go.Proofs.Ytoljhahmmdibfaa
open Go.Shelf Go.RowKit Go.Lib Go.Sort SortM StbA StbB
namespace StbNote
variable {α : Type} [Inhabited α] {f0 : α → Int} {f1 : α → Int} {f2 : α → Int} {f3 : α → Bool} {w0 : World} {blk off : Nat} {d0 : Array α}
/-- the row has become that list -/
def Now (f : α → List Value) (k : Nat) (w0 : World) (blk off : Nat) (l : List α) (e : Ending) (w' : World) : Prop := e = .returned (.tuple #[]) ∧ ∃ d : Array α, SWK f k w0 blk off d w' ∧ d.toList = l
set_option maxRecDepth 10000 in
set_option maxHeartbeats 4000000 in
theorem rotate_any {d : Array α} {w : World} (R : RowK (enc f0 f1 f2 f3) 4 w0 blk off d0) (S : SWK (enc f0 f1 f2 f3) 4 w0 blk off d w) {p u v q : List α} (hd : d.toList = p ++ u ++ v ++ q) (hs : d.size = d0.size) {a m b : Nat} (ha : a = p.length) (hm : m = a + u.length) (hb : b = m + v.length) (hu : 0 < u.length) (hv : 0 < v.length) (cap : Nat) (hn : d0.size ≤ 1000000) (cv : Value) :
    Calls Try.prog 86 #[.slice (some ⟨blk, off, none⟩) d0.size cap, .int .i64 a, .int .i64 m, .int .i64 b, cv] w (Now (enc f0 f1 f2 f3) 4 w0 blk off (p ++ v ++ u ++ q)) := by
  have hst := RInv.start hd (m := m) (i := u.length) (j := v.length) rfl rfl (by omega)
  have htl : (p ++ v ++ u ++ q).length = d0.size := by rw [← hs, ← hst.size]
  have hle := hst.le
  obtain ⟨iu, hiu⟩ : ∃ n, n = u.length := ⟨_, rfl⟩
  obtain ⟨jv, hjv⟩ : ∃ n, n = v.length := ⟨_, rfl⟩
  obtain ⟨tgt, htg⟩ : ∃ l, l = p ++ v ++ u ++ q := ⟨_, rfl⟩
  rw [← htg] at hst htl ⊢
  rw [← hiu] at hst hm hu hle
  rw [← hjv] at hst hb hv hle
  have hC := fun (dk : Array α) (wr : World) (hs : dk.size = d0.size) (S : SWK (enc f0 f1 f2 f3) 4 w0 blk off dk wr) (a b m : Nat) (h1 : a + m ≤ b) (h2 : b + m ≤ d0.size) => swapRange_any R hs S a b m cap h1 h2 hn cv
  obtain ⟨N, hN⟩ : ∃ N, N = d0.size := ⟨_, rfl⟩
  rw [← hN] at hn htl hs hC ⊢
  have i1 : IntKind.i64.wrap ((m : Int) - (a : Int)) = (iu : Int) := by rw [IntWalk.i64_in _ (by omega)]; omega
  have i2 : IntKind.i64.wrap ((b : Int) - (m : Int)) = (jv : Int) := by rw [IntWalk.i64_in _ (by omega)]; omega
  clear hd ha hm hb hle
  have Hst := Lib.hid hst; have HS := Lib.hid S; have HC := Lib.hid hC; have Htl := Lib.hid htl; have Htg := Lib.hid htg; have Hiu := Lib.hid hiu; have Hjv := Lib.hid hjv; have HN := Lib.hid hN; clear hst S hC htl htg hiu hjv hN
  go_enter Try.func86, Try.ntmps86
  go_wp2_with fail
  go_loopw [10, 11] (fun x y wr => ∃ (i j : Nat) (dk : Array α), x = .int .i64 i ∧ y = .int .i64 j ∧ 0 < i ∧ 0 < j ∧ RInv tgt m i j dk ∧ SWK (enc f0 f1 f2 f3) 4 w0 blk off dk wr) (fun x y _ => (intOf x).toNat + (intOf y).toNat)
  case atStart => exact ⟨iu, jv, d, rfl, rfl, hu, hv, Hst.out, HS.out⟩
  case round =>
    clear i1 i2
    obtain ⟨i, j, dk, rfl, rfl, hi, hj, hI, S⟩ := hrel
    have hsz := hI.size
    rw [Htl.out] at hsz
    have hl := hI.le
    rw [hsz] at hl
    have w1 : IntKind.i64.wrap ((m : Int) - (i : Int)) = ((m - i : Nat) : Int) := by rw [IntWalk.i64_in _ (by omega)]; omega
    rcases Nat.lt_trichotomy i j with hij | hij | hij
    · have hne : ((i : Int) == (j : Int)) = false := by rw [beq_eq_false_iff_ne]; omega
      have hgt : decide ((j : Int) < (i : Int)) = false := decide_eq_false (by omega)
      have w2 : IntKind.i64.wrap ((m : Int) + (j : Int)) = (m : Int) + (j : Int) := IntWalk.i64_in _ (by omega)
      have w3 : IntKind.i64.wrap ((m : Int) + (j : Int) - (i : Int)) = ((m + j - i : Nat) : Int) := by rw [IntWalk.i64_in _ (by omega)]; omega
      have w4 : IntKind.i64.wrap ((j : Int) - (i : Int)) = ((j - i : Nat) : Int) := by rw [IntWalk.i64_in _ (by omega)]; omega
      have hc := HC.out dk wr hsz S (m - i) (m + j - i) i (by omega) (by omega)
      have hnI := hI.lt hij
      clear S hI
      have Hc := Lib.hid hc; have HnI := Lib.hid hnI; have Hsz := Lib.hid hsz; clear hc hnI hsz
      go_wp2_with fail
      refine Hc.out.mono ?_
      rintro e w2 ⟨rfl, S⟩
      have HS := Lib.hid S; clear S
      go_wp2_with fail
      go_roundw
      case rel => exact ⟨i, j - i, _, rfl, rfl, hi, by omega, HnI.out, HS.out⟩
      case measure => simp [intOf]; omega
    · subst hij
      have hne : ((i : Int) == (i : Int)) = true := by simp
      have hc := HC.out dk wr hsz S (m - i) m i (by omega) (by omega)
      have hnI := hI.eq
      clear S hI
      have Hc := Lib.hid hc; have HnI := Lib.hid hnI; have Hsz := Lib.hid hsz; clear hc hnI hsz
      go_wp2_with fail
      refine Hc.out.mono ?_
      rintro e w2 ⟨rfl, S⟩
      have HS := Lib.hid S; clear S
      go_wp2_with fail
      go_end0
      exact ⟨rfl, _, HS.out, HnI.out⟩
    · have hne : ((i : Int) == (j : Int)) = false := by rw [beq_eq_false_iff_ne]; omega
      have hgt : decide ((j : Int) < (i : Int)) = true := decide_eq_true (by omega)
      have w4 : IntKind.i64.wrap ((i : Int) - (j : Int)) = ((i - j : Nat) : Int) := by rw [IntWalk.i64_in _ (by omega)]; omega
      have hc := HC.out dk wr hsz S (m - i) m j (by omega) (by omega)
      have hnI := hI.gt hij
      clear S hI
      have Hc := Lib.hid hc; have HnI := Lib.hid hnI; have Hsz := Lib.hid hsz; clear hc hnI hsz
      go_wp2_with fail
      refine Hc.out.mono ?_
      rintro e w2 ⟨rfl, S⟩
      have HS := Lib.hid S; clear S
      go_wp2_with fail
      go_roundw
      case rel => exact ⟨i - j, j, _, rfl, rfl, by omega, hj, HnI.out, HS.out⟩
      case measure => simp [intOf]; omega
end StbNote
end Go.Proofs.Ytoljhahmmdibfaa
