/- The walks of luby.stays and of slices.DeleteFunc at notes, of a row that a call owns. Condition: at most a million. -/
import Derived.Test.YtoljhahmmdibfaaNoteR
import Derived.Test.YtoljhahmmdibfaaIdxNote
import Derived.Deep.CutRange
import Derived.Lib.SlicesCompact
set_option linter.unusedVariables false
set_option linter.unusedSimpArgs false
namespace Go.Proofs.Ytoljhahmmdibfaa
open Go.Shelf Go.RowKit Go.Lib Go.Sort ForgM

def stay (x : NT) : Bool := !mayN x
theorem stay_is (x : NT) : stay x = (x.2.2.2 || (decide (x.2.1 ≤ 2) || decide (x.2.2.1 ≤ 2))) := by
  unfold stay mayN
  have e1 : decide (2 < x.2.1) = !decide (x.2.1 ≤ 2) := by
    by_cases h : x.2.1 ≤ 2
    · rw [decide_eq_true h, decide_eq_false (by omega)]; rfl
    · rw [decide_eq_false h, decide_eq_true (by omega)]; rfl
  have e2 : decide (2 < x.2.2.1) = !decide (x.2.2.1 ≤ 2) := by
    by_cases h : x.2.2.1 ≤ 2
    · rw [decide_eq_true h, decide_eq_false (by omega)]; rfl
    · rw [decide_eq_false h, decide_eq_true (by omega)]; rfl
  rw [e1, e2]
  cases x.2.2.2 <;> cases decide (x.2.1 ≤ 2) <;> cases decide (x.2.2.1 ≤ 2) <;> rfl
set_option maxRecDepth 10000 in
theorem stays_any (x0 x1 x2 : Int) (x3 : Bool) (w : World) : Calls Try.prog 54 #[.agg #[.int .i64 x0, .int .i64 x1, .int .i64 x2, .bool x3]] w fun e w' => e = .returned (.bool (stay (x0, x1, x2, x3))) ∧ Below w.heap.size w w' := by
  have e := stay_is (x0, x1, x2, x3)
  dsimp only at e
  rw [e]
  clear e
  obtain ⟨p, hp⟩ : ∃ p, p = decide (x1 ≤ 2) := ⟨_, rfl⟩
  obtain ⟨q, hq⟩ : ∃ p, p = decide (x2 ≤ 2) := ⟨_, rfl⟩
  rw [← hp, ← hq]
  have hp' := hp.symm
  have hq' := hq.symm
  have hb := below_alloc1 w (.cells #[.int .i64 x0, .int .i64 x1, .int .i64 x2, .bool x3] 76)
  have Hp := Lib.hid hp; have Hq := Lib.hid hq; have Hb := Lib.hid hb; clear hp hq hb
  cases x3 with
  | true =>
    go_enter Try.func54, Try.ntmps54
    go_wp2_with fail
    go_ret
    exact ⟨rfl, Hb.out⟩
  | false =>
    cases p with
    | true =>
      go_enter Try.func54, Try.ntmps54
      go_wp2_with fail
      go_ret
      exact ⟨rfl, Hb.out⟩
    | false =>
      cases q with
      | true =>
        go_enter Try.func54, Try.ntmps54
        go_wp2_with fail
        go_ret
        exact ⟨rfl, Hb.out⟩
      | false =>
        go_enter Try.func54, Try.ntmps54
        go_wp2_with fail
        go_ret
        exact ⟨rfl, Hb.out⟩
theorem enters_stays : ∀ args w, (callFunc 54 args).run Try.prog w = .ok (.enter 54 args) w := enters_of Try.func54 (by kernel_rfl) rfl
theorem stays_pred (l : List NT) (w : World) : IdxNote.Pred RNote stay 54 #[] l w := fun W u0 u1 u2 u3 x _ _ h => by
  have h' : [u0, u1, u2, u3] = [.int .i64 x.1, .int .i64 x.2.1, .int .i64 x.2.2.1, .bool x.2.2.2] := h
  simp only [List.cons.injEq, and_true] at h'
  obtain ⟨rfl, rfl, rfl, rfl⟩ := h'
  exact stays_any x.1 x.2.1 x.2.2.1 x.2.2.2 W

/-- where a deletion stands -/
structure DInv (d : Array NT) (j i : Nat) (dk : Array NT) : Prop where
  size : dk.size = d.size
  len : ((d.toList.take j).filter mayN).length = i
  lt : i < j
  low : ∀ q, q < i → ((d.toList.take j).filter mayN)[q]? = some dk[q]!
  high : ∀ q, i ≤ q → dk[q]! = d[q]!
theorem take_get {d : Array NT} {j : Nat} (h : j < d.size) : d.toList.take (j + 1) = d.toList.take j ++ [d[j]!] := by
  rw [List.take_succ_eq_append_getElem (by simpa using h), getElem!_pos d j h]; rfl
theorem DInv.start {d : Array NT} {i : Nat} (h : ∀ q, q < i → mayN d[q]! = true) (hi : i < d.size) (hd : mayN d[i]! = false) : DInv d (i + 1) i d := by
  have e : (d.toList.take i).filter mayN = d.toList.take i := List.filter_eq_self.2 fun y hy => by
    obtain ⟨q, hq, rfl⟩ := List.getElem_of_mem hy
    simp only [List.length_take, Array.length_toList] at hq
    have := h q (by omega)
    rw [getElem!_pos d q (by omega)] at this
    simpa using this
  have e2 : (d.toList.take (i + 1)).filter mayN = d.toList.take i := by rw [take_get hi, List.filter_append, e, List.filter_cons, hd]; simp
  refine ⟨rfl, by rw [e2]; simp; omega, by omega, fun q hq => ?_, fun q _ => rfl⟩
  rw [e2, List.getElem?_take, if_pos hq, getElem!_pos d q (by omega), Array.getElem?_toList, Array.getElem?_eq_getElem]
theorem DInv.skip {d dk : Array NT} {j i : Nat} (h : DInv d j i dk) (hj : j < d.size) (hd : mayN d[j]! = false) : DInv d (j + 1) i dk := by
  have e2 : (d.toList.take (j + 1)).filter mayN = (d.toList.take j).filter mayN := by rw [take_get hj, List.filter_append, List.filter_cons, hd]; simp
  exact ⟨h.size, by rw [e2]; exact h.len, by have := h.lt; omega, fun q hq => by rw [e2]; exact h.low q hq, h.high⟩
theorem DInv.keep {d dk : Array NT} {j i : Nat} (h : DInv d j i dk) (hj : j < d.size) (hd : mayN d[j]! = true) : DInv d (j + 1) (i + 1) (dk.setIfInBounds i d[j]!) := by
  have e2 : (d.toList.take (j + 1)).filter mayN = (d.toList.take j).filter mayN ++ [d[j]!] := by rw [take_get hj, List.filter_append, List.filter_cons, hd]; simp
  have hlt := h.lt
  have hs := h.size
  refine ⟨by simp [h.size], by rw [e2, List.length_append, h.len]; rfl, by omega, fun q hq => ?_, fun q hq => by rw [getElem!_set_other dk i q _ (by omega)]; exact h.high q (by omega)⟩
  rw [e2]
  by_cases e : q = i
  · subst e
    rw [List.getElem?_append_right (by rw [h.len]; exact Nat.le_refl _), h.len, Nat.sub_self, getElem!_set_same dk q _ (by omega)]
    rfl
  · rw [List.getElem?_append_left (by rw [h.len]; omega), h.low q (by omega), getElem!_set_other dk i q _ e]
def NDelPost (B : Nat) (l : List NT) (w : World) (e : Ending) (w' : World) : Prop := ∃ o, e = .returned o ∧ w'.ownsRow B 76 4 o l.length (l.flatMap ntCells) ∧ ∀ w0, Below B w0 w → B ≤ w.heap.size → Below B w0 w' ∧ B ≤ w'.heap.size
set_option maxRecDepth 10000 in
set_option maxHeartbeats 4000000 in
theorem delNote_any {w : World} {B g n cap : Nat} {l : List NT} (h : w.ownsRow B 76 4 (.slice (some ⟨g, 0, none⟩) n cap) n (l.flatMap ntCells)) (hn : l.length = n) (hb : n ≤ 1000000) :
    Calls Try.prog 52 #[.slice (some ⟨g, 0, none⟩) n cap, .func (.func 54) #[] #[]] w (NDelPost B (l.filter mayN) w) := by
  have hcap : n ≤ cap ∧ cap ≤ 9223372036854775807 := by
    rcases h.2 with ⟨e0, _⟩ | ⟨g', cap', cur, e0, _, _, h1, h2, _⟩
    · cases e0
    · injection e0 with e1 _ e3
      subst e3
      exact ⟨h1, by unfold maxLen at h2; exact h2⟩
  obtain ⟨hcap1, hcap2⟩ := hcap
  have hrd : RNotes w [.slice (some ⟨g, 0, none⟩) n cap] l := by subst hn; exact notes_reads h
  have hI := IdxNote.idx_any stays_note stay 54 #[] enters_stays hrd (stays_pred l w)
  obtain ⟨d, hd⟩ : ∃ d, d = l.toArray := ⟨_, rfl⟩
  have hdl : d.toList = l := by rw [hd]
  have hds : d.size = n := by rw [hd]; simpa using hn
  rw [← hdl] at h hI ⊢
  have hmay : ∀ x : NT, stay x = false ↔ mayN x = true := fun x => by unfold stay; cases mayN x <;> simp
  cases hf : d.toList.findIdx? stay with
  | none =>
    have hx : idxOf stay d.toList = -1 := by unfold idxOf; rw [hf]
    rw [hx] at hI
    have hall : d.toList.filter mayN = d.toList := List.filter_eq_self.2 fun x hx => (hmay x).1 (List.findIdx?_eq_none_iff.1 hf x hx)
    rw [hall]
    have hlen : d.toList.length = n := by simpa using hds
    obtain ⟨LL, hLL⟩ : ∃ L, L = d.toList := ⟨_, rfl⟩
    rw [← hLL] at h hlen ⊢
    have Hh := Lib.hid h; have Hrd := Lib.hid hrd; have HI := Lib.hid hI; have Hd := Lib.hid hd; have Hdl := Lib.hid hdl; have Hds := Lib.hid hds; have Hf := Lib.hid hf; have Hx := Lib.hid hx; have Hall := Lib.hid hall; have Hmay := Lib.hid hmay; have Hlen := Lib.hid hlen; have HLL := Lib.hid hLL; have Hn := Lib.hid hn; clear h hrd hI hd hdl hds hf hx hall hmay hlen hLL hn
    go_enter Try.func52, Try.ntmps52
    go_wp2_with fail
    refine HI.out.mono ?_
    rintro e w1 ⟨rfl, hb1⟩
    have Hb1 := Lib.hid hb1; clear hb1
    go_wp2_with fail
    go_ret
    refine ⟨_, rfl, ?_, fun w0 hb hB => ⟨hb.trans (Hb1.out.mono hB), Nat.le_trans hB Hb1.out.size⟩⟩
    rw [Hlen.out]
    exact ownsRow_below Hh.out Hb1.out
  | some i0 =>
    obtain ⟨hi0, hyes, hno⟩ := List.findIdx?_eq_some_iff_getElem.1 hf
    have hx : idxOf stay d.toList = (i0 : Int) := by unfold idxOf; rw [hf]
    rw [hx] at hI
    have hi0' : i0 < d.size := by simpa using hi0
    have hst : DInv d (i0 + 1) i0 d := DInv.start (fun q hq => by
      have := hno q hq
      rw [getElem!_pos d q (by omega)]
      exact (hmay _).1 (by simpa using this)) hi0' (by
      rw [getElem!_pos d i0 hi0']
      have : stay d[i0] = true := by simpa using hyes
      unfold stay at this
      simpa using this)
    have w0' : ((i0 : Int) == -1) = false := by rw [beq_eq_false_iff_ne]; omega
    have w1' : IntKind.i64.wrap ((i0 : Int) + 1) = (i0 : Int) + 1 := IntWalk.i64_in _ (by omega)
    have hS := fun x0 x1 x2 x3 W => stays_any x0 x1 x2 x3 W
    have hle0 : i0 + 1 ≤ n := by omega
    clear hyes hno
    have Hh := Lib.hid h; have Hrd := Lib.hid hrd; have HI := Lib.hid hI; have Hd := Lib.hid hd; have Hdl := Lib.hid hdl; have Hds := Lib.hid hds; have Hf := Lib.hid hf; have Hx := Lib.hid hx; have Hmay := Lib.hid hmay; have Hn := Lib.hid hn; have Hi0 := Lib.hid hi0; have Hst := Lib.hid hst; have HS := Lib.hid hS; clear h hrd hI hd hdl hds hf hx hmay hn hi0 hst hS
    clear hi0'
    go_enter Try.func52, Try.ntmps52
    go_wp2_with fail
    refine HI.out.mono ?_
    rintro e w1 ⟨rfl, hb1⟩
    have Hb1 := Lib.hid hb1; clear hb1
    go_wp2_with fail
    clear w0' w1'
    go_loopw [5, 6] (fun x y wr => ∃ (i j : Nat) (dk : Array NT), x = .int .i64 i ∧ y = .int .i64 j ∧ j ≤ n ∧ DInv d j i dk ∧ wr.ownsRow B 76 4 (.slice (some ⟨g, 0, none⟩) n cap) n (dk.toList.flatMap ntCells) ∧ ∀ w0, Below B w0 w → B ≤ w.heap.size → Below B w0 wr ∧ B ≤ wr.heap.size) (fun _ y _ => n - (intOf y).toNat)
    case atStart => exact ⟨i0, i0 + 1, d, rfl, by go_num, hle0, Hst.out, ownsRow_below Hh.out Hb1.out, fun w0 hb hB => ⟨hb.trans (Hb1.out.mono hB), Nat.le_trans hB Hb1.out.size⟩⟩
    case round =>
      obtain ⟨i, j, dk, rfl, rfl, hj, hD, hR, hB⟩ := hrel
      have hlt := hD.lt
      have hdks : dk.size = n := by rw [hD.size, Hds.out]
      by_cases hlt2 : j < n
      · obtain ⟨⟨c0, c1, c2, c3⟩, _⟩ := note_at hR hdks j hlt2
        have hhi := hD.high j (by omega)
        rw [hhi] at c0 c1 c2 c3
        have hjd : j < d.size := by have := Hds.out; omega
        have hskip := fun he => hD.skip hjd he
        have hkeep := fun he => hD.keep hjd he
        obtain ⟨x, hx⟩ : ∃ x, x = d[j]! := ⟨_, rfl⟩
        rw [← hx] at c0 c1 c2 c3 hskip hkeep
        obtain ⟨x0, hx0⟩ : ∃ v, v = x.1 := ⟨_, rfl⟩
        obtain ⟨x1, hx1⟩ : ∃ v, v = x.2.1 := ⟨_, rfl⟩
        obtain ⟨x2, hx2⟩ : ∃ v, v = x.2.2.1 := ⟨_, rfl⟩
        obtain ⟨x3, hx3⟩ : ∃ v, v = x.2.2.2 := ⟨_, rfl⟩
        rw [← hx0] at c0
        rw [← hx1] at c1
        rw [← hx2] at c2
        rw [← hx3] at c3
        have hsx := fun W => HS.out x0 x1 x2 x3 W
        rw [show ((x0, x1, x2, x3) : NT) = x by rw [hx0, hx1, hx2, hx3]] at hsx
        obtain ⟨st, hst2⟩ : ∃ b, b = stay x := ⟨_, rfl⟩
        rw [← hst2] at hsx
        obtain ⟨bx, hbx⟩ : ∃ n, n = wr.heap.size := ⟨_, rfl⟩
        obtain ⟨W0, hW0⟩ : ∃ W0, W0 = wr.alloc (.cells #[.int .i64 x0, .int .i64 x1, .int .i64 x2, .bool x3] 76) := ⟨_, rfl⟩
        have hbW : Below wr.heap.size wr W0 := by rw [hW0]; exact below_alloc1 _ _
        have hX0 : W0.heap[bx]? = some (.cells #[.int .i64 x0, .int .i64 x1, .int .i64 x2, .bool x3] 76 (0, 0)) := by rw [hW0, hbx]; exact heap_alloc_new _ _
        have v1 : (j : Int) < (n : Int) := by omega
        have v2 : (i : Int) < (n : Int) := by omega
        have w2 : IntKind.i64.wrap ((j : Int) + 1) = (j : Int) + 1 := IntWalk.i64_in _ (by omega)
        have w3 : IntKind.i64.wrap ((i : Int) + 1) = (i : Int) + 1 := IntWalk.i64_in _ (by omega)
        have Hx := Lib.hid hx; have Hx0 := Lib.hid hx0; have Hx1 := Lib.hid hx1; have Hx2 := Lib.hid hx2; have Hx3 := Lib.hid hx3; have Hst2 := Lib.hid hst2; have Hhi := Lib.hid hhi; have Hskip := Lib.hid hskip; have Hkeep := Lib.hid hkeep; have HD := Lib.hid hD; have Hdks := Lib.hid hdks; have HR := Lib.hid hR; have HB := Lib.hid hB; have Hsx := Lib.hid hsx; have HbW := Lib.hid hbW; have HX0 := Lib.hid hX0; clear hx hx0 hx1 hx2 hx3 hst2 hhi hskip hkeep hD hdks hR hB hsx hbW hX0
        go_upto_region 8 with fail
        rw [← hW0, ← hbx]
        clear c0 c1 c2 c3
        have f0 := cells_at HX0.out 0
        have f1 := cells_at HX0.out 1
        have f2 := cells_at HX0.out 2
        have f3 := cells_at HX0.out 3
        simp only [List.getElem?_toArray, List.getElem?_cons_succ, List.getElem?_cons_zero] at f0 f1 f2 f3
        have HW0 := Lib.hid hW0; have Hbx := Lib.hid hbx; clear hW0 hbx
        go_wp2_with fail
        refine (Hsx.out _).mono ?_
        rintro e w2 ⟨rfl, hb2⟩
        have hbb : Below wr.heap.size wr w2 := HbW.out.trans (hb2.mono HbW.out.size)
        have hR2 := ownsRow_below HR.out hbb
        have hB2 : ∀ w0, Below B w0 w → B ≤ w.heap.size → Below B w0 w2 ∧ B ≤ w2.heap.size := fun w0 hb hBs => ⟨(HB.out w0 hb hBs).1.trans (hbb.mono (HB.out w0 hb hBs).2), Nat.le_trans (HB.out w0 hb hBs).2 hbb.size⟩
        have hX2 := heap_below hb2 HX0.out
        clear f0 f1 f2 f3
        have f0 := cells_at hX2 0
        have f1 := cells_at hX2 1
        have f2 := cells_at hX2 2
        have f3 := cells_at hX2 3
        simp only [List.getElem?_toArray, List.getElem?_cons_succ, List.getElem?_cons_zero] at f0 f1 f2 f3
        cases st with
        | true =>
          have hnx := Hskip.out (by have := Hst2.out; unfold stay at this; simpa using this.symm)
          have Hb2 := Lib.hid hb2; have Hbb := Lib.hid hbb; have HR2 := Lib.hid hR2; have HB2 := Lib.hid hB2; have HX2 := Lib.hid hX2; have Hnx := Lib.hid hnx; clear hb2 hbb hR2 hB2 hX2 hnx
          go_wp2_with fail
          go_roundw
          case rel => exact ⟨i, j + 1, dk, rfl, by go_num, by omega, Hnx.out, HR2.out, HB2.out⟩
          case measure => simp [intOf]; omega
        | false =>
          have hnx := Hkeep.out (by have := Hst2.out; unfold stay at this; simpa using this.symm)
          obtain ⟨⟨s0, s1, s2, s3⟩, t0, t1, t2, t3⟩ := note_at hR2 Hdks.out i (by omega)
          have hput := note_put hR2 Hdks.out i (by omega) x
          unfold putNote at hput
          rw [← Hx0.out, ← Hx1.out, ← Hx2.out, ← Hx3.out] at hput
          obtain ⟨o0, ho0⟩ : ∃ v, v = dk[i]!.1 := ⟨_, rfl⟩
          obtain ⟨o1, ho1⟩ : ∃ v, v = dk[i]!.2.1 := ⟨_, rfl⟩
          obtain ⟨o2, ho2⟩ : ∃ v, v = dk[i]!.2.2.1 := ⟨_, rfl⟩
          obtain ⟨o3, ho3⟩ : ∃ v, v = dk[i]!.2.2.2 := ⟨_, rfl⟩
          rw [← ho0] at s0
          rw [← ho1] at s1
          rw [← ho2] at s2
          rw [← ho3] at s3
          have Hb2 := Lib.hid hb2; have Hbb := Lib.hid hbb; have HR2 := Lib.hid hR2; have HB2 := Lib.hid hB2; have HX2 := Lib.hid hX2; have Hnx := Lib.hid hnx; have Hput := Lib.hid hput; have Ho0 := Lib.hid ho0; have Ho1 := Lib.hid ho1; have Ho2 := Lib.hid ho2; have Ho3 := Lib.hid ho3; clear hb2 hbb hR2 hB2 hX2 hnx hput ho0 ho1 ho2 ho3
          go_wp2_with fail
          go_roundw
          case rel => exact ⟨i + 1, j + 1, _, by go_num, by go_num, by omega, Hnx.out, Hput.out.1, fun w0 hb hBs => Hput.out.2 w0 (HB2.out w0 hb hBs).1 (HB2.out w0 hb hBs).2⟩
          case measure => simp [intOf]; omega
      · obtain rfl : j = n := by omega
        have hlen := hD.len
        have htd : d.toList.take j = d.toList := List.take_of_length_le (by have := Hds.out; simp; omega)
        rw [htd] at hlen
        have hat := fun q hq => (note_at hR hdks q hq).1
        have hcl := fun ty => clear_notes (W := wr) (g := g) (o := i * 4) (m := j - i) (c := cap - i) ty (by omega) (fun q hq => by
          obtain ⟨a0, a1, a2, a3⟩ := hat (i + q / 4) (by omega)
          have : q % 4 = 0 ∨ q % 4 = 1 ∨ q % 4 = 2 ∨ q % 4 = 3 := by omega
          rcases this with e | e | e | e
          · rw [show i * 4 + q = (i + q / 4) * 4 by omega, a0]; rfl
          · rw [show i * 4 + q = (i + q / 4) * 4 + 1 by omega, a1]; rfl
          · rw [show i * 4 + q = (i + q / 4) * 4 + 2 by omega, a2]; rfl
          · rw [show i * 4 + q = (i + q / 4) * 4 + 3 by omega, a3]; rfl) (fun q hq => hR.frozenAt _)
        obtain ⟨Z, hZ⟩ : ∃ Z, Z = (Builtin.zeroCells #[.int .i64 0, .int .i64 0, .int .i64 0, .bool false] (j - i)).toList := ⟨_, rfl⟩
        rw [← hZ] at hcl
        have hfin : NDelPost B (d.toList.filter mayN) w (.returned (.slice (some ⟨g, 0, none⟩) i cap)) (wr.setCells g (i * 4) Z) := by
          have htk : d.toList.filter mayN = dk.toList.take i := by
            apply List.ext_getElem?
            intro q
            by_cases hq : q < i
            · have hlow := hD.low q hq
              rw [htd] at hlow
              rw [hlow, List.getElem?_take, if_pos hq, Array.getElem?_toList, getElem!_pos dk q (by omega), Array.getElem?_eq_getElem]
            · rw [List.getElem?_eq_none (by omega), List.getElem?_eq_none (by simp; omega)]
          have ht := owns_take ntCells_len hR (by simpa using hdks) i (by omega)
          have hbs : B ≤ wr.heap.size := by have := (hR.lt g rfl); omega
          have hoc := owns_setCells Z (i * 4) wr ht (by rw [ht.1]; exact Nat.le_refl _) hbs
          refine ⟨_, rfl, ?_, fun w0 hb hBs => ⟨hoc.2 w0 (hB w0 hb hBs).1, ?_⟩⟩
          · rw [hlen, htk]; exact hoc.1
          · have := (hoc.1.lt g rfl); omega
        have u3 : (i : Int) ≤ (j : Int) := by omega
        have u4 : i ≤ j := by omega
        have u5 : (i : Int) ≤ (cap : Int) := by omega
        have Hfin := Lib.hid hfin; have HZ := Lib.hid hZ; have HD := Lib.hid hD; have HR := Lib.hid hR; have HB := Lib.hid hB; have Hat := Lib.hid hat; have Hdks := Lib.hid hdks; have Hlen := Lib.hid hlen; have Htd := Lib.hid htd; clear hfin hZ hD hR hB hat hdks hlen htd
        go_wp2_with fail
        go_ret
        exact Hfin.out
end Go.Proofs.Ytoljhahmmdibfaa
