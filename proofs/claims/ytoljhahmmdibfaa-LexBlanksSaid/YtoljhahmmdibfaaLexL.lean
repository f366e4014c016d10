/- The walk of lex.Lines: a text's lines, or the place and the error. No condition. -/
import Derived.Test.YtoljhahmmdibfaaLexT
namespace Go.Proofs.Ytoljhahmmdibfaa
open Go.RowKit
open LexM (Bs Wd Ln St)

theorem small0 : Small LexM.st0 0 := ⟨by decide, by decide, by decide, by decide, by decide, by decide, by decide⟩
theorem ends_small {s : St} {m : Nat} (h : Small s m) : Small (LexM.ends s) (m + 1) := by
  obtain ⟨a, b, c, d, e, f, g⟩ := h
  refine ⟨?_, ?_, ?_, ?_, ?_, ?_, ?_⟩ <;> unfold LexM.ends <;> dsimp only
  · omega
  · omega
  · omega
  · simp
  · split <;> (try simp) <;> omega
  · omega
  · intro h; exact absurd h (by decide)
theorem breaks_small {s : St} {m : Nat} (h : Small s m) : Small (LexM.breaks s) (m + 1) := by
  obtain ⟨a, b, c, d, e, f, g⟩ := h
  refine ⟨?_, ?_, ?_, ?_, ?_, ?_, ?_⟩ <;> unfold LexM.breaks LexM.ends <;> dsimp only
  · omega
  · omega
  · omega
  · simp
  · simp
  · (repeat' split) <;> (try simp) <;> omega
  · intro h; exact absurd h (by decide)
theorem Small.mono {s : St} {m k : Nat} (h : Small s m) (hk : m ≤ k) : Small s k := by
  obtain ⟨a, b, c, d, e, f, g⟩ := h
  exact ⟨by omega, by omega, by omega, by omega, by omega, by omega, g⟩
theorem takes_small {s : St} {m : Nat} (h : Small s m) (c : UInt8) (h0 : (LexM.takes s c).2 = 0) : Small (LexM.takes s c).1 (m + 2) := by
  have h1 := small_on h
  unfold LexM.takes at h0 ⊢
  split
  · exact breaks_small h1
  · rename_i c10
    rw [if_neg c10] at h0
    split
    · rename_i cA; rw [if_pos cA] at h0; cases h0
    · rename_i cA
      rw [if_neg cA] at h0
      split
      · exact h1.mono (by omega)
      · rename_i co
        rw [if_neg co] at h0
        split
        · obtain ⟨a, b, c, d, e, f, g⟩ := ends_small h1
          exact ⟨a, b, c, d, e, f, g⟩
        · rename_i c35
          rw [if_neg c35] at h0
          split
          · exact ends_small h1
          · rename_i c32
            rw [if_neg c32] at h0
            have hw := h.word
            have hc := h.col
            obtain ⟨a, b, c, d, e, f, g⟩ := h1
            split
            · exact ⟨by dsimp only; omega, by dsimp only; omega, by dsimp only; omega, by simp; omega, by dsimp only; omega, by dsimp only; omega, fun _ => by simp⟩
            · rename_i cf
              rw [if_neg cf] at h0
              split
              · refine ⟨by dsimp only; omega, by dsimp only; omega, by dsimp only; omega, by simp; omega, by dsimp only; omega, by dsimp only; omega, fun _ => by simp⟩
              · rename_i cm
                rw [if_neg cm] at h0
                cases h0
theorem run_small (t : Bs) : ∀ (s : St) (m : Nat), Small s m → (LexM.run s t).2 = 0 → Small (LexM.run s t).1 (m + 2 * t.length) := by
  induction t with
  | nil => intro s m h _; exact h
  | cons c r ih =>
    intro s m h h0
    by_cases hz : (LexM.takes s c).2 = 0
    · rw [LexM.run_ok hz] at h0 ⊢
      have := ih _ _ (takes_small h c hz) h0
      rw [List.length_cons]
      exact this.mono (by omega)
    · rw [LexM.run_bad hz] at h0; exact absurd h0 hz
theorem run_snoc_ok (t : Bs) (c : UInt8) (s : St) (h : (LexM.run s t).2 = 0) : LexM.run s (t ++ [c]) = if (LexM.takes (LexM.run s t).1 c).2 = 0 then ((LexM.takes (LexM.run s t).1 c).1, 0) else LexM.takes (LexM.run s t).1 c := by
  rw [LexM.run_append, if_pos h]
  by_cases hz : (LexM.takes (LexM.run s t).1 c).2 = 0
  · rw [LexM.run_ok hz, if_pos hz]; rfl
  · rw [LexM.run_bad hz, if_neg hz]
theorem run_stop (t r : Bs) (s : St) (h : (LexM.run s t).2 ≠ 0) : LexM.run s (t ++ r) = LexM.run s t := by rw [LexM.run_append, if_neg h]

def WdOk (m : Nat) (x : Wd) : Prop := 0 ≤ x.1 ∧ x.1 ≤ m ∧ x.2.length ≤ m
def LnOk (m : Nat) (x : Ln) : Prop := 0 ≤ x.1 ∧ x.1 ≤ m + 1 ∧ ∀ wd ∈ x.2, WdOk m wd
structure Fine (s : St) (m : Nat) : Prop where
  words : ∀ wd ∈ s.words, WdOk m wd
  out : ∀ ln ∈ s.out, LnOk m ln
theorem WdOk.mono {m k : Nat} {x : Wd} (h : WdOk m x) (hk : m ≤ k) : WdOk k x := by obtain ⟨a, b, c⟩ := h; exact ⟨a, by omega, by omega⟩
theorem LnOk.mono {m k : Nat} {x : Ln} (h : LnOk m x) (hk : m ≤ k) : LnOk k x := by obtain ⟨a, b, c⟩ := h; exact ⟨a, by omega, fun wd hw => (c wd hw).mono hk⟩
theorem Fine.mono {s : St} {m k : Nat} (h : Fine s m) (hk : m ≤ k) : Fine s k := ⟨fun wd hw => (h.words wd hw).mono hk, fun ln hl => (h.out ln hl).mono hk⟩
theorem ends_fine {s : St} {m : Nat} (hs : Small s m) (h : Fine s m) : Fine (LexM.ends s) m := by
  refine ⟨?_, h.out⟩
  unfold LexM.ends
  dsimp only
  split
  · intro wd hw
    rcases List.mem_append.1 hw with hw | hw
    · exact h.words wd hw
    · simp at hw
      subst hw
      exact ⟨hs.frm.1, hs.frm.2, hs.word⟩
  · exact h.words
theorem breaks_fine {s : St} {m : Nat} (hs : Small s m) (h : Fine s m) : Fine (LexM.breaks s) m := by
  have h1 := ends_fine hs h
  unfold LexM.breaks
  refine ⟨by simp, ?_⟩
  dsimp only
  split
  · exact h.out
  · intro ln hl
    rcases List.mem_append.1 hl with hl | hl
    · exact h.out ln hl
    · simp at hl
      subst hl
      exact ⟨hs.line.1, hs.line.2, h1.words⟩
theorem takes_fine {s : St} {m : Nat} (hs : Small s m) (h : Fine s m) (c : UInt8) : Fine (LexM.takes s c).1 (m + 2) := by
  have h1 := small_on hs
  have h2 : Fine (LexM.onward s) (m + 1) := ⟨(h.mono (Nat.le_succ m)).words, (h.mono (Nat.le_succ m)).out⟩
  have h3 := (ends_fine h1 h2).mono (Nat.le_succ _)
  have h4 := h2.mono (Nat.le_succ (m + 1))
  unfold LexM.takes
  split
  · exact (breaks_fine h1 h2).mono (Nat.le_succ _)
  · split
    · exact h4
    · split
      · exact h4
      · split
        · exact ⟨h3.words, h3.out⟩
        · split
          · exact h3
          · split
            · exact ⟨h4.words, h4.out⟩
            · split
              · exact ⟨h4.words, h4.out⟩
              · exact ⟨h4.words, h4.out⟩
theorem run_fine (t : Bs) : ∀ (s : St) (m : Nat), Small s m → Fine s m → (LexM.run s t).2 = 0 → Fine (LexM.run s t).1 (m + 2 * t.length) := by
  induction t with
  | nil => intro s m _ h _; exact h
  | cons c r ih =>
    intro s m hs h h0
    by_cases hz : (LexM.takes s c).2 = 0
    · rw [LexM.run_ok hz] at h0 ⊢
      have := ih _ _ (takes_small hs c hz) (takes_fine hs h c) h0
      rw [List.length_cons]
      exact this.mono (by omega)
    · rw [LexM.run_bad hz] at h0; exact absurd h0 hz
theorem wf_small {n : Int} (h0 : 0 ≤ n) (h1 : n ≤ 9223372036854775807) : (Lit.int .i64 n).wf = true := by
  simp [Lit.wf, IntKind.min, IntKind.max, IntKind.signed, IntKind.bits]
  omega
theorem rword {w : World} {m : Nat} (hm : m ≤ 10000000) {x : Wd} (h : WdOk m x) : RWd w (wdCells x) x := by
  obtain ⟨a, b, c⟩ := h
  exact ⟨rfl, wf_small a (by omega), by unfold maxLen; omega⟩
/-- the lines are read -/
theorem LexSt.reads {w0 w w' : World} {x : Nat} {s : St} {wv sv ov : Value} {rv : List Value} (h : LexSt w0 x s wv sv ov rv w) (hfr : Frm (fun k => k < w0.heap.size) w w') {m : Nat} (hm : m ≤ 10000000) (hf : Fine s m) : RLns w' [ov] s.out := by
  have hz : (lnCells s.out rv) = (s.out.zip rv).flatMap fun x => [.int .i64 x.1.1, x.2] := rfl
  have hlen : (s.out.zip rv).length = s.out.length := by simp [h.rlen]
  have h1 := hfr.owns h.out (fun k hk e => by have := (h.out.lt k hk).1; omega)
  rw [hz] at h1
  have h2 : RSlice 2 (fun w cs (y : Ln × Value) => RLn w cs y.1) w' [ov] (s.out.zip rv) := by
    refine rslice_of_owns (B := w0.heap.size) (e := 58) (fun x : Ln × Value => [.int .i64 x.1.1, x.2]) _ (fun _ _ => rfl) ?_ (by rw [hlen]; exact h1)
    intro y hy
    obtain ⟨i, hi, rfl⟩ := List.mem_iff_getElem.1 hy
    have hi1 : i < s.out.length := by omega
    have hi2 : i < rv.length := by rw [h.rlen]; exact hi1
    rw [List.getElem_zip]
    obtain ⟨r0, _⟩ := h.rows i s.out[i] rv[i] (List.getElem?_eq_getElem hi1) (List.getElem?_eq_getElem hi2)
    have r1 := hfr.owns r0 (fun k hk e => by have := (r0.lt k hk).1; omega)
    obtain ⟨a, b, c⟩ := hf.out _ (List.getElem_mem hi1)
    refine ⟨rv[i], rfl, rslice_of_owns wdCells RWd (fun _ _ => rfl) (fun wd hw => rword hm (c wd hw)) r1, wf_small (n := s.out[i].1) a (by omega)⟩
  obtain ⟨a, cap, hv, g1, g2, g3⟩ := h2
  rw [hlen] at hv g1
  refine ⟨a, cap, hv, g1, g2, fun i ln hi => ?_⟩
  have hi1 := (List.getElem?_eq_some_iff.1 hi).1
  have hi2 : i < rv.length := by rw [h.rlen]; exact hi1
  have hzi : (s.out.zip rv)[i]? = some (ln, rv[i]) := by
    rw [List.getElem?_zip_eq_some]
    exact ⟨hi, List.getElem?_eq_getElem hi2⟩
  exact g3 i _ hzi

/-- what Lines gives -/
def LinesPost (w : World) (r : LexM.Res) (e : Ending) (w' : World) : Prop := ∃ v, e = .returned (.tuple #[v, .agg #[.int .i64 r.at1, .int .i64 r.at2], .int .i64 r.e]) ∧ RLns w' [v] r.lines ∧ Below w.heap.size w w'

set_option maxHeartbeats 1000000 in
theorem lexLines_long (s : ByteArray) (hs : s.size ≤ 140737488351232) (w : World) (h : 65536 < s.size) : Calls Try.prog 31 #[.string s] w (LinesPost w (LexM.lines s.data.toList)) := by
  have hr : LexM.lines s.data.toList = ⟨[], 0, 0, 4⟩ := by unfold LexM.lines; rw [if_pos]; rw [Array.length_toList]; exact h
  rw [hr]
  clear hr
  go_enter Try.func31, Try.ntmps31
  go_wp2_with fail
  refine bodyPost_ret (v := .tuple #[.slice none 0 0, .agg #[.int .i64 0, .int .i64 0], .int .i64 4]) (by simp [results, Try.results31, go_sem]) rfl ⟨_, rfl, ⟨none, 0, rfl, Nat.le_refl _, Nat.zero_le _, fun i x hi => by simp at hi⟩, ?_⟩
  exact (Below.refl _ _).alloc (Nat.le_refl _) _

theorem LexSt.start (w1 : World) : LexSt w1 w1.heap.size LexM.st0 (.slice none 0 0) (.slice none 0 0) (.slice none 0 0) [] (w1.alloc (.cells (lexCells LexM.st0 (.slice none 0 0) (.slice none 0 0) (.slice none 0 0)) 94)) :=
  ⟨heap_alloc_new w1 _, World.ownsRow_nil _ _ _ _, World.ownsRow_nil _ _ _ _, World.ownsRow_nil _ _ _ _, rfl, fun i ln v hi => by simp [LexM.st0] at hi, (Below.refl _ _).alloc (Nat.le_refl _) _, Nat.le_refl _⟩
/-- what the loop keeps: k bytes are taken -/
def LexGone (w1 : World) (x : Nat) (t : Bs) (k : Nat) (w : World) : Prop := (LexM.run LexM.st0 (t.take k)).2 = 0 ∧ ∃ wv sv ov rv, LexSt w1 x (LexM.run LexM.st0 (t.take k)).1 wv sv ov rv w

theorem byte_at (s : ByteArray) (k : Nat) (h : k < s.size) : s.data.toList.take (k + 1) = s.data.toList.take k ++ [s[k]] := by
  rw [List.take_add_one, List.getElem?_eq_getElem (by rw [Array.length_toList]; exact h)]
  rfl
set_option maxHeartbeats 2000000 in
theorem lexLines_short (s : ByteArray) (w : World) (h : s.size ≤ 65536) : Calls Try.prog 31 #[.string s] w (LinesPost w (LexM.lines s.data.toList)) := by
  have hlen : s.data.toList.length = s.size := by rw [Array.length_toList]; rfl
  have hr : LexM.lines s.data.toList = LexM.close (LexM.run LexM.st0 s.data.toList) := by unfold LexM.lines; rw [if_neg]; omega
  rw [hr]
  clear hr
  obtain ⟨t, ht⟩ : ∃ t, t = s.data.toList := ⟨_, rfl⟩
  rw [← ht] at hlen ⊢
  have h0 := LexSt.start (w.alloc (.cells #[.int .i64 0, .int .i64 0] 47))
  simp only [World.size_alloc] at h0
  have hg0 : LexGone (w.alloc (.cells #[.int .i64 0, .int .i64 0] 47)) (w.heap.size + 1) t 0 ((w.alloc (.cells #[.int .i64 0, .int .i64 0] 47)).alloc (.cells (lexCells LexM.st0 (.slice none 0 0) (.slice none 0 0) (.slice none 0 0)) 94)) := ⟨rfl, _, _, _, _, h0⟩
  have Ht := Lib.hid ht; have Hlen := Lib.hid hlen; have Hg0 := Lib.hid hg0; clear ht hlen hg0
  clear h0
  go_enter Try.func31, Try.ntmps31
  go_wp2_with fail
  obtain ⟨w2, hw2⟩ : ∃ w2, w2 = ((w.alloc (.cells #[.int .i64 0, .int .i64 0] 47)).alloc (.cells (lexCells LexM.st0 (.slice none 0 0) (.slice none 0 0) (.slice none 0 0)) 94)) := ⟨_, rfl⟩
  rw [← hw2] at Hg0
  have hw3 := hw2
  simp only [lexCells, LexM.st0] at hw3
  rw [← hw3]
  clear hw2 hw3
  go_loopw [16] (fun i wr => ∃ k : Nat, k ≤ s.size ∧ i = .int .i64 k ∧ LexGone (w.alloc (.cells #[.int .i64 0, .int .i64 0] 47)) (w.heap.size + 1) t k wr) (fun i _ => s.size - (intOf i).toNat)
  case atStart => exact ⟨0, Nat.zero_le _, rfl, Hg0.out⟩
  case round =>
    obtain ⟨k, hk, rfl, hg⟩ := hrel
    obtain ⟨hz, wv, sv, ov, rv, hL⟩ := hg
    have hS := run_small (t.take k) LexM.st0 0 small0 hz
    have htl : (t.take k).length ≤ k := List.length_take_le _ _
    obtain ⟨st, hst⟩ : ∃ st, st = (LexM.run LexM.st0 (t.take k)).1 := ⟨_, rfl⟩
    rw [← hst] at hL hS
    by_cases hlt : k < s.size
    · have hsn := byte_at s k hlt
      have Hz := Lib.hid hz; have HL := Lib.hid hL; have HS := Lib.hid hS; have Hst := Lib.hid hst; have Hsn := Lib.hid hsn; clear hz hL hS hst hsn
      go_wp2_with fail
      refine (takes_any HL.out (by omega) HS.out s[k]).mono ?_
      rintro e w3 ⟨rfl, wv3, sv3, ov3, rv3, h3⟩
      obtain ⟨er, her⟩ : ∃ er, er = (LexM.takes st s[k]).2 := ⟨_, rfl⟩
      have htk : LexM.run LexM.st0 (t.take (k + 1)) = if (LexM.takes st s[k]).2 = 0 then ((LexM.takes st s[k]).1, 0) else LexM.takes st s[k] := by
        rw [Ht.out, Hsn.out, ← Ht.out, run_snoc_ok _ _ _ Hz.out, ← Hst.out]
      rw [← her] at htk ⊢
      by_cases he : er = 0
      · have hb : (er != 0) = false := by rw [he]; rfl
        rw [if_pos he] at htk
        have hg : LexGone (w.alloc (.cells #[.int .i64 0, .int .i64 0] 47)) (w.heap.size + 1) t (k + 1) w3 := ⟨by rw [htk], wv3, sv3, ov3, rv3, by rw [htk]; exact h3⟩
        have Hg := Lib.hid hg; have Htk := Lib.hid htk; have Her := Lib.hid her; have He := Lib.hid he; clear hg htk her he
        clear h3
        go_wp2_with fail
        go_roundw
        case rel => exact ⟨k + 1, by omega, by go_num, Hg.out⟩
        case measure => simp [intOf]; omega
      · have hb : (er != 0) = true := by rw [bne_iff_ne]; exact he
        rw [if_neg he] at htk
        have hsplit : t = t.take (k + 1) ++ t.drop (k + 1) := (List.take_append_drop _ _).symm
        have hrun : LexM.run LexM.st0 t = LexM.takes st s[k] := by
          rw [hsplit, run_stop _ _ _ (by rw [htk]; rw [← her]; exact he), htk]
        have hcl : LexM.close (LexM.run LexM.st0 t) = ⟨[], (LexM.takes st s[k]).1.line, (LexM.takes st s[k]).1.col, er⟩ := by
          rw [hrun]; unfold LexM.close; rw [← her, if_neg he]
        have x0 := cells_at h3.cells 0
        have x1 := cells_at h3.cells 1
        simp only [lexCells, List.getElem?_toArray, List.getElem?_cons_succ, List.getElem?_cons_zero] at x0 x1
        obtain ⟨l3, hl3⟩ : ∃ l3, l3 = (LexM.takes st s[k]).1.line := ⟨_, rfl⟩
        obtain ⟨c3, hc3⟩ : ∃ c3, c3 = (LexM.takes st s[k]).1.col := ⟨_, rfl⟩
        rw [← hl3] at x0 hcl
        rw [← hc3] at x1 hcl
        have hblk : w3.heap[w.heap.size]? = some (.cells #[.int .i64 0, .int .i64 0] 47 (0, 0)) := by
          rw [h3.bel.block _ (by simp)]; exact heap_alloc_new w _
        have z0 := cells_at hblk 0
        have z1 := cells_at hblk 1
        have y0 := frozen_at hblk 0
        have y1 := frozen_at hblk 1
        simp only [List.getElem?_toArray, List.getElem?_cons_succ, List.getElem?_cons_zero] at z0 z1
        have hbel := h3.bel
        have Hbel := Lib.hid hbel; have Htk := Lib.hid htk; have Her := Lib.hid her; have He := Lib.hid he; have Hrun := Lib.hid hrun; have Hcl := Lib.hid hcl; have Hsplit := Lib.hid hsplit; have Hl3 := Lib.hid hl3; have Hc3 := Lib.hid hc3; have H3 := Lib.hid h3; clear hbel htk her he hrun hcl hsplit hl3 hc3 h3
        clear hblk
        go_wp2_with fail
        go_region
        all_goals
          go_wp2_with fail
          refine bodyPost_ret (v := .tuple #[.slice none 0 0, .agg #[.int .i64 l3, .int .i64 c3], .int .i64 er]) (by simp [results, Try.results31, go_sem, z0, z1]) rfl ?_
          rw [Hcl.out]
          refine ⟨_, rfl, ⟨none, 0, rfl, Nat.le_refl _, Nat.zero_le _, fun i x hi => by simp at hi⟩, ?_⟩
          exact ((((Below.refl _ _).alloc (Nat.le_refl _) _).trans (Hbel.out.mono (by simp))).setCell (Nat.le_refl _) _).setCell (Nat.le_refl _) _ |>.drew
    · obtain rfl : k = s.size := by omega
      have htake : t.take s.size = t := List.take_of_length_le (by have := Hlen.out; omega)
      have hF := run_fine (t.take s.size) LexM.st0 0 small0 ⟨by simp [LexM.st0], by simp [LexM.st0]⟩ hz
      rw [← hst] at hF
      have hcl : LexM.close (LexM.run LexM.st0 t) = ⟨(LexM.breaks st).out, 0, 0, 0⟩ := by
        rw [htake] at hz hst
        unfold LexM.close; rw [if_pos hz, ← hst]
      have hF2 := breaks_fine hS hF
      have Hz := Lib.hid hz; have HL := Lib.hid hL; have HS := Lib.hid hS; have Hst := Lib.hid hst; have Htake := Lib.hid htake; have Hcl := Lib.hid hcl; have HF := Lib.hid hF; have HF2 := Lib.hid hF2; clear hz hL hS hst htake hcl hF hF2
      go_wp2_with fail
      refine (breaks_any HL.out (by omega) HS.out).mono ?_
      rintro e w3 ⟨rfl, wv3, sv3, ov3, rv3, h3⟩
      have x6 := cells_at h3.cells 6
      simp only [lexCells, List.getElem?_toArray, List.getElem?_cons_succ, List.getElem?_cons_zero] at x6
      have hblk : w3.heap[w.heap.size]? = some (.cells #[.int .i64 0, .int .i64 0] 47 (0, 0)) := by
        rw [h3.bel.block _ (by simp)]; exact heap_alloc_new w _
      have z0 := cells_at hblk 0
      have z1 := cells_at hblk 1
      have y0 := frozen_at hblk 0
      have y1 := frozen_at hblk 1
      simp only [List.getElem?_toArray, List.getElem?_cons_succ, List.getElem?_cons_zero] at z0 z1
      have hRd := h3.reads (w' := (w3.setCell ⟨w.heap.size, 0, none⟩ (.int .i64 0)).setCell ⟨w.heap.size, 1, none⟩ (.int .i64 0)) (Frm.setCell (Frm.setCell (Frm.refl _ _) (p := ⟨w.heap.size, 0, none⟩) (.inr (by simp)) _) (p := ⟨w.heap.size, 1, none⟩) (.inr (by simp)) _) (by omega) HF2.out
      have hbel := h3.bel
      have Hbel := Lib.hid hbel; have HRd := Lib.hid hRd; have H3 := Lib.hid h3; clear hbel hRd h3
      clear hblk
      go_wp2_with fail
      refine bodyPost_ret (v := .tuple #[ov3, .agg #[.int .i64 0, .int .i64 0], .int .i64 0]) (by simp [results, Try.results31, go_sem, z0, z1]) rfl ?_
      rw [Hcl.out]
      refine ⟨_, rfl, ?_, ?_⟩
      · exact HRd.out
      · exact (((((Below.refl _ _).alloc (Nat.le_refl _) _).trans (Hbel.out.mono (by simp))).setCell (Nat.le_refl _) _).setCell (Nat.le_refl _) _)

theorem lexLines_any (s : ByteArray) (hs : s.size ≤ 140737488351232) (w : World) : Calls Try.prog 31 #[.string s] w (LinesPost w (LexM.lines s.data.toList)) := by
  by_cases h : 65536 < s.size
  · exact lexLines_long s hs w h
  · exact lexLines_short s w (by omega)
end Go.Proofs.Ytoljhahmmdibfaa
