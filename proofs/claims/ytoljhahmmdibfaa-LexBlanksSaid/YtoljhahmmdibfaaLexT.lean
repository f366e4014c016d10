/- The walks of the lexer: begins, takes. Condition: nothing is great. -/
import Derived.Test.YtoljhahmmdibfaaLexB
namespace Go.Proofs.Ytoljhahmmdibfaa
open Go.RowKit
open LexM (Bs Wd Ln St)

def LexTold (w0 : World) (x : Nat) (s : St) (v : Value) (e : Ending) (w' : World) : Prop := e = .returned v ∧ ∃ wv sv ov rv, LexSt w0 x s wv sv ov rv w'
theorem lextold {w0 w : World} {x : Nat} {s s' : St} {wv sv ov v v' : Value} {rv : List Value} (h : LexSt w0 x s' wv sv ov rv w) (e : s' = s) (hv : v' = v) : LexTold w0 x s v (.returned v') w := ⟨by rw [hv], wv, sv, ov, rv, e ▸ h⟩
theorem LexSt.scal {w0 w : World} {x : Nat} {s : St} {wv sv ov : Value} {rv : List Value} (h : LexSt w0 x s wv sv ov rv w) (i : Nat) (u : Value) (s' : St) (hc : ((lexCells s wv sv ov).setIfInBounds i u) = lexCells s' wv sv ov) (h1 : s'.word = s.word) (h2 : s'.words = s.words) (h3 : s'.out = s.out) :
    LexSt w0 x s' wv sv ov rv (w.setCell ⟨x, i, none⟩ u) := by
  refine h.to (Frm.setCell (S := fun k => k = x) (Frm.refl _ _) (p := ⟨x, i, none⟩) (.inr rfl) _) ?_ (.inl ⟨rfl, h1⟩) (.inl ⟨rfl, h2⟩) h3
  rw [heap_setCell_same w x i _ _ u h.cells, hc]

set_option maxHeartbeats 1000000 in
theorem begins_any {w0 w : World} {x : Nat} {s : St} {wv sv ov : Value} {rv : List Value} (h : LexSt w0 x s wv sv ov rv w) (hf : ¬ 0 < s.frm) :
    Calls Try.prog 65 #[lexp x] w (LexTold w0 x { s with frm := s.col } (.bool (LexM.mayBegin s))) := by
  obtain ⟨sa, sc, rfl⟩ := own_shape h.words
  obtain ⟨oa, oc, rfl⟩ := own_shape h.out
  have d1 := cells_at h.cells 1
  have d2 := cells_at h.cells 2
  have d5 := cells_at h.cells 5
  have d6 := cells_at h.cells 6
  have e2 := frozen_at h.cells 2
  simp only [lexCells, List.getElem?_toArray, List.getElem?_cons_succ, List.getElem?_cons_zero] at d1 d2 d5 d6
  have hL := h.scal 2 (.int .i64 s.col) { s with frm := s.col } rfl rfl rfl rfl
  have Hh := Lib.hid h; have HL := Lib.hid hL; clear h hL
  by_cases h1 : s.words.length < 40
  · by_cases h2 : 0 < s.words.length
    · have hb : LexM.mayBegin s = true := by unfold LexM.mayBegin; simp [h1, h2]
      have Hb := Lib.hid hb; clear hb
      go_enter Try.func65, Try.ntmps65
      go_wp2_with fail
      go_ret
      exact lextold HL.out rfl (by rw [Hb.out]; rfl)
    · by_cases h3 : s.out.length < 2000
      · have hb : LexM.mayBegin s = true := by unfold LexM.mayBegin; simp [h1, h3]
        have Hb := Lib.hid hb; clear hb
        go_enter Try.func65, Try.ntmps65
        go_wp2_with fail
        go_ret
        exact lextold HL.out rfl (by rw [Hb.out]; exact congrArg Value.bool (decide_eq_true (by omega)))
      · have hb : LexM.mayBegin s = false := by unfold LexM.mayBegin; simp [h2, h3]
        have Hb := Lib.hid hb; clear hb
        go_enter Try.func65, Try.ntmps65
        go_wp2_with fail
        go_ret
        exact lextold HL.out rfl (by rw [Hb.out]; exact congrArg Value.bool (decide_eq_false (by omega)))
  · have hb : LexM.mayBegin s = false := by unfold LexM.mayBegin; simp [h1]
    have Hb := Lib.hid hb; clear hb
    go_enter Try.func65, Try.ntmps65
    go_wp2_with fail
    go_ret
    exact lextold HL.out rfl (by rw [Hb.out]; rfl)
set_option maxHeartbeats 400000 in
theorem begins_on {w0 w : World} {x : Nat} {s : St} {wv sv ov : Value} {rv : List Value} (h : LexSt w0 x s wv sv ov rv w) (hf : 0 < s.frm) :
    Calls Try.prog 65 #[lexp x] w (LexTold w0 x s (.bool true)) := by
  have d2 := cells_at h.cells 2
  simp only [lexCells, List.getElem?_toArray, List.getElem?_cons_succ, List.getElem?_cons_zero] at d2
  have Hh := Lib.hid h; clear h
  go_enter Try.func65, Try.ntmps65
  go_wp2_with fail
  go_ret
  exact lextold Hh.out rfl rfl

theorem small_on {s : St} {m : Nat} (h : Small s m) : Small (LexM.onward s) (m + 1) := by
  obtain ⟨a, b, c, d, e, f, g⟩ := h
  refine ⟨?_, ?_, ?_, ?_, ?_, ?_, g⟩ <;> simp only [LexM.onward] <;> omega
/-- a byte is taken: the first store -/
theorem LexSt.on {w0 w : World} {x : Nat} {s : St} {wv sv ov : Value} {rv : List Value} (h : LexSt w0 x s wv sv ov rv w) : LexSt w0 x (LexM.onward s) wv sv ov rv (w.setCell ⟨x, 1, none⟩ (.int .i64 (s.col + 1))) :=
  h.scal 1 (.int .i64 (s.col + 1)) (LexM.onward s) rfl rfl rfl rfl

def TakePost (w0 : World) (x : Nat) (s : St) (c : UInt8) : Ending → World → Prop := LexTold w0 x (LexM.takes s c).1 (.int .i64 (LexM.takes s c).2)

set_option maxHeartbeats 2000000 in
theorem takes_any {w0 w : World} {x : Nat} {s : St} {wv sv ov : Value} {rv : List Value} (h : LexSt w0 x s wv sv ov rv w) {m : Nat} (hm : m < 1000000) (hs : Small s m) (c : UInt8) :
    Calls Try.prog 45 #[lexp x, .int .u8 c.toNat] w (TakePost w0 x s c) := by
  have hcol := hs.col
  have hcl : c.toNat < 256 := c.toNat_lt
  have d1 := cells_at h.cells 1
  have e1 := frozen_at h.cells 1
  have h2 := h.on
  have hs2 := small_on hs
  obtain ⟨n, hn⟩ : ∃ n, n = c.toNat := ⟨_, rfl⟩
  rw [← hn] at hcl ⊢
  simp only [lexCells, List.getElem?_toArray, List.getElem?_cons_succ, List.getElem?_cons_zero] at d1
  have Hh := Lib.hid h; have H2 := Lib.hid h2; have Hs := Lib.hid hs; have Hs2 := Lib.hid hs2; have Hn := Lib.hid hn; clear h h2 hs hs2 hn
  by_cases h10 : n = 10
  · have ht : LexM.takes s c = (LexM.breaks (LexM.onward s), 0) := by unfold LexM.takes; rw [if_pos (by rw [← Hn.out]; exact h10)]
    have b10 : ((n : Int) == 10) = true := by rw [beq_iff_eq]; omega
    have HB := Lib.hid (breaks_any H2.out (by omega) Hs2.out)
    unfold TakePost
    rw [ht]
    have Ht := Lib.hid ht; have H10 := Lib.hid h10; clear ht h10
    go_enter Try.func45, Try.ntmps45
    go_wp2_with fail
    refine HB.out.mono ?_
    rintro e w1 ⟨rfl, wv1, sv1, ov1, rv1, h1⟩
    have H1 := Lib.hid h1; clear h1
    go_wp2_with fail
    go_ret
    exact lextold H1.out rfl rfl
  · have c10 : ¬ c.toNat = 10 := by rw [← Hn.out]; exact h10
    have b10 : ((n : Int) == 10) = false := by rw [beq_eq_false_iff_ne]; omega
    by_cases hA : n < 32 ∨ 126 < n
    · have ht : LexM.takes s c = (LexM.onward s, 3) := by unfold LexM.takes; rw [if_neg c10, if_pos (by rw [← Hn.out]; exact hA)]
      unfold TakePost
      rw [ht]
      clear ht h10 c10
      by_cases h32 : n < 32
      · clear hA
        go_enter Try.func45, Try.ntmps45
        go_wp2_with fail
        go_ret
        exact lextold H2.out rfl rfl
      · have h126 : 126 < n := by omega
        clear hA
        go_enter Try.func45, Try.ntmps45
        go_wp2_with fail
        go_ret
        exact lextold H2.out rfl rfl
    · have hlo : 32 ≤ n := by omega
      have hhi : n ≤ 126 := by omega
      have cA : ¬ (c.toNat < 32 ∨ 126 < c.toNat) := by rw [← Hn.out]; exact hA
      have d3 := cells_at Hh.out.cells 3
      simp only [lexCells, List.getElem?_toArray, List.getElem?_cons_succ, List.getElem?_cons_zero] at d3
      obtain ⟨off, hoff⟩ : ∃ off, off = s.off := ⟨_, rfl⟩
      rw [← hoff] at d3
      clear hA h10
      cases off
      · have coff : ¬ s.off = true := by rw [← hoff]; simp
        clear hoff
        by_cases h35 : n = 35
        · have ht : LexM.takes s c = ({ LexM.ends (LexM.onward s) with off := true }, 0) := by unfold LexM.takes; rw [if_neg c10, if_neg cA, if_neg coff, if_pos (by rw [← Hn.out]; exact h35)]
          have b35 : ((n : Int) == 35) = true := by rw [beq_iff_eq]; omega
          have HE := Lib.hid (ends_any H2.out (by omega) Hs2.out)
          unfold TakePost
          rw [ht]
          clear ht c10 cA coff h35
          go_enter Try.func45, Try.ntmps45
          go_wp2_with fail
          refine HE.out.mono ?_
          rintro e w1 ⟨rfl, wv1, sv1, ov1, rv1, h1⟩
          have e3 := cells_at h1.cells 3
          have f3 := frozen_at h1.cells 3
          simp only [lexCells, List.getElem?_toArray, List.getElem?_cons_succ, List.getElem?_cons_zero] at e3
          have hX := h1.scal 3 (.bool true) { LexM.ends (LexM.onward s) with off := true } rfl rfl rfl rfl
          have H1 := Lib.hid h1; have HX := Lib.hid hX; clear h1 hX
          go_wp2_with fail
          go_ret
          exact lextold HX.out rfl rfl
        · have c35 : ¬ c.toNat = 35 := by rw [← Hn.out]; exact h35
          have b35 : ((n : Int) == 35) = false := by rw [beq_eq_false_iff_ne]; omega
          by_cases h32 : n = 32
          · have ht : LexM.takes s c = (LexM.ends (LexM.onward s), 0) := by unfold LexM.takes; rw [if_neg c10, if_neg cA, if_neg coff, if_neg c35, if_pos (by rw [← Hn.out]; exact h32)]
            have b32 : ((n : Int) == 32) = true := by rw [beq_iff_eq]; omega
            have HE := Lib.hid (ends_any H2.out (by omega) Hs2.out)
            unfold TakePost
            rw [ht]
            clear ht c10 cA coff h35 c35 h32
            go_enter Try.func45, Try.ntmps45
            go_wp2_with fail
            refine HE.out.mono ?_
            rintro e w1 ⟨rfl, wv1, sv1, ov1, rv1, h1⟩
            have H1 := Lib.hid h1; clear h1
            go_wp2_with fail
            go_ret
            exact lextold H1.out rfl rfl
          · have c32 : ¬ c.toNat = 32 := by rw [← Hn.out]; exact h32
            have b32 : ((n : Int) == 32) = false := by rw [beq_eq_false_iff_ne]; omega
            by_cases hfr : 0 < s.frm
            · have ht : LexM.takes s c = ({ LexM.onward s with word := s.word ++ [c] }, 0) := by unfold LexM.takes; rw [if_neg c10, if_neg cA, if_neg coff, if_neg c35, if_neg c32, if_pos hfr]
              have HE := Lib.hid (begins_on H2.out (show 0 < (LexM.onward s).frm from hfr))
              have Ht := Lib.hid ht; clear ht
              clear c10 cA coff h35 c35 h32 c32 hfr
              go_enter Try.func45, Try.ntmps45
              go_wp2_with fail
              refine HE.out.mono ?_
              rintro e w1 ⟨rfl, wv1, sv1, ov1, rv1, h1⟩
              have e4 := cells_at h1.cells 4
              simp only [lexCells, List.getElem?_toArray, List.getElem?_cons_succ, List.getElem?_cons_zero] at e4
              have hB1 := h1.bel.size
              have hx1 := apart_block h1.word h1.cells (by decide)
              have how := h1.word
              have hwl : s.word.length ≤ m := Hs.out.word
              have H1 := Lib.hid h1; have Hx1 := Lib.hid hx1; have How := Lib.hid how; clear h1 hx1 how
              go_wp2_with (at_builtin; refine wpList_append_some elem_byte (w := w1) rfl (.tmp 16) (.tmp 18) rfl w0.heap.size wv1 s.word.length (byVals s.word) rfl How.out 1 (by decide) #[.int .u8 n] rfl rfl (by simp [Value.oneCell']) (by omega) (by unfold maxLen; omega) hB1 ?_)
              intro g8 c8 w8 hown8 hg8 hm8
              have hc8 := heap_to H1.out.cells ((Frm.refl _ w1).grown hg8 (S := fun k => wv1.ownBlock = some k) (fun k hk => .inr hk)) Hx1.out
              have k4 := cells_at hc8 4
              have f4 := frozen_at hc8 4
              simp only [lexCells, List.getElem?_toArray, List.getElem?_cons_succ, List.getElem?_cons_zero] at k4
              have hP := H1.out.pushByte c (by rw [← Hn.out]; exact hown8) hg8
              have HP := Lib.hid hP; clear hP
              clear hown8 hg8 hm8 hc8
              go_wp2_with fail
              go_ret
              exact lextold HP.out (by rw [Ht.out]; rfl) (by rw [Ht.out]; rfl)
            · have HE := Lib.hid (begins_any H2.out (show ¬ 0 < (LexM.onward s).frm from hfr))
              by_cases hmb : LexM.mayBegin s = true
              · have ht : LexM.takes s c = ({ LexM.onward s with frm := s.col + 1, word := s.word ++ [c] }, 0) := by unfold LexM.takes; rw [if_neg c10, if_neg cA, if_neg coff, if_neg c35, if_neg c32, if_neg hfr, if_pos hmb]
                have hmb2 : LexM.mayBegin (LexM.onward s) = true := hmb
                rw [hmb2] at HE
                have Ht := Lib.hid ht; clear ht
                clear c10 cA coff h35 c35 h32 c32 hfr hmb hmb2
                go_enter Try.func45, Try.ntmps45
                go_wp2_with fail
                refine HE.out.mono ?_
                rintro e w1 ⟨rfl, wv1, sv1, ov1, rv1, h1⟩
                have e4 := cells_at h1.cells 4
                simp only [lexCells, List.getElem?_toArray, List.getElem?_cons_succ, List.getElem?_cons_zero] at e4
                have hB1 := h1.bel.size
                have hx1 := apart_block h1.word h1.cells (by decide)
                have how := h1.word
                have hwl : s.word.length ≤ m := Hs.out.word
                have H1 := Lib.hid h1; have Hx1 := Lib.hid hx1; have How := Lib.hid how; clear h1 hx1 how
                go_wp2_with (at_builtin; refine wpList_append_some elem_byte (w := w1) rfl (.tmp 16) (.tmp 18) rfl w0.heap.size wv1 s.word.length (byVals s.word) rfl How.out 1 (by decide) #[.int .u8 n] rfl rfl (by simp [Value.oneCell']) (by omega) (by unfold maxLen; omega) hB1 ?_)
                intro g8 c8 w8 hown8 hg8 hm8
                have hc8 := heap_to H1.out.cells ((Frm.refl _ w1).grown hg8 (S := fun k => wv1.ownBlock = some k) (fun k hk => .inr hk)) Hx1.out
                have k4 := cells_at hc8 4
                have f4 := frozen_at hc8 4
                simp only [lexCells, List.getElem?_toArray, List.getElem?_cons_succ, List.getElem?_cons_zero] at k4
                have hP := H1.out.pushByte c (by rw [← Hn.out]; exact hown8) hg8
                have HP := Lib.hid hP; clear hP
                clear hown8 hg8 hm8 hc8
                go_wp2_with fail
                go_ret
                exact lextold HP.out (by rw [Ht.out]; rfl) (by rw [Ht.out]; rfl)
              · have ht : LexM.takes s c = ({ LexM.onward s with frm := s.col + 1 }, 4) := by unfold LexM.takes; rw [if_neg c10, if_neg cA, if_neg coff, if_neg c35, if_neg c32, if_neg hfr, if_neg hmb]
                have hmb2 : LexM.mayBegin (LexM.onward s) = false := (by simpa using hmb : LexM.mayBegin s = false)
                rw [hmb2] at HE
                have Ht := Lib.hid ht; clear ht
                clear c10 cA coff h35 c35 h32 c32 hfr hmb hmb2
                go_enter Try.func45, Try.ntmps45
                go_wp2_with fail
                refine HE.out.mono ?_
                rintro e w1 ⟨rfl, wv1, sv1, ov1, rv1, h1⟩
                have H1 := Lib.hid h1; clear h1
                go_wp2_with fail
                go_ret
                exact lextold H1.out (by rw [Ht.out]; rfl) (by rw [Ht.out]; rfl)
      · have coff : s.off = true := hoff.symm
        have ht : LexM.takes s c = (LexM.onward s, 0) := by unfold LexM.takes; rw [if_neg c10, if_neg cA, if_pos coff]
        unfold TakePost
        rw [ht]
        clear ht c10 cA coff hoff
        go_enter Try.func45, Try.ntmps45
        go_wp2_with fail
        go_ret
        exact lextold H2.out rfl rfl
end Go.Proofs.Ytoljhahmmdibfaa
