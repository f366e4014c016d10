/- The walk of cooperref05.Lines. Condition: the text is not longer than there may be memory. -/
import Derived.Test.YtoljhahmmdibfaaLexR
import Derived.Test.YtoljhahmmdibfaaLexL
namespace Go.Proofs.Ytoljhahmmdibfaa
open Go.RowKit
open LexM (Bs Wd Ln St RS)

theorem below_undrew {w w' : World} (h : Below w.drew.heap.size w.drew w') : Below w.heap.size w w' := ⟨h.os, h.tape, h.output, h.size, h.block⟩
/-- lines that a call owns -/
structure LnsOwn (B : Nat) (out : List Ln) (ov : Value) (rv : List Value) (w : World) : Prop where
  row : w.ownsRow B 58 2 ov out.length (lnCells out rv)
  rlen : rv.length = out.length
  rows : ∀ (i : Nat) (ln : Ln) (v : Value), out[i]? = some ln → rv[i]? = some v → w.ownsRow B 91 2 v ln.2.length (ln.2.flatMap wdCells)
theorem LnsOwn.kept {B : Nat} {out : List Ln} {ov : Value} {rv : List Value} {w w' : World} (h : LnsOwn B out ov rv w) {S : Nat → Prop} (hf : Frm S w w') (hS : ∀ k cs, S k → w.heap[k]? = some (.cells cs 58 (0, 0)) → False) (hS2 : ∀ k cs, S k → w.heap[k]? = some (.cells cs 91 (0, 0)) → False) : LnsOwn B out ov rv w' :=
  ⟨hf.owns h.row (fun k hk e => by obtain ⟨cs, hc⟩ := own_type h.row k hk; exact hS k cs e hc), h.rlen, fun i ln v hi hv => hf.owns (h.rows i ln v hi hv) (fun k hk e => by obtain ⟨cs, hc⟩ := own_type (h.rows i ln v hi hv) k hk; exact hS2 k cs e hc)⟩
theorem LnsOwn.below {B : Nat} {out : List Ln} {ov : Value} {rv : List Value} {w w' : World} (h : LnsOwn B out ov rv w) (hb : Below w.heap.size w w') : LnsOwn B out ov rv w' :=
  h.kept (S := fun _ => False) (Frm.of_below hb) (fun _ _ h => h.elim) (fun _ _ h => h.elim)
theorem LnsOwn.push {B : Nat} {out : List Ln} {ov ov' : Value} {rv : List Value} {w w3 : World} (h : LnsOwn B out ov rv w) (n : Int) (ws : List Wd) (v : Value) (hv : w.ownsRow B 91 2 v ws.length (ws.flatMap wdCells))
    (hown : w3.ownsRow B 58 2 ov' (out.length + 1) (lnCells out rv ++ [.int .i64 n, v])) (hg : w.grownBy w3 ov.ownBlock) : LnsOwn B (out ++ [(n, ws)]) ov' (rv ++ [v]) w3 := by
  have f1 : Frm (fun k => ov.ownBlock = some k) w w3 := (Frm.refl _ w).grown hg (fun k hk => .inr hk)
  refine ⟨by rw [lnCells_snoc h.rlen, List.length_append]; exact hown, by simp [h.rlen], ?_⟩
  intro i ln u hi hu
  by_cases hlt : i < out.length
  · rw [List.getElem?_append_left hlt] at hi
    rw [List.getElem?_append_left (by rw [h.rlen]; exact hlt)] at hu
    have r1 := h.rows i ln u hi hu
    exact f1.owns r1 (fun k hk e => apart_type r1 h.row (by decide) k hk e)
  · have hil := (List.getElem?_eq_some_iff.1 hi).1
    simp at hil
    obtain rfl : i = out.length := by omega
    have hh := h.rlen
    rw [List.getElem?_append_right (Nat.le_refl _)] at hi
    rw [← hh, List.getElem?_append_right (Nat.le_refl _)] at hu
    simp at hi hu
    subst hi; subst hu
    exact f1.owns hv (fun k hk e => apart_type hv h.row (by decide) k hk e)
theorem LnsOwn.reads {B : Nat} {out : List Ln} {ov : Value} {rv : List Value} {w : World} (h : LnsOwn B out ov rv w) {m : Nat} (hm : m ≤ 10000000) (hf : ∀ ln ∈ out, LnOk m ln) : RLns w [ov] out := by
  have hlen : (out.zip rv).length = out.length := by simp [h.rlen]
  have h1 := h.row
  have h2 : RSlice 2 (fun w cs (y : Ln × Value) => RLn w cs y.1) w [ov] (out.zip rv) := by
    refine rslice_of_owns (B := B) (e := 58) (fun x : Ln × Value => [.int .i64 x.1.1, x.2]) _ (fun _ _ => rfl) ?_ (by rw [hlen]; exact h1)
    intro y hy
    obtain ⟨i, hi, rfl⟩ := List.mem_iff_getElem.1 hy
    have hi1 : i < out.length := by omega
    have hi2 : i < rv.length := by rw [h.rlen]; exact hi1
    rw [List.getElem_zip]
    have r1 := h.rows i out[i] rv[i] (List.getElem?_eq_getElem hi1) (List.getElem?_eq_getElem hi2)
    obtain ⟨a, b, c⟩ := hf _ (List.getElem_mem hi1)
    exact ⟨rv[i], rfl, rslice_of_owns wdCells RWd (fun _ _ => rfl) (fun wd hw => rword hm (c wd hw)) r1, wf_small (n := out[i].1) a (by omega)⟩
  obtain ⟨a, cap, hv, g1, g2, g3⟩ := h2
  rw [hlen] at hv g1
  refine ⟨a, cap, hv, g1, g2, fun i ln hi => ?_⟩
  have hi1 := (List.getElem?_eq_some_iff.1 hi).1
  have hi2 : i < rv.length := by rw [h.rlen]; exact hi1
  have hzi : (out.zip rv)[i]? = some (ln, rv[i]) := by
    rw [List.getElem?_zip_eq_some]
    exact ⟨hi, List.getElem?_eq_getElem hi2⟩
  exact g3 i _ hzi

/-- the document's lines are fine -/
theorem lines_fine (t : Bs) (h : t.length ≤ 65536) : ∀ ln ∈ (LexM.docLines t).lines, LnOk 200000 ln := by
  rw [← LexM.lines_eq]
  unfold LexM.lines
  rw [if_neg (by omega)]
  unfold LexM.close
  split
  · rename_i h0
    have h1 := run_small t LexM.st0 0 small0 h0
    have h2 := run_fine t LexM.st0 0 small0 ⟨by simp [LexM.st0], by simp [LexM.st0]⟩ h0
    exact ((breaks_fine h1 h2).mono (by omega)).out
  · simp

def DocPost (w : World) (r : LexM.Res) (e : Ending) (w' : World) : Prop := ∃ v, e = .returned (.agg #[v, .int .i64 r.at1, .int .i64 r.at2, .int .i64 r.e]) ∧ RLns w' [v] r.lines ∧ Below w.heap.size w w'
/-- what is said at a place -/
def DocAt (doc : LexM.Res) (t : Bs) (i : Nat) (n : Int) (f : Nat) (out : List Ln) : Prop :=
  (i ≤ t.length ∧ f ≤ i ∧ doc = LexM.rlines n ((t.drop f).take (i - f)) out (t.drop i)) ∨ (i = t.length + 1 ∧ f = i ∧ doc = ⟨out, 0, 0, 0⟩)
theorem docAt_on {doc : LexM.Res} {t : Bs} {i : Nat} {n : Int} {f : Nat} {out : List Ln} {c : UInt8} (h : DocAt doc t i n f out) (hi : i < t.length) (hc : t.getD i 0 = c) (h10 : c.toNat ≠ 10) : DocAt doc t (i + 1) n f out := by
  rcases h with ⟨h1, h2, h3⟩ | ⟨h1, _, _⟩
  · left
    refine ⟨by omega, by omega, ?_⟩
    have hd : t.drop i = c :: t.drop (i + 1) := by
      rw [List.drop_eq_getElem_cons hi]
      congr 1
      rw [← hc]; simp [List.getD, hi]
    rw [h3, hd]
    conv => lhs; unfold LexM.rlines
    rw [if_neg h10]
    congr 1
    have : i + 1 - f = (i - f) + 1 := by omega
    rw [this, List.take_add_one]
    congr 1
    rw [List.getElem?_drop, show f + (i - f) = i by omega]
    have : t[i]? = some c := by
      rw [List.getElem?_eq_getElem hi, ← hc]; simp [List.getD, hi]
    rw [this]; rfl
  · omega
theorem docAt_line {doc : LexM.Res} {t : Bs} {i : Nat} {n : Int} {f : Nat} {out : List Ln} (h : DocAt doc t i n f out) (hi : i ≤ t.length) (hc : i < t.length → (t.getD i 0).toNat = 10) :
    let q := LexM.rline ((t.drop f).take (i - f)) (decide (out.length < 2000))
    (q.2.2 = 0 → DocAt doc t (i + 1) (n + 1) (i + 1) (LexM.addLn out n q.1)) ∧ (q.2.2 ≠ 0 → doc = ⟨[], n, q.2.1, q.2.2⟩) := by
  intro q
  rcases h with ⟨h1, h2, h3⟩ | ⟨h1, _, _⟩
  · by_cases hlt : i < t.length
    · have hd : t.drop i = t.getD i 0 :: t.drop (i + 1) := by
        rw [List.drop_eq_getElem_cons hlt]
        congr 1
        simp [List.getD, hlt]
      rw [hd] at h3
      unfold LexM.rlines at h3
      rw [if_pos (hc hlt)] at h3
      dsimp only at h3
      constructor
      · intro hq
        rw [if_pos hq] at h3
        left
        refine ⟨by omega, Nat.le_refl _, ?_⟩
        rw [h3, Nat.sub_self]
        rfl
      · intro hq
        rw [if_neg hq] at h3
        exact h3
    · rw [List.drop_eq_nil_of_le (show t.length ≤ i by omega)] at h3
      unfold LexM.rlines at h3
      dsimp only at h3
      constructor
      · intro hq
        rw [if_pos hq] at h3
        right
        exact ⟨by omega, rfl, h3⟩
      · intro hq
        rw [if_neg hq] at h3
        exact h3
  · omega

abbrev refCells (ov : Value) : Array Value := #[ov, .int .i64 0, .int .i64 0, .int .i64 0]
structure RefSt (w1 : World) (x : Nat) (out : List Ln) (ov : Value) (rv : List Value) (w : World) : Prop where
  cells : w.heap[x]? = some (.cells (refCells ov) 52 (0, 0))
  own : LnsOwn w1.heap.size out ov rv w
  bel : Below w1.heap.size w1 w
  xB : w1.heap.size ≤ x
theorem RefSt.below {w1 w w' : World} {x : Nat} {out : List Ln} {ov : Value} {rv : List Value} (h : RefSt w1 x out ov rv w) (hb : Below w.heap.size w w') : RefSt w1 x out ov rv w' :=
  ⟨heap_to h.cells (Frm.of_below (S := fun _ => False) hb) (fun h => h), h.own.below hb, h.bel.trans (hb.mono h.bel.size), h.xB⟩
/-- a line more -/
theorem RefSt.push {w1 w w3 : World} {x : Nat} {out : List Ln} {ov ov' : Value} {rv : List Value} (h : RefSt w1 x out ov rv w) (n : Int) (ws : List Wd) (v : Value) (hv : w.ownsRow w1.heap.size 91 2 v ws.length (ws.flatMap wdCells))
    (hown : w3.ownsRow w1.heap.size 58 2 ov' (out.length + 1) (lnCells out rv ++ [.int .i64 n, v])) (hg : w.grownBy w3 ov.ownBlock) : RefSt w1 x (out ++ [(n, ws)]) ov' (rv ++ [v]) (w3.setCell ⟨x, 0, none⟩ ov') := by
  have hx := apart_block h.own.row h.cells (by decide)
  have f1 : Frm (fun k => ov.ownBlock = some k) w w3 := (Frm.refl _ w).grown hg (fun k hk => .inr hk)
  have hc3 := heap_to h.cells f1 hx
  have f2 := frm_cell (Frm.refl (fun k => k = x) w3) 0 ov'
  refine ⟨?_, ?_, ?_, h.xB⟩
  · rw [heap_setCell_same w3 x 0 _ _ ov' hc3]; rfl
  · refine (h.own.push n ws v hv hown hg).kept f2 (fun k cs e hc => ?_) (fun k cs e hc => ?_)
    · rw [e, hc3] at hc; simp at hc
    · rw [e, hc3] at hc; simp at hc
  · have b1 : Below w1.heap.size w w3 := f1.below h.bel.size (fun k hk => (h.own.row.lt k hk).1)
    exact (h.bel.trans b1).trans (f2.below (by have := h.bel.size; have := f1.size; omega) (fun k hk => by rw [hk]; exact h.xB))
/-- what the loop keeps -/
def DocGo (w1 : World) (x : Nat) (doc : LexM.Res) (t : Bs) (i : Nat) (nv fv : Value) (w : World) : Prop :=
  ∃ (n : Int) (f : Nat) (out : List Ln) (ov : Value) (rv : List Value), nv = .int .i64 n ∧ fv = .int .i64 f ∧ f ≤ i ∧ DocAt doc t i n f out ∧ RefSt w1 x out ov rv w ∧ out.length ≤ i ∧ 0 ≤ n ∧ n ≤ i + 1

set_option maxRecDepth 10000 in
set_option maxHeartbeats 2000000 in
theorem docLines_long (s : ByteArray) (hs : s.size ≤ 140737488351232) (w : World) (h : 65536 < s.size) : Calls Try.prog 32 #[.string s] w (DocPost w (LexM.docLines s.data.toList)) := by
  have hr : LexM.docLines s.data.toList = ⟨[], 0, 0, 4⟩ := by unfold LexM.docLines; rw [if_pos]; rw [Array.length_toList]; exact h
  rw [hr]
  clear hr
  go_enter Try.func32, Try.ntmps32
  go_wp2_with fail
  refine bodyPost_ret (v := .agg #[.slice none 0 0, .int .i64 0, .int .i64 0, .int .i64 4]) (by simp [results, Try.results32, go_sem]) rfl ⟨_, rfl, ⟨none, 0, rfl, Nat.le_refl _, Nat.zero_le _, fun i x hi => by simp at hi⟩, ?_⟩
  exact ((Below.refl _ _).alloc (Nat.le_refl _) _).alloc (by simp) _

set_option maxRecDepth 10000 in
set_option maxHeartbeats 4000000 in
theorem docLines_short (s : ByteArray) (w : World) (h : s.size ≤ 65536) : Calls Try.prog 32 #[.string s] w (DocPost w (LexM.docLines s.data.toList)) := by
  have hlen : s.data.toList.length = s.size := by rw [Array.length_toList]; rfl
  obtain ⟨t, ht⟩ : ∃ t, t = s.data.toList := ⟨_, rfl⟩
  rw [← ht] at hlen ⊢
  have hdoc : LexM.docLines t = LexM.rlines 1 [] [] t := by unfold LexM.docLines; rw [if_neg (by omega)]
  have hfine := lines_fine t (by omega)
  obtain ⟨doc, hd⟩ : ∃ doc, doc = LexM.docLines t := ⟨_, rfl⟩
  rw [← hd] at hfine hdoc ⊢
  obtain ⟨w1, hw1⟩ : ∃ w1, w1 = w.alloc (.cells (refCells (.slice none 0 0)) 52) := ⟨_, rfl⟩
  have hs1 : w1.heap.size = w.heap.size + 1 := by rw [hw1]; simp
  have h0 : DocGo w1 (w.heap.size + 1) doc t 0 (.int .i64 1) (.int .i64 0) (w1.alloc (.cells (refCells (.slice none 0 0)) 52)) := by
    refine ⟨1, 0, [], .slice none 0 0, [], rfl, rfl, Nat.le_refl _, .inl ⟨by omega, Nat.le_refl _, by rw [hdoc]; simp⟩, ⟨?_, ⟨World.ownsRow_nil _ _ _ _, rfl, fun i ln v hi => by simp at hi⟩, (Below.refl _ _).alloc (Nat.le_refl _) _, by omega⟩, by simp, by omega, by omega⟩
    have := heap_alloc_new w1 (.cells (refCells (.slice none 0 0)) 52)
    rw [hs1] at this
    exact this
  have hblk : w1.heap[w.heap.size]? = some (.cells (refCells (.slice none 0 0)) 52 (0, 0)) := by rw [hw1]; exact heap_alloc_new w _
  have hbel1 : Below w.heap.size w w1 := by rw [hw1]; exact (Below.refl _ _).alloc (Nat.le_refl _) _
  have Ht := Lib.hid ht; have Hlen := Lib.hid hlen; have Hdoc := Lib.hid hdoc; have Hfine := Lib.hid hfine; have Hd := Lib.hid hd; have H0 := Lib.hid h0; have Hblk := Lib.hid hblk; have Hs1 := Lib.hid hs1; have Hbel1 := Lib.hid hbel1; clear ht hlen hdoc hfine hd h0 hblk hs1 hbel1
  go_enter Try.func32, Try.ntmps32
  go_wp2_with fail
  have hw2 : (w.alloc (.cells #[.slice none 0 0, .int .i64 0, .int .i64 0, .int .i64 0] 52)).alloc (.cells #[.slice none 0 0, .int .i64 0, .int .i64 0, .int .i64 0] 52) = w1.alloc (.cells (refCells (.slice none 0 0)) 52) := by rw [hw1]
  rw [hw2]
  clear hw2 hw1
  go_loopw [4, 5, 6] (fun nv fv i wr => ∃ k : Nat, k ≤ s.size + 1 ∧ i = .int .i64 k ∧ DocGo w1 (w.heap.size + 1) doc t k nv fv wr) (fun _ _ i _ => s.size + 1 - (intOf i).toNat)
  case atStart => exact ⟨0, Nat.zero_le _, rfl, H0.out⟩
  case round =>
    obtain ⟨k, hk, rfl, n, f, out, ov, rv, rfl, rfl, hfk, hat, hst, hol, hn0, hn1⟩ := hrel
    obtain ⟨oa, oc, rfl⟩ := own_shape hst.own.row
    by_cases hlt : k ≤ s.size
    · by_cases hone : k < s.size
      · by_cases h10 : s[k].toNat = 10
        · have hc10 : k < t.length → (t.getD k 0).toNat = 10 := by
            intro _
            rw [Ht.out, getD_at s k hone]
            exact h10
          obtain ⟨m, hm⟩ : ∃ m, m = s[k].toNat := ⟨_, rfl⟩
          have hm2 : s[k].toNat = m := hm.symm
          have hb : ((m : Int) != 10) = false := by rw [hm, h10]; rfl
          clear hm h10
          have Hat := Lib.hid hat; have Hst := Lib.hid hst; clear hat hst
          have hblk2 : ∀ w9, Below wr.heap.size wr w9 → w9.heap[w.heap.size]? = some (.cells (refCells (.slice none 0 0)) 52 (0, 0)) := by
            intro w9 hb9
            have h1 := Hst.out.bel.size
            have h2 := Hs1.out
            rw [hb9.block _ (by omega), Hst.out.bel.block _ (by omega)]
            exact Hblk.out
          obtain ⟨q, hq⟩ : ∃ q, q = LexM.rline ((t.drop f).take (k - f)) (decide (out.length < 2000)) := ⟨_, rfl⟩
          have hline := docAt_line Hat.out (by have := Hlen.out; omega) hc10
          rw [← hq] at hline
          have HC : Hid (∀ w', Calls Try.prog 47 #[.string (s.extract f k), .bool (decide ((out.length : Int) < 2000))] w' (LinePost w' q)) := by
            intro w'
            have h1 := line_any (s.extract f k) (decide (out.length < 2000)) w' (by rw [ByteArray.size_extract]; omega)
            rw [Lib.extract_data, ← Ht.out, ← hq] at h1
            have h2 : decide ((out.length : Int) < 2000) = decide (out.length < 2000) := by
              congr 1; simp only [eq_iff_iff]; omega
            rw [h2]
            exact h1
          have hx0 := cells_at Hst.out.cells 0
          simp only [refCells, List.getElem?_toArray, List.getElem?_cons_zero] at hx0
          obtain ⟨ws, qa, qe⟩ := q
          have Hline := Lib.hid hline; have Hq := Lib.hid hq; have Hblk2 := Lib.hid hblk2; clear hline hq hblk2
          clear hc10
          go_wp2_with fail
          go_region_with (go_at_call 47; refine (HC.out _).mono ?_; rintro e w5 ⟨v5, rfl, hv5, hb5⟩)
          obtain ⟨va, vc, rfl⟩ := own_shape hv5
          have hS5 := Hst.out.below (below_undrew hb5)
          have hv6 := ownsRow_mono hv5 (show w1.heap.size ≤ wr.heap.size from Hst.out.bel.size)
          have hk5 := Hblk2.out w5 (below_undrew hb5)
          have hB5 := hS5.bel.size
          by_cases he : qe = 0
          · have hbe : (qe != 0) = false := by rw [he]; rfl
            have hat3 := Hline.out.1 he
            by_cases hw : ws = []
            · have hadd : LexM.addLn out n ws = out := by unfold LexM.addLn; rw [if_pos hw]
              have hwl : ws.length = 0 := by rw [hw]; rfl
              rw [hadd] at hat3
              have HS5 := Lib.hid hS5; have Hv5 := Lib.hid hv5; have Hv6 := Lib.hid hv6; have Hk5 := Lib.hid hk5; have Hb5 := Lib.hid hb5; have He := Lib.hid he; have Hat3 := Lib.hid hat3; have Hadd := Lib.hid hadd; have Hw := Lib.hid hw; clear hS5 hv5 hv6 hk5 hb5 he hat3 hadd hw
              go_wp2_with fail
              go_roundw
              case rel => exact ⟨k + 1, by omega, by go_num, n + 1, k + 1, out, _, rv, rfl, by go_num, by omega, Hat3.out, HS5.out, by omega, by omega, by omega⟩
              case measure => simp [intOf]; omega
            · have hadd : LexM.addLn out n ws = out ++ [(n, ws)] := by unfold LexM.addLn; rw [if_neg hw]
              have hwl : 0 < ws.length := List.length_pos_iff.2 hw
              rw [hadd] at hat3
              have y0 := cells_at hS5.cells 0
              simp only [refCells, List.getElem?_toArray, List.getElem?_cons_zero] at y0
              have hro := hS5.own.row
              have hnx := apart_block hS5.own.row hS5.cells (by decide)
              have HS5 := Lib.hid hS5; have Hv5 := Lib.hid hv5; have Hv6 := Lib.hid hv6; have Hk5 := Lib.hid hk5; have Hb5 := Lib.hid hb5; have He := Lib.hid he; have Hat3 := Lib.hid hat3; have Hadd := Lib.hid hadd; have Hw := Lib.hid hw; have Hro := Lib.hid hro; have Hnx := Lib.hid hnx; clear hS5 hv5 hv6 hk5 hb5 he hat3 hadd hw hro hnx
              go_wp2_with (at_builtin; refine wpList_append_some elem_line (w := w5) rfl (.tmp 56) (.tmp 60) rfl w1.heap.size (.slice oa out.length oc) out.length (lnCells out rv) rfl Hro.out 1 (by decide) #[.int .i64 n, .slice va ws.length vc] rfl rfl (by simp [Value.oneCell']) (by omega) (by unfold maxLen; omega) hB5 ?_)
              intro g8 c8 w8 hown8 hg8 hm8
              have hc8 := heap_to HS5.out.cells ((Frm.refl _ w5).grown hg8 (S := fun k => (Value.slice oa out.length oc).ownBlock = some k) (fun k hk => .inr hk)) Hnx.out
              have z0 := cells_at hc8 0
              have u0 := frozen_at hc8 0
              simp only [refCells, List.getElem?_toArray, List.getElem?_cons_zero] at z0
              have hP := HS5.out.push n ws _ Hv6.out hown8 hg8
              have HP := Lib.hid hP; clear hP
              clear hown8 hg8 hm8 hc8
              go_wp2_with fail
              go_roundw
              case rel => exact ⟨k + 1, by omega, by go_num, n + 1, k + 1, out ++ [(n, ws)], _, _, rfl, by go_num, by omega, Hat3.out, HP.out, by simp; omega, by omega, by omega⟩
              case measure => simp [intOf]; omega
          · have hbe : (qe != 0) = true := by rw [bne_iff_ne]; exact he
            have hdd := Hline.out.2 he
            have z0 := cells_at hk5 0
            have z1 := cells_at hk5 1
            have z2 := cells_at hk5 2
            have z3 := cells_at hk5 3
            have u0 := frozen_at hk5 0
            have u1 := frozen_at hk5 1
            have u2 := frozen_at hk5 2
            have u3 := frozen_at hk5 3
            simp only [refCells, List.getElem?_toArray, List.getElem?_cons_succ, List.getElem?_cons_zero] at z0 z1 z2 z3
            have hbel5 := hS5.bel
            have HS5 := Lib.hid hS5; have Hv5 := Lib.hid hv5; have Hv6 := Lib.hid hv6; have Hk5 := Lib.hid hk5; have Hb5 := Lib.hid hb5; have He := Lib.hid he; have Hdd := Lib.hid hdd; have Hbel5 := Lib.hid hbel5; clear hS5 hv5 hv6 hk5 hb5 he hdd hbel5
            go_wp2_with fail
            refine bodyPost_ret (v := .agg #[.slice none 0 0, .int .i64 n, .int .i64 qa, .int .i64 qe]) (by simp [results, Try.results32, go_sem, z0, z1, z2, z3]) rfl ?_
            rw [Hdd.out]
            refine ⟨_, rfl, ⟨none, 0, rfl, Nat.le_refl _, Nat.zero_le _, fun i x hi => by simp at hi⟩, ?_⟩
            exact ((((Hbel1.out.trans (Hbel5.out.mono (by rw [Hs1.out]; omega))).setCell (Nat.le_refl _) _).setCell (Nat.le_refl _) _).setCell (Nat.le_refl _) _).setCell (Nat.le_refl _) _
        · have hat2 := docAt_on hat (by have := Hlen.out; omega) (show t.getD k 0 = s[k] by rw [Ht.out]; exact getD_at s k hone) h10
          obtain ⟨m, hm⟩ : ∃ m, m = s[k].toNat := ⟨_, rfl⟩
          have hm2 : s[k].toNat = m := hm.symm
          have hb : ((m : Int) != 10) = true := by rw [bne_iff_ne, hm]; omega
          have Hat := Lib.hid hat; have Hat2 := Lib.hid hat2; have Hst := Lib.hid hst; clear hat hat2 hst
          clear hm h10
          go_wp2_with fail
          go_roundw
          case rel => exact ⟨k + 1, by omega, by go_num, n, f, out, _, rv, rfl, rfl, by omega, Hat2.out, Hst.out, by omega, hn0, by omega⟩
          case measure => simp [intOf]; omega
      · have hc10 : k < t.length → (t.getD k 0).toNat = 10 := by
          intro h1
          have := Hlen.out
          omega
        have Hat := Lib.hid hat; have Hst := Lib.hid hst; clear hat hst
        have hblk2 : ∀ w9, Below wr.heap.size wr w9 → w9.heap[w.heap.size]? = some (.cells (refCells (.slice none 0 0)) 52 (0, 0)) := by
          intro w9 hb9
          have h1 := Hst.out.bel.size
          have h2 := Hs1.out
          rw [hb9.block _ (by omega), Hst.out.bel.block _ (by omega)]
          exact Hblk.out
        obtain ⟨q, hq⟩ : ∃ q, q = LexM.rline ((t.drop f).take (k - f)) (decide (out.length < 2000)) := ⟨_, rfl⟩
        have hline := docAt_line Hat.out (by have := Hlen.out; omega) hc10
        rw [← hq] at hline
        have HC : Hid (∀ w', Calls Try.prog 47 #[.string (s.extract f k), .bool (decide ((out.length : Int) < 2000))] w' (LinePost w' q)) := by
          intro w'
          have h1 := line_any (s.extract f k) (decide (out.length < 2000)) w' (by rw [ByteArray.size_extract]; omega)
          rw [Lib.extract_data, ← Ht.out, ← hq] at h1
          have h2 : decide ((out.length : Int) < 2000) = decide (out.length < 2000) := by
            congr 1; simp only [eq_iff_iff]; omega
          rw [h2]
          exact h1
        have hx0 := cells_at Hst.out.cells 0
        simp only [refCells, List.getElem?_toArray, List.getElem?_cons_zero] at hx0
        obtain ⟨ws, qa, qe⟩ := q
        have Hline := Lib.hid hline; have Hq := Lib.hid hq; have Hblk2 := Lib.hid hblk2; clear hline hq hblk2
        clear hc10
        go_wp2_with fail
        go_region_with (go_at_call 47; refine (HC.out _).mono ?_; rintro e w5 ⟨v5, rfl, hv5, hb5⟩)
        obtain ⟨va, vc, rfl⟩ := own_shape hv5
        have hS5 := Hst.out.below (below_undrew hb5)
        have hv6 := ownsRow_mono hv5 (show w1.heap.size ≤ wr.heap.size from Hst.out.bel.size)
        have hk5 := Hblk2.out w5 (below_undrew hb5)
        have hB5 := hS5.bel.size
        by_cases he : qe = 0
        · have hbe : (qe != 0) = false := by rw [he]; rfl
          have hat3 := Hline.out.1 he
          by_cases hw : ws = []
          · have hadd : LexM.addLn out n ws = out := by unfold LexM.addLn; rw [if_pos hw]
            have hwl : ws.length = 0 := by rw [hw]; rfl
            rw [hadd] at hat3
            have HS5 := Lib.hid hS5; have Hv5 := Lib.hid hv5; have Hv6 := Lib.hid hv6; have Hk5 := Lib.hid hk5; have Hb5 := Lib.hid hb5; have He := Lib.hid he; have Hat3 := Lib.hid hat3; have Hadd := Lib.hid hadd; have Hw := Lib.hid hw; clear hS5 hv5 hv6 hk5 hb5 he hat3 hadd hw
            go_wp2_with fail
            go_roundw
            case rel => exact ⟨k + 1, by omega, by go_num, n + 1, k + 1, out, _, rv, rfl, by go_num, by omega, Hat3.out, HS5.out, by omega, by omega, by omega⟩
            case measure => simp [intOf]; omega
          · have hadd : LexM.addLn out n ws = out ++ [(n, ws)] := by unfold LexM.addLn; rw [if_neg hw]
            have hwl : 0 < ws.length := List.length_pos_iff.2 hw
            rw [hadd] at hat3
            have y0 := cells_at hS5.cells 0
            simp only [refCells, List.getElem?_toArray, List.getElem?_cons_zero] at y0
            have hro := hS5.own.row
            have hnx := apart_block hS5.own.row hS5.cells (by decide)
            have HS5 := Lib.hid hS5; have Hv5 := Lib.hid hv5; have Hv6 := Lib.hid hv6; have Hk5 := Lib.hid hk5; have Hb5 := Lib.hid hb5; have He := Lib.hid he; have Hat3 := Lib.hid hat3; have Hadd := Lib.hid hadd; have Hw := Lib.hid hw; have Hro := Lib.hid hro; have Hnx := Lib.hid hnx; clear hS5 hv5 hv6 hk5 hb5 he hat3 hadd hw hro hnx
            go_wp2_with (at_builtin; refine wpList_append_some elem_line (w := w5) rfl (.tmp 56) (.tmp 60) rfl w1.heap.size (.slice oa out.length oc) out.length (lnCells out rv) rfl Hro.out 1 (by decide) #[.int .i64 n, .slice va ws.length vc] rfl rfl (by simp [Value.oneCell']) (by omega) (by unfold maxLen; omega) hB5 ?_)
            intro g8 c8 w8 hown8 hg8 hm8
            have hc8 := heap_to HS5.out.cells ((Frm.refl _ w5).grown hg8 (S := fun k => (Value.slice oa out.length oc).ownBlock = some k) (fun k hk => .inr hk)) Hnx.out
            have z0 := cells_at hc8 0
            have u0 := frozen_at hc8 0
            simp only [refCells, List.getElem?_toArray, List.getElem?_cons_zero] at z0
            have hP := HS5.out.push n ws _ Hv6.out hown8 hg8
            have HP := Lib.hid hP; clear hP
            clear hown8 hg8 hm8 hc8
            go_wp2_with fail
            go_roundw
            case rel => exact ⟨k + 1, by omega, by go_num, n + 1, k + 1, out ++ [(n, ws)], _, _, rfl, by go_num, by omega, Hat3.out, HP.out, by simp; omega, by omega, by omega⟩
            case measure => simp [intOf]; omega
        · have hbe : (qe != 0) = true := by rw [bne_iff_ne]; exact he
          have hdd := Hline.out.2 he
          have z0 := cells_at hk5 0
          have z1 := cells_at hk5 1
          have z2 := cells_at hk5 2
          have z3 := cells_at hk5 3
          have u0 := frozen_at hk5 0
          have u1 := frozen_at hk5 1
          have u2 := frozen_at hk5 2
          have u3 := frozen_at hk5 3
          simp only [refCells, List.getElem?_toArray, List.getElem?_cons_succ, List.getElem?_cons_zero] at z0 z1 z2 z3
          have hbel5 := hS5.bel
          have HS5 := Lib.hid hS5; have Hv5 := Lib.hid hv5; have Hv6 := Lib.hid hv6; have Hk5 := Lib.hid hk5; have Hb5 := Lib.hid hb5; have He := Lib.hid he; have Hdd := Lib.hid hdd; have Hbel5 := Lib.hid hbel5; clear hS5 hv5 hv6 hk5 hb5 he hdd hbel5
          go_wp2_with fail
          refine bodyPost_ret (v := .agg #[.slice none 0 0, .int .i64 n, .int .i64 qa, .int .i64 qe]) (by simp [results, Try.results32, go_sem, z0, z1, z2, z3]) rfl ?_
          rw [Hdd.out]
          refine ⟨_, rfl, ⟨none, 0, rfl, Nat.le_refl _, Nat.zero_le _, fun i x hi => by simp at hi⟩, ?_⟩
          exact ((((Hbel1.out.trans (Hbel5.out.mono (by rw [Hs1.out]; omega))).setCell (Nat.le_refl _) _).setCell (Nat.le_refl _) _).setCell (Nat.le_refl _) _).setCell (Nat.le_refl _) _
    · obtain rfl : k = s.size + 1 := by omega
      have hdd : doc = ⟨out, 0, 0, 0⟩ := by
        rcases hat with ⟨h1, _, _⟩ | ⟨_, _, h3⟩
        · have := Hlen.out; omega
        · exact h3
      have hfine2 := Hfine.out
      rw [hdd] at hfine2
      have hk5 : wr.heap[w.heap.size]? = some (.cells (refCells (.slice none 0 0)) 52 (0, 0)) := by
        rw [hst.bel.block _ (by rw [Hs1.out]; omega)]
        exact Hblk.out
      have x0 := cells_at hst.cells 0
      have x1 := cells_at hst.cells 1
      have x2 := cells_at hst.cells 2
      have x3 := cells_at hst.cells 3
      have z0 := cells_at hk5 0
      have z1 := cells_at hk5 1
      have z2 := cells_at hk5 2
      have z3 := cells_at hk5 3
      have u0 := frozen_at hk5 0
      have u1 := frozen_at hk5 1
      have u2 := frozen_at hk5 2
      have u3 := frozen_at hk5 3
      simp only [refCells, List.getElem?_toArray, List.getElem?_cons_succ, List.getElem?_cons_zero] at z0 z1 z2 z3 x0 x1 x2 x3
      have Hat := Lib.hid hat; have Hst := Lib.hid hst; have Hdd := Lib.hid hdd; have Hfine2 := Lib.hid hfine2; have Hk5 := Lib.hid hk5; clear hat hst hdd hfine2 hk5
      go_wp2_with fail
      refine bodyPost_ret (v := .agg #[.slice oa out.length oc, .int .i64 0, .int .i64 0, .int .i64 0]) (by simp [results, Try.results32, go_sem, z0, z1, z2, z3]) rfl ?_
      rw [Hdd.out]
      refine ⟨_, rfl, ?_, ?_⟩
      · refine (Hst.out.own.kept (S := fun k => k = w.heap.size) (frm_cell (frm_cell (frm_cell (frm_cell (Frm.refl _ wr) 0 _) 1 _) 2 _) 3 _) (fun k cs e hc => ?_) (fun k cs e hc => ?_)).reads (m := 200000) (by omega) Hfine2.out
        · rw [e, Hk5.out] at hc; simp at hc
        · rw [e, Hk5.out] at hc; simp at hc
      · exact ((((Hbel1.out.trans (Hst.out.bel.mono (by rw [Hs1.out]; omega))).setCell (Nat.le_refl _) _).setCell (Nat.le_refl _) _).setCell (Nat.le_refl _) _).setCell (Nat.le_refl _) _
theorem docLines_any (s : ByteArray) (hs : s.size ≤ 140737488351232) (w : World) : Calls Try.prog 32 #[.string s] w (DocPost w (LexM.docLines s.data.toList)) := by
  by_cases h : 65536 < s.size
  · exact docLines_long s hs w h
  · exact docLines_short s w (by omega)
end Go.Proofs.Ytoljhahmmdibfaa
