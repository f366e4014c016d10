/- The walk of the document's Cut: a text at a byte. Condition: a text of at most a million bytes. -/
import Derived.Test.YtblkdcapampniaaDoorRefX
set_option linter.unusedVariables false
set_option linter.unusedSimpArgs false
namespace Go.Proofs.YtblkdcapampniaaDoor
open Go.RowKit Go.Lib VerN

theorem elem_str1 : Elem Tryd.prog 23 9 (.string ⟨#[]⟩) 1 16 := ⟨Tryd.underlying23, by kernel_rfl, rfl, by decide⟩
/-- how far the text is cut -/
def CutAt (c : UInt8) (l : List UInt8) (k f : Nat) (done : List (List UInt8)) : Prop := f ≤ k ∧ ((k ≤ l.length ∧ cutL c l = done ++ cutF c ((l.take k).drop f) (l.drop k)) ∨ (k = l.length + 1 ∧ cutL c l = done))
theorem CutAt.start (c : UInt8) (l : List UInt8) : CutAt c l 0 0 [] := ⟨Nat.le_refl _, .inl ⟨Nat.zero_le _, rfl⟩⟩
theorem CutAt.skip {c : UInt8} {l : List UInt8} {k f : Nat} {done : List (List UInt8)} (h : CutAt c l k f done) (hk : k < l.length) (hne : l[k] ≠ c) : CutAt c l (k + 1) f done := by
  obtain ⟨hf, ⟨_, h⟩ | ⟨h, _⟩⟩ := h
  · refine ⟨by omega, .inl ⟨by omega, ?_⟩⟩
    rw [h, List.drop_eq_getElem_cons hk, cutF_cons_ne _ _ hne, List.take_succ_eq_append_getElem hk, List.drop_append_of_le_length (by rw [List.length_take]; omega)]
  · omega
theorem CutAt.hit {c : UInt8} {l : List UInt8} {k f : Nat} {done : List (List UInt8)} (h : CutAt c l k f done) (hk : k < l.length) (he : l[k] = c) : CutAt c l (k + 1) (k + 1) (done ++ [(l.take k).drop f]) := by
  obtain ⟨hf, ⟨_, h⟩ | ⟨h, _⟩⟩ := h
  · refine ⟨Nat.le_refl _, .inl ⟨by omega, ?_⟩⟩
    have e : (l.take (k + 1)).drop (k + 1) = [] := List.drop_eq_nil_of_le (by rw [List.length_take]; omega)
    rw [h, List.drop_eq_getElem_cons hk, he, cutF_cons_eq, e]
    simp
  · omega
theorem CutAt.last {c : UInt8} {l : List UInt8} {k f : Nat} {done : List (List UInt8)} (h : CutAt c l k f done) (hk : k = l.length) : CutAt c l (k + 1) (k + 1) (done ++ [(l.take k).drop f]) := by
  obtain ⟨hf, ⟨_, h⟩ | ⟨h, _⟩⟩ := h
  · refine ⟨Nat.le_refl _, .inr ⟨by omega, ?_⟩⟩
    rw [h, hk, List.drop_eq_nil_of_le (Nat.le_refl _)]
    rfl
  · omega
theorem CutAt.len {c : UInt8} {l : List UInt8} {k f : Nat} {done : List (List UInt8)} (h : CutAt c l k f done) : done.length ≤ l.length + 1 := by
  have h1 := (cutL_len c l).2
  obtain ⟨hf, ⟨_, h⟩ | ⟨_, h⟩⟩ := h
  · rw [h, List.length_append] at h1; omega
  · rw [h] at h1; exact h1
abbrev strL (ps : List (List UInt8)) : List Value := ps.map fun l => .string ⟨l.toArray⟩
theorem cutS_vals (c : UInt8) (s : ByteArray) : (cutS c s).map Value.string = strL (cutL c s.data.toList) := by unfold cutS strL; rw [List.map_map]; rfl
set_option maxRecDepth 10000 in
set_option maxHeartbeats 2000000 in
theorem cut1_any (s : ByteArray) (hs : s.size ≤ 1000000) (c : Nat) (hc : c < 256) (w : World) : Calls Tryd.prog 21 #[.string s, .int .u8 c] w fun e w' => ∃ v, e = .returned v ∧ w'.ownsRow w.heap.size 9 1 v (cutS (UInt8.ofNat c) s).length ((cutS (UInt8.ofNat c) s).map Value.string) ∧ Below w.heap.size w w' := by
  obtain ⟨l, hl⟩ : ∃ l, l = s.data.toList := ⟨_, rfl⟩
  have hln : l.length = s.size := by rw [hl]; exact Txt.len s
  obtain ⟨d, hd⟩ : ∃ d, d = UInt8.ofNat c := ⟨_, rfl⟩
  have hdc : d.toNat = c := by rw [hd]; simp; omega
  rw [cutS_vals, cutS_len, ← hl, ← hd]
  have hl0 : (w.alloc (.cells #[] 9)).ownsRow w.heap.size 9 1 (.slice (some ⟨w.heap.size, 0, none⟩) 0 0) 0 [] := World.ownsRow_lit (base := w.heap.size) (e := 9) (size := 1) w #[] 0 (Nat.le_refl _) (by decide) rfl
  have hb0 : Below w.heap.size w (w.alloc (.cells #[] 9)) := below_alloc1 _ _
  have Hl := Lib.hid hl; have Hln := Lib.hid hln; have Hd := Lib.hid hd; have Hdc := Lib.hid hdc; have Hl0 := Lib.hid hl0; have Hb0 := Lib.hid hb0; clear hl hln hd hdc hl0 hb0
  go_enter Tryd.func21, Tryd.ntmps21
  go_wp2_with fail
  go_loopw [5, 6, 7] (fun o fr i wr => ∃ (k f : Nat) (done : List (List UInt8)) (a : Option Addr) (cap m : Nat), CutAt d l k f done ∧ k ≤ s.size + 1 ∧ m = done.length ∧ i = .int .i64 k ∧ fr = .int .i64 f ∧ o = .slice a m cap ∧ wr.ownsRow w.heap.size 9 1 o m (strL done) ∧ Below w.heap.size w wr) (fun _ _ i _ => s.size + 1 - (RowKit.intOf i).toNat)
  case atStart => exact ⟨0, 0, [], _, _, 0, CutAt.start d l, Nat.zero_le _, rfl, rfl, rfl, rfl, Hl0.out, Hb0.out⟩
  case round =>
    obtain ⟨k, f, done, a, cap, m, hat, hk, hm, rfl, rfl, rfl, hown, hbw⟩ := hrel
    have hlen := hat.len
    rw [Hln.out] at hlen
    have hfk := hat.1
    rw [← hm] at hlen
    have hone : ∀ p : ByteArray, ∀ u ∈ (#[Value.string p] : Array Value).toList, u.oneCell' = true := by simp [Value.oneCell']
    have g1 : (m + 1) * 16 ≤ 140737488355328 := by omega
    have g2 : m + 1 ≤ maxLen := by unfold maxLen; omega
    have g3 : w.heap.size ≤ wr.heap.size := hbw.size
    have piece : (s.extract f k) = ⟨((l.take k).drop f).toArray⟩ := Txt.ext (by
      rw [Lib.extract_data, ← Hl.out, ← List.drop_take])
    rcases Nat.lt_or_ge s.size k with h1 | h1
    · have k1 : decide ((k : Int) ≤ (s.size : Int)) = false := decide_eq_false (by omega)
      have hfin : cutL d l = done := by
        obtain ⟨_, ⟨h2, _⟩ | ⟨_, h2⟩⟩ := hat
        · have := Hln.out; omega
        · exact h2
      have Hat := Lib.hid hat; have Hown := Lib.hid hown; have Hbw := Lib.hid hbw; have Hm := Lib.hid hm; have Hone := Lib.hid hone; have Hpiece := Lib.hid piece; have Hfin := Lib.hid hfin; clear hat hown hbw hm hone piece hfin
      go_wp2_with fail
      go_ret
      exact ⟨_, rfl, by rw [Hfin.out, ← Hm.out]; exact Hown.out, Hbw.out⟩
    · have k1 : decide ((k : Int) ≤ (s.size : Int)) = true := decide_eq_true (by omega)
      have k3 : (f : Int) ≤ (k : Int) := by omega
      have k4 : (k : Int) ≤ (s.size : Int) := by omega
      rcases Nat.eq_or_lt_of_le h1 with h2 | h2
      · have k2 : ((k : Int) == (s.size : Int)) = true := by rw [h2]; simp
        have hnx := hat.last (by rw [Hln.out]; exact h2)
        have Hat := Lib.hid hat; have Hown := Lib.hid hown; have Hbw := Lib.hid hbw; have Hm := Lib.hid hm; have Hone := Lib.hid hone; have Hpiece := Lib.hid piece; have Hnx := Lib.hid hnx; have H2 := Lib.hid h2; clear hat hown hbw hm hone piece hnx h2
        go_wp2_with (at_builtin; (refine wpList_append_some elem_str1 rfl (.tmp 26) (.tmp 31) rfl w.heap.size (.slice a m cap) m (strL done) rfl Hown.out 1 (by decide) #[.string (s.extract f k)] rfl rfl (Hone.out _) g1 g2 g3 ?_; intro g8 c8 w8 hown8 hg8 hm8; have hb8 := bel_own Hbw.out Hown.out (Nat.le_refl _) hg8 Hbw.out.size; have Hown8 := Lib.hid hown8; have Hb8 := Lib.hid hb8; clear hown8 hb8 hg8 hm8))
        go_roundw
        case rel =>
          refine ⟨k + 1, k + 1, done ++ [(l.take k).drop f], _, _, m + 1, Hnx.out, by omega, by rw [List.length_append, List.length_singleton, ← Hm.out], by go_num, by go_num, rfl, ?_, Hb8.out⟩
          have h := Hown8.out
          rw [Hpiece.out] at h
          rw [show strL (done ++ [(l.take k).drop f]) = strL done ++ [.string ⟨((l.take k).drop f).toArray⟩] by simp [strL]]
          exact h
        case measure => simp [RowKit.intOf]; omega
      · have k2 : ((k : Int) == (s.size : Int)) = false := by rw [beq_eq_false_iff_ne]; omega
        have hkl : k < l.length := by rw [Hln.out]; exact h2
        obtain ⟨n, hn⟩ : ∃ n, n = s[k].toNat := ⟨_, rfl⟩
        have hn256 : n < 256 := by rw [hn]; exact s[k].toNat_lt
        have hsk : s[k].toNat = n := hn.symm
        have e : l[k] = s[k] := by simp only [Hl.out]; rfl
        have hlk : l[k] = d ↔ n = c := by
          rw [e]
          constructor
          · intro h; rw [← hsk, h]; exact Hdc.out
          · intro h; exact UInt8.toNat_inj.1 (by rw [hsk, h, Hdc.out])
        clear hn e
        by_cases hnc : n = c
        · have k5 : ((n : Int) == (c : Int)) = true := by rw [hnc]; simp
          have hnx := hat.hit hkl (hlk.2 hnc)
          have Hat := Lib.hid hat; have Hown := Lib.hid hown; have Hbw := Lib.hid hbw; have Hm := Lib.hid hm; have Hone := Lib.hid hone; have Hpiece := Lib.hid piece; have Hnx := Lib.hid hnx; have Hnc := Lib.hid hnc; have Hlk := Lib.hid hlk; clear hat hown hbw hm hone piece hnx hnc hlk
          go_wp2_with (at_builtin; (refine wpList_append_some elem_str1 rfl (.tmp 26) (.tmp 31) rfl w.heap.size (.slice a m cap) m (strL done) rfl Hown.out 1 (by decide) #[.string (s.extract f k)] rfl rfl (Hone.out _) g1 g2 g3 ?_; intro g8 c8 w8 hown8 hg8 hm8; have hb8 := bel_own Hbw.out Hown.out (Nat.le_refl _) hg8 Hbw.out.size; have Hown8 := Lib.hid hown8; have Hb8 := Lib.hid hb8; clear hown8 hb8 hg8 hm8))
          go_roundw
          case rel =>
            refine ⟨k + 1, k + 1, done ++ [(l.take k).drop f], _, _, m + 1, Hnx.out, by omega, by rw [List.length_append, List.length_singleton, ← Hm.out], by go_num, by go_num, rfl, ?_, Hb8.out⟩
            have h := Hown8.out
            rw [Hpiece.out] at h
            rw [show strL (done ++ [(l.take k).drop f]) = strL done ++ [.string ⟨((l.take k).drop f).toArray⟩] by simp [strL]]
            exact h
          case measure => simp [RowKit.intOf]; omega
        · have k5 : ((n : Int) == (c : Int)) = false := by rw [beq_eq_false_iff_ne]; omega
          have hnx := hat.skip hkl (fun h => hnc (hlk.1 h))
          have Hat := Lib.hid hat; have Hown := Lib.hid hown; have Hbw := Lib.hid hbw; have Hm := Lib.hid hm; have Hone := Lib.hid hone; have Hpiece := Lib.hid piece; have Hnx := Lib.hid hnx; have Hnc := Lib.hid hnc; have Hlk := Lib.hid hlk; clear hat hown hbw hm hone piece hnx hnc hlk
          go_wp2_with fail
          go_roundw
          case rel => exact ⟨k + 1, f, done, a, cap, m, Hnx.out, by omega, Hm.out, by go_num, by go_num, rfl, Hown.out, Hbw.out⟩
          case measure => simp [RowKit.intOf]; omega
end Go.Proofs.YtblkdcapampniaaDoor
