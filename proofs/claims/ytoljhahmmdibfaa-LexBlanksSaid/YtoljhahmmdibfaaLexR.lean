/- The walks of cooperref05: part, line. Condition: the text is not great. -/
import Derived.Test.YtoljhahmmdibfaaLexK
import Derived.Test.YtoljhahmmdibfaaKit
import Derived.Lib.Strings
namespace Go.Proofs.Ytoljhahmmdibfaa
open Go.RowKit
open LexM (Bs Wd Ln St RS)

set_option maxRecDepth 10000 in
set_option maxHeartbeats 400000 in
theorem part_any (c : UInt8) (w : World) : Calls Try.prog 66 #[.int .u8 c.toNat] w fun e w' => e = .returned (.bool (LexM.part c)) ∧ w = w' := by
  have hcl : c.toNat < 256 := c.toNat_lt
  obtain ⟨n, hn⟩ : ∃ n, n = c.toNat := ⟨_, rfl⟩
  have hp : LexM.part c = (decide (32 < n) && decide (n < 127) && !decide (n = 35)) := by rw [hn]; rfl
  rw [← hn] at hcl ⊢
  obtain ⟨p, hpp⟩ : ∃ p, p = LexM.part c := ⟨_, rfl⟩
  rw [← hpp] at hp ⊢
  clear hn
  by_cases h1 : 32 < n
  · by_cases h2 : n < 127
    · by_cases h3 : n = 35
      · have hq : p = false := by rw [hp]; simp [h3]
        have hb : ((n : Int) != 35) = false := by rw [h3]; rfl
        subst hq
        clear hp hpp h3
        go_enter Try.func66, Try.ntmps66
        go_wp2_with fail
        go_ret
        exact ⟨rfl, rfl⟩
      · have hq : p = true := by rw [hp]; simp [h1, h2, h3]
        have hb : ((n : Int) != 35) = true := by rw [bne_iff_ne]; omega
        subst hq
        clear hp hpp h3
        go_enter Try.func66, Try.ntmps66
        go_wp2_with fail
        go_ret
        exact ⟨rfl, rfl⟩
    · have hq : p = false := by rw [hp]; simp [h2]
      have h3 : 127 ≤ n := by omega
      subst hq
      clear hp hpp
      go_enter Try.func66, Try.ntmps66
      go_wp2_with fail
      go_ret
      exact ⟨rfl, rfl⟩
  · have hq : p = false := by rw [hp]; simp [h1]
    have h3 : n ≤ 32 := by omega
    subst hq
    clear hp hpp
    go_enter Try.func66, Try.ntmps66
    go_wp2_with fail
    go_ret
    exact ⟨rfl, rfl⟩

/-- what line gives -/
def LinePost (w : World) (r : List Wd × Int × Int) (e : Ending) (w' : World) : Prop := ∃ v, e = .returned (.tuple #[v, .int .i64 r.2.1, .int .i64 r.2.2]) ∧ w'.ownsRow w.heap.size 91 2 v r.1.length (r.1.flatMap wdCells) ∧ Below w.heap.size w w'
/-- what its loop keeps -/
def LineGo (w0 : World) (t : Bs) (room : Bool) (k : Nat) (v o : Value) (w : World) : Prop :=
  ∃ st : RS, LexM.rline t room = LexM.rgo t room st k (t.drop k) ∧ o = .bool st.off ∧ w.ownsRow w0.heap.size 91 2 v st.out.length (st.out.flatMap wdCells) ∧ st.out.length ≤ k ∧ Below w0.heap.size w0 w
theorem drop_at (s : ByteArray) (k : Nat) (h : k < s.size) : s.data.toList.drop k = s[k] :: s.data.toList.drop (k + 1) := by
  rw [List.drop_eq_getElem_cons (by rw [Array.length_toList]; exact h)]
  rfl
theorem getD_at (s : ByteArray) (k : Nat) (h : k < s.size) : s.data.toList.getD k 0 = s[k] := by
  have h2 : k < s.data.toList.length := by rw [Array.length_toList]; exact h
  rw [List.getD_eq_getElem?_getD, List.getElem?_eq_getElem h2]
  rfl
theorem rgo_err {t : Bs} {room : Bool} {st : RS} {k : Nat} {c : UInt8} {r : Bs} {e : Int} (h : LexM.rerr t room st k c = e) (he : e ≠ 0) : LexM.rgo t room st k (c :: r) = (st.out, (k : Int) + 1, e) := by
  unfold LexM.rgo; rw [if_neg (by rw [h]; exact he), h]
theorem rgo_ok {t : Bs} {room : Bool} {st : RS} {k : Nat} {c : UInt8} {r : Bs} (h : LexM.rerr t room st k c = 0) : LexM.rgo t room st k (c :: r) = LexM.rgo t room (LexM.rnext t st k c) (k + 1) r := by
  rw [LexM.rgo, if_pos h]

theorem takeWhile_upto {p : UInt8 → Bool} : ∀ (l : Bs) (m : Nat), m ≤ l.length → (∀ j, j < m → p (l.getD j 0) = true) → (m < l.length → p (l.getD m 0) = false) → l.takeWhile p = l.take m := by
  intro l
  induction l with
  | nil => intro m hm _ _; simp
  | cons a l ih =>
    intro m hm h1 h2
    match m with
    | 0 =>
      have := h2 (by simp)
      simp only [List.getD_cons_zero] at this
      simp [this]
    | m + 1 =>
      have h0 := h1 0 (by omega)
      simp only [List.getD_cons_zero] at h0
      simp only [List.takeWhile_cons, h0, if_true, List.take_succ_cons]
      rw [ih m (by simpa using hm) (fun j hj => by have := h1 (j + 1) (by omega); simpa using this) (fun hj => by have := h2 (by simpa using hj); simpa using this)]
theorem word_is (s : ByteArray) (k q : Nat) (hk : k ≤ q) (hq : q ≤ s.size) (h1 : ∀ j, k ≤ j → j < q → LexM.part (s.data.toList.getD j 0) = true) (h2 : q < s.size → LexM.part (s.data.toList.getD q 0) = false) : bv (LexM.wordAt s.data.toList k) = .string (s.extract k q) := by
  have hl : s.data.toList.length = s.size := by rw [Array.length_toList]; rfl
  have e : LexM.wordAt s.data.toList k = (s.extract k q).data.toList := by
    rw [Lib.extract_data]
    unfold LexM.wordAt
    refine takeWhile_upto _ _ (by rw [List.length_drop]; omega) (fun j hj => ?_) (fun hj => ?_)
    · have := h1 (k + j) (by omega) (by omega)
      simpa [List.getD, List.getElem?_drop] using this
    · rw [List.length_drop] at hj
      have := h2 (by omega)
      have e2 : k + (q - k) = q := by omega
      simpa [List.getD, List.getElem?_drop, e2] using this
  unfold bv
  rw [e]

set_option maxRecDepth 10000 in
set_option maxHeartbeats 4000000 in
theorem line_any (s : ByteArray) (room : Bool) (w : World) (hs : s.size ≤ 1000000) : Calls Try.prog 47 #[.string s, .bool room] w (LinePost w (LexM.rline s.data.toList room)) := by
  obtain ⟨t, ht⟩ : ∃ t, t = s.data.toList := ⟨_, rfl⟩
  rw [← ht]
  have h0 : LineGo w t room 0 (.slice (some ⟨w.heap.size, 0, none⟩) 0 0) (.bool false) (w.alloc (.cells #[] 91)) :=
    ⟨⟨false, []⟩, rfl, rfl, World.ownsRow_lit (base := w.heap.size) (e := 91) (size := 2) w #[] 0 (Nat.le_refl _) (by decide) rfl, Nat.le_refl _, (Below.refl _ _).alloc (Nat.le_refl _) _⟩
  have Ht := Lib.hid ht; have H0 := Lib.hid h0; clear ht h0
  go_enter Try.func47, Try.ntmps47
  go_wp2_with fail
  go_loopw [7, 8, 9] (fun v o i wr => ∃ k : Nat, k ≤ s.size ∧ i = .int .i64 k ∧ LineGo w t room k v o wr) (fun _ _ i _ => s.size - (intOf i).toNat)
  case atStart => exact ⟨0, Nat.zero_le _, rfl, H0.out⟩
  case round =>
    obtain ⟨k, hk, rfl, st, hg, rfl, hown, hle, hbel⟩ := hrel
    obtain ⟨va, vc, rfl⟩ := own_shape hown
    have hB := hbel.size
    by_cases hlt : k < s.size
    · have hdr := drop_at s k hlt
      rw [← Ht.out] at hdr
      rw [hdr] at hg
      obtain ⟨c, hc⟩ : ∃ c, c = s[k] := ⟨_, rfl⟩
      have hcl : c.toNat < 256 := c.toNat_lt
      obtain ⟨n, hn⟩ : ∃ n, n = c.toNat := ⟨_, rfl⟩
      have hsk : s[k].toNat = n := by rw [hn, hc]
      rw [← hc] at hg
      rw [← hn] at hcl
      obtain ⟨off, hoff⟩ : ∃ off, off = st.off := ⟨_, rfl⟩
      rw [← hoff]
      have Hdr := Lib.hid hdr; have Hc := Lib.hid hc; have Hn := Lib.hid hn; have Hg := Lib.hid hg; have Hoff := Lib.hid hoff; have Hown := Lib.hid hown; have Hbel := Lib.hid hbel; clear hdr hc hn hg hoff hown hbel
      by_cases hA : n < 32 ∨ 126 < n
      · have hpost : LexM.rline t room = (st.out, (k : Int) + 1, 3) := by
          rw [Hg.out]
          exact rgo_err (by unfold LexM.rerr; rw [if_pos (by rw [← Hn.out]; exact hA)]) (by decide)
        have Hpost := Lib.hid hpost; clear hpost
        by_cases h32 : n < 32
        · clear hA
          go_wp2_with fail
          refine bodyPost_ret (v := .tuple #[.slice va st.out.length vc, .int .i64 ((k : Int) + 1), .int .i64 3]) (by simp [results, Try.results47, go_sem]) rfl ?_
          rw [Hpost.out]
          exact ⟨_, rfl, Hown.out, Hbel.out⟩
        · have h126 : 126 < n := by omega
          clear hA
          go_wp2_with fail
          refine bodyPost_ret (v := .tuple #[.slice va st.out.length vc, .int .i64 ((k : Int) + 1), .int .i64 3]) (by simp [results, Try.results47, go_sem]) rfl ?_
          rw [Hpost.out]
          exact ⟨_, rfl, Hown.out, Hbel.out⟩
      · have hlo : 32 ≤ n := by omega
        have hhi : n ≤ 126 := by omega
        have hr : LexM.rerr t room st k c = if LexM.rskip t st k c = true then 0 else if st.out.length = 40 ∨ room = false then 4 else 0 := by unfold LexM.rerr; rw [if_neg (by rw [← Hn.out]; exact hA)]
        have Hr := Lib.hid hr; clear hr
        clear hA
        cases off
        · by_cases h35 : n = 35
          · have hb35 : ((n : Int) == 35) = true := by rw [beq_iff_eq]; omega
            have hx : c.toNat = 35 := by rw [← Hn.out]; exact h35
            have hsk : LexM.rskip t st k c = true := by unfold LexM.rskip; simp [LexM.roff, hx]
            have herr : LexM.rerr t room st k c = 0 := by rw [Hr.out, if_pos hsk]
            have hno : (LexM.rnext t st k c).out = st.out := by unfold LexM.rnext; rw [if_pos hsk]
            have hro : (LexM.rnext t st k c).off = true := by unfold LexM.rnext LexM.roff; simp [hx]
            have Hsk := Lib.hid hsk; have Herr := Lib.hid herr; have Hno := Lib.hid hno; have Hro := Lib.hid hro; clear hsk herr hno hro
            clear hx h35
            go_wp2_with fail
            go_roundw
            case rel => exact ⟨k + 1, by omega, by go_num, LexM.rnext t st k c, by rw [Hg.out, rgo_ok Herr.out], by rw [Hro.out], by rw [Hno.out]; exact Hown.out, by rw [Hno.out]; omega, Hbel.out⟩
            case measure => simp [intOf]; omega
          · have hb35 : ((n : Int) == 35) = false := by rw [beq_eq_false_iff_ne]; omega
            have hx : c.toNat ≠ 35 := by rw [← Hn.out]; exact h35
            have hof : LexM.roff st c = false := by unfold LexM.roff; rw [← Hoff.out]; simp [hx]
            have Hof := Lib.hid hof; have Hx := Lib.hid hx; clear hof hx
            clear h35
            obtain ⟨pc, hpc⟩ : ∃ pc, pc = LexM.part c := ⟨_, rfl⟩
            have HP := Lib.hid (fun w => part_any c w)
            rw [← hpc, ← Hn.out] at HP
            have Hpc := Lib.hid hpc; clear hpc
            cases pc
            · have hsk : LexM.rskip t st k c = true := by unfold LexM.rskip; rw [← Hpc.out]; simp
              have herr : LexM.rerr t room st k c = 0 := by rw [Hr.out, if_pos hsk]
              have hno : (LexM.rnext t st k c).out = st.out := by unfold LexM.rnext; rw [if_pos hsk]
              have hro : (LexM.rnext t st k c).off = false := by unfold LexM.rnext LexM.roff; exact Hof.out
              have Hsk := Lib.hid hsk; have Herr := Lib.hid herr; have Hno := Lib.hid hno; have Hro := Lib.hid hro; clear hsk herr hno hro
              go_wp2_with (go_at_call 66; refine (HP.out _).mono ?_; rintro e w' ⟨rfl, rfl⟩)
              go_roundw
              case rel => exact ⟨k + 1, by omega, by go_num, LexM.rnext t st k c, by rw [Hg.out, rgo_ok Herr.out], by rw [Hro.out], by rw [Hno.out]; exact Hown.out, by rw [Hno.out]; omega, Hbel.out⟩
              case measure => simp [intOf]; omega
            · obtain ⟨pp, hpp⟩ : ∃ pp, pp = (decide (0 < k) && LexM.part (t.getD (k - 1) 0)) := ⟨_, rfl⟩
              have hsk : LexM.rskip t st k c = pp := by unfold LexM.rskip; rw [Hof.out, ← Hpc.out, hpp]; rfl
              by_cases hk0 : 0 < k
              · have hk1 : k - 1 < s.size := by omega
                have hgd := getD_at s (k - 1) hk1
                rw [← Ht.out] at hgd
                have hpv : pp = LexM.part s[k - 1] := by rw [hpp, hgd]; simp [hk0]
                have HQ := Lib.hid (fun w => part_any s[k - 1] w)
                rw [← hpv] at HQ
                have Hpv := Lib.hid hpv; have Hgd := Lib.hid hgd; have Hpp := Lib.hid hpp; clear hpv hgd hpp
                cases pp
                · have hskn : ¬ LexM.rskip t st k c = true := by rw [hsk]; simp
                  by_cases h40 : st.out.length = 40
                  · have hb40 : ((st.out.length : Int) == 40) = true := by rw [beq_iff_eq]; omega
                    have hpost : LexM.rline t room = (st.out, (k : Int) + 1, 4) := by
                      rw [Hg.out]
                      exact rgo_err (by rw [Hr.out, if_neg hskn, if_pos (.inl h40)]) (by decide)
                    have Hpost := Lib.hid hpost; have Hskn := Lib.hid hskn; have Hsk := Lib.hid hsk; have H40 := Lib.hid h40; clear hpost hskn hsk h40
                    go_wp2_with fail
                    refine (HP.out _).mono ?_
                    rintro e w' ⟨rfl, rfl⟩
                    go_wp2_with fail
                    refine (HQ.out _).mono ?_
                    rintro e w' ⟨rfl, rfl⟩
                    go_wp2_with fail
                    refine bodyPost_ret (v := .tuple #[.slice va st.out.length vc, .int .i64 ((k : Int) + 1), .int .i64 4]) (by simp [results, Try.results47, go_sem]) rfl ?_
                    rw [Hpost.out]
                    exact ⟨_, rfl, Hown.out, Hbel.out⟩
                  · have hb40 : ((st.out.length : Int) == 40) = false := by rw [beq_eq_false_iff_ne]; omega
                    cases room
                    · have hpost : LexM.rline t false = (st.out, (k : Int) + 1, 4) := by
                        rw [Hg.out]
                        exact rgo_err (by rw [Hr.out, if_neg hskn, if_pos (.inr rfl)]) (by decide)
                      have Hpost := Lib.hid hpost; have Hskn := Lib.hid hskn; have Hsk := Lib.hid hsk; have H40 := Lib.hid h40; clear hpost hskn hsk h40
                      go_wp2_with fail
                      refine (HP.out _).mono ?_
                      rintro e w' ⟨rfl, rfl⟩
                      go_wp2_with fail
                      refine (HQ.out _).mono ?_
                      rintro e w' ⟨rfl, rfl⟩
                      go_wp2_with fail
                      refine bodyPost_ret (v := .tuple #[.slice va st.out.length vc, .int .i64 ((k : Int) + 1), .int .i64 4]) (by simp [results, Try.results47, go_sem]) rfl ?_
                      rw [Hpost.out]
                      exact ⟨_, rfl, Hown.out, Hbel.out⟩
                    · have herr : LexM.rerr t true st k c = 0 := by rw [Hr.out, if_neg hskn, if_neg]; rintro (h | h); exact h40 h; cases h
                      have hno : (LexM.rnext t st k c).out = st.out ++ [((k : Int) + 1, LexM.wordAt t k)] := by unfold LexM.rnext; rw [if_neg hskn]
                      have hro : (LexM.rnext t st k c).off = false := Hof.out
                      have hpk : LexM.part (t.getD k 0) = true := by rw [Ht.out, getD_at s k hlt, ← Hc.out, ← Hpc.out]
                      have Hskn := Lib.hid hskn; have Hsk := Lib.hid hsk; have H40 := Lib.hid h40; have Herr := Lib.hid herr; have Hno := Lib.hid hno; have Hro := Lib.hid hro; have Hpk := Lib.hid hpk; clear hskn hsk h40 herr hno hro hpk
                      go_wp2_with fail
                      refine (HP.out _).mono ?_
                      rintro e w' ⟨rfl, rfl⟩
                      go_wp2_with fail
                      refine (HQ.out _).mono ?_
                      rintro e w' ⟨rfl, rfl⟩
                      go_wp2_with fail
                      go_loop [10] (fun i => ∃ q : Nat, k ≤ q ∧ q ≤ s.size ∧ i = .int .i64 q ∧ ∀ j, k ≤ j → j < q → LexM.part (t.getD j 0) = true) (fun i => s.size - (intOf i).toNat)
                      case atStart => exact ⟨k, Nat.le_refl _, hk, rfl, fun j h1 h2 => by omega⟩
                      case round =>
                        obtain ⟨q, hkq, hqs, rfl, hall⟩ := hrel
                        have Hall := Lib.hid hall; clear hall
                        by_cases hq : q < s.size
                        · have hgq := getD_at s q hq
                          rw [← Ht.out] at hgq
                          obtain ⟨pq, hpq⟩ : ∃ pq, pq = LexM.part s[q] := ⟨_, rfl⟩
                          have HR := Lib.hid (fun w => part_any s[q] w)
                          rw [← hpq] at HR
                          have Hpq := Lib.hid hpq; have Hgq := Lib.hid hgq; clear hpq hgq
                          cases pq
                          · have hw := word_is s k q hkq (by omega) (by rw [← Ht.out]; exact Hall.out) (fun _ => by rw [← Ht.out, Hgq.out, ← Hpq.out])
                            rw [← Ht.out] at hw
                            have Hw := Lib.hid hw; clear hw
                            go_wp2_with fail
                            refine (HR.out _).mono ?_
                            rintro e w' ⟨rfl, rfl⟩
                            go_wp2_with (at_builtin; refine wpList_append_some elem_word rfl (.tmp 80) (.tmp 88) rfl w.heap.size (.slice va st.out.length vc) st.out.length (st.out.flatMap wdCells) rfl Hown.out 1 (by decide) #[.int .i64 ((k : Int) + 1), .string (s.extract k q)] rfl rfl (by simp [Value.oneCell']) (by omega) (by unfold maxLen; omega) hB ?_)
                            intro g8 c8 w8 hown8 hg8 hm8
                            have hb8 := bel_own Hbel.out Hown.out (Nat.le_refl _) hg8 hB
                            have ho8 : w8.ownsRow w.heap.size 91 2 (.slice (some ⟨g8, 0, none⟩) (st.out.length + 1) c8) (LexM.rnext t st k c).out.length ((LexM.rnext t st k c).out.flatMap wdCells) := by
                              rw [Hno.out, List.length_append, List.flatMap_append]
                              simp only [List.flatMap_cons, List.flatMap_nil, List.append_nil, wdCells, Hw.out]
                              exact hown8
                            have Hb8 := Lib.hid hb8; have Ho8 := Lib.hid ho8; clear hb8 ho8
                            clear hown8 hg8 hm8
                            go_wp2_with fail
                            go_roundw
                            case rel => exact ⟨k + 1, by omega, by go_num, LexM.rnext t st k c, by rw [Hg.out, rgo_ok Herr.out], by rw [Hro.out], Ho8.out, by rw [Hno.out, List.length_append]; simp; omega, Hb8.out⟩
                            case measure => simp [intOf]; omega
                          · go_wp2_with fail
                            refine (HR.out _).mono ?_
                            rintro e w' ⟨rfl, rfl⟩
                            go_wp2_with fail
                            go_round
                            case rel => exact ⟨q + 1, by omega, by omega, by go_num, fun j h1 h2 => by
                              by_cases e : j = q
                              · rw [e, Hgq.out, ← Hpq.out]
                              · exact Hall.out j h1 (by omega)⟩
                            case measure => simp [intOf]; omega
                        · have hw := word_is s k q hkq hqs (by rw [← Ht.out]; exact Hall.out) (fun h => absurd h hq)
                          rw [← Ht.out] at hw
                          have Hw := Lib.hid hw; clear hw
                          go_wp2_with (at_builtin; refine wpList_append_some elem_word rfl (.tmp 80) (.tmp 88) rfl w.heap.size (.slice va st.out.length vc) st.out.length (st.out.flatMap wdCells) rfl Hown.out 1 (by decide) #[.int .i64 ((k : Int) + 1), .string (s.extract k q)] rfl rfl (by simp [Value.oneCell']) (by omega) (by unfold maxLen; omega) hB ?_)
                          intro g8 c8 w8 hown8 hg8 hm8
                          have hb8 := bel_own Hbel.out Hown.out (Nat.le_refl _) hg8 hB
                          have ho8 : w8.ownsRow w.heap.size 91 2 (.slice (some ⟨g8, 0, none⟩) (st.out.length + 1) c8) (LexM.rnext t st k c).out.length ((LexM.rnext t st k c).out.flatMap wdCells) := by
                            rw [Hno.out, List.length_append, List.flatMap_append]
                            simp only [List.flatMap_cons, List.flatMap_nil, List.append_nil, wdCells, Hw.out]
                            exact hown8
                          have Hb8 := Lib.hid hb8; have Ho8 := Lib.hid ho8; clear hb8 ho8
                          clear hown8 hg8 hm8
                          go_wp2_with fail
                          go_roundw
                          case rel => exact ⟨k + 1, by omega, by go_num, LexM.rnext t st k c, by rw [Hg.out, rgo_ok Herr.out], by rw [Hro.out], Ho8.out, by rw [Hno.out, List.length_append]; simp; omega, Hb8.out⟩
                          case measure => simp [intOf]; omega
                · have herr : LexM.rerr t room st k c = 0 := by rw [Hr.out, if_pos hsk]
                  have hno : (LexM.rnext t st k c).out = st.out := by unfold LexM.rnext; rw [if_pos hsk]
                  have hro : (LexM.rnext t st k c).off = false := Hof.out
                  have Hsk := Lib.hid hsk; have Herr := Lib.hid herr; have Hno := Lib.hid hno; have Hro := Lib.hid hro; clear hsk herr hno hro
                  go_wp2_with fail
                  refine (HP.out _).mono ?_
                  rintro e w' ⟨rfl, rfl⟩
                  go_wp2_with fail
                  refine (HQ.out _).mono ?_
                  rintro e w' ⟨rfl, rfl⟩
                  go_wp2_with fail
                  go_roundw
                  case rel => exact ⟨k + 1, by omega, by go_num, LexM.rnext t st k c, by rw [Hg.out, rgo_ok Herr.out], by rw [Hro.out], by rw [Hno.out]; exact Hown.out, by rw [Hno.out]; omega, Hbel.out⟩
                  case measure => simp [intOf]; omega
              · have hpf : pp = false := by rw [hpp]; simp [hk0]
                subst hpf
                have Hpp := Lib.hid hpp; clear hpp
                have hskn : ¬ LexM.rskip t st k c = true := by rw [hsk]; simp
                by_cases h40 : st.out.length = 40
                · have hb40 : ((st.out.length : Int) == 40) = true := by rw [beq_iff_eq]; omega
                  have hpost : LexM.rline t room = (st.out, (k : Int) + 1, 4) := by
                    rw [Hg.out]
                    exact rgo_err (by rw [Hr.out, if_neg hskn, if_pos (.inl h40)]) (by decide)
                  have Hpost := Lib.hid hpost; have Hskn := Lib.hid hskn; have Hsk := Lib.hid hsk; have H40 := Lib.hid h40; clear hpost hskn hsk h40
                  go_wp2_with fail
                  refine (HP.out _).mono ?_
                  rintro e w' ⟨rfl, rfl⟩
                  go_wp2_with fail
                  refine bodyPost_ret (v := .tuple #[.slice va st.out.length vc, .int .i64 ((k : Int) + 1), .int .i64 4]) (by simp [results, Try.results47, go_sem]) rfl ?_
                  rw [Hpost.out]
                  exact ⟨_, rfl, Hown.out, Hbel.out⟩
                · have hb40 : ((st.out.length : Int) == 40) = false := by rw [beq_eq_false_iff_ne]; omega
                  cases room
                  · have hpost : LexM.rline t false = (st.out, (k : Int) + 1, 4) := by
                      rw [Hg.out]
                      exact rgo_err (by rw [Hr.out, if_neg hskn, if_pos (.inr rfl)]) (by decide)
                    have Hpost := Lib.hid hpost; have Hskn := Lib.hid hskn; have Hsk := Lib.hid hsk; have H40 := Lib.hid h40; clear hpost hskn hsk h40
                    go_wp2_with fail
                    refine (HP.out _).mono ?_
                    rintro e w' ⟨rfl, rfl⟩
                    go_wp2_with fail
                    refine bodyPost_ret (v := .tuple #[.slice va st.out.length vc, .int .i64 ((k : Int) + 1), .int .i64 4]) (by simp [results, Try.results47, go_sem]) rfl ?_
                    rw [Hpost.out]
                    exact ⟨_, rfl, Hown.out, Hbel.out⟩
                  · have herr : LexM.rerr t true st k c = 0 := by rw [Hr.out, if_neg hskn, if_neg]; rintro (h | h); exact h40 h; cases h
                    have hno : (LexM.rnext t st k c).out = st.out ++ [((k : Int) + 1, LexM.wordAt t k)] := by unfold LexM.rnext; rw [if_neg hskn]
                    have hro : (LexM.rnext t st k c).off = false := Hof.out
                    have hpk : LexM.part (t.getD k 0) = true := by rw [Ht.out, getD_at s k hlt, ← Hc.out, ← Hpc.out]
                    have Hskn := Lib.hid hskn; have Hsk := Lib.hid hsk; have H40 := Lib.hid h40; have Herr := Lib.hid herr; have Hno := Lib.hid hno; have Hro := Lib.hid hro; have Hpk := Lib.hid hpk; clear hskn hsk h40 herr hno hro hpk
                    go_wp2_with fail
                    refine (HP.out _).mono ?_
                    rintro e w' ⟨rfl, rfl⟩
                    go_wp2_with fail
                    go_loop [10] (fun i => ∃ q : Nat, k ≤ q ∧ q ≤ s.size ∧ i = .int .i64 q ∧ ∀ j, k ≤ j → j < q → LexM.part (t.getD j 0) = true) (fun i => s.size - (intOf i).toNat)
                    case atStart => exact ⟨k, Nat.le_refl _, hk, rfl, fun j h1 h2 => by omega⟩
                    case round =>
                      obtain ⟨q, hkq, hqs, rfl, hall⟩ := hrel
                      have Hall := Lib.hid hall; clear hall
                      by_cases hq : q < s.size
                      · have hgq := getD_at s q hq
                        rw [← Ht.out] at hgq
                        obtain ⟨pq, hpq⟩ : ∃ pq, pq = LexM.part s[q] := ⟨_, rfl⟩
                        have HR := Lib.hid (fun w => part_any s[q] w)
                        rw [← hpq] at HR
                        have Hpq := Lib.hid hpq; have Hgq := Lib.hid hgq; clear hpq hgq
                        cases pq
                        · have hw := word_is s k q hkq (by omega) (by rw [← Ht.out]; exact Hall.out) (fun _ => by rw [← Ht.out, Hgq.out, ← Hpq.out])
                          rw [← Ht.out] at hw
                          have Hw := Lib.hid hw; clear hw
                          go_wp2_with fail
                          refine (HR.out _).mono ?_
                          rintro e w' ⟨rfl, rfl⟩
                          go_wp2_with (at_builtin; refine wpList_append_some elem_word rfl (.tmp 80) (.tmp 88) rfl w.heap.size (.slice va st.out.length vc) st.out.length (st.out.flatMap wdCells) rfl Hown.out 1 (by decide) #[.int .i64 ((k : Int) + 1), .string (s.extract k q)] rfl rfl (by simp [Value.oneCell']) (by omega) (by unfold maxLen; omega) hB ?_)
                          intro g8 c8 w8 hown8 hg8 hm8
                          have hb8 := bel_own Hbel.out Hown.out (Nat.le_refl _) hg8 hB
                          have ho8 : w8.ownsRow w.heap.size 91 2 (.slice (some ⟨g8, 0, none⟩) (st.out.length + 1) c8) (LexM.rnext t st k c).out.length ((LexM.rnext t st k c).out.flatMap wdCells) := by
                            rw [Hno.out, List.length_append, List.flatMap_append]
                            simp only [List.flatMap_cons, List.flatMap_nil, List.append_nil, wdCells, Hw.out]
                            exact hown8
                          have Hb8 := Lib.hid hb8; have Ho8 := Lib.hid ho8; clear hb8 ho8
                          clear hown8 hg8 hm8
                          go_wp2_with fail
                          go_roundw
                          case rel => exact ⟨k + 1, by omega, by go_num, LexM.rnext t st k c, by rw [Hg.out, rgo_ok Herr.out], by rw [Hro.out], Ho8.out, by rw [Hno.out, List.length_append]; simp; omega, Hb8.out⟩
                          case measure => simp [intOf]; omega
                        · go_wp2_with fail
                          refine (HR.out _).mono ?_
                          rintro e w' ⟨rfl, rfl⟩
                          go_wp2_with fail
                          go_round
                          case rel => exact ⟨q + 1, by omega, by omega, by go_num, fun j h1 h2 => by
                            by_cases e : j = q
                            · rw [e, Hgq.out, ← Hpq.out]
                            · exact Hall.out j h1 (by omega)⟩
                          case measure => simp [intOf]; omega
                      · have hw := word_is s k q hkq hqs (by rw [← Ht.out]; exact Hall.out) (fun h => absurd h hq)
                        rw [← Ht.out] at hw
                        have Hw := Lib.hid hw; clear hw
                        go_wp2_with (at_builtin; refine wpList_append_some elem_word rfl (.tmp 80) (.tmp 88) rfl w.heap.size (.slice va st.out.length vc) st.out.length (st.out.flatMap wdCells) rfl Hown.out 1 (by decide) #[.int .i64 ((k : Int) + 1), .string (s.extract k q)] rfl rfl (by simp [Value.oneCell']) (by omega) (by unfold maxLen; omega) hB ?_)
                        intro g8 c8 w8 hown8 hg8 hm8
                        have hb8 := bel_own Hbel.out Hown.out (Nat.le_refl _) hg8 hB
                        have ho8 : w8.ownsRow w.heap.size 91 2 (.slice (some ⟨g8, 0, none⟩) (st.out.length + 1) c8) (LexM.rnext t st k c).out.length ((LexM.rnext t st k c).out.flatMap wdCells) := by
                          rw [Hno.out, List.length_append, List.flatMap_append]
                          simp only [List.flatMap_cons, List.flatMap_nil, List.append_nil, wdCells, Hw.out]
                          exact hown8
                        have Hb8 := Lib.hid hb8; have Ho8 := Lib.hid ho8; clear hb8 ho8
                        clear hown8 hg8 hm8
                        go_wp2_with fail
                        go_roundw
                        case rel => exact ⟨k + 1, by omega, by go_num, LexM.rnext t st k c, by rw [Hg.out, rgo_ok Herr.out], by rw [Hro.out], Ho8.out, by rw [Hno.out, List.length_append]; simp; omega, Hb8.out⟩
                        case measure => simp [intOf]; omega
        · have hsk : LexM.rskip t st k c = true := by unfold LexM.rskip; simp [LexM.roff, ← Hoff.out]
          have herr : LexM.rerr t room st k c = 0 := by rw [Hr.out, if_pos hsk]
          have hno : (LexM.rnext t st k c).out = st.out := by unfold LexM.rnext; rw [if_pos hsk]
          have hro : (LexM.rnext t st k c).off = true := by unfold LexM.rnext LexM.roff; simp [← Hoff.out]
          have Hsk := Lib.hid hsk; have Herr := Lib.hid herr; have Hno := Lib.hid hno; have Hro := Lib.hid hro; clear hsk herr hno hro
          go_wp2_with fail
          go_roundw
          case rel => exact ⟨k + 1, by omega, by go_num, LexM.rnext t st k c, by rw [Hg.out, rgo_ok Herr.out], by rw [Hro.out], by rw [Hno.out]; exact Hown.out, by rw [Hno.out]; omega, Hbel.out⟩
          case measure => simp [intOf]; omega
    · have hdr : t.drop k = [] := List.drop_eq_nil_of_le (by rw [Ht.out, Array.length_toList]; show s.data.size ≤ k; have : s.data.size = s.size := rfl; omega)
      have hpost : LexM.rline t room = (st.out, 0, 0) := by rw [hg, hdr]; rfl
      have Hpost := Lib.hid hpost; have Hown := Lib.hid hown; have Hbel := Lib.hid hbel; clear hpost hown hbel
      clear hg hdr
      go_wp2_with fail
      refine bodyPost_ret (v := .tuple #[.slice va st.out.length vc, .int .i64 0, .int .i64 0]) (by simp [results, Try.results47, go_sem]) rfl ?_
      rw [Hpost.out]
      exact ⟨_, rfl, Hown.out, Hbel.out⟩
end Go.Proofs.Ytoljhahmmdibfaa
