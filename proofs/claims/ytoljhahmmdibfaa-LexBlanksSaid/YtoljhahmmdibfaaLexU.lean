/- The walk of LexBlanks: it returns true. No condition. -/
import Derived.Test.YtoljhahmmdibfaaLexP
import Derived.Test.YtoljhahmmdibfaaLexN
import Derived.Test.YtoljhahmmdibfaaLexX
namespace Go.Proofs.Ytoljhahmmdibfaa
open Go.RowKit
open LexM (Bs Wd Ln St)

abbrev RTexts : Rd (List ByteArray) := RSlZ 1 16 RStrZ
theorem opensZ_texts : OpensZ Try.prog 66 RTexts := opensZ_slice Try.underlying66 (by kernel_rfl) (by kernel_rfl) (by decide) (opensZ_str Try.underlying9)
theorem text_cell {w : World} {av : Value} {l : List ByteArray} (h : RTexts w [av] l) : ∃ a cap, av = .slice a l.length cap ∧ l.length ≤ cap ∧ cap ≤ maxLen ∧ ∀ (i : Nat) (hi : i < l.length), ∃ b off, a = some ⟨b, off, none⟩ ∧ w.cell? ⟨b, off + i, none⟩ = some (.string l[i]) ∧ l[i].size ≤ 140737488351232 := by
  obtain ⟨⟨a, cap, hv, h1, h2, h3⟩, _⟩ := h
  simp only [List.cons.injEq, and_true] at hv
  refine ⟨a, cap, hv, h1, h2, fun i hi => ?_⟩
  obtain ⟨b, off, ecs, ha, hl, hc, hr1, hr2⟩ := h3 i l[i] (List.getElem?_eq_getElem hi)
  subst hr1
  exact ⟨b, off, ha, by simpa using hc 0 _ rfl, hr2⟩
def bytesOf (s : ByteArray) : Bs := s.data.toList
theorem ba_bytes (s : ByteArray) : ba (bytesOf s) = s := rfl
def rowsOf (rows : List ByteArray) (k : Nat) : List Bs := (rows.take k).map bytesOf
theorem rowsOf_snoc (rows : List ByteArray) (k : Nat) (h : k < rows.length) : rowsOf rows (k + 1) = rowsOf rows k ++ [bytesOf rows[k]] := by
  unfold rowsOf
  rw [List.take_add_one, List.getElem?_eq_getElem h, List.map_append]
  rfl
def GoodRows (rs : List Bs) : Prop := ∀ s ∈ rs, s.length ≤ 200 ∧ ∀ c ∈ s, LexM.plainByte c
theorem plain_len (rs : List Bs) (h : GoodRows rs) : (LexM.plainAll rs).length ≤ rs.length * 201 := by
  induction rs with
  | nil => simp [LexM.plainAll]
  | cons s r ih =>
    have h1 := ih (fun x hx => h x (by simp [hx]))
    have h2 := (h s (by simp)).1
    have e : LexM.plainAll (s :: r) = LexM.plainRow s ++ LexM.plainAll r := rfl
    rw [e, List.length_append, List.length_cons]
    unfold LexM.plainRow
    rw [List.length_append, List.length_singleton]
    omega
theorem more_len (a b : Nat) (note : Bs) (ha : a ≤ 4) (hb : b ≤ 4) (hn : note.length ≤ 200) (rs : List Bs) (h : GoodRows rs) : (LexM.moreAll a b note rs).length ≤ rs.length * 410 := by
  induction rs with
  | nil => simp [LexM.moreAll]
  | cons s r ih =>
    have h1 := ih (fun x hx => h x (by simp [hx]))
    have h2 := (h s (by simp)).1
    have e : LexM.moreAll a b note (s :: r) = LexM.moreRow a b note s ++ LexM.moreAll a b note r := rfl
    rw [e, List.length_append, List.length_cons]
    unfold LexM.moreRow LexM.blank
    simp only [List.length_append, List.length_cons, List.length_replicate, List.length_nil]
    omega
/-- one more row is fine -/
theorem good_snoc {rs : List Bs} (h : GoodRows rs) {s : Bs} (h1 : s.length ≤ 200) (h2 : ∀ c ∈ s, LexM.plainByte c) : GoodRows (rs ++ [s]) := by
  intro x hx
  rcases List.mem_append.1 hx with hx | hx
  · exact h x hx
  · simp at hx; subst hx; exact ⟨h1, h2⟩
theorem plain_snoc (rs : List Bs) (s : Bs) : LexM.plainAll (rs ++ [s]) = LexM.plainAll rs ++ LexM.plainRow s := by simp [LexM.plainAll]
theorem more_snoc (a b : Nat) (note : Bs) (rs : List Bs) (s : Bs) : LexM.moreAll a b note (rs ++ [s]) = LexM.moreAll a b note rs ++ LexM.moreRow a b note s := by simp [LexM.moreAll]
theorem cat_plain (X : Bs) (s : ByteArray) : ba X ++ (s ++ ⟨#[10]⟩) = ba (X ++ LexM.plainRow (bytesOf s)) := by
  apply ByteArray.ext
  simp [ba, LexM.plainRow, bytesOf]
theorem cat_more (X : Bs) (a b : Nat) (note : Bs) (s : ByteArray) : ba X ++ (ba (LexM.blank a) ++ s ++ ba (LexM.blank b) ++ ⟨#[35]⟩ ++ ba note ++ ⟨#[10]⟩) = ba (X ++ LexM.moreRow a b note (bytesOf s)) := by
  apply ByteArray.ext
  simp [ba, LexM.moreRow, bytesOf]

theorem conv_blank {w : World} {B g n : Nat} (h : w.ownsRow B 5 1 (.slice (some ⟨g, 0, none⟩) n n) n (byVals (LexM.blank n))) : (convert 67 9 (.slice (some ⟨g, 0, none⟩) n n)).run Try.prog w = .ok (bv (LexM.blank n)) w := by
  have hl : (LexM.blank n).length = n := by unfold LexM.blank; simp
  have h2 : w.ownsRow B 5 1 (.slice (some ⟨g, 0, none⟩) (LexM.blank n).length n) (LexM.blank n).length (byVals (LexM.blank n)) := by rw [hl]; exact h
  have h3 := conv_row h2
  rw [hl] at h3
  exact h3

set_option maxRecDepth 10000 in
set_option maxHeartbeats 8000000 in
theorem lexBlanks_true (rv : Value) (rows : List ByteArray) (a b : Int) (ha : 0 ≤ a ∧ a ≤ 255) (hb : 0 ≤ b ∧ b ≤ 255) (note : ByteArray) (hno : note.size ≤ 140737488351232) (w : World) (hr : RTexts w [rv] rows) :
    Calls Try.prog 13 #[rv, .int .u8 a, .int .u8 b, .string note] w fun e w' => e = .returned (.bool true) ∧ Below w.heap.size w w' := by
  obtain ⟨ra, rc, rfl, h1, h2, h3⟩ := text_cell hr
  unfold maxLen at h2
  have Hr := Lib.hid hr; have H3 := Lib.hid h3; clear hr h3
  by_cases hl : 100 < rows.length
  · go_enter Try.func13, Try.ntmps13
    go_wp2_with fail
    refine (fixed05 _).mono ?_
    rintro e w1 ⟨rfl, hb1⟩
    have Hb1 := Lib.hid hb1; clear hb1
    go_wp2_with fail
    go_ret
    exact ⟨rfl, Hb1.out⟩
  · by_cases hn : 200 < note.size
    · go_enter Try.func13, Try.ntmps13
      go_wp2_with fail
      refine (fixed05 _).mono ?_
      rintro e w1 ⟨rfl, hb1⟩
      have Hb1 := Lib.hid hb1; clear hb1
      go_wp2_with fail
      go_ret
      exact ⟨rfl, Hb1.out⟩
    · obtain ⟨na, hna⟩ : ∃ na : Nat, (na : Int) = a % 5 := ⟨(a % 5).toNat, by omega⟩
      obtain ⟨nb, hnb⟩ : ∃ nb : Nat, (nb : Int) = b % 5 := ⟨(b % 5).toNat, by omega⟩
      have hna4 : na ≤ 4 := by omega
      have hnb4 : nb ≤ 4 := by omega
      obtain ⟨nt, hnt⟩ : ∃ nt, nt = note.data.toList.filter seen := ⟨_, rfl⟩
      have hntl : nt.length ≤ 200 := by
        rw [hnt]
        have h5 := List.length_filter_le seen note.data.toList
        have h6 : note.data.toList.length = note.size := by rw [Array.length_toList]; rfl
        omega
      have hntb : ∀ c ∈ nt, 32 ≤ c.toNat ∧ c.toNat ≤ 126 := by
        intro c hc
        rw [hnt] at hc
        have := (List.mem_filter.1 hc).2
        unfold seen at this
        simpa using this
      have HA := Lib.hid (fun w => blanks_any a ha na hna w)
      have HB := Lib.hid (fun w => blanks_any b hb nb hnb w)
      have HC := Lib.hid (fun w => clean_any note (by omega) w)
      rw [← hnt] at HC
      have hg0 : GoodRows (rowsOf rows 0) := by intro s hs; simp [rowsOf] at hs
      have Hna := Lib.hid hna; have Hnb := Lib.hid hnb; have Hnt := Lib.hid hnt; have Hntb := Lib.hid hntb; have Hg0 := Lib.hid hg0; clear hna hnb hnt hntb hg0
      go_enter Try.func13, Try.ntmps13
      go_wp2_with fail
      go_loopw [9, 10, 31] (fun p m i wr => ∃ k : Nat, k ≤ rows.length ∧ i = .int .i64 k ∧ p = .string (ba (LexM.plainAll (rowsOf rows k))) ∧ m = .string (ba (LexM.moreAll na nb nt (rowsOf rows k))) ∧ GoodRows (rowsOf rows k) ∧ Below w.heap.size w wr) (fun _ _ i _ => rows.length - (intOf i).toNat)
      case atStart => exact ⟨0, Nat.zero_le _, rfl, rfl, rfl, Hg0.out, Below.refl _ _⟩
      case round =>
        obtain ⟨k, hk, rfl, rfl, rfl, hgood, hbel⟩ := hrel
        by_cases hlt : k < rows.length
        · obtain ⟨b1, o1, hx, c1, hz⟩ := H3.out k hlt
          subst hx
          have c1' := cell_later hbel c1
          have hsn := rowsOf_snoc rows k hlt
          obtain ⟨s, hs⟩ : ∃ s, s = rows[k] := ⟨_, rfl⟩
          rw [← hs] at c1' hz hsn
          have hpl := plain_len _ hgood
          have hml := more_len na nb nt hna4 hnb4 hntl _ hgood
          have hrl : (rowsOf rows k).length ≤ 100 := by unfold rowsOf; simp; omega
          have hpl2 : (LexM.plainAll (rowsOf rows k)).length ≤ 50000 := by omega
          have hml2 : (LexM.moreAll na nb nt (rowsOf rows k)).length ≤ 50000 := by omega
          have Hgood := Lib.hid hgood; have Hbel := Lib.hid hbel; have Hsn := Lib.hid hsn; have Hs := Lib.hid hs; have Hpl := Lib.hid hpl; have Hml := Lib.hid hml; have Hrl := Lib.hid hrl; clear hgood hbel hsn hs hpl hml hrl
          clear c1
          by_cases hs200 : 200 < s.size
          · go_wp2_with fail
            refine (fixed05 _).mono ?_
            rintro e w1 ⟨rfl, hb1⟩
            have hbel1 := Hbel.out.trans (hb1.mono Hbel.out.size)
            have Hb1 := Lib.hid hb1; have Hbel1 := Lib.hid hbel1; clear hb1 hbel1
            go_wp2_with fail
            go_ret
            exact ⟨rfl, Hbel1.out⟩
          · go_wp2_with fail
            go_loop [41] (fun i => ∃ j : Nat, j ≤ s.size ∧ i = .int .i64 j ∧ ∀ q, q < j → LexM.plainByte ((bytesOf s).getD q 0)) (fun i => s.size - (intOf i).toNat)
            case atStart => exact ⟨0, Nat.zero_le _, rfl, fun q hq => by omega⟩
            case round =>
              obtain ⟨j, hj, rfl, hall⟩ := hrel
              by_cases hjl : j < s.size
              · have hgd := getD_at s j hjl
                obtain ⟨n, hn2⟩ : ∃ n, n = s[j].toNat := ⟨_, rfl⟩
                have hsk : s[j].toNat = n := hn2.symm
                have hn3 : n < 256 := by rw [hn2]; exact s[j].toNat_lt
                by_cases hgoodb : 32 ≤ n ∧ n ≤ 126 ∧ n ≠ 35
                · obtain ⟨g1, g2, g3⟩ := hgoodb
                  have hbb : ((n : Int) == 35) = false := by rw [beq_eq_false_iff_ne]; omega
                  have hall2 : ∀ q, q < j + 1 → LexM.plainByte ((bytesOf s).getD q 0) := by
                    intro q hq
                    by_cases e : q = j
                    · rw [e]
                      unfold bytesOf
                      rw [hgd]
                      unfold LexM.plainByte
                      rw [hsk]
                      exact ⟨g1, g2, g3⟩
                    · exact hall q (by omega)
                  have Hall := Lib.hid hall; have Hall2 := Lib.hid hall2; have Hgd := Lib.hid hgd; have Hn2 := Lib.hid hn2; have Hg3 := Lib.hid g3; clear hall hall2 hgd hn2 g3
                  go_wp2_with fail
                  go_round
                  case rel => exact ⟨j + 1, by omega, by go_num, Hall2.out⟩
                  case measure => simp [intOf]; omega
                · have Hall := Lib.hid hall; have Hgd := Lib.hid hgd; have Hn2 := Lib.hid hn2; clear hall hgd hn2
                  by_cases g1 : n < 32
                  · clear hgoodb
                    go_wp2_with fail
                    refine (fixed05 _).mono ?_
                    rintro e w1 ⟨rfl, hb1⟩
                    have hbel1 := Hbel.out.trans (hb1.mono Hbel.out.size)
                    have Hb1 := Lib.hid hb1; have Hbel1 := Lib.hid hbel1; clear hb1 hbel1
                    go_wp2_with fail
                    go_ret
                    exact ⟨rfl, Hbel1.out⟩
                  · have g1' : 32 ≤ n := by omega
                    by_cases g2 : 126 < n
                    · clear hgoodb
                      go_wp2_with fail
                      refine (fixed05 _).mono ?_
                      rintro e w1 ⟨rfl, hb1⟩
                      have hbel1 := Hbel.out.trans (hb1.mono Hbel.out.size)
                      have Hb1 := Lib.hid hb1; have Hbel1 := Lib.hid hbel1; clear hb1 hbel1
                      go_wp2_with fail
                      go_ret
                      exact ⟨rfl, Hbel1.out⟩
                    · have g2' : n ≤ 126 := by omega
                      have hbb : ((n : Int) == 35) = true := by rw [beq_iff_eq]; omega
                      clear hgoodb
                      go_wp2_with fail
                      refine (fixed05 _).mono ?_
                      rintro e w1 ⟨rfl, hb1⟩
                      have hbel1 := Hbel.out.trans (hb1.mono Hbel.out.size)
                      have Hb1 := Lib.hid hb1; have Hbel1 := Lib.hid hbel1; clear hb1 hbel1
                      go_wp2_with fail
                      go_ret
                      exact ⟨rfl, Hbel1.out⟩
              · obtain rfl : j = s.size := by omega
                have Hall := Lib.hid hall; clear hall
                have hga : GoodRows (rowsOf rows (k + 1)) := by
                  rw [Hsn.out]
                  refine good_snoc Hgood.out (by unfold bytesOf; rw [Array.length_toList]; show s.data.size ≤ 200; have : s.data.size = s.size := rfl; omega) (fun c hc => ?_)
                  obtain ⟨q, hq, rfl⟩ := List.mem_iff_getElem.1 hc
                  have h7 : (bytesOf s).length = s.size := by unfold bytesOf; rw [Array.length_toList]; rfl
                  have h8 := Hall.out q (by omega)
                  rwa [show (bytesOf s).getD q 0 = (bytesOf s)[q] by simp [List.getD, hq]] at h8
                have hp1 : ba (LexM.plainAll (rowsOf rows k)) ++ (s ++ ⟨#[10]⟩) = ba (LexM.plainAll (rowsOf rows (k + 1))) := by rw [cat_plain, Hsn.out, plain_snoc]
                have hm1 : ba (LexM.moreAll na nb nt (rowsOf rows k)) ++ (ba (LexM.blank na) ++ s ++ ba (LexM.blank nb) ++ ⟨#[35]⟩ ++ ba nt ++ ⟨#[10]⟩) = ba (LexM.moreAll na nb nt (rowsOf rows (k + 1))) := by rw [cat_more, Hsn.out, more_snoc]
                have hbla : (LexM.blank na).length ≤ 4 := by unfold LexM.blank; simp; omega
                have hblb : (LexM.blank nb).length ≤ 4 := by unfold LexM.blank; simp; omega
                have hbz : Below w.heap.size w wr.drew := Hbel.out.drew
                have Hga := Lib.hid hga; have Hp1 := Lib.hid hp1; have Hm1 := Lib.hid hm1; clear hga hp1 hm1
                go_wp2_with fail
                go_region_with (first | (go_at_call 37; (with_reducible refine (HA.out _).mono ?_); rintro e wA ⟨gA, rfl, hrA, hbA⟩; replace hbz := hbz.trans (hbA.mono hbz.size); have cA := conv_blank hrA; (try (replace hrB := ownsRow_below hrB hbA; have cB := conv_blank hrB))) | (go_at_call 37; (with_reducible refine (HB.out _).mono ?_); rintro e wB ⟨gB, rfl, hrB, hbB⟩; replace hbz := hbz.trans (hbB.mono hbz.size); have cB := conv_blank hrB; (try (replace hrA := ownsRow_below hrA hbB; have cA := conv_blank hrA))) | (go_at_call 38; (with_reducible refine (HC.out _).mono ?_); rintro e wC ⟨rfl, hbC⟩; replace hbz := hbz.trans (hbC.mono hbz.size); (try (replace hrA := ownsRow_below hrA hbC; have cA := conv_blank hrA)); (try (replace hrB := ownsRow_below hrB hbC; have cB := conv_blank hrB))))
                all_goals
                  have HBZ := Lib.hid hbz
                  clear hrA hrB cA cB hbA hbB hbC hbz
                  go_wp2_with fail
                  go_roundw
                  case rel => exact ⟨k + 1, by omega, by go_num, by rw [Hp1.out], by rw [Hm1.out], Hga.out, HBZ.out⟩
                  case measure => simp [intOf]; omega
        · obtain rfl : k = rows.length := by omega
          have hpl := plain_len _ hgood
          have hml := more_len na nb nt hna4 hnb4 hntl _ hgood
          have hrl : (rowsOf rows rows.length).length ≤ 100 := by unfold rowsOf; simp; omega
          obtain ⟨P, hP⟩ : ∃ P, P = LexM.plainAll (rowsOf rows rows.length) := ⟨_, rfl⟩
          obtain ⟨M, hM⟩ : ∃ M, M = LexM.moreAll na nb nt (rowsOf rows rows.length) := ⟨_, rfl⟩
          have hsame := LexM.lines_same na nb nt Hntb.out (rowsOf rows rows.length) (fun s hs => (hgood s hs).2) (by omega) (by omega)
          rw [← hP] at hsame hpl
          rw [← hM] at hsame hml
          rw [← hP, ← hM]
          have hx1 := lines_ltx P
          have hx2 := lines_ltx M
          have hll := LexM.outTexts_len hsame.2
          have htx : ltx (LexM.lines M).lines = ltx (LexM.lines P).lines := by rw [ltx_texts, ltx_texts, hsame.2]
          have HL1 := Lib.hid (fun w => lines_call P (by omega) _ rfl w)
          have HL2 := Lib.hid (fun w => lines_call M (by omega) _ rfl w)
          obtain ⟨r1, hr1⟩ : ∃ r, r = LexM.lines P := ⟨_, rfl⟩
          obtain ⟨r2, hr2⟩ : ∃ r, r = LexM.lines M := ⟨_, rfl⟩
          rw [← hr1] at HL1 hsame hx1 hll htx
          rw [← hr2] at HL2 hsame hx2 hll htx
          obtain ⟨l1, x1, y1, e1⟩ := r1
          obtain ⟨l2, x2, y2, e2⟩ := r2
          dsimp only at hsame hx1 hx2 hll htx
          obtain ⟨he, _⟩ := hsame
          subst he
          have hbn : ((l1.length : Int) != l2.length) = false := by rw [hll]; simp
          have Hgood := Lib.hid hgood; have Hbel := Lib.hid hbel; have HP := Lib.hid hP; have HM := Lib.hid hM; have Hr1 := Lib.hid hr1; have Hr2 := Lib.hid hr2; have Hll := Lib.hid hll; have Htx := Lib.hid htx; have Hpl := Lib.hid hpl; have Hml := Lib.hid hml; have Hrl := Lib.hid hrl; clear hgood hbel hP hM hr1 hr2 hll htx hpl hml hrl
          go_wp2_with fail
          refine (HL1.out _).mono ?_
          rintro e w1 ⟨v1, rfl, q1, hb1⟩
          dsimp only at q1
          obtain ⟨p1, c1, rfl⟩ := ln_shape q1
          have hbel1 := Hbel.out.trans (hb1.mono Hbel.out.size)
          have Hq1 := Lib.hid q1; have Hb1 := Lib.hid hb1; have Hbel1 := Lib.hid hbel1; clear q1 hb1 hbel1
          go_wp2_with fail
          refine (HL2.out _).mono ?_
          rintro e w2 ⟨v2, rfl, q2, hb2⟩
          dsimp only at q2
          obtain ⟨p2, c2, rfl⟩ := ln_shape q2
          have hB12 : Below w1.heap.size w1 w2 := ((Below.refl _ _).alloc (Nat.le_refl _) _).trans (hb2.mono (by simp))
          have hbel2 := Hbel1.out.trans (hB12.mono Hbel1.out.size)
          have q1' := stays_lns _ _ _ _ Hq1.out hB12
          have Hq2 := Lib.hid q2; have Hb2 := Lib.hid hb2; have HB12 := Lib.hid hB12; have Hbel2 := Lib.hid hbel2; have Hq1' := Lib.hid q1'; clear q2 hb2 hB12 hbel2 q1'
          go_wp2_with fail
          refine (fixed05 _).mono ?_
          rintro e w3 ⟨rfl, hb3⟩
          have hB23 : Below w2.heap.size w2 w3 := ((Below.refl _ _).alloc (Nat.le_refl _) _).trans (hb3.mono (by simp))
          have hbel3 := Hbel2.out.trans (hB23.mono Hbel2.out.size)
          have q1'' := stays_lns _ _ _ _ Hq1'.out hB23
          have q2' := stays_lns _ _ _ _ Hq2.out hB23
          have Hb3 := Lib.hid hb3; have HB23 := Lib.hid hB23; have Hbel3 := Lib.hid hbel3; have Hq1'' := Lib.hid q1''; have Hq2' := Lib.hid q2'; clear hb3 hB23 hbel3 q1'' q2'
          by_cases he0 : e2 = 0
          · have hbe : (e2 != 0) = false := by rw [he0]; rfl
            have hT1 := text_any Hq1''.out (by omega)
            have He0 := Lib.hid he0; have HT1 := Lib.hid hT1; clear he0 hT1
            go_wp2_with fail
            refine HT1.out.mono ?_
            rintro e w4 ⟨rfl, hb4⟩
            have q2'' := stays_lns _ _ _ _ Hq2'.out hb4
            have hT2 := text_any q2'' (by omega)
            rw [Htx.out] at hT2
            have hbel4 := Hbel3.out.trans (hb4.mono Hbel3.out.size)
            have Hq2'' := Lib.hid q2''; have Hb4 := Lib.hid hb4; have HT2 := Lib.hid hT2; have Hbel4 := Lib.hid hbel4; clear q2'' hb4 hT2 hbel4
            go_wp2_with fail
            refine HT2.out.mono ?_
            rintro e w5 ⟨rfl, hb5⟩
            have hbel5 := Hbel4.out.trans (hb5.mono Hbel4.out.size)
            have Hb5 := Lib.hid hb5; have Hbel5 := Lib.hid hbel5; clear hb5 hbel5
            go_wp2_with fail
            go_ret
            exact ⟨rfl, Hbel5.out⟩
          · have hbe : (e2 != 0) = true := by rw [bne_iff_ne]; exact he0
            have He0 := Lib.hid he0; clear he0
            go_wp2_with fail
            go_ret
            exact ⟨rfl, Hbel3.out⟩
end Go.Proofs.Ytoljhahmmdibfaa
