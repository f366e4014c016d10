/- The walks of the document's before and at of versions. Condition: the texts' reach. -/
import Derived.Test.YtblkdcapampniaaDoorRefW
import Derived.Test.YtblkdcapampniaaDoorCmpS
set_option linter.unusedVariables false
set_option linter.unusedSimpArgs false
namespace Go.Proofs.YtblkdcapampniaaDoor
open Go.RowKit Go.Lib VerN

theorem ba_list {x y : ByteArray} : x = y ↔ x.data.toList = y.data.toList := ⟨fun h => by rw [h], Txt.ext⟩
theorem nil_size (s : ByteArray) : s.data.toList = [] ↔ s.size = 0 := by rw [← Txt.len]; exact List.length_eq_zero_iff.symm
set_option maxRecDepth 10000 in
set_option maxHeartbeats 1000000 in
theorem before_any (s t : ByteArray) (hs : s.size ≤ 9223372036854775807) (ht : t.size ≤ 9223372036854775807) (w : World) : Calls Tryd.prog 58 #[.string s, .string t] w fun e w' => e = .returned (.bool (before s.data.toList t.data.toList)) ∧ w = w' := by
  obtain ⟨r, hr⟩ : ∃ r, r = before s.data.toList t.data.toList := ⟨_, rfl⟩
  have hq := hr
  unfold before at hq
  rw [← hr]
  by_cases heq : s = t
  · have k1 : (s.toList == t.toList) = true := by rw [Txt.eq_dec]; exact decide_eq_true heq
    have h0 : r = false := by rw [hq, if_pos (ba_list.1 heq)]
    have Hr := Lib.hid hr; have Hq := Lib.hid hq; have H0 := Lib.hid h0; have Heq := Lib.hid heq; clear hr hq h0 heq
    go_enter Tryd.func58, Tryd.ntmps58
    go_wp2_with fail
    go_ret
    exact ⟨ret_bool H0.out.symm, rfl⟩
  · have k1 : (s.toList == t.toList) = false := by rw [Txt.eq_dec]; exact decide_eq_false heq
    rw [if_neg (fun h => heq (ba_list.2 h))] at hq
    by_cases hs0 : s.size = 0
    · have k2 : s.toList.isEmpty = true := by rw [Txt.no_dec]; exact decide_eq_true hs0
      have h0 : r = digs t.data.toList := by rw [hq, if_pos ((nil_size s).2 hs0)]
      have hD := digits1_any t ht w
      rw [← h0] at hD
      have Hr := Lib.hid hr; have Hq := Lib.hid hq; have H0 := Lib.hid h0; have Heq := Lib.hid heq; have HD := Lib.hid hD; clear hr hq h0 heq hD
      go_enter Tryd.func58, Tryd.ntmps58
      go_wp2_with fail
      refine HD.out.mono ?_
      rintro e w1 ⟨rfl, rfl⟩
      go_wp2_with fail
      go_ret
      exact ⟨rfl, rfl⟩
    · have k2 : s.toList.isEmpty = false := by rw [Txt.no_dec]; exact decide_eq_false hs0
      rw [if_neg (fun h => hs0 ((nil_size s).1 h))] at hq
      by_cases ht0 : t.size = 0
      · have k3 : t.toList.isEmpty = true := by rw [Txt.no_dec]; exact decide_eq_true ht0
        have h0 : r = letOk s.data.toList := by rw [hq, if_pos ((nil_size t).2 ht0)]
        have hD := letters1_any s hs w
        rw [← h0] at hD
        have Hr := Lib.hid hr; have Hq := Lib.hid hq; have H0 := Lib.hid h0; have Heq := Lib.hid heq; have HD := Lib.hid hD; clear hr hq h0 heq hD
        go_enter Tryd.func58, Tryd.ntmps58
        go_wp2_with fail
        refine HD.out.mono ?_
        rintro e w1 ⟨rfl, rfl⟩
        go_wp2_with fail
        go_ret
        exact ⟨rfl, rfl⟩
      · have k3 : t.toList.isEmpty = false := by rw [Txt.no_dec]; exact decide_eq_false ht0
        rw [if_neg (fun h => ht0 ((nil_size t).1 h))] at hq
        have hL := letters1_any s hs w
        have hM := letters1_any t ht w
        have hD := digits1_any s hs w
        obtain ⟨x, hx⟩ : ∃ x, x = letOk s.data.toList := ⟨_, rfl⟩
        obtain ⟨y, hy⟩ : ∃ x, x = letOk t.data.toList := ⟨_, rfl⟩
        obtain ⟨z, hz⟩ : ∃ x, x = digs s.data.toList := ⟨_, rfl⟩
        rw [← hx] at hL hq
        rw [← hy] at hM hq
        rw [← hz] at hD hq
        by_cases hxy : x = y
        · rw [if_neg (by simpa using hxy)] at hq
          have k4 : (x == y) = true := by rw [hxy]; simp
          have hl : decide (s.data.toList.length ≠ t.data.toList.length) = ((s.size : Int) != (t.size : Int)) := by
            rw [Txt.len, Txt.len]
            by_cases h : s.size = t.size
            · rw [h]; simp
            · rw [decide_eq_true h]; simp; omega
          rw [hl] at hq
          obtain ⟨b, hb⟩ : ∃ b, b = ((s.size : Int) != (t.size : Int)) := ⟨_, rfl⟩
          have k5 := hb.symm
          rw [← hb] at hq
          have hlt : decide (s.data.toList.length < t.data.toList.length) = decide (s.size < t.size) := by rw [Txt.len, Txt.len]
          rw [hlt] at hq
          have hby := less_dec s t
          rw [← hby] at hq
          clear hl hlt hby hb
          cases z with
          | true =>
            cases b with
            | true =>
              have h0 : r = decide (s.size < t.size) := by rw [hq]; rfl
              have Hr := Lib.hid hr; have Hq := Lib.hid hq; have H0 := Lib.hid h0; have Heq := Lib.hid heq; have HL := Lib.hid hL; have HM := Lib.hid hM; have HD := Lib.hid hD; have Hx := Lib.hid hx; have Hy := Lib.hid hy; have Hz := Lib.hid hz; have Hxy := Lib.hid hxy; clear hr hq h0 heq hL hM hD hx hy hz hxy
              go_enter Tryd.func58, Tryd.ntmps58
              go_wp2_with fail
              refine HL.out.mono ?_
              rintro e w1 ⟨rfl, rfl⟩
              go_wp2_with fail
              refine HM.out.mono ?_
              rintro e w1 ⟨rfl, rfl⟩
              go_wp2_with fail
              refine HD.out.mono ?_
              rintro e w1 ⟨rfl, rfl⟩
              go_wp2_with fail
              go_ret
              exact ⟨ret_bool H0.out.symm, rfl⟩
            | false =>
              have h0 : r = Op.bytesLess s.toList t.toList := by rw [hq]; rfl
              have Hr := Lib.hid hr; have Hq := Lib.hid hq; have H0 := Lib.hid h0; have Heq := Lib.hid heq; have HL := Lib.hid hL; have HM := Lib.hid hM; have HD := Lib.hid hD; have Hx := Lib.hid hx; have Hy := Lib.hid hy; have Hz := Lib.hid hz; have Hxy := Lib.hid hxy; clear hr hq h0 heq hL hM hD hx hy hz hxy
              go_enter Tryd.func58, Tryd.ntmps58
              go_wp2_with fail
              refine HL.out.mono ?_
              rintro e w1 ⟨rfl, rfl⟩
              go_wp2_with fail
              refine HM.out.mono ?_
              rintro e w1 ⟨rfl, rfl⟩
              go_wp2_with fail
              refine HD.out.mono ?_
              rintro e w1 ⟨rfl, rfl⟩
              go_wp2_with fail
              go_ret
              exact ⟨ret_bool H0.out.symm, rfl⟩
          | false =>
            have h0 : r = Op.bytesLess s.toList t.toList := by rw [hq]; rfl
            have Hr := Lib.hid hr; have Hq := Lib.hid hq; have H0 := Lib.hid h0; have Heq := Lib.hid heq; have HL := Lib.hid hL; have HM := Lib.hid hM; have HD := Lib.hid hD; have Hx := Lib.hid hx; have Hy := Lib.hid hy; have Hz := Lib.hid hz; have Hxy := Lib.hid hxy; have Hk5 := Lib.hid k5; clear hr hq h0 heq hL hM hD hx hy hz hxy k5
            go_enter Tryd.func58, Tryd.ntmps58
            go_wp2_with fail
            refine HL.out.mono ?_
            rintro e w1 ⟨rfl, rfl⟩
            go_wp2_with fail
            refine HM.out.mono ?_
            rintro e w1 ⟨rfl, rfl⟩
            go_wp2_with fail
            refine HD.out.mono ?_
            rintro e w1 ⟨rfl, rfl⟩
            go_wp2_with fail
            go_ret
            exact ⟨ret_bool H0.out.symm, rfl⟩
        · rw [if_pos (by simpa using hxy)] at hq
          have k4 : (x == y) = false := by simpa using hxy
          have Hr := Lib.hid hr; have Hq := Lib.hid hq; have Heq := Lib.hid heq; have HL := Lib.hid hL; have HM := Lib.hid hM; have HD := Lib.hid hD; have Hx := Lib.hid hx; have Hy := Lib.hid hy; have Hz := Lib.hid hz; have Hxy := Lib.hid hxy; clear hr hq heq hL hM hD hx hy hz hxy
          go_enter Tryd.func58, Tryd.ntmps58
          go_wp2_with fail
          refine HL.out.mono ?_
          rintro e w1 ⟨rfl, rfl⟩
          go_wp2_with fail
          refine HM.out.mono ?_
          rintro e w1 ⟨rfl, rfl⟩
          go_wp2_with fail
          refine HL.out.mono ?_
          rintro e w1 ⟨rfl, rfl⟩
          go_wp2_with fail
          go_ret
          exact ⟨ret_bool Hq.out.symm, rfl⟩
/-- a row of texts that a call owns -/
theorem texts_cell {w : World} {B : Nat} {v : Value} {n : Nat} {ps : List ByteArray} (h : w.ownsRow B 9 1 v n (ps.map Value.string)) (i : Nat) (hi : i < ps.length) :
    ∃ g cap, v = .slice (some ⟨g, 0, none⟩) n cap ∧ w.cell? ⟨g, i, none⟩ = some (.string ps[i]) := by
  have hl : n = ps.length := by have := h.1; rw [List.length_map] at this; omega
  obtain ⟨g, cap, rfl, _, _, _, _, h2⟩ := ownsRow_some h (by omega)
  exact ⟨g, cap, rfl, h2 i _ (by rw [List.getElem?_map, List.getElem?_eq_getElem hi]; rfl)⟩
def noTxt : ByteArray := ⟨#[]⟩
set_option maxRecDepth 10000 in
set_option maxHeartbeats 1000000 in
theorem at1_any {w : World} {B : Nat} {v : Value} {n : Nat} {ps : List ByteArray} (h : w.ownsRow B 9 1 v n (ps.map Value.string)) (hn : n ≤ 1000000) (i : Nat) (hi8 : i ≤ 1000000) :
    Calls Tryd.prog 59 #[v, .int .i64 i] w fun e w' => e = .returned (.string (ps.getD i noTxt)) ∧ w = w' := by
  have hl : n = ps.length := by have := h.1; rw [List.length_map] at this; omega
  by_cases hi : i < n
  · have hip : i < ps.length := by omega
    obtain ⟨g, cap, rfl, c0⟩ := texts_cell h i hip
    have e : ps.getD i noTxt = ps[i] := by rw [List.getD, List.getElem?_eq_getElem hip]; rfl
    rw [e]
    obtain ⟨x, hx⟩ : ∃ x, x = ps[i] := ⟨_, rfl⟩
    rw [← hx] at c0 ⊢
    have k1 : (i : Int) < (n : Int) := by omega
    have k2 : decide ((i : Int) < (n : Int)) = true := decide_eq_true k1
    clear e hl
    have Hh := Lib.hid h; have Hx := Lib.hid hx; clear h hx
    go_enter Tryd.func59, Tryd.ntmps59
    go_wp2_with fail
    go_ret
    exact ⟨rfl, rfl⟩
  · obtain ⟨a, cap, rfl⟩ := own_shape h
    have e : ps.getD i noTxt = noTxt := by rw [List.getD, List.getElem?_eq_none (by omega)]; rfl
    rw [e]
    have k2 : decide ((i : Int) < (n : Int)) = false := decide_eq_false (by omega)
    clear e hl
    have Hh := Lib.hid h; clear h
    go_enter Tryd.func59, Tryd.ntmps59
    go_wp2_with fail
    go_ret
    exact ⟨rfl, rfl⟩
end Go.Proofs.YtblkdcapampniaaDoor
