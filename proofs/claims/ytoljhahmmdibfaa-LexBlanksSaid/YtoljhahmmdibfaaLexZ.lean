/- The walk of lex.Text: the text of lines. Condition: the text is not great. -/
import Derived.Test.YtoljhahmmdibfaaBuild
import Derived.Test.YtoljhahmmdibfaaLexS
namespace Go.Proofs.Ytoljhahmmdibfaa
open Go.RowKit
open LexM (Bs Wd Ln St)

theorem bld_at_below {T e : TypeId} {B b : Nat} {p : Value} {bs : List Value} {w w' : World} (h : Lib.BuilderAt T e B b p bs w) (hb : Below w.heap.size w w') : Lib.BuilderAt T e B b p bs w' := by
  obtain ⟨hB, v, hbk, hown, hne⟩ := h
  exact ⟨hB, v, (hb.block b (Array.getElem?_eq_some_iff.1 hbk).1).trans hbk, ownsRow_below hown hb, hne⟩
theorem bld_below {B b : Nat} {bs : List UInt8} {w w' : World} (h : Bld B b bs w) (hb : Below w.heap.size w w') : Bld B b bs w' := by
  rcases h with h | h
  · exact .inl (bld_at_below h hb)
  · exact .inr (bld_at_below h hb)
def wt : List Wd → Bs
  | [] => []
  | x :: r => x.2 ++ r.flatMap fun y => 32 :: y.2
def ltx (l : List Ln) : Bs := l.flatMap fun ln => wt ln.2 ++ [10]
theorem wt_snoc (ws : List Wd) (x : Wd) : wt (ws ++ [x]) = wt ws ++ ((if ws.length = 0 then [] else [32]) ++ x.2) := by
  cases ws with
  | nil => simp [wt]
  | cons y r => simp [wt]
theorem take_snoc' {α : Type} (l : List α) (k : Nat) (h : k < l.length) : l.take (k + 1) = l.take k ++ [l[k]] := by
  rw [List.take_add_one, List.getElem?_eq_getElem h]; rfl
theorem ltx_take (l : List Ln) (k : Nat) : (ltx (l.take k)).length ≤ (ltx l).length := by
  conv => rhs; rw [← List.take_append_drop k l]
  unfold ltx
  rw [List.flatMap_append, List.length_append]
  omega
theorem ltx_snoc (l : List Ln) (k : Nat) (h : k < l.length) : ltx (l.take (k + 1)) = ltx (l.take k) ++ (wt l[k].2 ++ [10]) := by
  rw [take_snoc' l k h]
  unfold ltx
  rw [List.flatMap_append]
  simp
theorem wt_take (ws : List Wd) (j : Nat) : (wt (ws.take j)).length ≤ (wt ws).length := by
  induction ws generalizing j with
  | nil => simp
  | cons x r _ =>
    match j with
    | 0 => simp [wt]
    | j + 1 =>
      simp only [List.take_succ_cons, wt, List.length_append]
      have : ((r.take j).flatMap fun y => (32 : UInt8) :: y.2).length ≤ (r.flatMap fun y => (32 : UInt8) :: y.2).length := by
        conv => rhs; rw [← List.take_append_drop j r]
        rw [List.flatMap_append, List.length_append]
        omega
      omega

set_option maxRecDepth 10000 in
set_option maxHeartbeats 2000000 in
/-- String, of a new builder -/
theorem bld_empty (w : World) {b : Nat} (hbk : w.heap[b]? = some (.cells #[.pointer none, .slice none 0 0] 103 (0, 0))) :
    Calls Try.prog 51 #[.pointer (some ⟨b, 0, none⟩)] w fun e w' => e = .returned (.string ⟨#[]⟩) ∧ Below w.heap.size w w' := by
  have c1 : w.drew.cell? ⟨b, 1, none⟩ = some (.slice none 0 0) := by
    have : w.drew.heap[b]? = some (.cells #[.pointer none, .slice none 0 0] 103 (0, 0)) := hbk
    rw [Lib.cell_of_heap this]; rfl
  have hUS : (Builtin.unsafeString_ #[124, 3] 9 #[.pointer none, .int .i64 0]).run Try.prog w.drew = .ok (.string .empty) w.drew := Lib.run_unsafeString_none w.drew _ _ _ none
  have hSD : (Builtin.unsafeSliceData_ #[67] 124 #[.slice none 0 0]).run Try.prog w.drew = .ok (.pointer none) w.drew := rfl
  have Hbk := Lib.hid hbk; clear hbk
  go_enter Try.func51, Try.ntmps51
  go_wp2_with fail
  go_region
  all_goals
    go_wp2_with fail
    go_ret
    exact ⟨rfl, Below.drew (Below.refl _ w)⟩

set_option maxRecDepth 10000 in
set_option maxHeartbeats 2000000 in
theorem text_any {w : World} {av : Value} {l : List Ln} (h : RLns w [av] l) (hlen : (ltx l).length ≤ 100000000) : Calls Try.prog 39 #[av] w fun e w' => e = .returned (.string ⟨(ltx l).toArray⟩) ∧ Below w.heap.size w w' := by
  obtain ⟨aa, ac, rfl, ha1, ha2, ha3⟩ := ln_cell h
  unfold maxLen at ha2
  obtain ⟨b, hb⟩ : ∃ b, b = w.heap.size := ⟨_, rfl⟩
  have h0 := bld_new w
  have hbel0 : Below w.heap.size w (w.alloc (.cells #[.pointer none, .slice none 0 0] 103)) := (Below.refl _ _).alloc (Nat.le_refl _) _
  by_cases hl0 : l.length = 0
  · have hl : l = [] := List.eq_nil_of_length_eq_zero hl0
    subst hl
    have hnew := heap_alloc_new w (.cells #[.pointer none, .slice none 0 0] 103)
    have Hh := Lib.hid h; have Ha3 := Lib.hid ha3; have H0 := Lib.hid h0; have Hbel0 := Lib.hid hbel0; have Hnew := Lib.hid hnew; have Hb := Lib.hid hb; have Hl0 := Lib.hid hl0; clear h ha3 h0 hbel0 hnew hb hl0
    go_enter Try.func39, Try.ntmps39
    go_wp2_with fail
    go_loop [10] (fun i => i = .int .i64 0) (fun i => 0)
    case atStart => rfl
    case round =>
      subst hrel
      go_wp2_with fail
      refine (bld_empty _ Hnew.out).mono ?_
      rintro e w2 ⟨rfl, hb2⟩
      have Hb2 := Lib.hid hb2; clear hb2
      go_wp2_with fail
      go_ret
      exact ⟨rfl, Hbel0.out.trans (Hb2.out.mono Hbel0.out.size)⟩
  · have hlp : 0 < l.length := by omega
    have Hh := Lib.hid h; have Ha3 := Lib.hid ha3; have H0 := Lib.hid h0; have Hbel0 := Lib.hid hbel0; have Hb := Lib.hid hb; have Hl0 := Lib.hid hl0; clear h ha3 h0 hbel0 hb hl0
    go_enter Try.func39, Try.ntmps39
    go_wp2_with fail
    rw [← Hb.out] at H0
    obtain ⟨w1, hw1⟩ : ∃ w1, w1 = w.alloc (.cells #[.pointer none, .slice none 0 0] 103) := ⟨_, rfl⟩
    rw [← hw1] at H0 Hbel0 ⊢
    rw [← Hb.out] at Hbel0 ⊢
    clear hw1
    go_loopw [10] (fun i wr => ∃ k : Nat, k ≤ l.length ∧ i = .int .i64 k ∧ Bld b b (ltx (l.take k)) wr ∧ Below b w wr) (fun i _ => l.length - (intOf i).toNat)
    case atStart => exact ⟨0, by omega, rfl, H0.out, Hbel0.out⟩
    case round =>
      obtain ⟨k, hk, rfl, hB, hbel⟩ := hrel
      by_cases hlt : k < l.length
      · have hbelw : Below w.heap.size w wr := by rw [← Hb.out]; exact hbel
        have hBw := hbel.size
        obtain ⟨b1, o1, hx, c1, v1, c2, r1⟩ := Ha3.out k hlt
        subst hx
        obtain ⟨wa, wc, rfl, hw1, hw2, hw3⟩ := wd_cell r1
        obtain ⟨A, hA⟩ : ∃ A, A = l[k] := ⟨_, rfl⟩
        rw [← hA] at c1 c2 hw1 hw3
        have c1' := cell_later hbelw c1
        have c2' := cell_later hbelw c2
        unfold maxLen at hw2
        have hsn := ltx_snoc l k hlt
        rw [← hA] at hsn
        have htl := ltx_take l (k + 1)
        rw [hsn] at htl
        simp only [List.length_append, List.length_singleton] at htl
        obtain ⟨pre, hpre⟩ : ∃ pre, pre = ltx (l.take k) := ⟨_, rfl⟩
        rw [← hpre] at hB hsn htl
        have hB3 : Bld b b (pre ++ wt (A.2.take 0)) (wr.alloc (.cells #[.int .i64 A.1, .slice wa A.2.length wc] 58)) := by
          simp only [List.take_zero, wt, List.append_nil]
          exact bld_below hB ((Below.refl _ _).alloc (Nat.le_refl _) _)
        have hbel3 : Below b w (wr.alloc (.cells #[.int .i64 A.1, .slice wa A.2.length wc] 58)) := hbel.alloc (by rw [Hb.out]; exact hBw) _
        have HB := Lib.hid hB; have Hbel := Lib.hid hbel; have Hbelw := Lib.hid hbelw; have Hr1 := Lib.hid r1; have Hw3 := Lib.hid hw3; have HA := Lib.hid hA; have Hsn := Lib.hid hsn; have Hpre := Lib.hid hpre; have HB3 := Lib.hid hB3; have Hbel3 := Lib.hid hbel3; clear hB hbel hbelw r1 hw3 hA hsn hpre hB3 hbel3
        clear c1 c2
        go_wp2_with fail
        obtain ⟨w3, hw3'⟩ : ∃ w3, w3 = wr.alloc (.cells #[.int .i64 A.1, .slice wa A.2.length wc] 58) := ⟨_, rfl⟩
        rw [← hw3'] at HB3 Hbel3 ⊢
        clear hw3' c1' c2'
        go_loopw [17] (fun i wr => ∃ j : Nat, j ≤ A.2.length ∧ i = .int .i64 j ∧ Bld b b (pre ++ wt (A.2.take j)) wr ∧ Below b w wr) (fun i _ => A.2.length - (intOf i).toNat)
        case atStart => exact ⟨0, by omega, rfl, HB3.out, Hbel3.out⟩
        case round =>
          obtain ⟨j, hj, rfl, hBj, hbelj⟩ := hrel
          by_cases hjl : j < A.2.length
          · have hbelw2 : Below w.heap.size w wr := by rw [← Hb.out]; exact hbelj
            have hBw2 := hbelw2.size
            obtain ⟨b2, o2, hx, d1, d2⟩ := Hw3.out j hjl
            subst hx
            obtain ⟨X, hX⟩ : ∃ X, X = A.2[j] := ⟨_, rfl⟩
            rw [← hX] at d1 d2
            have d1' := cell_later hbelw2 d1
            have d2' := cell_later hbelw2 d2
            have hws : wt (A.2.take (j + 1)) = wt (A.2.take j) ++ ((if j = 0 then [] else [32]) ++ X.2) := by
              rw [take_snoc' _ _ hjl, wt_snoc, List.length_take, Nat.min_eq_left (by omega), hX]
            have hwl := wt_take A.2 (j + 1)
            rw [hws] at hwl
            simp only [List.length_append] at hwl
            have hB4 : Bld b b (pre ++ wt (A.2.take j)) (wr.alloc (.cells #[.int .i64 X.1, bv X.2] 91)) := bld_below hBj ((Below.refl _ _).alloc (Nat.le_refl _) _)
            have hnew := heap_alloc_new wr (.cells #[.int .i64 X.1, bv X.2] 91)
            have hbel4 : Below b w (wr.alloc (.cells #[.int .i64 X.1, bv X.2] 91)) := hbelj.alloc (by rw [Hb.out]; exact hBw2) _
            have hszX : (⟨X.2.toArray⟩ : ByteArray).size = X.2.length := by show X.2.toArray.size = _; simp
            have hb4 : b ≤ wr.heap.size := by rw [Hb.out]; exact hBw2
            by_cases hj0 : j = 0
            · rw [if_pos hj0] at hws hwl
              have hjz : j ≤ 0 := by omega
              have hS := bld_string hB4 ⟨X.2.toArray⟩ (by rw [hszX, List.length_append]; simp at hwl; omega) (by simp; omega)
              have e1 : (pre ++ wt (A.2.take j)) ++ (⟨X.2.toArray⟩ : ByteArray).data.toList = pre ++ wt (A.2.take (j + 1)) := by rw [hws]; simp
              rw [e1] at hS
              have HBj := Lib.hid hBj; have Hbelj := Lib.hid hbelj; have Hbelw2 := Lib.hid hbelw2; have HX := Lib.hid hX; have Hws := Lib.hid hws; have Hwl := Lib.hid hwl; have HB4 := Lib.hid hB4; have Hnew := Lib.hid hnew; have Hbel4 := Lib.hid hbel4; have HS := Lib.hid hS; have HszX := Lib.hid hszX; have Hj0 := Lib.hid hj0; clear hBj hbelj hbelw2 hX hws hwl hB4 hnew hbel4 hS hszX hj0
              clear d1 d2
              go_wp2_with fail
              refine HS.out.mono ?_
              rintro e w5 ⟨rfl, hB5, hb5, hk5⟩
              have hbel5 := Hbel4.out.trans hb5
              have HB5 := Lib.hid hB5; have Hb5 := Lib.hid hb5; have Hk5 := Lib.hid hk5; have Hbel5 := Lib.hid hbel5; clear hB5 hb5 hk5 hbel5
              go_wp2_with fail
              go_roundw
              case rel => exact ⟨j + 1, by omega, by go_num, HB5.out, Hbel5.out⟩
              case measure => simp [intOf]; omega
            · rw [if_neg hj0] at hws hwl
              have hjp : 0 < j := by omega
              have hW := bld_write hB4 32 (by rw [List.length_append]; simp at hwl; omega) (by simp; omega)
              have HBj := Lib.hid hBj; have Hbelj := Lib.hid hbelj; have Hbelw2 := Lib.hid hbelw2; have HX := Lib.hid hX; have Hws := Lib.hid hws; have HB4 := Lib.hid hB4; have Hnew := Lib.hid hnew; have Hbel4 := Lib.hid hbel4; have HW := Lib.hid hW; clear hBj hbelj hbelw2 hX hws hB4 hnew hbel4 hW
              clear d1 d2 hj0
              go_wp2_with fail
              refine HW.out.mono ?_
              rintro e w5 ⟨rfl, hB5, hb5, hk5⟩
              have hbel5 := Hbel4.out.trans hb5
              have hn5 := hk5 _ _ _ _ Hnew.out (by decide) (by decide)
              have z1 := cell_of_row _ wr.heap.size 1 _ _ _ hn5
              simp only [List.getElem?_toArray, List.getElem?_cons_succ, List.getElem?_cons_zero] at z1
              have hS := bld_string hB5 ⟨X.2.toArray⟩ (by rw [hszX, List.length_append, List.length_append]; simp at hwl ⊢; omega) (by rw [Hb.out]; exact hbel5.size)
              have e1 : (pre ++ wt (A.2.take j) ++ [32]) ++ (⟨X.2.toArray⟩ : ByteArray).data.toList = pre ++ wt (A.2.take (j + 1)) := by rw [Hws.out]; simp
              rw [e1] at hS
              have HB5 := Lib.hid hB5; have Hb5 := Lib.hid hb5; have Hk5 := Lib.hid hk5; have Hbel5 := Lib.hid hbel5; have HS := Lib.hid hS; have HszX := Lib.hid hszX; have Hn5 := Lib.hid hn5; clear hB5 hb5 hk5 hbel5 hS hszX hn5
              go_wp2_with fail
              refine HS.out.mono ?_
              rintro e w6 ⟨rfl, hB6, hb6, hk6⟩
              have hbel6 := Hbel5.out.trans hb6
              have HB6 := Lib.hid hB6; have Hb6 := Lib.hid hb6; have Hk6 := Lib.hid hk6; have Hbel6 := Lib.hid hbel6; clear hB6 hb6 hk6 hbel6
              go_wp2_with fail
              go_roundw
              case rel => exact ⟨j + 1, by omega, by go_num, HB6.out, Hbel6.out⟩
              case measure => simp [intOf]; omega
          · obtain rfl : j = A.2.length := by omega
            rw [List.take_of_length_le (Nat.le_refl _)] at hBj
            have hW := bld_write hBj 10 (by rw [List.length_append]; omega) (by rw [Hb.out]; exact hbelj.size)
            have e1 : (pre ++ wt A.2) ++ [10] = ltx (l.take (k + 1)) := by rw [Hsn.out, List.append_assoc]
            rw [e1] at hW
            have HBj := Lib.hid hBj; have Hbelj := Lib.hid hbelj; have HW := Lib.hid hW; clear hBj hbelj hW
            go_wp2_with fail
            refine HW.out.mono ?_
            rintro e w5 ⟨rfl, hB5, hb5, hk5⟩
            have hbel5 := Hbelj.out.trans hb5
            have HB5 := Lib.hid hB5; have Hb5 := Lib.hid hb5; have Hk5 := Lib.hid hk5; have Hbel5 := Lib.hid hbel5; clear hB5 hb5 hk5 hbel5
            go_wp2_with fail
            go_roundw
            case rel => exact ⟨k + 1, by omega, by go_num, HB5.out, Hbel5.out⟩
            case measure => simp [intOf]; omega
      · obtain rfl : k = l.length := by omega
        rw [List.take_of_length_le (Nat.le_refl _)] at hB
        have hne : ltx l ≠ [] := by
          cases l with
          | nil => simp at hlp
          | cons x r => simp [ltx]
        have hD := bld_done hB hne
        have HB := Lib.hid hB; have Hbel := Lib.hid hbel; have Hne := Lib.hid hne; have HD := Lib.hid hD; clear hB hbel hne hD
        go_wp2_with fail
        refine HD.out.mono ?_
        rintro e w5 ⟨rfl, hb5⟩
        have hbel5 := Hbel.out.trans hb5
        have Hb5 := Lib.hid hb5; have Hbel5 := Lib.hid hbel5; clear hb5 hbel5
        go_wp2_with fail
        go_ret
        exact ⟨rfl, by rw [← Hb.out]; exact Hbel5.out⟩
end Go.Proofs.Ytoljhahmmdibfaa
