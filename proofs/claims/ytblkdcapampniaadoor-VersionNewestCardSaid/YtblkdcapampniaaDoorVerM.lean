/- The walks of cooperref01.Same and version.Parts. Condition: the library's variables as they were laid; texts of at most a million bytes. -/
import Derived.Test.YtblkdcapampniaaDoorSpnA
import Derived.Test.YtblkdcapampniaaDoorVerLaw
import Derived.BigQuiet
set_option linter.unusedVariables false
set_option linter.unusedSimpArgs false
namespace Go.Proofs.YtblkdcapampniaaDoor
open Go.RowKit Go.Lib VerN

theorem ne_at {α : Type} {l m : List α} {k : Nat} (h1 : k < l.length) (h2 : k < m.length) (h : l[k] ≠ m[k]) : l ≠ m := by rintro rfl; exact h rfl
theorem eq_all {α : Type} {l m : List α} (h : l.length = m.length) (hk : ∀ i (h1 : i < l.length) (h2 : i < m.length), l[i] = m[i]) : l = m := List.ext_getElem h hk
set_option maxRecDepth 10000 in
set_option maxHeartbeats 1000000 in
theorem same1_any {w : World} {v u : Value} {l m : List ByteArray} (hl : RTs w [v] l) (hm : RTs w [u] m) : Calls Tryd.prog 39 #[v, u] w fun e w' => e = .returned (.bool (decide (l = m))) ∧ ∃ q, w' = w.drewN q := by
  obtain ⟨a1, c1, rfl, hz1, g1⟩ := txts_open hl
  obtain ⟨a2, c2, rfl, hz2, g2⟩ := txts_open hm
  obtain ⟨n, hn⟩ : ∃ n, n = l.length := ⟨_, rfl⟩
  obtain ⟨n2, hn2⟩ : ∃ n, n = m.length := ⟨_, rfl⟩
  obtain ⟨r, hr⟩ : ∃ r, r = decide (l = m) := ⟨_, rfl⟩
  rw [← hn] at hz1 hl ⊢
  rw [← hn2] at hz2 hm ⊢
  rw [← hr]
  clear hl hm
  by_cases hne : n = n2
  · subst hne
    have e0 : ((n : Int) != (n : Int)) = false := by simp
    have Hg1 := Lib.hid g1; have Hg2 := Lib.hid g2; have Hn := Lib.hid hn; have Hn2 := Lib.hid hn2; have Hr := Lib.hid hr; clear g1 g2 hn hn2 hr
    go_enter Tryd.func39, Tryd.ntmps39
    go_wp2_with fail
    go_loopw [13] (fun i wr => ∃ k : Nat, k ≤ n ∧ i = .int .i64 k ∧ (∀ j (h1 : j < l.length) (h2 : j < m.length), j < k → l[j] = m[j]) ∧ ∃ q, wr = w.drewN q) (fun i _ => n - (intOf i).toNat)
    case atStart => exact ⟨0, Nat.zero_le _, rfl, fun j _ _ h => by omega, 0, rfl⟩
    case round =>
      obtain ⟨k, hk, rfl, heq, q, rfl⟩ := hrel
      by_cases hlt : k < n
      · have hk1 : k < l.length := by have := Hn.out; omega
        have hk2 : k < m.length := by have := Hn2.out; omega
        obtain ⟨b1, o1, rfl, d1, _⟩ := Hg1.out k hk1
        obtain ⟨b2, o2, rfl, d2, _⟩ := Hg2.out k hk2
        obtain ⟨x, hx⟩ : ∃ x, x = l[k] := ⟨_, rfl⟩
        obtain ⟨y, hy⟩ : ∃ y, y = m[k] := ⟨_, rfl⟩
        rw [← hx] at d1
        rw [← hy] at d2
        have k5 : (0 : Int) ≤ (k : Int) := by omega
        have k6 : (k : Int) < (n : Int) := by omega
        by_cases he : x = y
        · have e1 : (x.toList == y.toList) = true := by rw [he]; simp
          have heq2 : ∀ j (h1 : j < l.length) (h2 : j < m.length), j < k + 1 → l[j] = m[j] := fun j h1 h2 hj => by
            by_cases e : j = k
            · subst e; rw [← hx, ← hy]; exact he
            · exact heq j h1 h2 (by omega)
          have Hx := Lib.hid hx; have Hy := Lib.hid hy; have Heq := Lib.hid heq; have He := Lib.hid he; have Heq2 := Lib.hid heq2; clear hx hy heq he heq2
          go_wp2_with fail
          go_quiet (fail)
          go_wp2_with fail
          go_roundw
          case rel => exact ⟨k + 1, by omega, by go_num, Heq2.out, _, rfl⟩
          case measure => simp [intOf]; omega
        · have e1 : (x.toList == y.toList) = false := by rw [Txt.eq_dec]; exact decide_eq_false he
          have hf : r = false := by rw [Hr.out]; exact decide_eq_false (ne_at hk1 hk2 (by rw [← hx, ← hy]; exact he))
          have Hx := Lib.hid hx; have Hy := Lib.hid hy; have Heq := Lib.hid heq; have He := Lib.hid he; have Hf := Lib.hid hf; clear hx hy heq he hf
          go_wp2_with fail
          go_quiet (fail)
          go_wp2_with fail
          go_ret
          exact ⟨ret_bool Hf.out.symm, q + nq, World.drewN_drewN _ _ _⟩
      · have hf : r = true := by
          rw [Hr.out]
          exact decide_eq_true (eq_all (by rw [← Hn.out, ← Hn2.out]) (fun j h1 h2 => heq j h1 h2 (by have := Hn.out; omega)))
        have Heq := Lib.hid heq; have Hf := Lib.hid hf; clear heq hf
        go_wp2_with fail
        go_ret
        exact ⟨ret_bool Hf.out.symm, _, rfl⟩
  · have e0 : ((n : Int) != (n2 : Int)) = true := by rw [bne_iff_ne]; omega
    have hf : r = false := by rw [hr]; exact decide_eq_false (by rintro rfl; omega)
    have Hg1 := Lib.hid g1; have Hg2 := Lib.hid g2; have Hn := Lib.hid hn; have Hn2 := Lib.hid hn2; have Hr := Lib.hid hr; have Hf := Lib.hid hf; have Hne := Lib.hid hne; clear g1 g2 hn hn2 hr hf hne
    go_enter Tryd.func39, Tryd.ntmps39
    go_wp2_with fail
    go_ret
    exact ⟨ret_bool Hf.out.symm, 0, rfl⟩
theorem own_texts {w : World} {B : Nat} {v : Value} {n : Nat} {l : List ByteArray} (h : w.ownsRow B 9 1 v n (l.map Value.string)) (hs : ∀ x ∈ l, x.size ≤ maxLen) : RTs w [v] l := by
  obtain rfl : n = l.length := by have := h.1; simp at this; omega
  refine slice_of_owns (by simp) h fun i u x hu hx => ?_
  rw [List.getElem?_map, hx] at hu
  cases hu
  exact ⟨rfl, hs x (List.mem_of_getElem? hx)⟩
theorem stays_texts {w w' : World} {v : Value} {l : List ByteArray} (h : RTs w [v] l) (hb : Below w.heap.size w w') : RTs w' [v] l := stays_slice stays_str _ _ _ _ h hb
def partsOut (s : ByteArray) (w : World) (e : Ending) (w' : World) : Prop := ∃ v, e = .returned v ∧ (mayL s.data.toList = false → v = .slice none 0 0) ∧ (mayL s.data.toList = true → RTs w' [v] (cutS 46 s)) ∧ Below w.heap.size w w'
set_option maxRecDepth 10000 in
theorem verParts_any (s : ByteArray) (hs : s.size ≤ 1000000) {w : World} (hD : Doors w) : Calls Tryd.prog 37 #[.string s] w (partsOut s w) := by
  unfold partsOut
  have hM := verMay_any s hs hD
  obtain ⟨p, hp⟩ : ∃ p, p = mayL s.data.toList := ⟨_, rfl⟩
  rw [← hp] at hM ⊢
  cases p with
  | false =>
    have HM := Lib.hid hM; have Hp := Lib.hid hp; have HD := Lib.hid hD; clear hM hp hD
    go_enter Tryd.func37, Tryd.ntmps37
    go_wp2_with fail
    refine HM.out.mono ?_
    rintro e w1 ⟨rfl, hb1⟩
    have Hb1 := Lib.hid hb1; clear hb1
    go_wp2_with fail
    go_ret
    exact ⟨_, rfl, fun _ => rfl, (fun h => by cases h), Hb1.out⟩
  | true =>
    have hC := fun (W : World) (m : Int) (h : W.cell? ⟨0, 0, none⟩ = some (.int .i64 m)) => Tryd.strings_Split s ⟨#[46]⟩ m W (by omega) h (by decide)
    simp only [split_all, countB_cut] at hC
    have h8 := (may_iff _).1 hp.symm
    have hz : (cutS 46 s).length ≤ 100 ∧ ∀ x ∈ cutS 46 s, x.size ≤ maxLen := ⟨by rw [cutS_len]; omega, fun x hx => by have := cutS_piece hx; unfold maxLen; omega⟩
    clear h8
    have HM := Lib.hid hM; have Hp := Lib.hid hp; have HD := Lib.hid hD; have HC := Lib.hid hC; have Hz := Lib.hid hz; clear hM hp hD hC hz
    go_enter Tryd.func37, Tryd.ntmps37
    go_wp2_with fail
    refine HM.out.mono ?_
    rintro e w1 ⟨rfl, hb1⟩
    obtain ⟨mx, hmx⟩ := (HD.out.below hb1).max
    have hS := HC.out w1 mx hmx
    clear hmx
    have Hb1 := Lib.hid hb1; have HS := Lib.hid hS; clear hb1 hS
    go_wp2_with fail
    refine HS.out.mono ?_
    rintro e w2 ⟨rfl, rfl⟩
    go_wp2_with fail
    go_ret
    exact ⟨_, rfl, (fun h => by cases h), fun _ => lit_texts _ _ Hz.out.1 Hz.out.2, Hb1.out.alloc Hb1.out.size _⟩
end Go.Proofs.YtblkdcapampniaaDoor
