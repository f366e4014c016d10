/- The walk of the law LubyForget: it returns true. No condition. -/
import Derived.Test.YtoljhahmmdibfaaForgB
import Derived.Test.YtoljhahmmdibfaaForgD
import Derived.Test.YtoljhahmmdibfaaSameF
import Derived.Test.YtoljhahmmdibfaaLubyF
import Derived.Test.YtoljhahmmdibfaaForgO
import Derived.OpenShut
set_option linter.unusedVariables false
set_option linter.unusedSimpArgs false
namespace Go.Proofs.Ytoljhahmmdibfaa
open Go.Shelf Go.RowKit Go.Lib Go.Sort SortM ForgM

theorem own_cells {w : World} {B n c : Nat} {a : Option Addr} {L : List Int} (h : w.ownsRow B 3 1 (.slice a n c) n (L.map intv)) (hn : L.length = n) : ∀ i (hi : i < L.length), ∃ b off, a = some ⟨b, off, none⟩ ∧ w.cell? ⟨b, off + i, none⟩ = some (.int .i64 L[i]) ∧ True := fun i hi => by
  obtain ⟨g, cap, e, _, _, _, _, hc⟩ := ownsRow_some h (by omega)
  injection e with e1 _ _
  refine ⟨g, 0, e1, ?_, trivial⟩
  rw [Nat.zero_add]
  exact hc i _ (by rw [List.getElem?_map, List.getElem?_eq_getElem hi]; rfl)
set_option maxRecDepth 10000 in
set_option maxHeartbeats 4000000 in
theorem lubyForget_true {w : World} {v : Value} {l : List NT} (h : RNotes w [v] l) : Calls Try.prog 14 #[v] w fun e w' => e = .returned (.bool true) ∧ Below w.heap.size w w' := by
  have hF := fun W => fixed20 W
  have hSt := fun (W : World) (hb : Below w.heap.size w W) => stays_slice stays_note _ _ _ _ h hb
  obtain ⟨a, c, rfl⟩ := notes_shape h
  have hN := fun (W : World) (hb : Below w.heap.size w W) (i : Nat) (hi : i < l.length) => (ncell_of h i hi).below hb
  obtain ⟨n, hn⟩ : ∃ n, n = l.length := ⟨_, rfl⟩
  rw [← hn] at hSt ⊢
  by_cases hbig : 300 < n
  · have k1 : (300 : Int) < (n : Int) := by omega
    have Hh := Lib.hid h; have HF := Lib.hid hF; have HSt := Lib.hid hSt; have HN := Lib.hid hN; have Hn := Lib.hid hn; clear h hF hSt hN hn
    go_enter Try.func14, Try.ntmps14
    go_wp2_with fail
    refine (HF.out _).mono ?_
    rintro e w1 ⟨rfl, hb1⟩
    have Hb1 := Lib.hid hb1; clear hb1
    go_wp2_with fail
    go_ret
    exact ⟨rfl, Hb1.out⟩
  · have k1 : ¬ (300 : Int) < (n : Int) := by omega
    have hR := fun (W : World) (hb : Below w.heap.size w W) => forgetRef_any (hSt W hb) (by omega)
    have Hh := Lib.hid h; have HF := Lib.hid hF; have HSt := Lib.hid hSt; have HN := Lib.hid hN; have Hn := Lib.hid hn; have HR := Lib.hid hR; clear h hF hSt hN hn hR
    go_enter Try.func14, Try.ntmps14
    go_wp2_with fail
    clear k1
    go_loopw [3, 12] (fun x y W => ∃ k : Nat, y = .int .i64 k ∧ k ≤ n ∧ W.ownsRow w.heap.size 76 4 x k ((l.take k).flatMap ntCells) ∧ Below w.heap.size w W) (fun _ y _ => n - (intOf y).toNat)
    case atStart => exact ⟨0, rfl, Nat.zero_le _, World.ownsRow_nil _ _ _ _, Below.refl _ _⟩
    case round =>
      obtain ⟨k, rfl, hk, hown, hbw⟩ := hrel
      obtain ⟨pa, pc, rfl⟩ := own_shape hown
      by_cases hlt : k < n
      · have hkl : k < l.length := by have := Hn.out; omega
        obtain ⟨b, off, rfl, c0, c1, c2, c3⟩ := HN.out wr hbw k hkl
        have hnx : (l.take (k + 1)).flatMap ntCells = (l.take k).flatMap ntCells ++ ntCells l[k] := by rw [List.take_succ_eq_append_getElem hkl, List.flatMap_append]; simp
        obtain ⟨x, hx⟩ : ∃ x, x = l[k] := ⟨_, rfl⟩
        rw [← hx] at c0 c1 c2 c3 hnx
        obtain ⟨x0, hx0⟩ : ∃ v, v = x.1 := ⟨_, rfl⟩
        obtain ⟨x1, hx1⟩ : ∃ v, v = x.2.1 := ⟨_, rfl⟩
        obtain ⟨x2, hx2⟩ : ∃ v, v = x.2.2.1 := ⟨_, rfl⟩
        obtain ⟨x3, hx3⟩ : ∃ v, v = x.2.2.2 := ⟨_, rfl⟩
        rw [show ntCells x = [.int .i64 x0, .int .i64 x1, .int .i64 x2, .bool x3] by rw [hx0, hx1, hx2, hx3]; rfl] at hnx
        rw [← hx0] at c0
        rw [← hx1] at c1
        rw [← hx2] at c2
        rw [← hx3] at c3
        obtain ⟨bx, hbx⟩ : ∃ n, n = wr.heap.size := ⟨_, rfl⟩
        obtain ⟨W0, hW0⟩ : ∃ W0, W0 = wr.alloc (.cells #[.int .i64 x0, .int .i64 x1, .int .i64 x2, .bool x3] 75) := ⟨_, rfl⟩
        have hbW : Below wr.heap.size wr W0 := by rw [hW0]; exact below_alloc1 _ _
        have hX0 : W0.heap[bx]? = some (.cells #[.int .i64 x0, .int .i64 x1, .int .i64 x2, .bool x3] 75 (0, 0)) := by rw [hW0, hbx]; exact heap_alloc_new _ _
        have hown0 := ownsRow_below hown hbW
        have hbw0 := hbw.trans (hbW.mono hbw.size)
        have hsz0 := hbw0.size
        have v1 : (k : Int) < (n : Int) := by omega
        have w2' : IntKind.i64.wrap ((k : Int) + 1) = (k : Int) + 1 := IntWalk.i64_in _ (by omega)
        have Hown := Lib.hid hown; have Hbw := Lib.hid hbw; have Hnx := Lib.hid hnx; have Hx := Lib.hid hx; have Hx0 := Lib.hid hx0; have Hx1 := Lib.hid hx1; have Hx2 := Lib.hid hx2; have Hx3 := Lib.hid hx3; have HbW := Lib.hid hbW; have HX0 := Lib.hid hX0; have Hown0 := Lib.hid hown0; have Hbw0 := Lib.hid hbw0; clear hown hbw hnx hx hx0 hx1 hx2 hx3 hbW hX0 hown0 hbw0
        go_upto_region 7 with fail
        rw [← hW0, ← hbx]
        clear c0 c1 c2 c3
        have f0 := cells_at HX0.out 0
        have f1 := cells_at HX0.out 1
        have f2 := cells_at HX0.out 2
        have f3 := cells_at HX0.out 3
        simp only [List.getElem?_toArray, List.getElem?_cons_succ, List.getElem?_cons_zero] at f0 f1 f2 f3
        have HW0 := Lib.hid hW0; have Hbx := Lib.hid hbx; clear hW0 hbx
        go_wp2_with (at_builtin; (refine wpList_append_some elem_note (w := W0) rfl (.tmp 16) (.tmp 26) rfl w.heap.size (.slice pa k pc) k _ rfl Hown0.out 1 (by decide) #[.int .i64 x0, .int .i64 x1, .int .i64 x2, .bool x3] rfl rfl (by simp [Value.oneCell']) (by omega) (by unfold maxLen; omega) hsz0 ?_; intro g8 c8 w8 hown8 hg8 hm8; have Hown8 := Lib.hid hown8; have Hg8 := Lib.hid hg8; clear hown8 hg8 hm8))
        go_roundw
        case rel => exact ⟨k + 1, by go_num, by omega, by rw [Hnx.out]; exact Hown8.out, bel_own Hbw0.out Hown0.out (Nat.le_refl _) Hg8.out hsz0⟩
        case measure => simp [intOf]; omega
      · obtain rfl : n = k := by omega
        have htl : l.take n = l := List.take_of_length_le (by have := Hn.out; omega)
        rw [htl] at hown
        have hrd : RNotes wr [.slice pa n pc] l := by
          have h9 := hown
          rw [Hn.out] at h9 ⊢
          exact notes_reads h9
        have hFo := fun (W : World) (hb : Below wr.heap.size wr W) => forget_any (stays_slice stays_note _ _ _ _ hrd hb) (by have := Hn.out; omega)
        have Hown := Lib.hid hown; have Hbw := Lib.hid hbw; have Hrd := Lib.hid hrd; have HFo := Lib.hid hFo; have Htl := Lib.hid htl; clear hown hbw hrd hFo htl
        go_wp2_with fail
        refine (HF.out _).mono ?_
        rintro e w1 ⟨rfl, hb1⟩
        have hFo1 := HFo.out w1 hb1
        have hbw1 := Hbw.out.trans (hb1.mono Hbw.out.size)
        have Hb1 := Lib.hid hb1; have HFo1 := Lib.hid hFo1; have Hbw1 := Lib.hid hbw1; clear hb1 hFo1 hbw1
        go_wp2_with fail
        refine HFo1.out.mono ?_
        rintro e w2 ⟨o2, rfl, ho2, hb2⟩
        obtain ⟨qa, qc, rfl⟩ := own_shape ho2
        have hbw2 := Hbw1.out.trans (hb2.mono Hbw1.out.size)
        have hR2 := HR.out w2 hbw2
        rw [ref_is] at hR2
        obtain ⟨L, hL⟩ : ∃ L, L = forgetOf l := ⟨_, rfl⟩
        rw [← hL] at ho2 hR2 ⊢
        obtain ⟨m, hm⟩ : ∃ m, m = L.length := ⟨_, rfl⟩
        rw [← hm] at ho2 ⊢
        have Ho2 := Lib.hid ho2; have Hb2 := Lib.hid hb2; have Hbw2 := Lib.hid hbw2; have HR2 := Lib.hid hR2; have HL := Lib.hid hL; have Hm := Lib.hid hm; clear ho2 hb2 hbw2 hR2 hL hm
        go_wp2_with fail
        refine HR2.out.mono ?_
        rintro e w3 ⟨o3, rfl, ho3, hb3⟩
        obtain ⟨ra, rc, rfl⟩ := own_shape ho3
        have hbw3 := Hbw2.out.trans (hb3.mono Hbw2.out.size)
        have ho23 := ownsRow_below Ho2.out hb3
        have hml : m ≤ 9223372036854775807 := by
          rcases ho23.2 with ⟨_, h0⟩ | ⟨g', cap', cur, e0, _, _, h1, h2, _⟩
          · omega
          · unfold maxLen at h2; omega
        rw [← Hm.out] at ho3 ⊢
        have hsm := sameF_any (w := w3) (a1 := qa) (a2 := ra) (c1 := qc) (c2 := rc) (l := L) (m := L) (by rw [← Hm.out]; exact hml) (by rw [← Hm.out]; exact hml) (own_cells ho23 Hm.out.symm) (own_cells ho3 Hm.out.symm)
        rw [decide_eq_true (rfl : L = L), ← Hm.out] at hsm
        have Ho3 := Lib.hid ho3; have Hb3 := Lib.hid hb3; have Hbw3 := Lib.hid hbw3; have Ho23 := Lib.hid ho23; have Hsm := Lib.hid hsm; have Hml := Lib.hid hml; clear ho3 hb3 hbw3 ho23 hsm hml
        go_wp2_with fail
        refine Hsm.out.mono ?_
        rintro e w4 ⟨rfl, q, rfl⟩
        go_wp2_with fail
        go_ret
        exact ⟨rfl, bel_drewN Hbw3.out _⟩
end Go.Proofs.Ytoljhahmmdibfaa
