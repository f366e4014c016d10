/- The walk of luby.Forget: which numbers it gives. Condition: at most a thousand. -/
import Derived.Test.YtoljhahmmdibfaaForgA
import Derived.Deep.CutRange
set_option linter.unusedVariables false
set_option linter.unusedSimpArgs false
namespace Go.Proofs.Ytoljhahmmdibfaa
open Go.Shelf Go.RowKit Go.Lib Go.Sort SortM ForgM

theorem elem_intF : Elem Try.prog 35 3 (.int .i64 0) 1 8 := ⟨Try.underlying35, by kernel_rfl, rfl, by decide⟩
def ForgPost (w : World) (l : List Int) (e : Ending) (w' : World) : Prop := ∃ o, e = .returned o ∧ w'.ownsRow w.heap.size 3 1 o l.length (l.map intv) ∧ Below w.heap.size w w'
set_option maxRecDepth 10000 in
set_option maxHeartbeats 4000000 in
theorem forget_any {w : World} {v : Value} {l : List NT} (h : RNotes w [v] l) (hl : l.length ≤ 1000) : Calls Try.prog 41 #[v] w (ForgPost w (forgetOf l)) := by
  have hC := cloneNote_any h (by omega)
  obtain ⟨a, c, rfl⟩ := notes_shape h
  obtain ⟨n, hn⟩ : ∃ n, n = l.length := ⟨_, rfl⟩
  rw [← hn] at hC ⊢
  have hnl : n ≤ 1000 := by omega
  obtain ⟨F, hF⟩ : ∃ F, F = l.filter mayN := ⟨_, rfl⟩
  have hFl : F.length ≤ 1000 := by rw [hF]; exact Nat.le_trans (List.length_filter_le _ _) hl
  obtain ⟨S, hS⟩ : ∃ S, S = ssort wlt F := ⟨_, rfl⟩
  have hSl : S.length = F.length := by rw [hS, ssort_len wlt_swo]
  have hfo : forgetOf l = sortN ((S.take (F.length / 2)).map fun x => x.1) := by rw [hS, hF]; rfl
  rw [hfo]
  clear hl
  have Hh := Lib.hid h; have HC := Lib.hid hC; have Hn := Lib.hid hn; have HF := Lib.hid hF; have HFl := Lib.hid hFl; have HS := Lib.hid hS; have HSl := Lib.hid hSl; have Hfo := Lib.hid hfo; clear h hC hn hF hFl hS hSl hfo
  go_enter Try.func41, Try.ntmps41
  go_wp2_with fail
  refine HC.out.mono ?_
  rintro e w1 ⟨o, rfl, ho, hb1⟩
  have hd := delOwned_any ho Hn.out.symm (by omega)
  rw [← HF.out] at hd
  obtain ⟨oa, oc, rfl⟩ := own_shape ho
  have Hb1 := Lib.hid hb1; have Ho := Lib.hid ho; have Hd := Lib.hid hd; clear hb1 ho hd
  go_wp2_with fail
  refine Hd.out.mono ?_
  rintro e w2 ⟨o2, rfl, ho2, hb2⟩
  have hb2' := hb2 w Hb1.out Hb1.out.size
  obtain ⟨nF, hnF⟩ : ∃ n, n = F.length := ⟨_, rfl⟩
  have hso := sortNotes_any ho2 rfl (by have := HFl.out; omega)
  rw [← HS.out] at hso
  rw [← hnF] at ho2 hso
  obtain ⟨oa, oc, rfl⟩ := own_shape ho2
  have Hb2 := Lib.hid hb2; have Ho2 := Lib.hid ho2; have Hb2' := Lib.hid hb2'; have Hso := Lib.hid hso; have HnF := Lib.hid hnF; clear hb2 ho2 hb2' hso hnF
  go_wp2_with fail
  refine Hso.out.mono ?_
  rintro e w3 ⟨rfl, ho3, hb3⟩
  have hb3' := hb3 w Hb2'.out.1 Hb2'.out.2
  have hlen : S.length = nF := by rw [HSl.out, HnF.out]
  have hrd : RNotes w3 [.slice oa nF oc] S := by
    have := ho3
    rw [← hlen] at this ⊢
    exact notes_reads this
  have hsh : nF ≤ oc ∧ oc ≤ 9223372036854775807 := by
    obtain ⟨a', c', e1, h1, h2, _⟩ := hrd
    simp only [List.cons.injEq, and_true, Value.slice.injEq] at e1
    obtain ⟨_, _, rfl⟩ := e1
    unfold maxLen at h2
    omega
  obtain ⟨hc1, hc2⟩ := hsh
  obtain ⟨hf, hhf⟩ : ∃ x, x = nF / 2 := ⟨_, rfl⟩
  have q1 : ((nF : Int)) / 2 = (hf : Int) := by omega
  have q2 : Int.tdiv (nF : Int) 2 = (hf : Int) := by rw [Int.tdiv_eq_ediv_of_nonneg (by omega)]; exact q1
  have hle : hf ≤ nF := by omega
  have q3 : (hf : Int) ≤ (oc : Int) := by omega
  have hnb : nF ≤ 1000 := by have := HFl.out; have := HnF.out; omega
  have hel : ∀ (k : Nat) (x : NT), S[k]? = some x → ∃ b off, oa = some ⟨b, off, none⟩ ∧ w3.cell? ⟨b, off + k * 4, none⟩ = some (.int .i64 x.1) ∧ w3.cell? ⟨b, off + k * 4 + 1, none⟩ = some (.int .i64 x.2.1) ∧ w3.cell? ⟨b, off + k * 4 + 2, none⟩ = some (.int .i64 x.2.2.1) ∧ w3.cell? ⟨b, off + k * 4 + 3, none⟩ = some (.bool x.2.2.2) := fun k x hk => by
    obtain ⟨a', c', e1, _, _, g⟩ := hrd
    simp only [List.cons.injEq, and_true, Value.slice.injEq] at e1
    obtain ⟨rfl, _, _⟩ := e1
    obtain ⟨b, off, ecs, h1, _, h3, h4⟩ := g k x hk
    subst h4
    exact ⟨b, off, h1, h3 0 _ rfl, h3 1 _ rfl, h3 2 _ rfl, h3 3 _ rfl⟩
  have Hb3 := Lib.hid hb3; have Ho3 := Lib.hid ho3; have Hb3' := Lib.hid hb3'; have Hlen := Lib.hid hlen; have Hrd := Lib.hid hrd; have Hhf := Lib.hid hhf; have Hel := Lib.hid hel; clear hb3 ho3 hb3' hlen hrd hhf hel
  go_wp2_with fail
  clear q1 q2 q3
  go_loopw [4, 18] (fun x y wr => ∃ k : Nat, y = .int .i64 k ∧ k ≤ hf ∧ wr.ownsRow w3.heap.size 3 1 x k (((S.take k).map fun x => x.1).map intv) ∧ Below w3.heap.size w3 wr) (fun _ y _ => hf - (intOf y).toNat)
  case atStart => exact ⟨0, rfl, Nat.zero_le _, World.ownsRow_nil _ _ _ _, Below.refl _ _⟩
  case round =>
    obtain ⟨k, rfl, hk, hown, hbw⟩ := hrel
    obtain ⟨pa, pc, rfl⟩ := own_shape hown
    by_cases hlt : k < hf
    · have hkS : k < S.length := by rw [Hlen.out]; omega
      obtain ⟨b, off, rfl, c0, c1, c2, c3⟩ := Hel.out k _ (List.getElem?_eq_getElem hkS)
      have hnx : ((S.take (k + 1)).map fun x => x.1) = ((S.take k).map fun x => x.1) ++ [S[k].1] := by rw [List.take_succ_eq_append_getElem hkS, List.map_append]; rfl
      have d0 := cell_later hbw c0
      have d1 := cell_later hbw c1
      have d2 := cell_later hbw c2
      have d3 := cell_later hbw c3
      obtain ⟨x0, hx0⟩ : ∃ v, v = S[k].1 := ⟨_, rfl⟩
      obtain ⟨x1, hx1⟩ : ∃ v, v = S[k].2.1 := ⟨_, rfl⟩
      obtain ⟨x2, hx2⟩ : ∃ v, v = S[k].2.2.1 := ⟨_, rfl⟩
      obtain ⟨x3, hx3⟩ : ∃ v, v = S[k].2.2.2 := ⟨_, rfl⟩
      rw [← hx0] at d0 hnx
      rw [← hx1] at d1
      rw [← hx2] at d2
      rw [← hx3] at d3
      obtain ⟨bx, hbx⟩ : ∃ n, n = wr.heap.size := ⟨_, rfl⟩
      obtain ⟨W0, hW0⟩ : ∃ W0, W0 = wr.alloc (.cells #[.int .i64 x0, .int .i64 x1, .int .i64 x2, .bool x3] 76) := ⟨_, rfl⟩
      have hbW : Below wr.heap.size wr W0 := by rw [hW0]; exact below_alloc1 _ _
      have hX0 : W0.heap[bx]? = some (.cells #[.int .i64 x0, .int .i64 x1, .int .i64 x2, .bool x3] 76 (0, 0)) := by rw [hW0, hbx]; exact heap_alloc_new _ _
      have hown0 := ownsRow_below hown hbW
      have hbw0 := hbw.trans (hbW.mono hbw.size)
      have hsz0 := hbw0.size
      have v1 : (k : Int) < (hf : Int) := by omega
      have w2' : IntKind.i64.wrap ((k : Int) + 1) = (k : Int) + 1 := IntWalk.i64_in _ (by omega)
      clear c0 c1 c2 c3
      have Hown := Lib.hid hown; have Hbw := Lib.hid hbw; have Hnx := Lib.hid hnx; have Hx0 := Lib.hid hx0; have Hx1 := Lib.hid hx1; have Hx2 := Lib.hid hx2; have Hx3 := Lib.hid hx3; have HbW := Lib.hid hbW; have HX0 := Lib.hid hX0; have Hown0 := Lib.hid hown0; have Hbw0 := Lib.hid hbw0; clear hown hbw hnx hx0 hx1 hx2 hx3 hbW hX0 hown0 hbw0
      go_upto_region 7 with fail
      rw [← hW0, ← hbx]
      clear d0 d1 d2 d3
      have f0 := cells_at HX0.out 0
      simp only [List.getElem?_toArray, List.getElem?_cons_succ, List.getElem?_cons_zero] at f0
      have HW0 := Lib.hid hW0; have Hbx := Lib.hid hbx; clear hW0 hbx
      go_wp2_with (at_builtin; (refine wpList_append_some elem_intF (w := W0) rfl (.tmp 22) (.tmp 25) rfl w3.heap.size (.slice pa k pc) k _ rfl Hown0.out 1 (by decide) #[.int .i64 x0] rfl rfl (by simp [Value.oneCell']) (by omega) (by unfold maxLen; omega) hsz0 ?_; intro g8 c8 w8 hown8 hg8 hm8; have Hown8 := Lib.hid hown8; have Hg8 := Lib.hid hg8; clear hown8 hg8 hm8))
      go_roundw
      case rel => exact ⟨k + 1, by go_num, by omega, by rw [Hnx.out, List.map_append]; exact Hown8.out, bel_own Hbw0.out Hown0.out (Nat.le_refl _) Hg8.out hsz0⟩
      case measure => simp [intOf]; omega
    · obtain rfl : k = hf := by omega
      have hso := sortInts_any hown (by rw [List.length_map, List.length_take, Hlen.out]; omega) (by omega)
      have hlen2 : (sortN ((S.take k).map fun x => x.1)).length = k := by rw [sortN_len, List.length_map, List.length_take, Hlen.out]; omega
      have Hown := Lib.hid hown; have Hbw := Lib.hid hbw; have Hso := Lib.hid hso; have Hlen2 := Lib.hid hlen2; clear hown hbw hso hlen2
      go_wp2_with fail
      refine Hso.out.mono ?_
      rintro e w4 ⟨rfl, hq1, hq2⟩
      have hq3 := hq2 w3 Hbw.out Hbw.out.size
      have Hq1 := Lib.hid hq1; have Hq2 := Lib.hid hq2; have Hq3 := Lib.hid hq3; clear hq1 hq2 hq3
      go_wp2_with fail
      go_ret
      have e9 : F.length / 2 = k := by rw [← HnF.out, ← Hhf.out]
      rw [e9]
      exact ⟨_, rfl, by rw [Hlen2.out]; exact ownsRow_mono Hq1.out Hb3'.out.1.size, Hb3'.out.1.trans (Hq3.out.mono Hb3'.out.1.size)⟩
end Go.Proofs.Ytoljhahmmdibfaa
