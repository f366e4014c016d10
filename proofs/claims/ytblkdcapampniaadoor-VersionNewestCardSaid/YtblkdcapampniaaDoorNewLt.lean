/- The walk of cooperlaw01.VersionNewest: the law. Condition: the library's variables as they were laid. -/
import Derived.Test.YtblkdcapampniaaDoorNewM
import Derived.Test.YtblkdcapampniaaDoorApp
import Derived.Test.YtblkdcapampniaaDoorOpen2
set_option linter.unusedVariables false
set_option linter.unusedSimpArgs false
namespace Go.Proofs.YtblkdcapampniaaDoor
open Go.RowKit Go.Lib Go.Sort SortM VerN

theorem elem_txt : Elem Tryd.prog 23 9 (.string ⟨#[]⟩) 1 16 := ⟨Tryd.underlying23, by kernel_rfl, rfl, by decide⟩
/-- the law's own row behind k rounds -/
def NewI (w2 : World) (l : List Tx) (k : Nat) (v : Value) (W : World) : Prop := ∃ g c, v = .slice (some ⟨g, 0, none⟩) k c ∧ W.ownsRow w2.heap.size 9 1 v k ((newest (l.take k)).map fun x => Value.string x.1) ∧ Below w2.heap.size w2 W
theorem own_cap {w : World} {B : Nat} {e : TypeId} {size g n cap : Nat} {xs : List Value} (h : w.ownsRow B e size (.slice (some ⟨g, 0, none⟩) n cap) n xs) : n ≤ cap := by
  rcases h.2 with ⟨e0, _⟩ | ⟨g', cap', cur, e0, _, _, hn, _⟩
  · cases e0
  · injection e0 with _ _ e3
    omega
theorem lit_zero0 {w : World} {B : Nat} (hB : B ≤ w.heap.size) : (w.alloc (.cells #[] 9)).ownsRow B 9 1 (.slice (some ⟨w.heap.size, 0, none⟩) 0 0) 0 [] := World.ownsRow_lit w #[] 0 hB (by decide) rfl
theorem own_shape_pos {w : World} {B : Nat} {e : TypeId} {size : Nat} {v : Value} {n : Nat} {xs : List Value} (h : w.ownsRow B e size v n xs) (hn : 0 < n) : ∃ g cap, v = .slice (some ⟨g, 0, none⟩) n cap := by
  rcases h.2 with ⟨h1, h2⟩ | ⟨g, cap, _, h1, _⟩
  · omega
  · exact ⟨_, cap, h1⟩
theorem newI_step {w2 wr W V : World} {l : List Tx} {k M g n c : Nat} {P : List Tx} {x : Tx} {xs : ByteArray} {T1 T2 : List Value} (hk : k < l.length) (hx : x = l[k]) (hP : P = newest (l.take k)) (hR : ins (Go.Proofs.ltOf newCf) x P = P.take M ++ x :: P.drop M) (hxs : xs = x.1) (hT1 : T1 = (P.take M).map fun x => Value.string x.1) (hT2 : T2 = (P.drop M).map fun x => Value.string x.1) (hbr : Below w2.heap.size w2 wr) (hb9 : Below wr.heap.size wr W) (hb11 : Below W.heap.size W V) (hown : V.ownsRow W.heap.size 9 1 (.slice (some ⟨g, 0, none⟩) n c) n (T1 ++ [Value.string xs] ++ T2)) (hn : n = k + 1) : NewI w2 l (k + 1) (.slice (some ⟨g, 0, none⟩) n c) V := by
  subst hn
  have hrW : Below w2.heap.size w2 W := hbr.trans (hb9.mono hbr.size)
  refine ⟨g, c, rfl, ?_, hrW.trans (hb11.mono hrW.size)⟩
  have e : l.take (k + 1) = l.take k ++ [x] := by rw [hx]; exact (List.take_append_getElem hk).symm
  rw [e, newest_snoc, ← hP, hR]
  have := ownsRow_mono hown hrW.size
  rw [hT1, hT2, hxs] at this
  simpa using this
set_option maxRecDepth 10000 in
set_option maxHeartbeats 4000000 in
theorem versionNewest_true {w : World} {v : Value} {l0 : List ByteArray} (h : RTs w [v] l0) (hD : Doors w) : Calls Tryd.prog 13 #[v] w fun e w' => e = .returned (.bool true) ∧ Below w.heap.size w w' := by
  have hG := great1_any h
  have hF := fun (W : World) (k : Below w.heap.size w W) => fixed01_any (hD.below k)
  obtain ⟨a, cap, rfl, hz, g⟩ := txts_open h
  obtain ⟨n, hn⟩ : ∃ n, n = l0.length := ⟨_, rfl⟩
  rw [← hn] at hz hG h ⊢
  have Hh := Lib.hid h; have HG := Lib.hid hG; have HF := Lib.hid hF; have Hg := Lib.hid g; have Hn := Lib.hid hn; have HD := Lib.hid hD; clear h hG hF g hn hD
  go_enter Tryd.func13, Tryd.ntmps13
  go_wp2_with fail
  refine HG.out.mono ?_
  rintro e w1 ⟨⟨r, rfl, hr⟩, rfl⟩
  cases r with
  | true =>
    clear hr
    go_wp2_with fail
    refine (HF.out _ (Below.refl _ _)).mono ?_
    rintro e w2 ⟨rfl, hb2⟩
    have Hb2 := Lib.hid hb2; clear hb2
    go_wp2_with fail
    go_ret
    exact ⟨rfl, Hb2.out⟩
  | false =>
    have h9 := hr rfl
    clear hr
    by_cases hbig : 200 < n
    · have k1 : decide ((200 : Int) < (n : Int)) = true := by simp; omega
      have H9 := Lib.hid h9; clear h9
      go_wp2_with fail
      refine (HF.out _ (Below.refl _ _)).mono ?_
      rintro e w2 ⟨rfl, hb2⟩
      have Hb2 := Lib.hid hb2; clear hb2
      go_wp2_with fail
      go_ret
      exact ⟨rfl, Hb2.out⟩
    · have k1 : decide ((200 : Int) < (n : Int)) = false := by simp; omega
      obtain ⟨l, hl⟩ : ∃ l : List Tx, l.map (·.1) = l0 := ⟨l0.pmap Subtype.mk h9, by rw [List.map_pmap]; simp⟩
      have hln : l.length = n := by rw [Hn.out, ← hl]; simp
      obtain ⟨N, hN⟩ : ∃ N, N = l.map fun x => Value.string x.1 := ⟨_, rfl⟩
      have hNl : N.length = n * 1 := by rw [hN]; simp [hln]
      have hN1 : ∀ u ∈ N, u.oneCell' = true := by
        rw [hN]
        intro u hu
        obtain ⟨y, _, rfl⟩ := List.mem_map.1 hu
        rfl
      have hNc : ∀ W, Below w.heap.size w W → ∀ j u, N[j]? = some u → ∃ b off, a = some ⟨b, off, none⟩ ∧ W.cell? ⟨b, off + j, none⟩ = some u := by
        intro W hW j u hu
        rw [hN, List.getElem?_map] at hu
        obtain ⟨x, hx, rfl⟩ := Option.map_eq_some_iff.1 hu
        obtain ⟨hj, e⟩ := List.getElem?_eq_some_iff.1 hx
        obtain ⟨b, off, h1, h2, _⟩ := Hg.out j (by have := Hn.out; omega)
        refine ⟨b, off, h1, cell_later hW ?_⟩
        rw [h2]
        have : l0[j]'(by have := Hn.out; omega) = x.1 := by subst hl; simp [e]
        rw [this]
      have hNc0 := hNc _ (below_alloc1 w (.cells #[] 9))
      have hlit : (w.alloc (.cells #[] 9)).ownsRow w.heap.size 9 1 (.slice (some ⟨w.heap.size, 0, none⟩) 0 0) 0 [] := lit_zero0 (Nat.le_refl _)
      have H9 := Lib.hid h9; have Hl := Lib.hid hl; have Hln := Lib.hid hln; have HN := Lib.hid hN; have HNl := Lib.hid hNl; have HN1 := Lib.hid hN1; have HNc := Lib.hid hNc; have HNc0 := Lib.hid hNc0; have Hlit := Lib.hid hlit; clear h9 hl hln hN hNl hN1 hNc hNc0 hlit
      go_wp2_with (at_builtin; (refine wpList_append_from elem_txt rfl (.tmp 18) (.tmp 19) rfl w.heap.size (.slice (some ⟨w.heap.size, 0, none⟩) 0 0) 0 [] rfl Hlit.out a n cap N rfl HNl.out HNc0.out HN1.out (by omega) (by unfold maxLen; omega) (by simp) ?_; intro v1 w1 hown1 hg1 hm1; obtain ⟨oa, oc, rfl⟩ := own_shape hown1; generalize hN7 : 0 + n = N7 at hown1 ⊢; have Hown1 := Lib.hid hown1; have Hg1 := Lib.hid hg1; have HN7 := Lib.hid hN7; clear hown1 hg1 hm1 hN7))
      have hb1 : Below w.heap.size w w1 := bel_own (below_alloc1 w _) Hlit.out (Nat.le_refl _) Hg1.out (by simp)
      have hown : w1.ownsRow w.heap.size 9 1 (.slice oa N7 oc) l.length (l.map fun x => Value.string x.1) := by
        have := Hown1.out
        rw [List.nil_append, HN.out] at this
        have e : N7 = l.length := by have := HN7.out; have := Hln.out; omega
        rw [e] at this ⊢
        exact this
      have hx9 : ∀ x ∈ l.map (·.1), x.size ≤ maxLen := fun x hx => by
        obtain ⟨y, _, rfl⟩ := List.mem_map.1 hx
        have := y.2
        unfold maxLen; omega
      have hrd : RTs w1 [.slice oa N7 oc] (l.map (·.1)) := own_texts (n := l.length) (by rw [List.map_map]; exact hown) hx9
      have hW := newest_any hown (by have := Hln.out; omega) (HD.out.below hb1)
      unfold newPost at hW
      have hnn : N7 = n := by have := HN7.out; omega
      clear HN7
      subst hnn
      rw [Hln.out] at hW
      have Hb1 := Lib.hid hb1; have Hown := Lib.hid hown; have Hrd := Lib.hid hrd; have HW := Lib.hid hW; have Hx9 := Lib.hid hx9; clear hb1 hown hrd hW hx9
      go_wp2_with fail
      refine HW.out.mono ?_
      rintro e w2 ⟨o, rfl, ho, hb2⟩
      obtain ⟨ob, oc2, rfl⟩ := own_shape ho
      have hbw2 := Hb1.out.trans (hb2.mono Hb1.out.size)
      have hrd2 := stays_texts Hrd.out hb2
      have hl2 : RTs w2 [.slice a N7 cap] (l.map (·.1)) := by rw [Hl.out]; exact stays_texts Hh.out hbw2
      have hS := same1_any hrd2 hl2
      rw [decide_eq_true rfl] at hS
      have Ho := Lib.hid ho; have Hb2 := Lib.hid hb2; have Hbw2 := Lib.hid hbw2; have Hrd2 := Lib.hid hrd2; have Hl2 := Lib.hid hl2; have HS := Lib.hid hS; clear ho hb2 hbw2 hrd2 hl2 hS
      go_wp2_with fail
      refine HS.out.mono ?_
      rintro e w3 ⟨rfl, q, rfl⟩
      have hb3 : Below w2.heap.size w2 (w2.drewN q) := bel_drewN (Below.refl _ _) q
      have hst : NewI w2 l 0 (.slice (some ⟨w2.heap.size, 0, none⟩) 0 0) ((w2.drewN q).alloc (.cells #[] 9)) := ⟨_, _, rfl, lit_zero0 (w := w2.drewN q) (Nat.le_refl _), hb3.alloc (Nat.le_refl _) _⟩
      have Hb3 := Lib.hid hb3; have Hst := Lib.hid hst; clear hb3 hst
      go_wp2_with fail
      go_loopw [5, 37] (fun v i wr => ∃ k : Nat, k ≤ N7 ∧ i = .int .i64 k ∧ NewI w2 l k v wr) (fun _ i _ => N7 - (intOf i).toNat)
      case atStart => exact ⟨0, Nat.zero_le _, rfl, Hst.out⟩
      case round =>
        obtain ⟨k, hk, rfl, gw, cw, rfl, hrow, hbr⟩ := hrel
        by_cases hlt : k < N7
        · have hkl : k < l.length := by have := Hln.out; omega
          have hk0 : k < l0.length := by have := Hn.out; omega
          obtain ⟨b, off, rfl, d0, _⟩ := Hg.out k hk0
          obtain ⟨x, hx⟩ : ∃ x, x = l[k] := ⟨_, rfl⟩
          have hxe : l0[k] = x.1 := by rw [hx]; have := Hl.out; subst this; simp
          rw [hxe] at d0
          have hwr := Hbw2.out.trans (hbr.mono Hbw2.out.size)
          have d1 := cell_later hwr d0
          obtain ⟨P, hP⟩ : ∃ P, P = newest (l.take k) := ⟨_, rfl⟩
          have hPl : P.length = k := by rw [hP]; unfold newest; rw [ssort_len newSwo, List.length_take]; omega
          have hPs : Sorted (Go.Proofs.ltOf newCf) P := by rw [hP]; exact newest_sorted _
          rw [← hP] at hrow
          have k5 : (0 : Int) ≤ (k : Int) := by omega
          have k6 : (k : Int) < (N7 : Int) := by omega
          have hcell : ∀ i (hi : i < P.length), wr.cell? ⟨gw, i, none⟩ = some (.string P[i].1) := fun i hi => by
            have := hrow.cellAt i (by omega)
            rw [this, List.getElem?_map, List.getElem?_eq_getElem hi]
            rfl
          obtain ⟨xs, hxs⟩ : ∃ s, s = x.1 := ⟨_, rfl⟩
          rw [← hxs] at d1
          have hxz : xs.size ≤ 1000000 := by rw [hxs]; have := x.2; omega
          clear d0
          have Hx := Lib.hid hx; have Hxe := Lib.hid hxe; have Hwr := Lib.hid hwr; have HP := Lib.hid hP; have HPl := Lib.hid hPl; have HPs := Lib.hid hPs; have Hrow := Lib.hid hrow; have Hbr := Lib.hid hbr; have Hcell := Lib.hid hcell; have Hxs := Lib.hid hxs; clear hx hxe hwr hP hPl hPs hrow hbr hcell hxs
          go_wp2_with fail
          go_loopw [8] (fun v wq => ∃ m : Nat, m ≤ k ∧ v = .int .i64 m ∧ (∀ i (hi : i < P.length), m ≤ i → Go.Proofs.ltOf newCf x P[i] = true) ∧ Below wr.heap.size wr wq) (fun v _ => (intOf v).toNat)
          case atStart => exact ⟨k, Nat.le_refl _, rfl, (fun i hi h => by have := HPl.out; omega), Below.refl _ _⟩
          case round =>
            obtain ⟨m, hm, rfl, hall, hbq⟩ := hrel
            by_cases hm0 : 0 < m
            · obtain ⟨p, rfl⟩ : ∃ p, m = p + 1 := ⟨m - 1, by omega⟩
              have hpl : p < P.length := by have := HPl.out; omega
              have d2 := cell_later hbq (Hcell.out p hpl)
              obtain ⟨y, hy⟩ : ∃ y, y = P[p] := ⟨_, rfl⟩
              rw [← hy] at d2
              have hL := less1_any y.1 xs (by have := y.2; omega) hxz wr
              have hle : lessL y.1.data.toList xs.data.toList = Go.Proofs.ltOf newCf x y := by rw [Hxs.out]; exact less_new x y
              rw [hle] at hL
              obtain ⟨ys, hys⟩ : ∃ s, s = y.1 := ⟨_, rfl⟩
              rw [← hys] at d2 hL
              have w2 : IntKind.i64.wrap (p : Int) = (p : Int) := IntWalk.i64_in _ (by omega)
              have v1 : decide ((0 : Int) < (p : Int) + 1) = true := decide_eq_true (by omega)
              have v2 : (0 : Int) < (p : Int) + 1 := by omega
              have v3 : (p : Int) < (k : Int) := by omega
              have v4 : (0 : Int) ≤ (p : Int) := by omega
              obtain ⟨r, hr⟩ : ∃ r, r = Go.Proofs.ltOf newCf x y := ⟨_, rfl⟩
              rw [← hr] at hL
              clear hle
              cases r with
              | true =>
                have hnx : ∀ i (hi : i < P.length), p ≤ i → Go.Proofs.ltOf newCf x P[i] = true := fun i hi h => by
                  by_cases e : i = p
                  · subst e; rw [← hy, ← hr]
                  · exact hall i hi (by omega)
                have Hall := Lib.hid hall; have Hbq := Lib.hid hbq; have HL := Lib.hid hL; have Hys := Lib.hid hys; have Hr := Lib.hid hr; have Hy := Lib.hid hy; have Hnx := Lib.hid hnx; clear hall hbq hL hys hr hy hnx
                go_wp2_with fail
                refine HL.out.mono ?_
                rintro e wz ⟨rfl, hbz⟩
                have hb9 := Hbq.out.trans (hbz.mono Hbq.out.size)
                have Hbz := Lib.hid hbz; have Hb9 := Lib.hid hb9; clear hbz hb9
                go_wp2_with fail
                go_roundw
                case rel => exact ⟨p, by omega, by go_num, Hnx.out, Hb9.out⟩
                case measure => (simp [intOf]) <;> omega
              | false =>
                have hR := ins_round newSwo (x := x) HPs.out (at_ := p + 1) (by have := HPl.out; omega) hall (fun _ => by rw [show P[p + 1 - 1]'(by have := HPl.out; omega) = y by rw [hy]; rfl]; exact hr.symm)
                have Hall := Lib.hid hall; have Hbq := Lib.hid hbq; have HL := Lib.hid hL; have Hys := Lib.hid hys; have Hr := Lib.hid hr; have Hy := Lib.hid hy; have HR := Lib.hid hR; clear hall hbq hL hys hr hy hR
                go_wp2_with fail
                refine HL.out.mono ?_
                rintro e wz ⟨rfl, hbz⟩
                have hb9 := Hbq.out.trans (hbz.mono Hbq.out.size)
                have Hbz := Lib.hid hbz; have Hb9 := Lib.hid hb9; clear hbz hb9
                go_upto_region 14 with (fail)
                obtain ⟨T1, hT1⟩ : ∃ T, T = (P.take (p + 1)).map fun x => Value.string x.1 := ⟨_, rfl⟩
                obtain ⟨T2, hT2⟩ : ∃ T, T = (P.drop (p + 1)).map fun x => Value.string x.1 := ⟨_, rfl⟩
                have hM : p + 1 ≤ P.length := by have := HPl.out; omega
                have hl1 : T1.length = (p + 1) * 1 := by have := HPl.out; rw [hT1, List.length_map, List.length_take]; omega
                have hl2 : T2.length = (k - (p + 1)) * 1 := by have := HPl.out; rw [hT2, List.length_map, List.length_drop]; omega
                have hone1 : ∀ u ∈ T1, u.oneCell' = true := by rw [hT1]; intro u hu; obtain ⟨z, _, rfl⟩ := List.mem_map.1 hu; rfl
                have hone2 : ∀ u ∈ T2, u.oneCell' = true := by rw [hT2]; intro u hu; obtain ⟨z, _, rfl⟩ := List.mem_map.1 hu; rfl
                have hc1 : ∀ V, Below wz.heap.size wz V → ∀ j u, T1[j]? = some u → ∃ b off, some (⟨gw, 0, none⟩ : Addr) = some ⟨b, off, none⟩ ∧ V.cell? ⟨b, off + j, none⟩ = some u := fun V hV j u hu => by
                  rw [hT1, List.getElem?_map] at hu
                  obtain ⟨z, hz, rfl⟩ := Option.map_eq_some_iff.1 hu
                  obtain ⟨hj, e⟩ := List.getElem?_eq_some_iff.1 hz
                  rw [List.length_take] at hj
                  rw [List.getElem_take] at e
                  exact ⟨gw, 0, rfl, by rw [Nat.zero_add, ← e]; exact cell_later hV (cell_later Hb9.out (Hcell.out j (by omega)))⟩
                have hc2 : ∀ V, Below wz.heap.size wz V → ∀ j u, T2[j]? = some u → ∃ b off, some (⟨gw, p + 1, none⟩ : Addr) = some ⟨b, off, none⟩ ∧ V.cell? ⟨b, off + j, none⟩ = some u := fun V hV j u hu => by
                  rw [hT2, List.getElem?_map] at hu
                  obtain ⟨z, hz, rfl⟩ := Option.map_eq_some_iff.1 hu
                  obtain ⟨hj, e⟩ := List.getElem?_eq_some_iff.1 hz
                  rw [List.length_drop] at hj
                  rw [List.getElem_drop] at e
                  exact ⟨gw, p + 1, rfl, by rw [← e]; exact cell_later hV (cell_later Hb9.out (Hcell.out _ (by omega)))⟩
                have hlit1 := lit_zero0 (w := wz) (B := wz.heap.size) (Nat.le_refl _)
                have hc10 := hc1 _ (below_alloc1 wz (.cells #[] 9))
                have hk200 : k ≤ 200 := by omega
                have hMk : p + 1 ≤ k := by have := HPl.out; omega
                have hMi : (p : Int) + 1 ≤ (cw : Int) := by have := own_cap Hrow.out; omega
                have hMt : ((p : Int) + 1).toNat = p + 1 := by omega
                have hM0 : (0 : Int) ≤ (p : Int) + 1 := by omega
                have HT1 := Lib.hid hT1; have HT2 := Lib.hid hT2; have HM := Lib.hid hM; have Hl1 := Lib.hid hl1; have Hl2 := Lib.hid hl2; have Hone1 := Lib.hid hone1; have Hone2 := Lib.hid hone2; have Hc1 := Lib.hid hc1; have Hc2 := Lib.hid hc2; have Hlit1 := Lib.hid hlit1; have Hc10 := Lib.hid hc10; clear hT1 hT2 hM hl1 hl2 hone1 hone2 hc1 hc2 hlit1 hc10
                go_upto_region 15 with (at_builtin; (refine wpList_append_from elem_txt rfl (.tmp 56) (.tmp 59) rfl wz.heap.size (.slice (some ⟨wz.heap.size, 0, none⟩) 0 0) 0 [] rfl Hlit1.out (some ⟨gw, 0, none⟩) (p + 1) cw T1 rfl Hl1.out Hc10.out Hone1.out (by omega) (by unfold maxLen; omega) (by simp) ?_; intro v7 w7 hown7 hg7 hm7; obtain ⟨a7, c7, rfl⟩ := own_shape hown7; have hb7 := (bel_own (below_alloc1 wz _) Hlit1.out (Nat.le_refl _) hg7 (by simp) : Below wz.heap.size wz w7); have Hown7 := Lib.hid hown7; have Hb7 := Lib.hid hb7; clear hown7 hg7 hm7 hb7))
                have hown8 : w7.ownsRow wz.heap.size 9 1 (.slice a7 (p + 1) c7) (p + 1) T1 := by simpa using Hown7.out
                obtain ⟨N8, hN8⟩ : ∃ x, x = p + 1 := ⟨_, rfl⟩
                rw [← hN8] at hown8
                rw [← hN8]
                have hN8' : N8 ≤ 200 := by omega
                clear Hown7
                have hz7 := Hb7.out.size
                have Hown8 := Lib.hid hown8; have HN8 := Lib.hid hN8; clear hown8 hN8
                go_upto_region 16 with (at_builtin; (refine wpList_append_lit elem_txt rfl (.tmp 61) (.tmp 63) rfl wz.heap.size (.slice a7 N8 c7) N8 T1 rfl Hown8.out 1 #[.string xs] rfl rfl (by simp [Value.oneCell']) (by omega) (by unfold maxLen; omega) (by omega) ?_; intro v9 w9 hown9 hg9 hm9; obtain ⟨a9, c9, rfl⟩ := own_shape hown9; have hb9' := (bel_own Hb7.out Hown8.out (Nat.le_refl _) hg9 (by omega) : Below wz.heap.size wz w9); have Hown9 := Lib.hid hown9; have Hb9' := Lib.hid hb9'; clear hown9 hg9 hm9 hb9'))
                by_cases hcc : p + 1 < cw
                · have hcd : decide ((p : Int) + 1 < (cw : Int)) = true := decide_eq_true (by omega)
                  have hcd2 : (p : Int) + 1 ≤ (k : Int) := by omega
                  go_upto_region 17 with (at_builtin; (refine wpList_append_from elem_txt rfl (.tmp 65) (.tmp 68) rfl wz.heap.size (.slice a9 (N8 + 1) c9) (N8 + 1) (T1 ++ [Value.string xs]) rfl Hown9.out (some ⟨gw, p + 1, none⟩) (k - (p + 1)) (cw - (p + 1)) T2 rfl Hl2.out (Hc2.out _ Hb9'.out) Hone2.out (by omega) (by unfold maxLen; omega) (by have := Hb9'.out.size; omega) ?_; intro v11 w11 hown11 hg11 hm11; obtain ⟨g11, c11, rfl⟩ := own_shape_pos hown11 (by omega); have hb11 := (bel_own Hb9'.out Hown9.out (Nat.le_refl _) hg11 (by have := Hb9'.out.size; omega) : Below wz.heap.size wz w11); have Hown11 := Lib.hid hown11; have Hb11 := Lib.hid hb11; clear hown11 hg11 hm11 hb11))
                  go_wp2_with fail
                  go_roundw
                  case rel => exact ⟨k + 1, by omega, by go_num, newI_step hkl Hx.out HP.out HR.out Hxs.out HT1.out HT2.out Hbr.out Hb9.out Hb11.out Hown11.out (by have := HN8.out; omega)⟩
                  case measure => (simp [intOf]) <;> omega
                · have hcd : decide ((p : Int) + 1 < (cw : Int)) = false := decide_eq_false (by omega)
                  have hcd2 : (p : Int) + 1 ≤ (k : Int) := by omega
                  have hkc := own_cap Hrow.out
                  have hT0 : T2 = [] := List.eq_nil_of_length_eq_zero (by have := Hl2.out; omega)
                  have hc3 : ∀ V : World, ∀ j u, T2[j]? = some u → ∃ b off, some (⟨gw, 0, none⟩ : Addr) = some ⟨b, off, none⟩ ∧ V.cell? ⟨b, off + j, none⟩ = some u := fun V j u hu => by rw [hT0] at hu; simp at hu
                  have HT0 := Lib.hid hT0; have Hc3 := Lib.hid hc3; clear hT0 hc3
                  go_upto_region 17 with (at_builtin; (refine wpList_append_from elem_txt rfl (.tmp 65) (.tmp 68) rfl wz.heap.size (.slice a9 (N8 + 1) c9) (N8 + 1) (T1 ++ [Value.string xs]) rfl Hown9.out (some ⟨gw, 0, none⟩) (k - (p + 1)) (cw - (p + 1)) T2 rfl Hl2.out (Hc3.out w9) Hone2.out (by omega) (by unfold maxLen; omega) (by have := Hb9'.out.size; omega) ?_; intro v11 w11 hown11 hg11 hm11; obtain ⟨g11, c11, rfl⟩ := own_shape_pos hown11 (by omega); have hb11 := (bel_own Hb9'.out Hown9.out (Nat.le_refl _) hg11 (by have := Hb9'.out.size; omega) : Below wz.heap.size wz w11); have Hown11 := Lib.hid hown11; have Hb11 := Lib.hid hb11; clear hown11 hg11 hm11 hb11))
                  go_wp2_with fail
                  go_roundw
                  case rel => exact ⟨k + 1, by omega, by go_num, newI_step hkl Hx.out HP.out HR.out Hxs.out HT1.out HT2.out Hbr.out Hb9.out Hb11.out Hown11.out (by have := HN8.out; omega)⟩
                  case measure => (simp [intOf]) <;> omega
            · obtain rfl : m = 0 := by omega
              have hR := ins_round newSwo (x := x) HPs.out (at_ := 0) (Nat.zero_le _) hall (fun h => absurd h (Nat.lt_irrefl 0))
              have hb9 := hbq
              have v1 : decide ((0 : Int) < ((0 : Nat) : Int)) = false := by simp
              have Hall := Lib.hid hall; have Hbq := Lib.hid hbq; have HR := Lib.hid hR; have Hb9 := Lib.hid hb9; clear hall hbq hR hb9
              go_upto_region 14 with (fail)
              obtain ⟨T1, hT1⟩ : ∃ T, T = (P.take (0)).map fun x => Value.string x.1 := ⟨_, rfl⟩
              obtain ⟨T2, hT2⟩ : ∃ T, T = (P.drop (0)).map fun x => Value.string x.1 := ⟨_, rfl⟩
              have hM : 0 ≤ P.length := by have := HPl.out; omega
              have hl1 : T1.length = (0) * 1 := by have := HPl.out; rw [hT1, List.length_map, List.length_take]; omega
              have hl2 : T2.length = (k - (0)) * 1 := by have := HPl.out; rw [hT2, List.length_map, List.length_drop]; omega
              have hone1 : ∀ u ∈ T1, u.oneCell' = true := by rw [hT1]; intro u hu; obtain ⟨z, _, rfl⟩ := List.mem_map.1 hu; rfl
              have hone2 : ∀ u ∈ T2, u.oneCell' = true := by rw [hT2]; intro u hu; obtain ⟨z, _, rfl⟩ := List.mem_map.1 hu; rfl
              have hc1 : ∀ V, Below wr.heap.size wr V → ∀ j u, T1[j]? = some u → ∃ b off, some (⟨gw, 0, none⟩ : Addr) = some ⟨b, off, none⟩ ∧ V.cell? ⟨b, off + j, none⟩ = some u := fun V hV j u hu => by
                rw [hT1, List.getElem?_map] at hu
                obtain ⟨z, hz, rfl⟩ := Option.map_eq_some_iff.1 hu
                obtain ⟨hj, e⟩ := List.getElem?_eq_some_iff.1 hz
                rw [List.length_take] at hj
                rw [List.getElem_take] at e
                exact ⟨gw, 0, rfl, by rw [Nat.zero_add, ← e]; exact cell_later hV (cell_later Hb9.out (Hcell.out j (by omega)))⟩
              have hc2 : ∀ V, Below wr.heap.size wr V → ∀ j u, T2[j]? = some u → ∃ b off, some (⟨gw, 0, none⟩ : Addr) = some ⟨b, off, none⟩ ∧ V.cell? ⟨b, off + j, none⟩ = some u := fun V hV j u hu => by
                rw [hT2, List.getElem?_map] at hu
                obtain ⟨z, hz, rfl⟩ := Option.map_eq_some_iff.1 hu
                obtain ⟨hj, e⟩ := List.getElem?_eq_some_iff.1 hz
                rw [List.length_drop] at hj
                rw [List.getElem_drop] at e
                exact ⟨gw, 0, rfl, by rw [← e]; exact cell_later hV (cell_later Hb9.out (Hcell.out _ (by omega)))⟩
              have hlit1 := lit_zero0 (w := wr) (B := wr.heap.size) (Nat.le_refl _)
              have hc10 := hc1 _ (below_alloc1 wr (.cells #[] 9))
              have hk200 : k ≤ 200 := by omega
              have hMk : 0 ≤ k := by have := HPl.out; omega
              have hMi : (0 : Int) ≤ (cw : Int) := by have := own_cap Hrow.out; omega
              have HT1 := Lib.hid hT1; have HT2 := Lib.hid hT2; have HM := Lib.hid hM; have Hl1 := Lib.hid hl1; have Hl2 := Lib.hid hl2; have Hone1 := Lib.hid hone1; have Hone2 := Lib.hid hone2; have Hc1 := Lib.hid hc1; have Hc2 := Lib.hid hc2; have Hlit1 := Lib.hid hlit1; have Hc10 := Lib.hid hc10; clear hT1 hT2 hM hl1 hl2 hone1 hone2 hc1 hc2 hlit1 hc10
              go_upto_region 15 with (at_builtin; (refine wpList_append_from elem_txt rfl (.tmp 56) (.tmp 59) rfl wr.heap.size (.slice (some ⟨wr.heap.size, 0, none⟩) 0 0) 0 [] rfl Hlit1.out (some ⟨gw, 0, none⟩) (0) cw T1 rfl Hl1.out Hc10.out Hone1.out (by omega) (by unfold maxLen; omega) (by simp) ?_; intro v7 w7 hown7 hg7 hm7; obtain ⟨a7, c7, rfl⟩ := own_shape hown7; have hb7 := (bel_own (below_alloc1 wr _) Hlit1.out (Nat.le_refl _) hg7 (by simp) : Below wr.heap.size wr w7); have Hown7 := Lib.hid hown7; have Hb7 := Lib.hid hb7; clear hown7 hg7 hm7 hb7))
              have hown8 : w7.ownsRow wr.heap.size 9 1 (.slice a7 (0) c7) (0) T1 := by simpa using Hown7.out
              obtain ⟨N8, hN8⟩ : ∃ x, x = 0 := ⟨_, rfl⟩
              rw [← hN8] at hown8
              obtain rfl := hN8
              have hN8 : (0 : Nat) = 0 := rfl
              have hN8' : 0 ≤ 200 := by omega
              clear Hown7
              have hz7 := Hb7.out.size
              have Hown8 := Lib.hid hown8; have HN8 := Lib.hid hN8; clear hown8 hN8
              go_upto_region 16 with (at_builtin; (refine wpList_append_lit elem_txt rfl (.tmp 61) (.tmp 63) rfl wr.heap.size (.slice a7 0 c7) 0 T1 rfl Hown8.out 1 #[.string xs] rfl rfl (by simp [Value.oneCell']) (by omega) (by unfold maxLen; omega) (by omega) ?_; intro v9 w9 hown9 hg9 hm9; obtain ⟨a9, c9, rfl⟩ := own_shape hown9; have hb9' := (bel_own Hb7.out Hown8.out (Nat.le_refl _) hg9 (by omega) : Below wr.heap.size wr w9); have Hown9 := Lib.hid hown9; have Hb9' := Lib.hid hb9'; clear hown9 hg9 hm9 hb9'))
              by_cases hcc : 0 < cw
              · have hcd : decide ((0 : Int) < (cw : Int)) = true := decide_eq_true (by omega)
                have hcd2 : (0 : Int) ≤ (k : Int) := by omega
                go_upto_region 17 with (at_builtin; (refine wpList_append_from elem_txt rfl (.tmp 65) (.tmp 68) rfl wr.heap.size (.slice a9 (0 + 1) c9) (0 + 1) (T1 ++ [Value.string xs]) rfl Hown9.out (some ⟨gw, 0, none⟩) (k) (cw) T2 rfl Hl2.out (Hc2.out _ Hb9'.out) Hone2.out (by omega) (by unfold maxLen; omega) (by have := Hb9'.out.size; omega) ?_; intro v11 w11 hown11 hg11 hm11; obtain ⟨g11, c11, rfl⟩ := own_shape_pos hown11 (by omega); have hb11 := (bel_own Hb9'.out Hown9.out (Nat.le_refl _) hg11 (by have := Hb9'.out.size; omega) : Below wr.heap.size wr w11); have Hown11 := Lib.hid hown11; have Hb11 := Lib.hid hb11; clear hown11 hg11 hm11 hb11))
                go_wp2_with fail
                go_roundw
                case rel => exact ⟨k + 1, by omega, by go_num, newI_step hkl Hx.out HP.out HR.out Hxs.out HT1.out HT2.out Hbr.out Hb9.out Hb11.out Hown11.out (by have := HN8.out; omega)⟩
                case measure => (simp [intOf]) <;> omega
              · have hcd : decide ((0 : Int) < (cw : Int)) = false := decide_eq_false (by omega)
                have hcd2 : (0 : Int) ≤ (k : Int) := by omega
                have hkc := own_cap Hrow.out
                have hT0 : T2 = [] := List.eq_nil_of_length_eq_zero (by have := Hl2.out; omega)
                have hc3 : ∀ V : World, ∀ j u, T2[j]? = some u → ∃ b off, some (⟨gw, 0, none⟩ : Addr) = some ⟨b, off, none⟩ ∧ V.cell? ⟨b, off + j, none⟩ = some u := fun V j u hu => by rw [hT0] at hu; simp at hu
                have HT0 := Lib.hid hT0; have Hc3 := Lib.hid hc3; clear hT0 hc3
                go_upto_region 17 with (at_builtin; (refine wpList_append_from elem_txt rfl (.tmp 65) (.tmp 68) rfl wr.heap.size (.slice a9 (0 + 1) c9) (0 + 1) (T1 ++ [Value.string xs]) rfl Hown9.out (some ⟨gw, 0, none⟩) (k) (cw) T2 rfl Hl2.out (Hc3.out w9) Hone2.out (by omega) (by unfold maxLen; omega) (by have := Hb9'.out.size; omega) ?_; intro v11 w11 hown11 hg11 hm11; obtain ⟨g11, c11, rfl⟩ := own_shape_pos hown11 (by omega); have hb11 := (bel_own Hb9'.out Hown9.out (Nat.le_refl _) hg11 (by have := Hb9'.out.size; omega) : Below wr.heap.size wr w11); have Hown11 := Lib.hid hown11; have Hb11 := Lib.hid hb11; clear hown11 hg11 hm11 hb11))
                go_wp2_with fail
                go_roundw
                case rel => exact ⟨k + 1, by omega, by go_num, newI_step hkl Hx.out HP.out HR.out Hxs.out HT1.out HT2.out Hbr.out Hb9.out Hb11.out Hown11.out (by have := HN8.out; omega)⟩
                case measure => (simp [intOf]) <;> omega
        · have hkn : k = N7 := by omega
          subst hkn
          have hwr := Hbw2.out.trans (hbr.mono Hbw2.out.size)
          have htk : l.take k = l := List.take_of_length_le (by have := Hln.out; omega)
          rw [htk] at hrow
          have hx9' : ∀ x ∈ (newest l).map (·.1), x.size ≤ maxLen := fun x hx => by
            obtain ⟨y, _, rfl⟩ := List.mem_map.1 hx
            have := y.2
            unfold maxLen; omega
          have h1 : RTs wr [.slice ob k oc2] ((newest l).map (·.1)) := own_texts (n := k) (by rw [List.map_map]; exact ownsRow_below Ho.out hbr) hx9'
          have h2 : RTs wr [.slice (some ⟨gw, 0, none⟩) k cw] ((newest l).map (·.1)) := own_texts (n := k) (by rw [List.map_map]; exact hrow) hx9'
          have k6 : decide ((k : Int) < (k : Int)) = false := by simp
          have hF2 := HF.out wr hwr
          have Hwr := Lib.hid hwr; have Hrow := Lib.hid hrow; have Hbr := Lib.hid hbr; have Hx9' := Lib.hid hx9'; have H1 := Lib.hid h1; have H2 := Lib.hid h2; have HF2 := Lib.hid hF2; clear hwr hrow hbr hx9' h1 h2 hF2
          go_wp2_with fail
          refine HF2.out.mono ?_
          rintro e w5 ⟨rfl, hb5⟩
          have hS2 := same1_any (stays_texts H1.out hb5) (stays_texts H2.out hb5)
          rw [decide_eq_true rfl] at hS2
          have Hb5 := Lib.hid hb5; have HS2 := Lib.hid hS2; clear hb5 hS2
          go_wp2_with fail
          refine HS2.out.mono ?_
          rintro e w6 ⟨rfl, q6, rfl⟩
          go_wp2_with fail
          go_ret
          exact ⟨rfl, bel_drewN (Hwr.out.trans (Hb5.out.mono Hwr.out.size)) q6⟩
abbrev RTsZ : Rd (List ByteArray) := RSlZ 1 16 RStrZ
theorem opensZ_txts : OpensZ Tryd.prog 23 RTsZ :=
  opensZ_slice Tryd.underlying23 (by kernel_rfl) (by kernel_rfl) (by decide) (opensZ_str Tryd.underlying9)
theorem txts_ofZ {w : World} {cs : List Value} {l : List ByteArray} (h : RTsZ w cs l) : RTs w cs l := by
  obtain ⟨⟨a, cap, e, h1, h2, h3⟩, _⟩ := h
  refine ⟨a, cap, e, h1, h2, fun i x hi => ?_⟩
  obtain ⟨b, off, cs1, e1, k1, k2, k3, k4⟩ := h3 i x hi
  exact ⟨b, off, cs1, e1, k1, k2, k3, by unfold maxLen; omega⟩
theorem newest_law {w : World} {v : Value} {l : List ByteArray} (h : RTsZ w [v] l) (hD : Doors w) : Calls Tryd.prog 13 #[v] w fun e w' => e = .returned (.bool true) ∧ Below w.heap.size w w' := versionNewest_true (txts_ofZ h) hD
end Go.Proofs.YtblkdcapampniaaDoor
