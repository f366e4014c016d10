/- Walks and plain facts. Texts merged: PnD, RpG, PnG. Condition: none beyond what each says. -/
import Derived.Test.YteailgjiifdgcaaGreatDoorPrintSpecsApartAll9
set_option linter.unusedVariables false
set_option linter.unusedSimpArgs false
/- The walks of print.spec over recipe.Condition, and of print.Condition. Condition: the library's variables as they were laid; at most a thousand settings, and as many spans, of texts of at most 9000 bytes. -/
namespace Go.Proofs.YteailgjiifdgcaaGreatDoor
open Go.Shelf Go.RowKit Go.Lib VerN VarM
open LexM (Wd Ln GoodL)
attribute [local go_sem ↓] Go.wp_at_zero Go.wp_at_succ

set_option maxRecDepth 10000 in
set_option maxHeartbeats 16000000 in
theorem printSpecC_any {w : World} {v1 v2 : Value} {nm : ByteArray} {L : List BSp} {sets : List Setg} {l : List Tp} (h1 : RSps w [v1] L) (h2 : RSets w [v2] sets) (hS : Sp (nm, L, sets) l) (hD : Doors w) :
  Calls Tryz.prog 74 #[.agg #[.string nm, v1, v2], .func (.func 75) #[] #[]] w fun e w' => e = .returned (.tuple #[.string (specR condW (nm, L, sets)).1, .bool (specR condW (nm, L, sets)).2]) ∧ Below w.heap.size w w' := by
 have hLt : L = tB l := hS.sp
 obtain ⟨a1, c1, rfl, -, -⟩ := sps_open h1
 obtain ⟨a2, c2, rfl, -, -⟩ := sets_open h2
 obtain ⟨n1, hn1⟩ : ∃ n, n = L.length := ⟨_, rfl⟩
 obtain ⟨n2, hn2⟩ : ∃ n, n = sets.length := ⟨_, rfl⟩
 rw [← hn1] at h1 ⊢
 rw [← hn2] at h2 ⊢
 obtain ⟨W1, hW1⟩ : ∃ W, W = w.alloc (.cells #[.string nm, .slice a1 n1 c1, .slice a2 n2 c2] 51) := ⟨_, rfl⟩
 obtain ⟨g, hg⟩ : ∃ g, g = w.heap.size := ⟨_, rfl⟩
 have hb1 : Below w.heap.size w W1 := by rw [hW1]; exact below_alloc1 _ _
 have p0 : SpcBox g (.string nm) (.slice a1 n1 c1) (.slice a2 n2 c2) W1 := by rw [hW1, hg]; exact heap_alloc_new _ _
 obtain ⟨x0, x1, x2, -⟩ := spc_cells p0
 have r1 := stays_slice stays_spn _ _ _ _ h1 hb1
 have r2 := stays_slice stays_set _ _ _ _ h2 hb1
 have hW := printWords_any (nm := nm) (l := l) (by rw [← hLt]; exact r1) r2 (hD.below hb1) hS.l1 hS.sl hS.nm hS.sz
 rw [← hLt] at hW
 obtain ⟨hwz, hwl, hwn⟩ := hS.words
 have htz := hS.text
 have hte := specT_eq (nm, L, sets)
 obtain ⟨s, hs⟩ : ∃ s : Spc3, s = (nm, L, sets) := ⟨_, rfl⟩
 rw [← hs] at hW hwz hwl hwn htz hte
 rw [← hs]
 unfold WordsPost at hW
 obtain ⟨ws, hws⟩ : ∃ l, l = specWs s := ⟨_, rfl⟩
 rw [← hws] at hW hwz hwl hwn hte
 obtain ⟨t, ht⟩ : ∃ t, t = specT s := ⟨_, rfl⟩
 rw [← ht] at htz hte
 have hL := fun (W : World) => lexLines_any t (by omega) W
 rw [LexM.lines_eq] at hL
 have hgood := LexM.doc_good7 t.data.toList
 have hyes := specR_yes (R := condW) (s := s)
 have hno := specR_no (R := condW) (s := s)
 unfold ReadsAs at hyes hno
 rw [← ht] at hyes hno
 obtain ⟨R, hR⟩ : ∃ R, R = LexM.docLines t.data.toList := ⟨_, rfl⟩
 rw [← hR] at hL hgood hyes hno
 obtain ⟨e1, he1⟩ : ∃ z, z = R.at1 := ⟨_, rfl⟩
 obtain ⟨e2, he2⟩ : ∃ z, z = R.at2 := ⟨_, rfl⟩
 obtain ⟨er, her⟩ : ∃ z, z = R.e := ⟨_, rfl⟩
 obtain ⟨ls, hls⟩ : ∃ z, z = R.lines := ⟨_, rfl⟩
 rw [← her, ← hls] at hyes hno
 rw [← hls] at hgood
 unfold LinesPost at hL
 simp only [← he1, ← he2, ← her, ← hls] at hL
 obtain ⟨res, hres⟩ : ∃ q, q = specR condW s := ⟨_, rfl⟩
 rw [← hres] at hyes hno ⊢
 clear he1 he2 her hls hR
 have htb : t.size ≤ 30000000000 := htz
 obtain ⟨H1, H2, HS, HD, Hb1, Hp0, Hr1, Hr2, HW, Hwz, Hwl, Hwn, Htz, Hte, HL, Hgood⟩ := hd16 h1 h2 hS hD hb1 p0 r1 r2 hW hwz hwl hwn htz hte hL hgood; obtain ⟨Hyes, Hno, Hres, HLt, Hn1, Hn2, Hs, Hws, Ht⟩ := hd9 hyes hno hres hLt hn1 hn2 hs hws ht; clear h1 h2 hS hD hb1 p0 r1 r2 hW hwz hwl hwn htz hte hL hgood hyes hno hres hLt hn1 hn2 hs hws ht
 go_enter Tryz.func74, Tryz.ntmps74
 go_upto_region 1 with (fail)
 rw [← hW1, ← hg]
 clear hW1 hg
 go_wp2_with fail
 refine HW.out.mono ?_
 rintro e w2 ⟨a, c, rfl, hrd, hb2⟩
 obtain ⟨aa, cap, hv, hz, hat⟩ := txts_open hrd
 have hca : ws.length ≤ c := by
  obtain ⟨a', cap', hv', hc, _⟩ := hrd
  simp only [List.cons.injEq, and_true, Value.slice.injEq] at hv'
  rw [hv'.2.2]
  exact hc
 obtain ⟨rfl, -, rfl⟩ := Value.slice.inj hv
 have hpos : 0 < ws.length := List.length_pos_iff.2 Hwn.out
 obtain ⟨bk, o, rfl, hc0, -⟩ := hat 0 hpos
 have hJ := Tryz.strings_Join bk o c ws ⟨#[32]⟩ w2 (fun j x hj => by
  obtain ⟨hjl, hjx⟩ := List.getElem?_eq_some_iff.1 hj
  obtain ⟨b', o', e', h', _⟩ := hat j hjl
  cases e'
  rw [← hjx]
  exact h') (World.block_lt_of_cell? _ _ hc0) (by have := Hwl.out; omega) hca (by
  have := Htz.out
  rw [Hte.out, ← Txt.len, joinW_data] at this
  exact Nat.le_trans this (by decide))
 have hjt : (⟨(Lib.join (ws.map (·.data.toList)) (⟨#[32]⟩ : ByteArray).data.toList).toArray⟩ : ByteArray) = t := by rw [Hte.out]; rfl
 rw [hjt] at hJ
 have hbw2 := Hb1.out.trans (hb2.mono Hb1.out.size)
 obtain ⟨nw, hnw⟩ : ∃ n, n = ws.length := ⟨_, rfl⟩
 rw [← hnw] at hJ ⊢
 clear hat hv hc0 hz
 obtain ⟨Hrd, Hb2, Hca, Hpos, HJ, Hjt, Hbw2, Hnw⟩ := hd8 hrd hb2 hca hpos hJ hjt hbw2 hnw; clear hrd hb2 hca hpos hJ hjt hbw2 hnw
 go_wp2_with fail
 refine HJ.out.mono ?_
 rintro e w3 ⟨rfl, hb3⟩
 have hb13 := Hb2.out.trans (hb3.mono Hb2.out.size)
 have hbw3 := Hb1.out.trans (hb13.mono Hb1.out.size)
 have hL3 := HL.out w3
 obtain ⟨Hb3, Hb13, Hbw3, HL3⟩ := hd4 hb3 hb13 hbw3 hL3; clear hb3 hb13 hbw3 hL3
 go_wp2_with fail
 refine HL3.out.mono ?_
 rintro e w4 ⟨v, rfl, hln, hb4⟩
 obtain ⟨ad, cp, rfl, -, -, hat⟩ := ln_cell hln
 clear hat
 obtain ⟨m, hm⟩ : ∃ m, m = ls.length := ⟨_, rfl⟩
 rw [← hm] at hln ⊢
 obtain ⟨w5, hw5⟩ : ∃ W, W = w4.alloc (.cells #[.int .i64 e1, .int .i64 e2] 40) := ⟨_, rfl⟩
 have hb45 : Below w4.heap.size w4 w5 := by rw [hw5]; exact below_alloc1 _ _
 have hb35 := hb4.trans (hb45.mono hb4.size)
 have hbw5 := Hbw3.out.trans (hb35.mono Hbw3.out.size)
 have hln5 := stays_lns _ _ _ _ hln hb45
 by_cases he : er = 0
 ·have k1 : (er != 0) = false := by rw [he]; rfl
  by_cases h1 : m = 1
  ·subst h1
   obtain ⟨ln, hl1⟩ : ∃ x, ls = [x] := List.length_eq_one_iff.1 hm.symm
   have hg := Hgood.out.1 ln (by rw [hl1]; simp)
   have hwl1 := wt_small hg
   have hTx := text_any hln5 (by rw [hl1, ltx_one, List.length_append]; simp; omega)
   rw [hl1] at hTx
   obtain ⟨lt, hlt⟩ : ∃ x : ByteArray, x = ⟨(ltx [ln]).toArray⟩ := ⟨_, rfl⟩
   rw [← hlt] at hTx
   have hq : (lt.toList == (t ++ ⟨#[10]⟩ : ByteArray).toList) = decide (wt ln.2 = t.data.toList) := by rw [hlt]; exact ltx_eq ln t
   obtain ⟨eq, heq⟩ : ∃ b, b = decide (wt ln.2 = t.data.toList) := ⟨_, rfl⟩
   rw [← heq] at hq
   have hlz : lt.size ≤ 100000000 := by rw [hlt]; show (ltx [ln]).length ≤ _; rw [ltx_one, List.length_append]; simp; omega
   rw [hl1] at hln5
   cases eq with
   | false =>
    have hr : res = (noT, false) := Hno.out (by
     rintro ⟨-, ln', h2, h3, -⟩
     rw [hl1] at h2
     cases h2
     exact absurd h3 (of_decide_eq_false heq.symm))
    obtain ⟨Hln, Hb4, Hb45, Hb35, Hbw5, Hln5, He, Hm, Hl1, Hg, Hwl1, HTx, Hlt, Heq, Hr, Hlz⟩ := hd16 hln hb4 hb45 hb35 hbw5 hln5 he hm hl1 hg hwl1 hTx hlt heq hr hlz; clear hln hb4 hb45 hb35 hbw5 hln5 he hm hl1 hg hwl1 hTx hlt heq hr hlz
    go_upto_region 3 with (fail)
    rw [← hw5]
    clear hw5
    go_wp2_with fail
    refine HTx.out.mono ?_
    rintro e w6 ⟨rfl, hb6⟩
    have Hb6 := hd hb6; clear hb6
    go_wp2_with fail
    go_ret2
    exact ⟨by rw [Hr.out]; rfl, Hbw5.out.trans (Hb6.out.mono Hbw5.out.size)⟩
   | true =>
    have hwt : wt ln.2 = t.data.toList := of_decide_eq_true heq.symm
    have hb5' := hb35
    have he0 := he
    have hl1' := hl1
    have hwt' := hwt
    obtain ⟨Hln, Hb4, Hb45, Hb35, Hbw5, He, Hm, Hlt, Heq, Hlz, Hl1, Hwt⟩ := hd12 hln hb4 hb45 hb35 hbw5 he hm hlt heq hlz hl1 hwt; clear hln hb4 hb45 hb35 hbw5 he hm hlt heq hlz hl1 hwt
    go_upto_region 3 with (fail)
    rw [← hw5]
    clear hw5
    have Hln5 := Lib.hid hln5
    clear hln5
    have HTx := Lib.hid hTx
    clear hTx
    go_wp2_with fail
    refine HTx.out.mono ?_
    rintro e w6 ⟨rfl, hb6⟩
    have hbw6 := Hbw5.out.trans (hb6.mono Hbw5.out.size)
    have hln6 := stays_lns _ _ _ _ Hln5.out hb6
    have hp6 := heap_below (hb5'.trans (hb6.mono hb5'.size)) (heap_below Hb13.out Hp0.out)
    obtain ⟨a', c', ha', -, -, hat⟩ := ln_cell hln6
    simp only [List.length_singleton, Value.slice.injEq] at ha'
    obtain ⟨rfl, -, -⟩ := ha'
    obtain ⟨bq, o, rfl, c0, v, c1, hwd⟩ := hat 0 (by simp)
    clear hat c0
    rw [Nat.zero_mul, Nat.add_zero] at c1
    rw [List.getElem_cons_zero] at hwd
    obtain ⟨wa, wc, rfl⟩ := wds_shape hwd
    obtain ⟨nw, hnw2⟩ : ∃ n, n = ln.2.length := ⟨_, rfl⟩
    rw [← hnw2] at c1 hwd
    have hcol : ∀ j, colAt ln.2 ((t.size : Int) + 1) j ≠ 0 := fun j => by
     by_cases hj : j < ln.2.length
     ·rw [col_some hj]
      have := (hg.2.2.2 _ (List.getElem_mem hj)).1
      omega
     ·rw [col_none (by omega)]
      omega
    have hnw40 : nw ≤ 40 := by have := hg.2.2.1; omega
    have hO := recipeCond_any (fin := (t.size : Int) + 1) hwd (HD.out.below hbw6) (by omega) (fun x hx => (hg.2.2.2 x hx).2.2.2) hcol
    obtain ⟨fin, hfin⟩ : ∃ f, f = (t.size : Int) + 1 := ⟨_, rfl⟩
    rw [← hfin] at hO hcol
    obtain ⟨Hln6, Hb6, Hbw6, Hp6, Hwd, HO, Hg, Hnw2, Hcol, Hfin⟩ := hd10 hln6 hb6 hbw6 hp6 hwd hO hg hnw2 hcol hfin; clear hln6 hb6 hbw6 hp6 hwd hO hg hnw2 hcol hfin
    go_wp2_with fail
    rw [← Hfin.out]
    refine HO.out.mono ?_
    rintro e w7 ⟨⟨s2, j, b1, m1, d1, b2, m2, d2, hw, rfl, hv1, hv2⟩ | ⟨j, hw, rfl⟩, hb7⟩
    ·have hbw7 := Hbw6.out.trans (hb7.mono Hbw6.out.size)
     obtain ⟨w8, hw8⟩ : ∃ W, W = w7.alloc (.cells #[.string s2.1, .slice b1 m1 d1, .slice b2 m2 d2] 51) := ⟨_, rfl⟩
     have hb78 : Below w7.heap.size w7 w8 := by rw [hw8]; exact below_alloc1 _ _
     have hb68 := hb7.trans (hb78.mono hb7.size)
     have hbw8 := Hbw6.out.trans (hb68.mono Hbw6.out.size)
     obtain ⟨q, hq⟩ : ∃ k, k = w7.heap.size := ⟨_, rfl⟩
     have pq : SpcBox q (.string s2.1) (.slice b1 m1 d1) (.slice b2 m2 d2) w8 := by rw [hw8, hq]; exact heap_alloc_new _ _
     have hp8 := heap_below hb68 Hp6.out
     obtain ⟨y0, y1, y2, -⟩ := spc_cells pq
     clear x0 x1 x2
     obtain ⟨x0, x1, x2, -⟩ := spc_cells hp8
     have c8 := cell_later hb68 c1
     have hSame := printSame_any (n := s2.1) (m := nm) (spsT_below hv1 hb78).1 (setsT_below hv2 hb78).1 (stays_slice stays_spn _ _ _ _ H1.out hbw8) (stays_slice stays_set _ _ _ _ H2.out hbw8)
     obtain ⟨s21, hs21⟩ : ∃ x, x = s2.1 := ⟨_, rfl⟩
     rw [← hs21] at hSame y0 hw8 ⊢
     obtain ⟨same, hsame⟩ : ∃ b, b = decide ((s21, s2.2.1, s2.2.2) = (nm, L, sets)) := ⟨_, rfl⟩
     rw [← hsame] at hSame
     have hsm : same = true ↔ s2 = s := by
      rw [hsame, decide_eq_true_eq, hs21, Hs.out]
     by_cases hj : j = nw
     ·subst hj
      cases same with
      | true =>
       have hs2 : s2 = s := hsm.1 rfl
       have hr : res = (t, true) := Hyes.out ⟨he0, ln, hl1', hwt', by rw [← Hnw2.out, ← hs2]; exact hw⟩
       obtain ⟨Hw, Hv1, Hv2, Hb7, Hbw7, Hb78, Hb68, Hbw8, Hq, Hpq, Hp8, HSame, Hs21, Hsame, Hsm, Hs2⟩ := hd16 hw hv1 hv2 hb7 hbw7 hb78 hb68 hbw8 hq pq hp8 hSame hs21 hsame hsm hs2; have Hr := hd hr; clear hw hv1 hv2 hb7 hbw7 hb78 hb68 hbw8 hq pq hp8 hSame hs21 hsame hsm hs2 hr
       go_upto_region 6 with (fail)
       rw [← hw8, ← Hq.out]
       clear hw8
       go_wp2_with fail
       refine HSame.out.mono ?_
       rintro e w9 ⟨rfl, hb9⟩
       have Hb9 := hd hb9; clear hb9
       go_wp2_with fail
       go_ret2
       exact ⟨by rw [Hr.out]; rfl, Hbw8.out.trans (Hb9.out.mono Hbw8.out.size)⟩
      | false =>
       have hr : res = (noT, false) := Hno.out (by
        rintro ⟨-, ln', h2, -, h4⟩
        rw [hl1'] at h2
        cases h2
        rw [hw] at h4
        have h5 : s2 = s := by cases h4; rfl
        exact absurd (hsm.2 h5) (by simp))
       obtain ⟨Hw, Hv1, Hv2, Hb7, Hbw7, Hb78, Hb68, Hbw8, Hq, Hpq, Hp8, HSame, Hs21, Hsame, Hsm, Hr⟩ := hd16 hw hv1 hv2 hb7 hbw7 hb78 hb68 hbw8 hq pq hp8 hSame hs21 hsame hsm hr; clear hw hv1 hv2 hb7 hbw7 hb78 hb68 hbw8 hq pq hp8 hSame hs21 hsame hsm hr
       go_upto_region 6 with (fail)
       rw [← hw8, ← Hq.out]
       clear hw8
       go_wp2_with fail
       refine HSame.out.mono ?_
       rintro e w9 ⟨rfl, hb9⟩
       have Hb9 := hd hb9; clear hb9
       go_wp2_with fail
       go_ret2
       exact ⟨by rw [Hr.out]; rfl, Hbw8.out.trans (Hb9.out.mono Hbw8.out.size)⟩
     ·have k3 : ((j : Int) != (nw : Int)) = true := by simp; omega
      have hr : res = (noT, false) := Hno.out (by
       rintro ⟨-, ln', h2, -, h4⟩
       rw [hl1'] at h2
       cases h2
       rw [hw] at h4
       have h5 : j = ln.2.length := by cases h4; rfl
       exact hj (h5.trans Hnw2.out.symm))
      obtain ⟨Hw, Hv1, Hv2, Hb7, Hbw7, Hb78, Hb68, Hbw8, Hq, Hpq, Hp8, HSame, Hs21, Hsame, Hsm, Hj⟩ := hd16 hw hv1 hv2 hb7 hbw7 hb78 hb68 hbw8 hq pq hp8 hSame hs21 hsame hsm hj; have Hr := hd hr; clear hw hv1 hv2 hb7 hbw7 hb78 hb68 hbw8 hq pq hp8 hSame hs21 hsame hsm hj hr
      go_upto_region 6 with (fail)
      rw [← hw8, ← Hq.out]
      clear hw8
      go_wp2_with fail
      go_ret2
      exact ⟨by rw [Hr.out]; rfl, Hbw8.out⟩
    ·obtain ⟨cl, hcl⟩ : ∃ x, x = colAt ln.2 fin j := ⟨_, rfl⟩
     have hne : (cl != 0) = true := by rw [hcl]; simpa using Hcol.out j
     rw [← hcl]
     have hr : res = (noT, false) := Hno.out (by
      rintro ⟨-, ln', h2, -, h4⟩
      rw [hl1'] at h2
      cases h2
      rw [hw] at h4
      cases h4)
     have hbw7 := Hbw6.out.trans (hb7.mono Hbw6.out.size)
     obtain ⟨w8, hw8⟩ : ∃ W, W = w7.alloc (.cells #[.string ⟨#[]⟩, .slice none 0 0, .slice none 0 0] 51) := ⟨_, rfl⟩
     have hb78 : Below w7.heap.size w7 w8 := by rw [hw8]; exact below_alloc1 _ _
     have hbw8 := hbw7.trans (hb78.mono hbw7.size)
     obtain ⟨Hw, Hb7, Hbw7, Hb78, Hbw8, Hcl, Hr⟩ := hd7 hw hb7 hbw7 hb78 hbw8 hcl hr; clear hw hb7 hbw7 hb78 hbw8 hcl hr
     go_upto_region 6 with (fail)
     rw [← hw8]
     clear hw8
     go_wp2_with fail
     go_ret2
     exact ⟨by rw [Hr.out]; rfl, Hbw8.out⟩
  ·have k2 : ((m : Int) != 1) = true := by simp; omega
   have hr : res = (noT, false) := Hno.out (by
    rintro ⟨-, ln', h2, -, -⟩
    rw [h2] at hm
    exact h1 hm)
   obtain ⟨Hln, Hb4, Hb45, Hb35, Hbw5, Hln5, He, Hm, H1, Hr⟩ := hd10 hln hb4 hb45 hb35 hbw5 hln5 he hm h1 hr; clear hln hb4 hb45 hb35 hbw5 hln5 he hm h1 hr
   go_upto_region 3 with (fail)
   rw [← hw5]
   clear hw5
   go_wp2_with fail
   go_ret2
   exact ⟨by rw [Hr.out]; rfl, Hbw5.out⟩
 ·have k1 : (er != 0) = true := by simpa using he
  have hr : res = (noT, false) := Hno.out (fun h => he h.1)
  obtain ⟨Hln, Hb4, Hb45, Hb35, Hbw5, Hln5, He, Hm, Hr⟩ := hd9 hln hb4 hb45 hb35 hbw5 hln5 he hm hr; clear hln hb4 hb45 hb35 hbw5 hln5 he hm hr
  go_upto_region 3 with (fail)
  rw [← hw5]
  clear hw5
  go_wp2_with fail
  go_ret2
  exact ⟨by rw [Hr.out]; rfl, Hbw5.out⟩
set_option maxRecDepth 10000 in
set_option maxHeartbeats 2000000 in
theorem printCond_any {w : World} {v1 v2 : Value} {nm : ByteArray} {L : List BSp} {sets : List Setg} {l : List Tp} (h1 : RSps w [v1] L) (h2 : RSets w [v2] sets) (hS : Sp (nm, L, sets) l) (hD : Doors w) :
  Calls Tryz.prog 33 #[.agg #[.string nm, v1, v2]] w fun e w' => e = .returned (.tuple #[.string (specR condW (nm, L, sets)).1, .bool (specR condW (nm, L, sets)).2]) ∧ Below w.heap.size w w' := by
 obtain ⟨a1, c1, rfl⟩ := sps_shape h1
 obtain ⟨a2, c2, rfl⟩ := sets_shape h2
 obtain ⟨W1, hW1⟩ : ∃ W, W = w.alloc (.cells #[.string nm, .slice a1 L.length c1, .slice a2 sets.length c2] 51) := ⟨_, rfl⟩
 obtain ⟨g, hg⟩ : ∃ g, g = w.heap.size := ⟨_, rfl⟩
 have hb1 : Below w.heap.size w W1 := by rw [hW1]; exact below_alloc1 _ _
 have p0 : SpcBox g (.string nm) (.slice a1 L.length c1) (.slice a2 sets.length c2) W1 := by rw [hW1, hg]; exact heap_alloc_new _ _
 have hP := printSpecC_any (stays_slice stays_spn _ _ _ _ h1 hb1) (stays_slice stays_set _ _ _ _ h2 hb1) hS (hD.below hb1)
 obtain ⟨n1, hn1⟩ : ∃ n, n = L.length := ⟨_, rfl⟩
 obtain ⟨n2, hn2⟩ : ∃ n, n = sets.length := ⟨_, rfl⟩
 rw [← hn1, ← hn2] at hP p0 hW1 ⊢
 obtain ⟨res, hres⟩ : ∃ q, q = specR condW (nm, L, sets) := ⟨_, rfl⟩
 rw [← hres] at hP ⊢
 obtain ⟨x0, x1, x2, -⟩ := spc_cells p0
 obtain ⟨r1, r2⟩ := res
 obtain ⟨H1, H2, HS, HD, Hb1, Hp0, HP, Hn1, Hn2, Hres⟩ := hd10 h1 h2 hS hD hb1 p0 hP hn1 hn2 hres; clear h1 h2 hS hD hb1 p0 hP hn1 hn2 hres
 go_enter Tryz.func33, Tryz.ntmps33
 go_upto_region 1 with (fail)
 rw [← hW1, ← hg]
 clear hW1 hg
 go_wp2_with fail
 refine HP.out.mono ?_
 rintro e w2 ⟨rfl, hb2⟩
 have Hb2 := hd hb2; clear hb2
 go_wp2_with fail
 go_ret2
 exact ⟨rfl, Hb1.out.trans (Hb2.out.mono Hb1.out.size)⟩
end Go.Proofs.YteailgjiifdgcaaGreatDoor

/- The walks of cooperref07.greatSpec and GreatSpec: what is not great is small. No condition. -/
namespace Go.Proofs.YteailgjiifdgcaaGreatDoor
open Go.RowKit Go.Shelf Go.Lib VerN

def Small100 (F : List BSp) : Prop := F.length ≤ 30 ∧ ∀ z ∈ F, z.1.size ≤ 100 ∧ z.2.size ≤ 100
set_option maxRecDepth 10000 in
set_option maxHeartbeats 4000000 in
theorem refGreat3_any {w : World} {v : Value} {F : List BSp} (h : RSps w [v] F) : Calls Tryz.prog 20 #[v] w fun e w' => (∃ r, e = .returned (.bool r) ∧ (r = false → Small100 F)) ∧ w = w' := by
 obtain ⟨a, cap, hv, hlen, hop⟩ := sps_open h
 have hat := sps_at (by rw [← hv]; exact h)
 subst hv
 obtain ⟨q, hq⟩ : ∃ q, q = F.length := ⟨_, rfl⟩
 have hsz := sps_size h
 rw [← hq] at h hlen ⊢
 by_cases h30 : 30 < q
 ·have kk : decide ((30 : Int) < (q : Int)) = true := decide_eq_true (by omega)
  obtain ⟨Hh, Hq, Hat, Hop, Hsz⟩ := hd5 h hq hat hop hsz; clear h hq hat hop hsz
  go_enter Tryz.func20, Tryz.ntmps20
  go_wp2_with fail
  go_ret
  exact ⟨⟨_, rfl, fun h => by cases h⟩, rfl⟩
 ·have kk : decide ((30 : Int) < (q : Int)) = false := decide_eq_false (by omega)
  obtain ⟨Hh, Hq, Hat, Hop, Hsz⟩ := hd5 h hq hat hop hsz; clear h hq hat hop hsz
  go_enter Tryz.func20, Tryz.ntmps20
  go_wp2_with fail
  go_loopw [9] (fun i wr => ∃ k : Nat, k ≤ q ∧ i = .int .i64 k ∧ (∀ j (hj : j < F.length), j < k → F[j].1.size ≤ 100 ∧ F[j].2.size ≤ 100) ∧ wr = w) (fun i _ => q - (RowKit.intOf i).toNat)
  case atStart => exact ⟨0, Nat.zero_le _, rfl, (fun _ _ h => absurd h (Nat.not_lt_zero _)), rfl⟩
  case round =>
   obtain ⟨k, hk, rfl, hno, rfl⟩ := hrel
   by_cases hlt : k < q
   ·have hkF : k < F.length := by have := Hq.out; omega
    obtain ⟨y, hy⟩ : ∃ y, y = F[k] := ⟨_, rfl⟩
    obtain ⟨b, off, rfl, c0, c1⟩ := Hat.out k y (by rw [hy]; exact List.getElem?_eq_getElem hkF)
    have hys := Hsz.out y (by rw [hy]; exact List.getElem_mem hkF)
    have hnx : y.1.size ≤ 100 → y.2.size ≤ 100 → ∀ j (hj : j < F.length), j < k + 1 → F[j].1.size ≤ 100 ∧ F[j].2.size ≤ 100 := fun h h' j hj hjk => by
     by_cases e : j = k
     ·subst e; rw [← hy]; exact ⟨h, h'⟩
     ·exact hno j hj (by omega)
    obtain ⟨y1, hy1⟩ : ∃ s, s = y.1 := ⟨_, rfl⟩
    obtain ⟨y2, hy2⟩ : ∃ s, s = y.2 := ⟨_, rfl⟩
    rw [← hy1] at c0 hnx hys
    rw [← hy2] at c1 hnx hys
    unfold maxLen at hys
    have k5 : (0 : Int) ≤ (k : Int) := by omega
    have k6 : (k : Int) < (q : Int) := by omega
    by_cases h1 : 100 < y1.size
    ·have e1 : decide ((100 : Int) < (y1.size : Int)) = true := decide_eq_true (by omega)
     obtain ⟨Hno, Hy, Hys, Hnx, Hy1, Hy2⟩ := hd6 hno hy hys hnx hy1 hy2; clear hno hy hys hnx hy1 hy2
     go_wp2_with fail
     go_ret
     exact ⟨⟨_, rfl, fun h => by cases h⟩, rfl⟩
    ·have e1 : decide ((100 : Int) < (y1.size : Int)) = false := decide_eq_false (by omega)
     by_cases h2 : 100 < y2.size
     ·have e2 : decide ((100 : Int) < (y2.size : Int)) = true := decide_eq_true (by omega)
      obtain ⟨Hno, Hy, Hys, Hnx, Hy1, Hy2⟩ := hd6 hno hy hys hnx hy1 hy2; clear hno hy hys hnx hy1 hy2
      go_wp2_with fail
      go_ret
      exact ⟨⟨_, rfl, fun h => by cases h⟩, rfl⟩
     ·have e2 : decide ((100 : Int) < (y2.size : Int)) = false := decide_eq_false (by omega)
      have hf := hnx (by omega) (by omega)
      obtain ⟨Hno, Hy, Hys, Hnx, Hy1, Hy2, Hf⟩ := hd7 hno hy hys hnx hy1 hy2 hf; clear hno hy hys hnx hy1 hy2 hf
      go_wp2_with fail
      go_roundw
      case rel => exact ⟨k + 1, by omega, by go_num, Hf.out, by first | rfl | trivial⟩
      case measure => (simp [RowKit.intOf]) <;> omega
   ·obtain rfl : k = q := by omega
    have hf : Small100 F := ⟨by have := Hq.out; omega, fun z hz => by
     obtain ⟨j, hj, rfl⟩ := List.mem_iff_getElem.1 hz
     exact hno j hj (by have := Hq.out; omega)⟩
    obtain ⟨Hno, Hf⟩ := hd2 hno hf; clear hno hf
    go_wp2_with fail
    go_ret
    exact ⟨⟨_, rfl, fun _ => Hf.out⟩, rfl⟩
/-! spans.Has -/
def SmallSp (s : Spc3) : Prop := s.1.size ≤ 100 ∧ s.2.2.length ≤ 20 ∧ Small100 s.2.1 ∧ ∀ x ∈ s.2.2, x.1.size ≤ 100 ∧ x.2.size ≤ 100
set_option maxRecDepth 10000 in
set_option maxHeartbeats 1000000 in
theorem greatS3_any {w : World} {nm : ByteArray} {u v : Value} {sp : List BSp} {l : List Setg} (hsp : RSps w [u] sp) (h : RSets w [v] l) : Calls Tryz.prog 73 #[.agg #[.string nm, u, v]] w fun e w' => (∃ r, e = .returned (.bool r) ∧ (r = false → SmallSp (nm, sp, l))) ∧ Below w.heap.size w w' := by
 have hb0 : Below w.heap.size w (w.alloc (.cells #[.string nm, u, v] 51)) := below_alloc1 _ _
 have hG := refGreat3_any (stays_slice stays_spn _ _ _ _ hsp hb0)
 obtain ⟨W0, hW0⟩ : ∃ W0, W0 = w.alloc (.cells #[.string nm, u, v] 51) := ⟨_, rfl⟩
 obtain ⟨nb, hnb⟩ : ∃ nb, nb = w.heap.size := ⟨_, rfl⟩
 have hbx : W0.heap[nb]? = some (.cells #[.string nm, u, v] 51 (0, 0)) := by rw [hW0, hnb]; exact heap_alloc_new _ _
 rw [← hW0] at hb0 hG
 obtain ⟨ua, uc, rfl, hzu, _⟩ := sps_open hsp
 obtain ⟨m, hm⟩ : ∃ m, m = sp.length := ⟨_, rfl⟩
 rw [← hm] at hG hbx hW0 hzu
 obtain ⟨a, cap, rfl, hz, g⟩ := sets_open h
 obtain ⟨n, hn⟩ : ∃ n, n = l.length := ⟨_, rfl⟩
 rw [← hn] at hz h hbx hW0
 rw [← hm, ← hn]
 have c0 := cells_at hbx 0
 have c1 := cells_at hbx 1
 have c2 := cells_at hbx 2
 simp only [List.getElem?_toArray, List.getElem?_cons_zero, List.getElem?_cons_succ] at c0 c1 c2
 obtain ⟨Hh, Hsp, Hg, Hn, Hm, HG, Hb0, Hbx⟩ := hd8 h hsp g hn hm hG hb0 hbx; clear h hsp g hn hm hG hb0 hbx
 go_enter Tryz.func73, Tryz.ntmps73
 go_upto_region 1 with (fail)
 rw [← hW0, ← hnb]
 obtain ⟨HW0, Hnb⟩ := hd2 hW0 hnb; clear hW0 hnb
 by_cases h1 : 100 < nm.size
 ·have k1 : decide ((100 : Int) < (nm.size : Int)) = true := by simp; omega
  go_wp2_with fail
  go_ret
  exact ⟨⟨true, rfl, fun h => by cases h⟩, Hb0.out⟩
 ·have k1 : decide ((100 : Int) < (nm.size : Int)) = false := by simp; omega
  by_cases h2 : 20 < n
  ·have k2 : decide ((20 : Int) < (n : Int)) = true := by simp; omega
   go_wp2_with fail
   go_ret
   exact ⟨⟨true, rfl, fun h => by cases h⟩, Hb0.out⟩
  ·have k2 : decide ((20 : Int) < (n : Int)) = false := by simp; omega
   go_wp2_with fail
   refine HG.out.mono ?_
   rintro e w1 ⟨⟨r, rfl, hsm⟩, rfl⟩
   have Hsm := hd hsm; clear hsm
   cases r with
   | true =>
    go_wp2_with fail
    go_ret
    exact ⟨⟨true, rfl, fun h => by cases h⟩, Hb0.out⟩
   | false =>
    go_wp2_with fail
    clear k1 k2
    obtain ⟨H1, H2⟩ := hd2 h1 h2; clear h1 h2
    go_loopw [22] (fun i wr => ∃ k : Nat, k ≤ n ∧ i = .int .i64 k ∧ (∀ j x, j < k → l[j]? = some x → x.1.size ≤ 100 ∧ x.2.size ≤ 100) ∧ W0 = wr) (fun i _ => n - (intOf i).toNat)
    case atStart => exact ⟨0, Nat.zero_le _, rfl, fun j x h => by omega, rfl⟩
    case round =>
     obtain ⟨k, hk, rfl, hsf, rfl⟩ := hrel
     have Hsf := hd hsf; clear hsf
     by_cases hlt : k < n
     ·have hkl : k < l.length := by have := Hn.out; omega
      obtain ⟨b, off, rfl, d0, d1, hs1, hs2⟩ := Hg.out k _ (List.getElem?_eq_getElem hkl)
      obtain ⟨x, hx⟩ : ∃ x, x = l[k] := ⟨_, rfl⟩
      rw [← hx] at d0 d1 hs1 hs2
      obtain ⟨s, hs⟩ : ∃ s, s = x.1 := ⟨_, rfl⟩
      obtain ⟨t, ht⟩ : ∃ s, s = x.2 := ⟨_, rfl⟩
      rw [← hs] at d0 hs1
      rw [← ht] at d1 hs2
      have e0 := cell_later Hb0.out d0
      have e1 := cell_later Hb0.out d1
      have k5 : (0 : Int) ≤ (k : Int) := by omega
      have k6 : (k : Int) < (n : Int) := by omega
      have hx' : l[k]? = some x := by rw [hx]; exact List.getElem?_eq_getElem hkl
      clear hx hkl d0 d1
      obtain ⟨Hx', Hs, Ht⟩ := hd3 hx' hs ht; clear hx' hs ht
      by_cases h100 : 100 < s.size
      ·have k7 : decide ((100 : Int) < (s.size : Int)) = true := by simp; omega
       go_wp2_with fail
       go_ret
       exact ⟨⟨true, rfl, fun h => by cases h⟩, Hb0.out⟩
      ·have k7 : decide ((100 : Int) < (s.size : Int)) = false := by simp; omega
       by_cases hm20 : 100 < t.size
       ·have k8 : decide ((100 : Int) < (t.size : Int)) = true := by simp; omega
        go_wp2_with fail
        go_ret
        exact ⟨⟨true, rfl, fun h => by cases h⟩, Hb0.out⟩
       ·have k8 : decide ((100 : Int) < (t.size : Int)) = false := by simp; omega
        go_wp2_with fail
        go_roundw
        case rel =>
         refine ⟨k + 1, by omega, by go_num, fun j y hj hy => ?_, by first | rfl | trivial⟩
         by_cases e : j = k
         ·subst e
          rw [Hx'.out] at hy
          obtain rfl := Option.some.inj hy
          rw [← Hs.out, ← Ht.out]
          omega
         ·exact Hsf.out j y (by omega) hy
        case measure => simp [intOf]; omega
     ·obtain rfl : k = n := by omega
      go_wp2_with fail
      go_ret
      exact ⟨⟨false, rfl, fun _ => ⟨by have := H1.out; show nm.size ≤ 100; omega, by have := H2.out; have := Hn.out; show l.length ≤ 20; omega, Hsm.out trivial, fun x hx => by obtain ⟨i, hi, e⟩ := List.getElem_of_mem hx; exact Hsf.out i x (by have := Hn.out; have hi : i < l.length := hi; omega) (by rw [← e]; exact List.getElem?_eq_getElem hi)⟩⟩, Hb0.out⟩
set_option maxRecDepth 10000 in
set_option maxHeartbeats 1000000 in
theorem greatSp_any {w : World} {nm : ByteArray} {u v : Value} {sp : List BSp} {l : List Setg} (hsp : RSps w [u] sp) (h : RSets w [v] l) : Calls Tryz.prog 31 #[.agg #[.string nm, u, v]] w fun e w' => (∃ r, e = .returned (.bool r) ∧ (r = false → SmallSp (nm, sp, l))) ∧ Below w.heap.size w w' := by
 obtain ⟨W0, hW0⟩ : ∃ W0, W0 = w.alloc (.cells #[.string nm, u, v] 51) := ⟨_, rfl⟩
 obtain ⟨nb, hnb⟩ : ∃ nb, nb = w.heap.size := ⟨_, rfl⟩
 have hb0 : Below w.heap.size w W0 := by rw [hW0]; exact below_alloc1 _ _
 have hG := greatS3_any (nm := nm) (stays_slice stays_spn _ _ _ _ hsp hb0) (stays_slice stays_set _ _ _ _ h hb0)
 have hbx : W0.heap[nb]? = some (.cells #[.string nm, u, v] 51 (0, 0)) := by rw [hW0, hnb]; exact heap_alloc_new _ _
 obtain ⟨ua, uc, rfl⟩ := sps_shape hsp
 obtain ⟨a, cap, rfl⟩ := sets_shape h
 obtain ⟨n1, hn1⟩ : ∃ n, n = sp.length := ⟨_, rfl⟩
 obtain ⟨n2, hn2⟩ : ∃ n, n = l.length := ⟨_, rfl⟩
 rw [← hn1, ← hn2] at hG hbx hW0
 rw [← hn1, ← hn2]
 have c0 := cells_at hbx 0
 have c1 := cells_at hbx 1
 have c2 := cells_at hbx 2
 simp only [List.getElem?_toArray, List.getElem?_cons_zero, List.getElem?_cons_succ] at c0 c1 c2
 obtain ⟨Hh, Hsp, HG, Hb0, Hbx, Hn1, Hn2⟩ := hd7 h hsp hG hb0 hbx hn1 hn2; clear h hsp hG hb0 hbx hn1 hn2
 go_enter Tryz.func31, Tryz.ntmps31
 go_upto_region 1 with (fail)
 rw [← hW0, ← hnb]
 clear hW0 hnb
 go_wp2_with fail
 refine HG.out.mono ?_
 rintro e w1 ⟨⟨r, rfl, hr⟩, hb⟩
 obtain ⟨Hr, Hb⟩ := hd2 hr hb; clear hr hb
 go_wp2_with fail
 go_ret
 exact ⟨⟨r, rfl, Hr.out⟩, Hb0.out.trans (Hb.out.mono Hb0.out.size)⟩
end Go.Proofs.YteailgjiifdgcaaGreatDoor

/- The walk of cooperlaw07.fixed, and plain facts for the laws of chapter 07. Condition: the library's variables as they were laid. -/
namespace Go.Proofs.YteailgjiifdgcaaGreatDoor
open Go.Shelf Go.RowKit Go.Lib VerN VarM
open LexM (Wd Ln)
attribute [local go_sem ↓] Go.wp_at_zero Go.wp_at_succ

theorem spec_star : specT (noT, allV, []) = starT := by
 have hf : firstT (noT, allV, []) = noT := by unfold firstT; rw [if_pos rfl]
 unfold specT
 rw [hf]
 exact if_pos rfl
theorem doc_star : LexM.docLines starT.data.toList = ⟨[(1, [(1, [42])])], 0, 0, 0⟩ := by kernel_rfl
theorem reads_star : specR condW (noT, allV, []) = (starT, true) := by
 have h : ReadsAs condW (specT (noT, allV, [])) (noT, allV, []) := by
  rw [spec_star]
  unfold ReadsAs
  rw [doc_star]
  refine ⟨rfl, _, rfl, rfl, ?_⟩
  have hp : peekB [((1 : Int), [(42 : UInt8)])] 0 = starT := by rw [peek_some (by decide)]; rfl
  exact condW_star hp
 rw [specR_yes h, spec_star]
theorem sp_small {s : Spc3} (h : SmallSp s) : ∃ l, Sp s l := by
 obtain ⟨h1, h2, ⟨h3, h4⟩, h5⟩ := h
 have hex : ∀ L : List BSp, (∀ z ∈ L, z.1.size ≤ 100 ∧ z.2.size ≤ 100) → ∃ l : List Tp, L = tB l ∧ l.length = L.length := by
  intro L
  induction L with
  | nil => intro _; exact ⟨[], rfl, rfl⟩
  | cons z L ih =>
   intro h
   obtain ⟨l, e1, e2⟩ := ih (fun x hx => h x (by simp [hx]))
   have hz := h z (by simp)
   exact ⟨⟨z, by omega⟩ :: l, by rw [e1]; rfl, by simp [e2]⟩
 obtain ⟨l, e1, e2⟩ := hex s.2.1 h4
 exact ⟨l, e1, by omega, by omega, by omega, fun x hx => by have := h5 x hx; omega⟩
set_option maxRecDepth 10000 in
set_option maxHeartbeats 2000000 in
theorem fixed07_any {w : World} (hD : Doors w) : Calls Tryz.prog 32 #[] w fun e w' => e = .returned (.bool true) ∧ Below w.heap.size w w' := by
 obtain ⟨W1, hW1⟩ : ∃ W, W = w.alloc (.cells #[.string ⟨#[]⟩, .string ⟨#[]⟩] 34) := ⟨_, rfl⟩
 have hb1 : Below w.heap.size w W1 := by rw [hW1]; exact below_alloc1 _ _
 have hr : RSps W1 [.slice (some ⟨w.heap.size, 0, none⟩) 1 1] allV := by rw [hW1]; exact (all_reads w).1
 have hs : RSets W1 [.slice none 0 0] [] := ⟨_, 0, rfl, Nat.zero_le _, Nat.zero_le _, fun i x hi => by simp at hi⟩
 obtain ⟨l, hl⟩ := sp_small (s := (noT, allV, [])) ⟨by decide, by decide, ⟨by decide, fun z hz => by simp [allV] at hz; rw [hz]; decide⟩, fun x hx => by simp at hx⟩
 have hP := printCond_any (nm := noT) hr hs hl (hD.below hb1)
 rw [reads_star] at hP
 have e : noT = ⟨#[]⟩ := rfl
 have e2 : starT = ⟨#[42]⟩ := rfl
 rw [e, e2] at hP
 obtain ⟨g, hg⟩ : ∃ g, g = w.heap.size := ⟨_, rfl⟩
 rw [← hg] at hP
 clear e e2
 obtain ⟨HD, Hb1, Hr, Hs, Hl, HP⟩ := hd6 hD hb1 hr hs hl hP; clear hD hb1 hr hs hl hP
 go_enter Tryz.func32, Tryz.ntmps32
 go_wp2_with fail
 rw [← hW1, ← hg]
 clear hW1 hg
 refine HP.out.mono ?_
 rintro e w2 ⟨rfl, hb2⟩
 have Hb2 := hd hb2; clear hb2
 go_wp2_with fail
 go_ret
 exact ⟨rfl, Hb1.out.trans (Hb2.out.mono Hb1.out.size)⟩
end Go.Proofs.YteailgjiifdgcaaGreatDoor
