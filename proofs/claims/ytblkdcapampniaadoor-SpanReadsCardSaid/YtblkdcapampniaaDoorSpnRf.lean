/- The walk of the document's Read of spans. Condition: a text of at most a hundred thousand bytes. -/
import Derived.Test.YtblkdcapampniaaDoorSpnJoins
import Derived.Deep.RegionHeld3
set_option linter.unusedVariables false
set_option linter.unusedSimpArgs false
namespace Go.Proofs.YtblkdcapampniaaDoor
open Go.RowKit Go.Lib VerN

/-- the span of a text as the document reads it, and whether -/
def rfB (s : ByteArray) : ByteArray × ByteArray := if (cutS 58 s).length = 1 then (s, s) else ((cutS 58 s).getD 0 noTxt, (cutS 58 s).getD 1 noTxt)
def rfOk (s : ByteArray) : Bool := if 2 < (cutS 58 s).length then false else spRefOk s.data.toList
theorem rfB_data (s : ByteArray) : ((rfB s).1.data.toList, (rfB s).2.data.toList) = spRefO s.data.toList := by
  unfold rfB spRefO
  rw [cutS_len]
  split
  · rfl
  · exact Prod.ext (getD_data 58 s 0) (getD_data 58 s 1)
/-- what it hands back: whatever at a text that tells of no span -/
def refReadPost (s : ByteArray) (w : World) (e : Ending) (w' : World) : Prop :=
  ∃ x y, e = .returned (.tuple #[.agg #[.string x, .string y], .bool (rfOk s)]) ∧ (rfOk s = true → (x, y) = rfB s) ∧ Below w.heap.size w w'
set_option maxRecDepth 10000 in
set_option maxHeartbeats 4000000 in
theorem refRead_any (s : ByteArray) (hs : s.size ≤ 100000) (w : World) : Calls Tryd.prog 31 #[.string s] w (refReadPost s w) := by
  unfold refReadPost
  obtain ⟨w0, hW0⟩ : ∃ W0, W0 = w.alloc (.cells #[.string ⟨#[]⟩, .string ⟨#[]⟩] 33) := ⟨_, rfl⟩
  obtain ⟨nb, hnb⟩ : ∃ nb, nb = w.heap.size := ⟨_, rfl⟩
  have hw : Below w.heap.size w w0 := by rw [hW0]; exact below_alloc1 _ _
  have hr : w0.heap[nb]? = some (.cells #[.string ⟨#[]⟩, .string ⟨#[]⟩] 33 (0, 0)) := by rw [hW0, hnb]; exact pbox1_0 _ _ _
  have hle : w.heap.size ≤ nb := by omega
  have hC := cut1_any s (by omega) 58 (by omega) w0
  rw [show UInt8.ofNat 58 = (58 : UInt8) from rfl] at hC
  obtain ⟨ps, hps⟩ : ∃ ps, ps = cutS 58 s := ⟨_, rfl⟩
  rw [← hps] at hC
  have hpz : ∀ i, (ps.getD i noTxt).size ≤ 100000 := fun i => by
    by_cases h : i < ps.length
    · rw [List.getD, List.getElem?_eq_getElem h]
      have := cutS_piece (c := 58) (s := s) (by rw [← hps]; exact List.getElem_mem h)
      show ps[i].size ≤ 100000
      omega
    · rw [List.getD, List.getElem?_eq_none (by omega)]; decide
  have hp1 : 1 ≤ ps.length ∧ ps.length ≤ 1000000 := by
    have := cutL_len 58 s.data.toList
    rw [hps, cutS_len, ← Txt.len] at *
    omega
  have HC := Lib.hid hC; have Hw := Lib.hid hw; have Hr := Lib.hid hr; have Hps := Lib.hid hps; have Hpz := Lib.hid hpz; have Hp1 := Lib.hid hp1; have Hle := Lib.hid hle; clear hC hw hr hps hpz hp1 hle
  go_enter Tryd.func31, Tryd.ntmps31
  go_upto_region 1 with (fail)
  rw [← hW0, ← hnb]
  clear hW0 hnb
  go_wp2_with fail
  refine HC.out.mono ?_
  rintro e w1 ⟨v, rfl, hown, hb1⟩
  obtain ⟨a, cap, rfl⟩ := own_shape hown
  obtain ⟨n, hn⟩ : ∃ n, n = ps.length := ⟨_, rfl⟩
  rw [← hn] at hown ⊢
  have hn1 : 1 ≤ n ∧ n ≤ 1000000 := by rw [hn]; exact Hp1.out
  have Hown := Lib.hid hown; have Hb1 := Lib.hid hb1; have Hn := Lib.hid hn; clear hown hb1 hn
  go_upto_region 3 with (fail)
  obtain ⟨w2, hv⟩ : ∃ W, W = w1.alloc (.cells #[.string ⟨#[]⟩, .string ⟨#[]⟩] 33) := ⟨_, rfl⟩
  obtain ⟨g, hg⟩ : ∃ g, g = w1.heap.size := ⟨_, rfl⟩
  have hs2 : Below w1.heap.size w1 w2 := by rw [hv]; exact below_alloc1 _ _
  have hb2 := Hb1.out.trans (hs2.mono Hb1.out.size)
  have ho : w2.heap[g]? = some (.cells #[.string ⟨#[]⟩, .string ⟨#[]⟩] 33 (0, 0)) := by rw [hv, hg]; exact heap_alloc_new _ _
  have hr2 := heap_below hb2 Hr.out
  have hown2 := ownsRow_below Hown.out hs2
  rw [← hv, ← hg]
  clear hv hg
  obtain ⟨o0, o1, o2, o3⟩ := pair_cells ho
  obtain ⟨r0, r1, r2, r3⟩ := pair_cells hr2
  have Hs2 := Lib.hid hs2; have Hb2 := Lib.hid hb2; have Ho := Lib.hid ho; have Hr2 := Lib.hid hr2; have Hown2 := Lib.hid hown2; clear hs2 hb2 ho hr2 hown2
  by_cases h2 : 2 < n
  · have k1 : decide ((2 : Int) < (n : Int)) = true := by simp; omega
    have hok : rfOk s = false := by unfold rfOk; rw [← Hps.out, ← Hn.out, if_pos h2]
    have Hok := Lib.hid hok; clear hok
    go_wp2_with fail
    refine bodyPost_spn2 rfl rfl rfl (pair_set _ _ Hr2.out) rfl ?_
    exact ⟨_, _, ret_spn2 rfl rfl Hok.out.symm, (fun h => by rw [Hok.out] at h; cases h), pair_bel _ _ (below_on Hw.out Hb2.out) Hle.out⟩
  · have k1 : decide ((2 : Int) < (n : Int)) = false := by simp; omega
    by_cases h1 : n = 1
    · subst h1
      have hok : rfOk s = mayL s.data.toList := by
        unfold rfOk spRefOk
        rw [← cutS_len, ← Hps.out, ← Hn.out]
        rfl
      have hB : rfB s = (s, s) := by unfold rfB; rw [← Hps.out, ← Hn.out]; rfl
      have hM := may1_any s (by omega) w2
      obtain ⟨p, hp⟩ : ∃ x, x = mayL s.data.toList := ⟨_, rfl⟩
      rw [← hp] at hok hM
      clear hp
      have Hok := Lib.hid hok; have HB := Lib.hid hB; have HM := Lib.hid hM; clear hok hB hM
      go_wp2_with fail
      refine HM.out.mono ?_
      rintro e w3 ⟨rfl, hs3⟩
      have hb3 := Hb2.out.trans (hs3.mono Hb2.out.size)
      have hr3 := heap_below hs3 Hr2.out
      obtain ⟨r0, r1, r2, r3⟩ := pair_cells hr3
      have Hs3 := Lib.hid hs3; have Hb3 := Lib.hid hb3; have Hr3 := Lib.hid hr3; clear hs3 hb3 hr3
      go_wp2_with fail
      refine bodyPost_spn2 rfl rfl rfl (pair_set _ _ Hr3.out) rfl ?_
      exact ⟨_, _, ret_spn2 rfl rfl Hok.out.symm, fun _ => HB.out.symm, pair_bel _ _ (below_on Hw.out Hb3.out) Hle.out⟩
    · obtain rfl : n = 2 := by omega
      have hlen : ps.length = 2 := Hn.out.symm
      obtain ⟨b0, cap0, hsh, c0⟩ := texts_cell Hown2.out 0 (by omega)
      obtain ⟨b1, cap1, hsh1, c1⟩ := texts_cell Hown2.out 1 (by omega)
      simp only [Value.slice.injEq] at hsh hsh1
      obtain ⟨rfl, -, rfl⟩ := hsh
      obtain ⟨hbb, -, rfl⟩ := hsh1
      simp only [Option.some.injEq, Addr.mk.injEq, and_true] at hbb
      subst hbb
      obtain ⟨x, hx⟩ : ∃ x, x = ps.getD 0 noTxt := ⟨_, rfl⟩
      obtain ⟨y, hy⟩ : ∃ x, x = ps.getD 1 noTxt := ⟨_, rfl⟩
      have zx := Hpz.out 0
      have zy := Hpz.out 1
      rw [← hx] at zx
      rw [← hy] at zy
      rw [show ps[0]'(by omega) = x by rw [hx, List.getD, List.getElem?_eq_getElem (by omega)]; rfl] at c0
      rw [show ps[1]'(by omega) = y by rw [hy, List.getD, List.getElem?_eq_getElem (by omega)]; rfl] at c1
      have hB : rfB s = (x, y) := by unfold rfB; rw [← Hps.out, if_neg (by omega), ← hx, ← hy]
      have hok : rfOk s = (mayS (x.data.toList, y.data.toList) && decide (txR x y = s)) := by
        unfold rfOk spRefOk
        rw [← cutS_len, ← Hps.out, if_neg (by omega), if_neg (by omega), ← rfB_data, hB, ← txR_data]
        exact congrArg _ (decide_eq_decide.2 ba_eq.symm)
      clear hx hy hlen
      have HB := Lib.hid hB; have Hok := Lib.hid hok; clear hB hok
      go_upto_region 7 with (fail)
      go_cut [6] (fun v W => CutBox w2 x y v W)
      case first =>
        have hcz : (w2.drewN 1).cell? ⟨b0, 0, none⟩ = some (.string x) ∧ (w2.drewN 1).cell? ⟨b0, 1, none⟩ = some (.string y) := ⟨c0, c1⟩
        have hcf : ∀ W, Below w2.heap.size w2 W → W.cell? ⟨b0, 0, none⟩ = some (.string x) ∧ W.cell? ⟨b0, 1, none⟩ = some (.string y) := fun W k => ⟨cell_later k c0, cell_later k c1⟩
        have hbz := bel_drewN (Below.refl w2.heap.size w2) 1
        have Hcz := Lib.hid hcf
        clear hcf
        go_region_held3 (fun w' => w'.cell? ⟨b0, 0, none⟩ = some (.string x) ∧ w'.cell? ⟨b0, 1, none⟩ = some (.string y)) (first | exact hcz | exact Hcz.out _ (hbz.alloc hbz.size _) | exact Hcz.out _ (pair_bel _ _ hbz hbz.size) | go_keep) (fail)
        all_goals
          go_wp2_with fail
          go_meet
          exact ⟨_, rfl, heap_alloc_new _ _, hbz.alloc hbz.size _⟩
      case rest =>
        obtain ⟨gz, rfl, hz, hs3⟩ := hcut
        have hb3 := Hb2.out.trans (hs3.mono Hb2.out.size)
        have hr3 := heap_below hs3 Hr2.out
        clear o0 o1 o2 o3 r0 r1 r2 r3 c0 c1
        obtain ⟨z0, z1, z2, z3⟩ := pair_cells hz
        obtain ⟨r0, r1, r2, r3⟩ := pair_cells hr3
        have hP := fun (W : World) (_ : Below wc.heap.size wc W) => refMay2_any x y (by omega) (by omega) W
        have hT := fun (W : World) (_ : Below wc.heap.size wc W) => refText_any x y (by omega) (by omega) W
        have hcf : ∀ W, Below wc.heap.size wc W → (W.cell? ⟨gz, 0, none⟩ = some (.string x) ∧ W.cell? ⟨gz, 1, none⟩ = some (.string y)) ∧ W.cell? ⟨nb, 0, none⟩ = some (.string ⟨#[]⟩) ∧ W.cell? ⟨nb, 1, none⟩ = some (.string ⟨#[]⟩) ∧ W.frozen? ⟨nb, 0, none⟩ = false ∧ W.frozen? ⟨nb, 1, none⟩ = false := fun W k => ⟨⟨(pair_cells (heap_below k hz)).1, (pair_cells (heap_below k hz)).2.1⟩, pair_cells (heap_below k hr3)⟩
        obtain ⟨p, hp⟩ : ∃ q, q = mayS (x.data.toList, y.data.toList) := ⟨_, rfl⟩
        obtain ⟨tx, htx⟩ : ∃ q, q = txR x y := ⟨_, rfl⟩
        obtain ⟨d, k3⟩ : ∃ q, (tx.toList == s.toList) = q := ⟨_, rfl⟩
        have hok2 : rfOk s = (p && d) := by rw [Hok.out, ← hp, ← htx, ← k3, Txt.eq_dec]
        rw [← hp] at hP
        rw [← htx] at hT
        have hbz := bel_drewN (Below.refl wc.heap.size wc) 1
        have hcz := hcf _ hbz
        clear hp htx Hok
        have Hb3 := Lib.hid hb3; have Hs3 := Lib.hid hs3; have Hr3 := Lib.hid hr3; have Hz := Lib.hid hz; have HP := Lib.hid hP; have HT := Lib.hid hT; have Hok2 := Lib.hid hok2; clear hb3 hs3 hr3 hz hP hT hok2
        have Hcz := Lib.hid hcf
        clear hcf
        cases p with
        | false =>
          go_wp2_with fail
          first
            | go_region_with (go_at_call 25; refine (HP.out _ (by exact hbz)).mono ?_; rintro e wz ⟨rfl, hsz⟩; replace hbz := hbz.trans (hsz.mono hbz.size); obtain ⟨⟨q0, q1⟩, q2, q3, q4, q5⟩ := Hcz.out _ hbz; replace hcz := Hcz.out _ hbz)
            | fail "the region"
          all_goals
            have hr9 := heap_below hbz Hr3.out
            have hb9 := Hb3.out.trans (hbz.mono Hb3.out.size)
            have Hr9 := Lib.hid hr9; have Hb9 := Lib.hid hb9; clear hr9 hb9
            go_wp2_with fail
            refine bodyPost_spn2 rfl rfl rfl (pair_set _ _ Hr9.out) rfl ?_
            exact ⟨_, _, ret_spn2 rfl rfl (by rw [Hok2.out] <;> rfl), (fun _ => HB.out.symm), pair_bel _ _ (below_on Hw.out Hb9.out) Hle.out⟩
        | true =>
          cases d with
          | false =>
            go_wp2_with fail
            first
              | go_region_with (first | (go_at_call 25; refine (HP.out _ (by exact hbz)).mono ?_; rintro e wz ⟨rfl, hsz⟩; replace hbz := hbz.trans (hsz.mono hbz.size); obtain ⟨⟨q0, q1⟩, q2, q3, q4, q5⟩ := Hcz.out _ hbz; replace hcz := Hcz.out _ hbz) | (go_at_call 30; refine (HT.out _ (by exact hbz)).mono ?_; rintro e wz ⟨rfl, hsz⟩; replace hbz := hbz.trans (hsz.mono hbz.size); obtain ⟨⟨q0, q1⟩, q2, q3, q4, q5⟩ := Hcz.out _ hbz; replace hcz := Hcz.out _ hbz))
              | fail "the region"
            all_goals
              have hr9 := heap_below hbz Hr3.out
              have hb9 := Hb3.out.trans (hbz.mono Hb3.out.size)
              have Hr9 := Lib.hid hr9; have Hb9 := Lib.hid hb9; clear hr9 hb9
              go_wp2_with fail
              refine bodyPost_spn2 rfl rfl rfl (pair_set _ _ Hr9.out) rfl ?_
              exact ⟨_, _, ret_spn2 rfl rfl (by rw [Hok2.out] <;> rfl), (fun _ => HB.out.symm), pair_bel _ _ (below_on Hw.out Hb9.out) Hle.out⟩
          | true =>
            go_wp2_with fail
            first
              | go_region_with (first | (go_at_call 25; refine (HP.out _ (by exact hbz)).mono ?_; rintro e wz ⟨rfl, hsz⟩; replace hbz := hbz.trans (hsz.mono hbz.size); obtain ⟨⟨q0, q1⟩, q2, q3, q4, q5⟩ := Hcz.out _ hbz; replace hcz := Hcz.out _ hbz) | (go_at_call 30; refine (HT.out _ (by exact hbz)).mono ?_; rintro e wz ⟨rfl, hsz⟩; replace hbz := hbz.trans (hsz.mono hbz.size); obtain ⟨⟨q0, q1⟩, q2, q3, q4, q5⟩ := Hcz.out _ hbz; replace hcz := Hcz.out _ hbz))
              | fail "the region"
            all_goals
              have hr9 := heap_below hbz Hr3.out
              have hb9 := Hb3.out.trans (hbz.mono Hb3.out.size)
              have Hr9 := Lib.hid hr9; have Hb9 := Lib.hid hb9; clear hr9 hb9
              go_wp2_with fail
              refine bodyPost_spn2 rfl rfl rfl (pair_set _ _ Hr9.out) rfl ?_
              exact ⟨_, _, ret_spn2 rfl rfl (by rw [Hok2.out] <;> rfl), (fun _ => HB.out.symm), pair_bel _ _ (below_on Hw.out Hb9.out) Hle.out⟩
end Go.Proofs.YtblkdcapampniaaDoor
