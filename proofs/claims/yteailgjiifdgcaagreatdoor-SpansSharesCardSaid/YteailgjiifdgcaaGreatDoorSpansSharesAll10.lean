/- Walks and plain facts. Texts merged: SpansShares. Condition: none beyond what each says. -/
import Derived.Deep.DeepCutAuto
import Derived.Test.YteailgjiifdgcaaGreatDoorSpansSharesAll1
import Derived.Test.YteailgjiifdgcaaGreatDoorSpansSharesAll2
import Derived.Test.YteailgjiifdgcaaGreatDoorSpansSharesAll3
import Derived.Test.YteailgjiifdgcaaGreatDoorSpansSharesAll4
import Derived.Test.YteailgjiifdgcaaGreatDoorSpansSharesAll5
import Derived.Test.YteailgjiifdgcaaGreatDoorSpansSharesAll6
import Derived.Test.YteailgjiifdgcaaGreatDoorSpansSharesAll7
import Derived.Test.YteailgjiifdgcaaGreatDoorSpansSharesAll8
import Derived.Test.YteailgjiifdgcaaGreatDoorSpansSharesAll9
set_option linter.unusedVariables false
set_option linter.unusedSimpArgs false
/- The walk of cooperlaw03.SpansShares: the law. Condition: the library's variables as they were laid. -/
namespace Go.Proofs.YteailgjiifdgcaaGreatDoor
open Go.Shelf Go.RowKit Go.Lib VerN

theorem small100 {F : List BSp} (h : Small100 F) : SmallB F := fun z hz => by have := h.2 z hz; omega
def CutB (b : Bool) (w : World) (v : Value) (W : World) : Prop := v = .bool b ∧ Below w.heap.size w W
theorem fx_all : formOk [⟨(⟨#[]⟩, ⟨#[]⟩), by decide⟩] = true ∧ formB [⟨(⟨#[]⟩, ⟨#[]⟩), by decide⟩] = [(⟨#[]⟩, ⟨#[]⟩)] := by decide
theorem cov_all {F : List BSp} {f : List Tp} (hf : formB f = [(⟨#[]⟩, ⟨#[]⟩)]) (x : Pt) (_ : cov (F.map dS) x) : cov ((formB f).map dS) x := by
  rw [hf]
  refine ⟨_, List.mem_singleton.2 rfl, ?_⟩
  match x with
  | none => rfl
  | some (false, p) => exact ⟨.inl rfl, .inl rfl⟩
  | some (true, p) => exact ⟨.inl rfl, .inl rfl⟩
set_option linter.unusedSimpArgs false
set_option maxRecDepth 10000 in
set_option maxHeartbeats 40000000 in
theorem spansShares_true (v : ByteArray) {A B C : List BSp} {va vb vc : Value} {w : World} (hra : RSps w [va] A) (hrb : RSps w [vb] B) (hrc : RSps w [vc] C) (hD : Doors w) (hvz : v.size ≤ 9223372036854775807) : Calls Tryz.prog 4 #[va, vb, vc, .string v] w fun e w' => e = .returned (.bool true) ∧ Below w.heap.size w w' := by
  have hF := fun (W : World) (k : Below w.heap.size w W) => fixed03_any (hD.below k)
  obtain ⟨aa, ca, rfl⟩ := sps_shape hra
  obtain ⟨ab, cb, rfl⟩ := sps_shape hrb
  obtain ⟨ac, cc, rfl⟩ := sps_shape hrc
  have hGa := refGreat3_any hra
  have hGb := refGreat3_any hrb
  have hGc := refGreat3_any hrc
  obtain ⟨na, hna⟩ : ∃ n, n = A.length := ⟨_, rfl⟩
  obtain ⟨nb, hnb⟩ : ∃ n, n = B.length := ⟨_, rfl⟩
  obtain ⟨nc, hnc⟩ : ∃ n, n = C.length := ⟨_, rfl⟩
  rw [← hna] at hra hGa ⊢
  rw [← hnb] at hrb hGb ⊢
  rw [← hnc] at hrc hGc ⊢
  obtain ⟨p1, k1⟩ : ∃ p, decide ((8 : Int) < (na : Int)) = p := ⟨_, rfl⟩
  obtain ⟨p2, k2⟩ : ∃ p, decide ((8 : Int) < (nb : Int)) = p := ⟨_, rfl⟩
  obtain ⟨p3, k3⟩ : ∃ p, decide ((8 : Int) < (nc : Int)) = p := ⟨_, rfl⟩
  obtain ⟨p4, k4⟩ : ∃ p, decide ((3000 : Int) < (v.size : Int)) = p := ⟨_, rfl⟩
  have h1 : p1 = false → na ≤ 8 := fun h => by rw [h] at k1; simp at k1; omega
  have h2 : p2 = false → nb ≤ 8 := fun h => by rw [h] at k2; simp at k2; omega
  have h3 : p3 = false → nc ≤ 8 := fun h => by rw [h] at k3; simp at k3; omega
  have h4 : p4 = false → v.size ≤ 3000 := fun h => by rw [h] at k4; simp at k4; omega
  have Hra := Lib.hid hra; have Hrb := Lib.hid hrb; have Hrc := Lib.hid hrc; have HGa := Lib.hid hGa; have HGb := Lib.hid hGb; have HGc := Lib.hid hGc; have Hna := Lib.hid hna; have Hnb := Lib.hid hnb; have Hnc := Lib.hid hnc; have HF := Lib.hid hF; have HD := Lib.hid hD; have H1 := Lib.hid h1; have H2 := Lib.hid h2; have H3 := Lib.hid h3; have H4 := Lib.hid h4; clear hra hrb hrc hGa hGb hGc hna hnb hnc hF hD h1 h2 h3 h4
  go_enter Tryz.func4, Tryz.ntmps4
  cases p1 with
  | true =>
    go_wp2_with fail
    refine (HF.out _ (Below.refl _ _)).mono ?_
    rintro e w1 ⟨rfl, hb1⟩
    have Hb1 := Lib.hid hb1; clear hb1
    go_wp2_with fail
    go_ret
    exact ⟨rfl, Hb1.out⟩
  | false =>
    cases p2 with
    | true =>
      go_wp2_with fail
      refine (HF.out _ (Below.refl _ _)).mono ?_
      rintro e w1 ⟨rfl, hb1⟩
      have Hb1 := Lib.hid hb1; clear hb1
      go_wp2_with fail
      go_ret
      exact ⟨rfl, Hb1.out⟩
    | false =>
      cases p3 with
      | true =>
        go_wp2_with fail
        refine (HF.out _ (Below.refl _ _)).mono ?_
        rintro e w1 ⟨rfl, hb1⟩
        have Hb1 := Lib.hid hb1; clear hb1
        go_wp2_with fail
        go_ret
        exact ⟨rfl, Hb1.out⟩
      | false =>
        go_wp2_with fail
        refine HGa.out.mono ?_
        rintro e w1 ⟨⟨r1, rfl, hr1⟩, rfl⟩
        cases r1 with
        | true =>
          clear hr1
          go_wp2_with fail
          refine (HF.out _ (Below.refl _ _)).mono ?_
          rintro e w1 ⟨rfl, hb1⟩
          have Hb1 := Lib.hid hb1; clear hb1
          go_wp2_with fail
          go_ret
          exact ⟨rfl, Hb1.out⟩
        | false =>
          have hs1 := hr1 rfl
          clear hr1
          have Hs1 := Lib.hid hs1; clear hs1
          go_wp2_with fail
          refine HGb.out.mono ?_
          rintro e w1 ⟨⟨r2, rfl, hr2⟩, rfl⟩
          cases r2 with
          | true =>
            clear hr2
            go_wp2_with fail
            refine (HF.out _ (Below.refl _ _)).mono ?_
            rintro e w1 ⟨rfl, hb1⟩
            have Hb1 := Lib.hid hb1; clear hb1
            go_wp2_with fail
            go_ret
            exact ⟨rfl, Hb1.out⟩
          | false =>
            have hs2 := hr2 rfl
            clear hr2
            have Hs2 := Lib.hid hs2; clear hs2
            go_wp2_with fail
            refine HGc.out.mono ?_
            rintro e w1 ⟨⟨r3, rfl, hr3⟩, rfl⟩
            cases r3 with
            | true =>
              clear hr3
              go_wp2_with fail
              refine (HF.out _ (Below.refl _ _)).mono ?_
              rintro e w1 ⟨rfl, hb1⟩
              have Hb1 := Lib.hid hb1; clear hb1
              go_wp2_with fail
              go_ret
              exact ⟨rfl, Hb1.out⟩
            | false =>
              have hs3 := hr3 rfl
              clear hr3
              have Hs3 := Lib.hid hs3; clear hs3
              cases p4 with
              | true =>
                go_wp2_with fail
                refine (HF.out _ (Below.refl _ _)).mono ?_
                rintro e w1 ⟨rfl, hb1⟩
                have Hb1 := Lib.hid hb1; clear hb1
                go_wp2_with fail
                go_ret
                exact ⟨rfl, Hb1.out⟩
              | false =>
                have hnA := by first | exact H1.out rfl | exact H1.out trivial
                have hnB := by first | exact H2.out rfl | exact H2.out trivial
                have hnC := by first | exact H3.out rfl | exact H3.out trivial
                have hnv := H4.out rfl
                obtain ⟨a, hta⟩ := small_list (small100 Hs1.out)
                obtain ⟨b, htb⟩ := small_list (small100 Hs2.out)
                obtain ⟨c, htc⟩ := small_list (small100 Hs3.out)
                have hla : a.length = na := by rw [Hna.out, ← hta, List.length_map]
                have hlb : b.length = nb := by rw [Hnb.out, ← htb, List.length_map]
                have hlc : c.length = nc := by rw [Hnc.out, ← htc, List.length_map]
                have hra := Hra.out
                have hrb := Hrb.out
                have hrc := Hrc.out
                rw [← hta] at hra
                rw [← htb] at hrb
                rw [← htc] at hrc
                have hFa := fun (W : World) (k : Below w.heap.size w W) => refForm_any (stays_slice stays_spn _ _ _ _ hra k) (by omega)
                have hFb := fun (W : World) (k : Below w.heap.size w W) => refForm_any (stays_slice stays_spn _ _ _ _ hrb k) (by omega)
                have hFc := fun (W : World) (k : Below w.heap.size w W) => refForm_any (stays_slice stays_spn _ _ _ _ hrc k) (by omega)
                unfold RefFormPost at hFa hFb hFc
                obtain ⟨x, hx⟩ : ∃ p, p = formOk a := ⟨_, rfl⟩
                obtain ⟨y, hy⟩ : ∃ p, p = formOk b := ⟨_, rfl⟩
                obtain ⟨z, hz⟩ : ∃ p, p = formOk c := ⟨_, rfl⟩
                simp only [← hx] at hFa
                simp only [← hy] at hFb
                simp only [← hz] at hFc
                clear Hra Hrb Hrc
                have Hta := Lib.hid hta; have Htb := Lib.hid htb; have Htc := Lib.hid htc; have Hla := Lib.hid hla; have Hlb := Lib.hid hlb; have Hlc := Lib.hid hlc; have Hra := Lib.hid hra; have Hrb := Lib.hid hrb; have Hrc := Lib.hid hrc; have HFa := Lib.hid hFa; have HFb := Lib.hid hFb; have HFc := Lib.hid hFc; have Hx := Lib.hid hx; have Hy := Lib.hid hy; have Hz := Lib.hid hz; clear hta htb htc hla hlb hlc hra hrb hrc hFa hFb hFc hx hy hz
                go_wp2_with fail
                refine (HFa.out _ (Below.refl _ _)).mono ?_
                rintro e w1 ⟨oa, rfl, _, hb1⟩
                have Hb1 := Lib.hid hb1; clear hb1
                go_wp2_with fail
                refine (HFb.out _ Hb1.out).mono ?_
                rintro e w2 ⟨ob, rfl, _, hb2⟩
                have hbw2 := Hb1.out.trans (hb2.mono Hb1.out.size)
                have Hb2 := Lib.hid hb2; have Hbw2 := Lib.hid hbw2; clear hb2 hbw2
                go_wp2_with fail
                refine (HFc.out _ Hbw2.out).mono ?_
                rintro e w3 ⟨oc, rfl, _, hb3⟩
                have hbw3 := Hbw2.out.trans (hb3.mono Hbw2.out.size)
                have Hb3 := Lib.hid hb3; have Hbw3 := Lib.hid hbw3; clear hb3 hbw3
                cases x with
                | false =>
                  go_wp2_with fail
                  refine (HF.out _ Hbw3.out).mono ?_
                  rintro e w4 ⟨rfl, hb4⟩
                  have Hb4 := Lib.hid hb4; clear hb4
                  go_wp2_with fail
                  go_ret
                  exact ⟨rfl, Hbw3.out.trans (Hb4.out.mono Hbw3.out.size)⟩
                | true =>
                  cases y with
                  | false =>
                    go_wp2_with fail
                    refine (HF.out _ Hbw3.out).mono ?_
                    rintro e w4 ⟨rfl, hb4⟩
                    have Hb4 := Lib.hid hb4; clear hb4
                    go_wp2_with fail
                    go_ret
                    exact ⟨rfl, Hbw3.out.trans (Hb4.out.mono Hbw3.out.size)⟩
                  | true =>
                    cases z with
                    | false =>
                      go_wp2_with fail
                      refine (HF.out _ Hbw3.out).mono ?_
                      rintro e w4 ⟨rfl, hb4⟩
                      have Hb4 := Lib.hid hb4; clear hb4
                      go_wp2_with fail
                      go_ret
                      exact ⟨rfl, Hbw3.out.trans (Hb4.out.mono Hbw3.out.size)⟩
                    | true =>
                      have oka : formOk a = true := Hx.out.symm
                      have okb : formOk b = true := Hy.out.symm
                      have okc : formOk c = true := Hz.out.symm
                      have la8 : a.length ≤ 8 := by have := Hla.out; omega
                      have lb8 : b.length ≤ 8 := by have := Hlb.out; omega
                      have lc8 : c.length ≤ 8 := by have := Hlc.out; omega
                      obtain ⟨bc, hbc⟩ := small_list (smallB_union b c)
                      obtain ⟨l1, hl1⟩ := meetP_some a bc
                      obtain ⟨lx, hlx⟩ := meetP_some a b
                      obtain ⟨ly, hly⟩ := meetP_some a c
                      obtain ⟨mb, hmb⟩ := small_list (smallB_meet a b lx)
                      obtain ⟨mc, hmc⟩ := small_list (smallB_meet a c ly)
                      obtain ⟨ua, hua⟩ := small_list (smallB_union a a)
                      obtain ⟨la2, hla2⟩ := meetP_some a a
                      obtain ⟨ma, hma⟩ := small_list (smallB_meet a a la2)
                      obtain ⟨f, hf⟩ : ∃ f : List Tp, f = [⟨(⟨#[]⟩, ⟨#[]⟩), by decide⟩] := ⟨_, rfl⟩
                      obtain ⟨lf, hlf⟩ := meetP_some a f
                      obtain ⟨mf, hmf⟩ := small_list (smallB_meet a f lf)
                      have nbc : bc.length ≤ 16 := by rw [← List.length_map (f := fun x : Tp => x.1)]; show (tB bc).length ≤ 16; rw [hbc]; exact union_len b c
                      have nmb : mb.length ≤ 16 := by rw [← List.length_map (f := fun x : Tp => x.1)]; show (tB mb).length ≤ 16; rw [hmb]; exact meetB_len a b lx
                      have nmc : mc.length ≤ 16 := by rw [← List.length_map (f := fun x : Tp => x.1)]; show (tB mc).length ≤ 16; rw [hmc]; exact meetB_len a c ly
                      have nua : ua.length ≤ 16 := by rw [← List.length_map (f := fun x : Tp => x.1)]; show (tB ua).length ≤ 16; rw [hua]; exact union_len a a
                      have nma : ma.length ≤ 16 := by rw [← List.length_map (f := fun x : Tp => x.1)]; show (tB ma).length ≤ 16; rw [hma]; exact meetB_len a a la2
                      have nmf : mf.length ≤ 16 := by rw [← List.length_map (f := fun x : Tp => x.1)]; show (tB mf).length ≤ 16; rw [hmf]; exact meetB_len a f lf
                      have hfa := form_len a
                      have hfo : formOk f = true := by rw [hf]; exact fx_all.1
                      have hff : formB f = [(⟨#[]⟩, ⟨#[]⟩)] := by rw [hf]; exact fx_all.2
                      have hsu := union_self oka la8 hua
                      have hsm := meet_same oka oka (by omega) hla2 (fun _ h => h) hma
                      have hsf := meet_same oka hfo (by rw [hff, List.length_singleton]; omega) hlf (fun x h => cov_all hff x h) hmf
                      obtain ⟨t, ht⟩ : ∃ t, t = v.data.toList := ⟨_, rfl⟩
                      have hs1 := shr_one (v := t) oka okb okc lb8 lc8 hbc hl1
                      have hs2 := shr_two (v := t) oka okb okc la8 lb8 lc8 hlx hly hmb hmc
                      have hv1 : v.size ≤ 1000000 := by omega
                      have hU := fun (W : World) (k : Below w.heap.size w W) => union_any (stays_slice stays_spn _ _ _ _ Hrb.out k) (stays_slice stays_spn _ _ _ _ Hrc.out k) (by omega) (by omega) (HD.out.below k)
                      have hMb := fun (W : World) (k : Below w.heap.size w W) => meetSps_any (stays_slice stays_spn _ _ _ _ Hra.out k) (stays_slice stays_spn _ _ _ _ Hrb.out k) (by omega) (by omega) (HD.out.below k) hlx
                      have hMc := fun (W : World) (k : Below w.heap.size w W) => meetSps_any (stays_slice stays_spn _ _ _ _ Hra.out k) (stays_slice stays_spn _ _ _ _ Hrc.out k) (by omega) (by omega) (HD.out.below k) hly
                      have hMa := fun (W : World) (k : Below w.heap.size w W) => meetSps_any (stays_slice stays_spn _ _ _ _ Hra.out k) (stays_slice stays_spn _ _ _ _ Hra.out k) (by omega) (by omega) (HD.out.below k) hla2
                      have hUa := fun (W : World) (k : Below w.heap.size w W) => union_any (stays_slice stays_spn _ _ _ _ Hra.out k) (stays_slice stays_spn _ _ _ _ Hra.out k) (by omega) (by omega) (HD.out.below k)
                      have hHa := fun (W : World) (k : Below w.heap.size w W) => refHas3_any (stays_slice stays_spn _ _ _ _ Hra.out k) (smallB_tB a) v hv1
                      have hHb := fun (W : World) (k : Below w.heap.size w W) => refHas3_any (stays_slice stays_spn _ _ _ _ Hrb.out k) (smallB_tB b) v hv1
                      have hHc := fun (W : World) (k : Below w.heap.size w W) => refHas3_any (stays_slice stays_spn _ _ _ _ Hrc.out k) (smallB_tB c) v hv1
                      simp only [← hbc] at hU
                      simp only [← hmb] at hMb
                      simp only [← hmc] at hMc
                      simp only [← hma] at hMa
                      simp only [← hua] at hUa
                      simp only [← ht] at hHa hHb hHc
                      obtain ⟨ia, hia⟩ : ∃ p, p = hasB (tB a) t := ⟨_, rfl⟩
                      obtain ⟨ib, hib⟩ : ∃ p, p = hasB (tB b) t := ⟨_, rfl⟩
                      obtain ⟨ic, hic⟩ : ∃ p, p = hasB (tB c) t := ⟨_, rfl⟩
                      simp only [← hia] at hHa
                      simp only [← hib] at hHb
                      simp only [← hic] at hHc
                      rw [← hia, ← hib, ← hic] at hs1 hs2
                      obtain ⟨n1, hn1⟩ : ∃ n, n = (meetB a bc l1).length := ⟨_, rfl⟩
                      obtain ⟨n2, hn2⟩ : ∃ n, n = (unionB mb mc).length := ⟨_, rfl⟩
                      obtain ⟨e1, he1⟩ : ∃ p, p = hasB (meetB a bc l1) t := ⟨_, rfl⟩
                      obtain ⟨e2, he2⟩ : ∃ p, p = hasB (unionB mb mc) t := ⟨_, rfl⟩
                      obtain ⟨i, hi⟩ : ∃ p, p = (ia && (ib || ic)) := ⟨_, rfl⟩
                      rw [← hn1, ← he1, ← hi] at hs1
                      rw [← hn2, ← he2, ← hi] at hs2
                      have Hoka := Lib.hid oka; have Hokb := Lib.hid okb; have Hokc := Lib.hid okc; have Hla8 := Lib.hid la8; have Hlb8 := Lib.hid lb8; have Hlc8 := Lib.hid lc8; have Hbc := Lib.hid hbc; have Hl1 := Lib.hid hl1; have Hlx := Lib.hid hlx; have Hly := Lib.hid hly; have Hmb := Lib.hid hmb; have Hmc := Lib.hid hmc; have Hua := Lib.hid hua; have Hla2 := Lib.hid hla2; have Hma := Lib.hid hma; have Hf := Lib.hid hf; have Hlf := Lib.hid hlf; have Hmf := Lib.hid hmf; have Hnbc := Lib.hid nbc; have Hnmb := Lib.hid nmb; have Hnmc := Lib.hid nmc; have Hnua := Lib.hid nua; have Hnma := Lib.hid nma; have Hnmf := Lib.hid nmf; have Hfa := Lib.hid hfa; have Hfo := Lib.hid hfo; have Hff := Lib.hid hff; have Hsu := Lib.hid hsu; have Hsm := Lib.hid hsm; have Hsf := Lib.hid hsf; have Ht := Lib.hid ht; have Hs1 := Lib.hid hs1; have Hs2 := Lib.hid hs2; have Hv1 := Lib.hid hv1; have HU := Lib.hid hU; have HMb := Lib.hid hMb; have HMc := Lib.hid hMc; have HMa := Lib.hid hMa; have HUa := Lib.hid hUa; have HHa := Lib.hid hHa; have HHb := Lib.hid hHb; have HHc := Lib.hid hHc; have Hia := Lib.hid hia; have Hib := Lib.hid hib; have Hic := Lib.hid hic; have Hn1 := Lib.hid hn1; have Hn2 := Lib.hid hn2; have He1 := Lib.hid he1; have He2 := Lib.hid he2; have Hi := Lib.hid hi; clear oka okb okc la8 lb8 lc8 hbc hl1 hlx hly hmb hmc hua hla2 hma hf hlf hmf nbc nmb nmc nua nma nmf hfa hfo hff hsu hsm hsf ht hs1 hs2 hv1 hU hMb hMc hMa hUa hHa hHb hHc hia hib hic hn1 hn2 he1 he2 hi
                      go_wp2_with fail
                      refine (HU.out _ Hbw3.out).mono ?_
                      rintro e w4 ⟨⟨o4, rfl, ho4⟩, hb4⟩
                      have hbw4 := Hbw3.out.trans (hb4.mono Hbw3.out.size)
                      have hM1 := meetSps_any (stays_slice stays_spn _ _ _ _ Hra.out hbw4) ho4 (by have := Hla8.out; omega) (by have := Hnbc.out; omega) (HD.out.below hbw4) Hl1.out
                      have Ho4 := Lib.hid ho4; have Hb4 := Lib.hid hb4; have Hbw4 := Lib.hid hbw4; have HM1 := Lib.hid hM1; clear ho4 hb4 hbw4 hM1
                      go_wp2_with fail
                      refine HM1.out.mono ?_
                      rintro e w5 ⟨⟨o5, rfl, ho5⟩, hb5⟩
                      obtain ⟨a5, c5, e5⟩ := sps_shape ho5
                      rw [← Hn1.out] at e5
                      subst e5
                      have hbw5 := Hbw4.out.trans (hb5.mono Hbw4.out.size)
                      have Ho5 := Lib.hid ho5; have Hb5 := Lib.hid hb5; have Hbw5 := Lib.hid hbw5; clear ho5 hb5 hbw5
                      go_wp2_with fail
                      refine (HMb.out _ Hbw5.out).mono ?_
                      rintro e w6 ⟨⟨o6, rfl, ho6⟩, hb6⟩
                      have hbw6 := Hbw5.out.trans (hb6.mono Hbw5.out.size)
                      have hr56 := stays_slice stays_spn _ _ _ _ Ho5.out hb6
                      have Ho6 := Lib.hid ho6; have Hb6 := Lib.hid hb6; have Hbw6 := Lib.hid hbw6; have Hr56 := Lib.hid hr56; clear ho6 hb6 hbw6 hr56
                      go_wp2_with fail
                      refine (HMc.out _ Hbw6.out).mono ?_
                      rintro e w7 ⟨⟨o7, rfl, ho7⟩, hb7⟩
                      have hbw7 := Hbw6.out.trans (hb7.mono Hbw6.out.size)
                      have hr57 := stays_slice stays_spn _ _ _ _ Hr56.out hb7
                      have hU2 := union_any (stays_slice stays_spn _ _ _ _ Ho6.out hb7) ho7 (by have := Hnmb.out; omega) (by have := Hnmc.out; omega) (HD.out.below hbw7)
                      have Ho7 := Lib.hid ho7; have Hb7 := Lib.hid hb7; have Hbw7 := Lib.hid hbw7; have Hr57 := Lib.hid hr57; have HU2 := Lib.hid hU2; clear ho7 hb7 hbw7 hr57 hU2
                      go_wp2_with fail
                      refine HU2.out.mono ?_
                      rintro e w8 ⟨⟨o8, rfl, ho8⟩, hb8⟩
                      obtain ⟨a8, c8, e8⟩ := sps_shape ho8
                      rw [← Hn2.out] at e8
                      subst e8
                      have hbw8 := Hbw7.out.trans (hb8.mono Hbw7.out.size)
                      have hr58 := stays_slice stays_spn _ _ _ _ Hr57.out hb8
                      have Ho8 := Lib.hid ho8; have Hb8 := Lib.hid hb8; have Hbw8 := Lib.hid hbw8; have Hr58 := Lib.hid hr58; clear ho8 hb8 hbw8 hr58
                      go_upto_region 10 with (fail)
                      go_cut [17] (fun x W => x = .bool i ∧ Below w8.heap.size w8 W)
                      case first =>
                        cases ia with
                        | false =>
                          go_wp2_with fail
                          refine (HHa.out _ Hbw8.out).mono ?_
                          rintro e w9 ⟨rfl, hb9⟩
                          have Hb9 := Lib.hid hb9; clear hb9
                          go_wp2_with fail
                          go_meet
                          exact ⟨by rw [Hi.out]; rfl, Hb9.out⟩
                        | true =>
                          go_wp2_with fail
                          refine (HHa.out _ Hbw8.out).mono ?_
                          rintro e w9 ⟨rfl, hb9⟩
                          have hbw9 := Hbw8.out.trans (hb9.mono Hbw8.out.size)
                          have Hb9 := Lib.hid hb9; have Hbw9 := Lib.hid hbw9; clear hb9 hbw9
                          cases ib with
                          | true =>
                            go_wp2_with fail
                            refine (HHb.out _ Hbw9.out).mono ?_
                            rintro e w10 ⟨rfl, hb10⟩
                            have hb11 := Hb9.out.trans (hb10.mono Hb9.out.size)
                            have Hb10 := Lib.hid hb10; have Hb11 := Lib.hid hb11; clear hb10 hb11
                            go_wp2_with fail
                            go_meet
                            exact ⟨by rw [Hi.out]; rfl, Hb11.out⟩
                          | false =>
                            go_wp2_with fail
                            refine (HHb.out _ Hbw9.out).mono ?_
                            rintro e w10 ⟨rfl, hb10⟩
                            have hb11 := Hb9.out.trans (hb10.mono Hb9.out.size)
                            have hbw10 := Hbw9.out.trans (hb10.mono Hbw9.out.size)
                            have Hb10 := Lib.hid hb10; have Hb11 := Lib.hid hb11; have Hbw10 := Lib.hid hbw10; clear hb10 hb11 hbw10
                            go_wp2_with fail
                            refine (HHc.out _ Hbw10.out).mono ?_
                            rintro e w12 ⟨rfl, hb12⟩
                            have hb13 := Hb11.out.trans (hb12.mono Hb11.out.size)
                            have Hb12 := Lib.hid hb12; have Hb13 := Lib.hid hb13; clear hb12 hb13
                            go_wp2_with fail
                            go_meet
                            exact ⟨by rw [Hi.out]; rfl, Hb13.out⟩
                      case rest =>
                        obtain ⟨rfl, hb9⟩ := hcut
                        obtain ⟨w9, hw9⟩ : ∃ W, W = wc := ⟨_, rfl⟩
                        rw [← hw9] at hb9 ⊢
                        clear hw9
                        have hbw9 := Hbw8.out.trans (hb9.mono Hbw8.out.size)
                        have hr59 := stays_slice stays_spn _ _ _ _ Hr58.out hb9
                        have hr89 := stays_slice stays_spn _ _ _ _ Ho8.out hb9
                        have hE1 := fun (W : World) (k : Below w9.heap.size w9 W) => spsHas_any (stays_slice stays_spn _ _ _ _ hr59 k) (smallB_meet _ _ _) v Hv1.out (HD.out.below (hbw9.trans (k.mono hbw9.size)))
                        have hE2 := fun (W : World) (k : Below w9.heap.size w9 W) => spsHas_any (stays_slice stays_spn _ _ _ _ hr89 k) (smallB_union _ _) v Hv1.out (HD.out.below (hbw9.trans (k.mono hbw9.size)))
                        simp only [← Ht.out, ← He1.out] at hE1
                        simp only [← Ht.out, ← He2.out] at hE2
                        try rw [← Hn1.out] at hr59
                        try rw [← Hn2.out] at hr89
                        have Hb9 := Lib.hid hb9; have Hbw9 := Lib.hid hbw9; have Hr59 := Lib.hid hr59; have Hr89 := Lib.hid hr89; have HE1 := Lib.hid hE1; have HE2 := Lib.hid hE2; clear hb9 hbw9 hr59 hr89 hE1 hE2
                        go_upto_region 11 with (fail)
                        go_cut [131] (fun x W => x = .bool false ∧ Below w9.heap.size w9 W)
                        case first =>
                          obtain ⟨q1, j1⟩ : ∃ p, decide ((n1 : Int) < (16 : Int)) = p := ⟨_, rfl⟩
                          obtain ⟨q2, j2⟩ : ∃ p, decide ((n2 : Int) < (16 : Int)) = p := ⟨_, rfl⟩
                          cases q1 with
                          | false =>
                            go_wp2_with fail
                            go_meet
                            exact ⟨rfl, Below.refl _ _⟩
                          | true =>
                            cases q2 with
                            | false =>
                              go_wp2_with fail
                              go_meet
                              exact ⟨rfl, Below.refl _ _⟩
                            | true =>
                              by_cases z1 : n1 = 0
                              · subst z1
                                obtain ⟨d1, x1⟩ : ∃ p, (e1 == i) = p := ⟨_, rfl⟩
                                have v1 : (e1 != i) = !d1 := by rw [bne, x1]
                                by_cases z2 : n2 = 0
                                · subst z2
                                  obtain ⟨d2, x2⟩ : ∃ p, (e2 == i) = p := ⟨_, rfl⟩
                                  have v2 : (e2 != i) = !d2 := by rw [bne, x2]
                                  cases d1 <;> cases d2
                                  all_goals
                                    go_wp2_with fail
                                    refine (HE1.out _ (Below.refl _ _)).mono ?_
                                    rintro e w10 ⟨rfl, hb10⟩
                                    have Hb10 := Lib.hid hb10; clear hb10
                                    go_wp2_with fail
                                    refine (HE2.out _ Hb10.out).mono ?_
                                    rintro e w11 ⟨rfl, hb11⟩
                                    have hb12 := Hb10.out.trans (hb11.mono Hb10.out.size)
                                    have Hb11 := Lib.hid hb11; have Hb12 := Lib.hid hb12; clear hb11 hb12
                                    go_wp2_with fail
                                    all_goals (go_meet; exact ⟨rfl, Hb12.out⟩)
                                · have x2 : (e2 == i) = true := by rw [Hs2.out z2]; simp
                                  have v2 : (e2 != i) = false := by rw [bne, x2]; rfl
                                  cases d1
                                  all_goals
                                    go_wp2_with fail
                                    refine (HE1.out _ (Below.refl _ _)).mono ?_
                                    rintro e w10 ⟨rfl, hb10⟩
                                    have Hb10 := Lib.hid hb10; clear hb10
                                    go_wp2_with fail
                                    refine (HE2.out _ Hb10.out).mono ?_
                                    rintro e w11 ⟨rfl, hb11⟩
                                    have hb12 := Hb10.out.trans (hb11.mono Hb10.out.size)
                                    have Hb11 := Lib.hid hb11; have Hb12 := Lib.hid hb12; clear hb11 hb12
                                    go_wp2_with fail
                                    all_goals (go_meet; exact ⟨rfl, Hb12.out⟩)
                              · have x1 : (e1 == i) = true := by rw [Hs1.out z1]; simp
                                have v1 : (e1 != i) = false := by rw [bne, x1]; rfl
                                by_cases z2 : n2 = 0
                                · subst z2
                                  obtain ⟨d2, x2⟩ : ∃ p, (e2 == i) = p := ⟨_, rfl⟩
                                  have v2 : (e2 != i) = !d2 := by rw [bne, x2]
                                  cases d2
                                  all_goals
                                    go_wp2_with fail
                                    refine (HE1.out _ (Below.refl _ _)).mono ?_
                                    rintro e w10 ⟨rfl, hb10⟩
                                    have Hb10 := Lib.hid hb10; clear hb10
                                    go_wp2_with fail
                                    refine (HE2.out _ Hb10.out).mono ?_
                                    rintro e w11 ⟨rfl, hb11⟩
                                    have hb12 := Hb10.out.trans (hb11.mono Hb10.out.size)
                                    have Hb11 := Lib.hid hb11; have Hb12 := Lib.hid hb12; clear hb11 hb12
                                    go_wp2_with fail
                                    all_goals (go_meet; exact ⟨rfl, Hb12.out⟩)
                                · have x2 : (e2 == i) = true := by rw [Hs2.out z2]; simp
                                  have v2 : (e2 != i) = false := by rw [bne, x2]; rfl
                                  go_wp2_with fail
                                  refine (HE1.out _ (Below.refl _ _)).mono ?_
                                  rintro e w10 ⟨rfl, hb10⟩
                                  have Hb10 := Lib.hid hb10; clear hb10
                                  go_wp2_with fail
                                  refine (HE2.out _ Hb10.out).mono ?_
                                  rintro e w11 ⟨rfl, hb11⟩
                                  have hb12 := Hb10.out.trans (hb11.mono Hb10.out.size)
                                  have Hb11 := Lib.hid hb11; have Hb12 := Lib.hid hb12; clear hb11 hb12
                                  go_wp2_with fail
                                  all_goals (go_meet; exact ⟨rfl, Hb12.out⟩)
                        case rest =>
                          obtain ⟨rfl, hb10⟩ := hcut
                          obtain ⟨w10, hw10⟩ : ∃ W, W = wc := ⟨_, rfl⟩
                          rw [← hw10] at hb10 ⊢
                          clear hw10
                          have hbw10 := Hbw9.out.trans (hb10.mono Hbw9.out.size)
                          have Hb10 := Lib.hid hb10; have Hbw10 := Lib.hid hbw10; clear hb10 hbw10
                          go_wp2_with fail
                          refine (HF.out _ Hbw10.out).mono ?_
                          rintro e w11 ⟨rfl, hb11⟩
                          have hbw11 := Hbw10.out.trans (hb11.mono Hbw10.out.size)
                          have Hb11 := Lib.hid hb11; have Hbw11 := Lib.hid hbw11; clear hb11 hbw11
                          go_wp2_with fail
                          refine (HUa.out _ Hbw11.out).mono ?_
                          rintro e w12 ⟨⟨o12, rfl, ho12⟩, hb12⟩
                          have hbw12 := Hbw11.out.trans (hb12.mono Hbw11.out.size)
                          have hS1 := spsSame_any ho12 (stays_slice stays_spn _ _ _ _ Hra.out hbw12) (by have := Hnua.out; omega) (by have := Hla8.out; omega) (HD.out.below hbw12) Hsu.out.1 Hoka.out Hsu.out.2
                          have Ho12 := Lib.hid ho12; have Hb12 := Lib.hid hb12; have Hbw12 := Lib.hid hbw12; have HS1 := Lib.hid hS1; clear ho12 hb12 hbw12 hS1
                          go_wp2_with fail
                          refine HS1.out.mono ?_
                          rintro e w13 ⟨rfl, hb13⟩
                          have hbw13 := Hbw12.out.trans (hb13.mono Hbw12.out.size)
                          have Hb13 := Lib.hid hb13; have Hbw13 := Lib.hid hbw13; clear hb13 hbw13
                          go_wp2_with fail
                          refine (HMa.out _ Hbw13.out).mono ?_
                          rintro e w14 ⟨⟨o14, rfl, ho14⟩, hb14⟩
                          have hbw14 := Hbw13.out.trans (hb14.mono Hbw13.out.size)
                          have hS2 := spsSame_any ho14 (stays_slice stays_spn _ _ _ _ Hra.out hbw14) (by have := Hnma.out; omega) (by have := Hla8.out; omega) (HD.out.below hbw14) Hsm.out.1 Hoka.out Hsm.out.2
                          have Ho14 := Lib.hid ho14; have Hb14 := Lib.hid hb14; have Hbw14 := Lib.hid hbw14; have HS2 := Lib.hid hS2; clear ho14 hb14 hbw14 hS2
                          go_wp2_with fail
                          refine HS2.out.mono ?_
                          rintro e w15 ⟨rfl, hb15⟩
                          have hbw15 := Hbw14.out.trans (hb15.mono Hbw14.out.size)
                          obtain ⟨w16, hw16⟩ : ∃ W, W = w15.alloc (.cells #[.string ⟨#[]⟩, .string ⟨#[]⟩] 34) := ⟨_, rfl⟩
                          obtain ⟨g16, hg16⟩ : ∃ g, g = w15.heap.size := ⟨_, rfl⟩
                          have hb16 : Below w15.heap.size w15 w16 := by rw [hw16]; exact below_alloc1 _ _
                          have hbw16 := hbw15.trans (hb16.mono hbw15.size)
                          have hrf : RSps w16 [.slice (some ⟨g16, 0, none⟩) 1 1] (tB f) := by
                            rw [hw16, hg16, Hf.out]
                            exact sps_reads (B := w15.heap.size) (fun x hx => by have := smallB_tB _ x hx; unfold maxLen; omega) (World.ownsRow_lit (base := w15.heap.size) (e := 34) (size := 2) w15 #[.string ⟨#[]⟩, .string ⟨#[]⟩] 1 (Nat.le_refl _) (by decide) rfl)
                          have hMf := meetSps_any (stays_slice stays_spn _ _ _ _ Hra.out hbw16) hrf (by have := Hla8.out; omega) (by rw [Hf.out]; decide) (HD.out.below hbw16) Hlf.out
                          have Hb15 := Lib.hid hb15; have Hbw15 := Lib.hid hbw15; have Hb16 := Lib.hid hb16; have Hbw16 := Lib.hid hbw16; have Hrf := Lib.hid hrf; have HMf := Lib.hid hMf; clear hb15 hbw15 hb16 hbw16 hrf hMf
                          go_wp2_with fail
                          rw [← hw16, ← hg16]
                          clear hw16 hg16
                          refine HMf.out.mono ?_
                          rintro e w17 ⟨⟨o17, rfl, ho17⟩, hb17⟩
                          rw [← Hmf.out] at ho17
                          have hbw17 := Hbw16.out.trans (hb17.mono Hbw16.out.size)
                          have hS3 := spsSame_any ho17 (stays_slice stays_spn _ _ _ _ Hra.out hbw17) (by have := Hnmf.out; omega) (by have := Hla8.out; omega) (HD.out.below hbw17) Hsf.out.1 Hoka.out Hsf.out.2
                          have Ho17 := Lib.hid ho17; have Hb17 := Lib.hid hb17; have Hbw17 := Lib.hid hbw17; have HS3 := Lib.hid hS3; clear ho17 hb17 hbw17 hS3
                          go_wp2_with fail
                          refine HS3.out.mono ?_
                          rintro e w18 ⟨rfl, hb18⟩
                          have hbw18 := Hbw17.out.trans (hb18.mono Hbw17.out.size)
                          have Hb18 := Lib.hid hb18; have Hbw18 := Lib.hid hbw18; clear hb18 hbw18
                          go_wp2_with fail
                          go_ret
                          exact ⟨rfl, Hbw18.out⟩
end Go.Proofs.YteailgjiifdgcaaGreatDoor
