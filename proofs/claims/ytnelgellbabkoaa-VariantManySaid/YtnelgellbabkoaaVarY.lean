/- The walk of cooperlaw04.VariantMany: it returns true. No condition. -/
import Derived.Test.YtnelgellbabkoaaVarQ
import Derived.Test.YtnelgellbabkoaaVarW
import Derived.Test.YtnelgellbabkoaaVarX
namespace Go.Proofs.Ytnelgellbabkoaa
open Go.RowKit Go.Shelf
attribute [local go_sem ↓] Go.wp_at_zero Go.wp_at_succ

/-- the world in the loops: what was there, and the variant's box -/
structure In3 (W0 : World) (vb : Nat) (bc : Array Value) (w : World) : Prop where
  bel : Below W0.heap.size W0 w
  box : w.heap[vb]? = some (.cells bc 35 (0, 0))
theorem In3.alloc {W0 w : World} {vb : Nat} {bc : Array Value} (h : In3 W0 vb bc w) (o : Obj) : In3 W0 vb bc (w.alloc o) := ⟨h.bel.alloc h.bel.size o, heap_below (below_alloc1 w o) h.box⟩
theorem In3.drew {W0 w : World} {vb : Nat} {bc : Array Value} (h : In3 W0 vb bc w) (q : Nat) : In3 W0 vb bc (w.drewN q) := ⟨bel_drewN h.bel q, h.box⟩
theorem allok_succ {wish : List Setg} {s y : ByteArray} {k : Nat} (h : k < wish.length) : okAt (wish.take (k + 1)) s y = (okAt (wish.take k) s y && (!decide (wish[k].1 = s) || decide (wish[k].2 = y))) := by
  unfold okAt
  rw [List.take_succ_eq_append_getElem h, List.all_append]; simp
theorem countv_succ {wish : List Setg} {s : ByteArray} {ys : List ByteArray} {k : Nat} (h : k < ys.length) : (ys.take (k + 1)).countP (okAt wish s) = (ys.take k).countP (okAt wish s) + (if okAt wish s ys[k] then 1 else 0) := by
  rw [List.take_succ_eq_append_getElem h, List.countP_append]; simp
theorem countn_succ {wish : List Setg} {s : ByteArray} {k : Nat} (h : k < wish.length) : (wish.take (k + 1)).countP (fun x => decide (x.1 = s)) = (wish.take k).countP (fun x => decide (x.1 = s)) + (if wish[k].1 = s then 1 else 0) := by
  rw [List.take_succ_eq_append_getElem h, List.countP_append]; simp
theorem countm_succ {wish : List Setg} {L : List (List Setg)} {k : Nat} (h : k < L.length) : (L.take (k + 1)).countP (fun f => meetsOf f wish) = (L.take k).countP (fun f => meetsOf f wish) + (if meetsOf L[k] wish then 1 else 0) := by
  rw [List.take_succ_eq_append_getElem h, List.countP_append]; simp
set_option maxRecDepth 10000 in
set_option maxHeartbeats 8000000 in
theorem variantMany_true {w : World} {v u : Value} {l : List Var} {wish : List Setg} (h : RVars w [v] l) (hw : RSets w [u] wish) : Calls Try.prog 8 #[v, u] w fun e w' => e = .returned (.bool true) ∧ Below w.heap.size w w' := by
  have hG := greatVars_any h
  have hG2 := greatSets_any hw
  have hF := fun W => fixed04 W
  have hM := mayRef_any h
  have hW := fun (W : World) (hb : Below w.heap.size w W) => wishRef_any (stays_slice stays_set _ _ _ _ hw hb)
  have hA1 := fun (W : World) (hb : Below w.heap.size w W) => all_any (stays_slice stays_var _ _ _ _ h hb)
  have hR := fun (W : World) (hb : Below w.heap.size w W) => stays_slice stays_set _ _ _ _ hw hb
  have hsz := allOf_sizes h
  obtain ⟨a, cap, rfl, hz, g⟩ := vars_open h
  obtain ⟨a2, cap2, rfl, hz2, g2⟩ := sets_open hw
  obtain ⟨n, hn⟩ : ∃ n, n = l.length := ⟨_, rfl⟩
  obtain ⟨wn, hwn⟩ : ∃ n, n = wish.length := ⟨_, rfl⟩
  rw [← hn] at hz h hG hM hA1
  rw [← hwn] at hz2 hw hG2 hW hR
  rw [← hn, ← hwn]
  have Hh := Lib.hid h; have Hw := Lib.hid hw; have Hg := Lib.hid g; have Hg2 := Lib.hid g2; have Hn := Lib.hid hn; have Hwn := Lib.hid hwn; have HG := Lib.hid hG; have HG2 := Lib.hid hG2; have HF := Lib.hid hF; have HM := Lib.hid hM; have HW := Lib.hid hW; have HA1 := Lib.hid hA1; have HR := Lib.hid hR; have Hsz := Lib.hid hsz; clear h hw g g2 hn hwn hG hG2 hF hM hW hA1 hR hsz
  go_enter Try.func8, Try.ntmps8
  go_wp2_with fail
  refine HG.out.mono ?_
  rintro e w0 ⟨⟨r, rfl, hr⟩, rfl⟩
  cases r with
  | true =>
    clear hr
    go_wp2_with fail
    refine (HF.out _).mono ?_
    rintro e w1 ⟨rfl, hb⟩
    have Hb := Lib.hid hb; clear hb
    go_wp2_with fail
    go_ret
    exact ⟨rfl, Hb.out⟩
  | false =>
    clear hr
    go_wp2_with fail
    refine HG2.out.mono ?_
    rintro e w0 ⟨⟨r, rfl, hr⟩, rfl⟩
    cases r with
    | true =>
      clear hr
      go_wp2_with fail
      refine (HF.out _).mono ?_
      rintro e w1 ⟨rfl, hb⟩
      have Hb := Lib.hid hb; clear hb
      go_wp2_with fail
      go_ret
      exact ⟨rfl, Hb.out⟩
    | false =>
      have hw50 := hr rfl
      clear hr
      go_wp2_with fail
      refine HM.out.mono ?_
      rintro e w1 ⟨rfl, q, rfl⟩
      have hb1 : Below w.heap.size w (w.drewN q) := bel_drewN (Below.refl _ _) q
      cases hmay : mayOf l with
      | false =>
        have Hb1 := Lib.hid hb1; have Hmay := Lib.hid hmay; clear hb1 hmay
        go_wp2_with fail
        refine (HF.out _).mono ?_
        rintro e w3 ⟨rfl, hb3⟩
        have hb4 := Hb1.out.trans (hb3.mono Hb1.out.size)
        have Hb3 := Lib.hid hb3; have Hb4 := Lib.hid hb4; clear hb3 hb4
        go_wp2_with fail
        go_ret
        exact ⟨rfl, Hb4.out⟩
      | true =>
        have hW1 := HW.out _ hb1
        have Hb1 := Lib.hid hb1; have Hmay := Lib.hid hmay; have HW1 := Lib.hid hW1; clear hb1 hmay hW1
        go_wp2_with fail
        refine HW1.out.mono ?_
        rintro e w2 ⟨⟨r, rfl⟩, q2, rfl⟩
        have hb2 : Below w.heap.size w (w.drewN (q + q2)) := bel_drewN (Below.refl _ _) _
        cases r with
        | false =>
          have Hb2 := Lib.hid hb2; clear hb2
          go_wp2_with fail
          refine (HF.out _).mono ?_
          rintro e w3 ⟨rfl, hb3⟩
          have hb4 := Hb2.out.trans (hb3.mono Hb2.out.size)
          have Hb3 := Lib.hid hb3; have Hb4 := Lib.hid hb4; clear hb3 hb4
          go_wp2_with fail
          go_ret
          exact ⟨rfl, Hb4.out⟩
        | true =>
          have hA := fun W hb => HA1.out W hb Hmay.out
          have hsz2 := Hsz.out Hmay.out
          obtain ⟨hl4, hx4⟩ := may_parts Hmay.out
          have hpos : ∀ x ∈ l, 0 < x.2.length := fun x hx => (hx4 x hx).1
          have hpr : ∀ k, k ≤ n → prodOf wish (l.take k) ≤ 256 := fun k hk => Nat.le_trans (prod_le k (by have := Hn.out; omega)) (cnt_le Hmay.out k)
          have hnb : ∀ k, k ≤ n → namedOf wish (l.take k) ≤ 250 := fun k hk => Nat.le_trans (named_bd k (by have := Hn.out; omega)) (Nat.le_trans (Nat.mul_le_mul (by have := Hn.out; omega : k ≤ 5) (by have := Hwn.out; omega : wish.length ≤ 50)) (by decide))
          have hmany := many wish Hmay.out hpos
          have hw50' : wn ≤ 50 := by have := Hwn.out; omega
          have hn4 : n ≤ 4 := by have := Hn.out; omega
          have hN2 := cnt_le Hmay.out l.length
          rw [cnt_all] at hN2
          clear hl4 hw50
          have HA := Lib.hid hA; have Hsz2 := Lib.hid hsz2; have Hx4 := Lib.hid hx4; have Hpos := Lib.hid hpos; have Hpr := Lib.hid hpr; have Hnb := Lib.hid hnb; have Hmany := Lib.hid hmany; have HN2 := Lib.hid hN2; have Hb2 := Lib.hid hb2; clear hA hsz2 hx4 hpos hpr hnb hmany hN2 hb2
          go_wp2_with fail
          go_loopw [5, 6, 39] (fun c o i wr => ∃ k : Nat, k ≤ n ∧ i = .int .i64 k ∧ c = .int .i64 (prodOf wish (l.take k)) ∧ o = .int .i64 (namedOf wish (l.take k)) ∧ Below w.heap.size w wr) (fun _ _ i _ => n - (intOf i).toNat)
          case atStart => exact ⟨0, Nat.zero_le _, rfl, rfl, rfl, Hb2.out⟩
          case round =>
            obtain ⟨k, hk, rfl, rfl, rfl, hb⟩ := hrel
            have hB := hb.size
            have hc1 := Hpr.out k hk
            have hd1 := Hnb.out k hk
            by_cases hlt : k < n
            · have hkl : k < l.length := by have := Hn.out; omega
              obtain ⟨b, off, u, rfl, d0, d1, hsx, hu⟩ := Hg.out k hkl
              have e0 := cell_later hb d0
              have e1 := cell_later hb d1
              have hc2 := Hpr.out (k + 1) (by omega)
              have hd2 := Hnb.out (k + 1) (by omega)
              have hps := prodOf_succ (wish := wish) hkl
              have hns := namedOf_succ (wish := wish) hkl
              obtain ⟨x, hx⟩ : ∃ x, x = l[k] := ⟨_, rfl⟩
              rw [← hx] at e0 hu hsx hps hns
              have hxm := Hx4.out x (by rw [hx]; exact List.getElem_mem hkl)
              obtain ⟨ua, uc, rfl, hz3, g3⟩ := strs_open hu
              obtain ⟨m, hm⟩ : ∃ m, m = x.2.length := ⟨_, rfl⟩
              rw [← hm] at e1 hz3 hxm
              obtain ⟨s, hs⟩ : ∃ s, s = x.1 := ⟨_, rfl⟩
              rw [← hs] at e0 hsx
              obtain ⟨c, hc3⟩ : ∃ c, c = prodOf wish (l.take k) := ⟨_, rfl⟩
              obtain ⟨c2, hc4⟩ : ∃ c, c = prodOf wish (l.take (k + 1)) := ⟨_, rfl⟩
              obtain ⟨nm, hd3⟩ : ∃ c, c = namedOf wish (l.take k) := ⟨_, rfl⟩
              obtain ⟨nm2, hd4⟩ : ∃ c, c = namedOf wish (l.take (k + 1)) := ⟨_, rfl⟩
              obtain ⟨nk, hnk⟩ : ∃ c, c = nOk wish x := ⟨_, rfl⟩
              rw [← hc3] at hps hc1 ⊢
              rw [← hc4] at hps hc2
              rw [← hnk] at hps
              rw [← hd3] at hns hd1 ⊢
              rw [← hd4] at hns hd2
              have hnkb : nk ≤ m := by rw [hnk, hm]; exact List.countP_le_length
              have hmul : (c : Int) * (nk : Int) = (c2 : Int) := by rw [hps, Int.natCast_mul]
              have hwr : IntKind.i64.wrap ((c : Int) * (nk : Int)) = (c2 : Int) := by rw [hmul]; exact IntWalk.i64_in _ (by omega)
              have k5 : (0 : Int) ≤ (k : Int) := by omega
              have k6 : (k : Int) < (n : Int) := by omega
              have hin0 : In3 w wr.heap.size #[.string s, .slice ua m uc] (wr.alloc (.cells #[.string s, .slice ua m uc] 35)) := ⟨hb.alloc hB _, heap_alloc_new _ _⟩
              have hbwr := hb
              obtain ⟨vb, hvb⟩ : ∃ vb, vb = wr.heap.size := ⟨_, rfl⟩
              rw [← hvb] at hin0
              clear hx hkl d0 d1
              have Hu := Lib.hid hu; have Hb := Lib.hid hb; have Hbwr := Lib.hid hbwr; have Hm := Lib.hid hm; have Hs := Lib.hid hs; have Hps := Lib.hid hps; have Hns := Lib.hid hns; have Hc3 := Lib.hid hc3; have Hc4 := Lib.hid hc4; have Hd3 := Lib.hid hd3; have Hd4 := Lib.hid hd4; have Hnk := Lib.hid hnk; have Hmul := Lib.hid hmul; have Hin0 := Lib.hid hin0; have Hg3 := Lib.hid g3; clear hu hb hbwr hm hs hps hns hc3 hc4 hd3 hd4 hnk hmul hin0 g3
              go_wp2_with fail
              rw [← hvb]
              clear hvb
              go_loopw [9, 46] (fun o j w2 => ∃ i : Nat, i ≤ m ∧ j = .int .i64 i ∧ o = .int .i64 ((x.2.take i).countP (okAt wish s)) ∧ In3 w vb #[.string s, .slice ua m uc] w2) (fun _ j _ => m - (intOf j).toNat)
              case atStart => exact ⟨0, Nat.zero_le _, rfl, rfl, Hin0.out⟩
              case round =>
                obtain ⟨i, hi, rfl, rfl, hin⟩ := hrel
                by_cases hlt2 : i < m
                · have hil : i < x.2.length := by have := Hm.out; omega
                  obtain ⟨b3, off3, rfl, f0, hys⟩ := Hg3.out i hil
                  have f1 := cell_later hin.bel (by exact f0)
                  have hcs := countv_succ (wish := wish) (s := s) hil
                  obtain ⟨y, hy⟩ : ∃ y, y = x.2[i] := ⟨_, rfl⟩
                  rw [← hy] at f1 hys hcs
                  have hcb : (x.2.take i).countP (okAt wish s) ≤ i := Nat.le_trans List.countP_le_length (by rw [List.length_take]; omega)
                  obtain ⟨ci, hci⟩ : ∃ c, c = (x.2.take i).countP (okAt wish s) := ⟨_, rfl⟩
                  rw [← hci] at hcs hcb ⊢
                  have k7 : (0 : Int) ≤ (i : Int) := by omega
                  have k8 : (i : Int) < (m : Int) := by omega
                  clear hy hil f0 hys
                  have Hin := Lib.hid hin; have Hcs := Lib.hid hcs; have Hci := Lib.hid hci; clear hin hcs hci
                  go_wp2_with fail
                  go_loopw [12, 52] (fun o j w2 => ∃ t : Nat, t ≤ wn ∧ j = .int .i64 t ∧ o = .bool (okAt (wish.take t) s y) ∧ In3 w vb #[.string s, .slice (some ⟨b3, off3, none⟩) m uc] w2) (fun _ j _ => wn - (intOf j).toNat)
                  case atStart => exact ⟨0, Nat.zero_le _, rfl, by simp [okAt], Hin.out⟩
                  case round =>
                    obtain ⟨t, ht, rfl, rfl, hin3⟩ := hrel
                    by_cases hlt3 : t < wn
                    · have htl : t < wish.length := by have := Hwn.out; omega
                      obtain ⟨b4, off4, rfl, p0, p1, hps1, hps2⟩ := Hg2.out t _ (List.getElem?_eq_getElem htl)
                      have hos := allok_succ (s := s) (y := y) htl
                      obtain ⟨z, hz5⟩ : ∃ z, z = wish[t] := ⟨_, rfl⟩
                      rw [← hz5] at p0 p1 hps1 hps2 hos
                      obtain ⟨zn, hzn⟩ : ∃ a, a = z.1 := ⟨_, rfl⟩
                      obtain ⟨zv, hzv⟩ : ∃ a, a = z.2 := ⟨_, rfl⟩
                      rw [← hzn] at p0 hps1 hos
                      rw [← hzv] at p1 hps2 hos
                      have p2 := cell_later hin3.bel p0
                      have p3 := cell_later hin3.bel p1
                      have c0 := cells_at hin3.box 0
                      simp only [List.getElem?_toArray, List.getElem?_cons_zero] at c0
                      have cc0 : ∀ o : Obj, (wr.alloc o).cell? ⟨vb, 0, none⟩ = some (.string s) := fun o => ((Frm.refl _ wr).alloc o).keep c0
                      have hin4 := hin3.alloc (.cells #[.string zn, .string zv] 38)
                      obtain ⟨ok, hok⟩ : ∃ o, o = okAt (wish.take t) s y := ⟨_, rfl⟩
                      rw [← hok] at hos ⊢
                      have q1 := bytes_dec zn s
                      have q2 := bytes_dec zv y
                      have k9 : (0 : Int) ≤ (t : Int) := by omega
                      have k10 : (t : Int) < (wn : Int) := by omega
                      clear hz5 hzn hzv htl p0 p1
                      cases ok with
                      | false =>
                        have Hin3 := Lib.hid hin3; have Hin4 := Lib.hid hin4; have Hos := Lib.hid hos; have Hok := Lib.hid hok; clear hin3 hin4 hos hok
                        go_wp2_with fail
                        go_roundw
                        case rel => exact ⟨t + 1, by omega, by go_num, by rw [Hos.out]; rfl, Hin4.out⟩
                        case measure => simp [intOf]; omega
                      | true =>
                        by_cases e1 : zn = s
                        · rw [decide_eq_true e1] at q1 hos
                          by_cases e2 : zv = y
                          · rw [decide_eq_true e2] at q2 hos
                            clear e1 e2
                            have Hin3 := Lib.hid hin3; have Hin4 := Lib.hid hin4; have Hos := Lib.hid hos; have Hok := Lib.hid hok; clear hin3 hin4 hos hok
                            go_wp2_with fail
                            go_roundw
                            case rel => exact ⟨t + 1, by omega, by go_num, by rw [Hos.out]; rfl, Hin4.out⟩
                            case measure => simp [intOf]; omega
                          · rw [decide_eq_false e2] at q2 hos
                            clear e1 e2
                            have Hin3 := Lib.hid hin3; have Hin4 := Lib.hid hin4; have Hos := Lib.hid hos; have Hok := Lib.hid hok; clear hin3 hin4 hos hok
                            go_wp2_with fail
                            go_roundw
                            case rel => exact ⟨t + 1, by omega, by go_num, by rw [Hos.out]; rfl, Hin4.out⟩
                            case measure => simp [intOf]; omega
                        · rw [decide_eq_false e1] at q1 hos
                          clear e1 q2
                          have Hin3 := Lib.hid hin3; have Hin4 := Lib.hid hin4; have Hos := Lib.hid hos; have Hok := Lib.hid hok; clear hin3 hin4 hos hok
                          go_wp2_with fail
                          go_roundw
                          case rel => exact ⟨t + 1, by omega, by go_num, by rw [Hos.out]; simp, Hin4.out⟩
                          case measure => simp [intOf]; omega
                    · obtain rfl : wn = t := by omega
                      have e : wish.take wn = wish := List.take_of_length_le (by have := Hwn.out; omega)
                      rw [e]
                      have hcs2 := Hcs.out
                      clear e
                      cases hok : okAt wish s y with
                      | true =>
                        rw [hok] at hcs2
                        have Hin3 := Lib.hid hin3; have Hok := Lib.hid hok; have Hcs2 := Lib.hid hcs2; clear hin3 hok hcs2
                        go_wp2_with fail
                        go_roundw
                        case rel => exact ⟨i + 1, by omega, by go_num, by rw [Hcs2.out]; rfl, Hin3.out⟩
                        case measure => simp [intOf]; omega
                      | false =>
                        rw [hok] at hcs2
                        have Hin3 := Lib.hid hin3; have Hok := Lib.hid hok; have Hcs2 := Lib.hid hcs2; clear hin3 hok hcs2
                        go_wp2_with fail
                        go_roundw
                        case rel => exact ⟨i + 1, by omega, by go_num, by rw [Hcs2.out]; rfl, Hin3.out⟩
                        case measure => simp [intOf]; omega
                · obtain rfl : m = i := by omega
                  have e : x.2.take m = x.2 := List.take_of_length_le (by have := Hm.out; omega)
                  have e2 : (x.2.take m).countP (okAt wish s) = nk := by rw [e, Hnk.out, Hs.out]; rfl
                  rw [e2]
                  clear e e2
                  have Hin := Lib.hid hin; clear hin
                  go_wp2_with fail
                  go_loopw [6, 80] (fun o j w2 => ∃ t : Nat, t ≤ wn ∧ j = .int .i64 t ∧ o = .int .i64 ((nm + (wish.take t).countP (fun x => decide (x.1 = s)) : Nat) : Int) ∧ In3 w vb #[.string s, .slice ua m uc] w2) (fun _ j _ => wn - (intOf j).toNat)
                  case atStart => exact ⟨0, Nat.zero_le _, rfl, rfl, Hin.out⟩
                  case round =>
                    obtain ⟨t, ht, rfl, rfl, hin3⟩ := hrel
                    by_cases hlt3 : t < wn
                    · have htl : t < wish.length := by have := Hwn.out; omega
                      obtain ⟨b4, off4, rfl, p0, p1, hps1, hps2⟩ := Hg2.out t _ (List.getElem?_eq_getElem htl)
                      have hos := countn_succ (s := s) htl
                      obtain ⟨z, hz5⟩ : ∃ z, z = wish[t] := ⟨_, rfl⟩
                      rw [← hz5] at p0 p1 hps1 hps2 hos
                      obtain ⟨zn, hzn⟩ : ∃ a, a = z.1 := ⟨_, rfl⟩
                      obtain ⟨zv, hzv⟩ : ∃ a, a = z.2 := ⟨_, rfl⟩
                      rw [← hzn] at p0 hps1 hos
                      rw [← hzv] at p1 hps2
                      have p2 := cell_later hin3.bel p0
                      have p3 := cell_later hin3.bel p1
                      have c0 := cells_at hin3.box 0
                      simp only [List.getElem?_toArray, List.getElem?_cons_zero] at c0
                      have cc0 : ∀ o : Obj, (wr.alloc o).cell? ⟨vb, 0, none⟩ = some (.string s) := fun o => ((Frm.refl _ wr).alloc o).keep c0
                      have hin4 := hin3.alloc (.cells #[.string zn, .string zv] 38)
                      have hcb : (wish.take t).countP (fun x => decide (x.1 = s)) ≤ 50 := Nat.le_trans List.countP_le_length (by rw [List.length_take]; omega)
                      obtain ⟨ct, hct⟩ : ∃ c, c = nm + (wish.take t).countP (fun x => decide (x.1 = s)) := ⟨_, rfl⟩
                      have hctb : ct ≤ 300 := by omega
                      have q1 := bytes_dec zn s
                      have k9 : (0 : Int) ≤ (t : Int) := by omega
                      have k10 : (t : Int) < (wn : Int) := by omega
                      rw [← hct]
                      clear hz5 hzn hzv htl p0 p1 hcb
                      by_cases e1 : zn = s
                      · rw [decide_eq_true e1] at q1
                        have hnx : nm + (wish.take (t + 1)).countP (fun x => decide (x.1 = s)) = ct + 1 := by rw [hos, if_pos e1, hct]; omega
                        clear e1
                        have Hin3 := Lib.hid hin3; have Hin4 := Lib.hid hin4; have Hos := Lib.hid hos; have Hct := Lib.hid hct; have Hnx := Lib.hid hnx; clear hin3 hin4 hos hct hnx
                        go_wp2_with fail
                        go_roundw
                        case rel => exact ⟨t + 1, by omega, by go_num, by rw [Hnx.out]; rfl, Hin4.out⟩
                        case measure => simp [intOf]; omega
                      · rw [decide_eq_false e1] at q1
                        have hnx : nm + (wish.take (t + 1)).countP (fun x => decide (x.1 = s)) = ct := by rw [hos, if_neg e1, hct, Nat.add_zero]
                        clear e1
                        have Hin3 := Lib.hid hin3; have Hin4 := Lib.hid hin4; have Hos := Lib.hid hos; have Hct := Lib.hid hct; have Hnx := Lib.hid hnx; clear hin3 hin4 hos hct hnx
                        go_wp2_with fail
                        go_roundw
                        case rel => exact ⟨t + 1, by omega, by go_num, by rw [Hnx.out], Hin4.out⟩
                        case measure => simp [intOf]; omega
                    · obtain rfl : wn = t := by omega
                      have e : wish.take wn = wish := List.take_of_length_le (by have := Hwn.out; omega)
                      have e2 : nm + (wish.take wn).countP (fun x => decide (x.1 = s)) = nm2 := by rw [e, Hns.out, Hs.out]; rfl
                      rw [e2]
                      clear e e2
                      have hbl := hin3.bel
                      have Hin3 := Lib.hid hin3; have Hbl := Lib.hid hbl; clear hin3 hbl
                      go_wp2_with fail
                      go_roundw
                      case rel => exact ⟨k + 1, by omega, by go_num, by rw [← Hc4.out], by rw [← Hd4.out], Hbl.out⟩
                      case measure => simp [intOf]; omega
            · obtain rfl : n = k := by omega
              have e : l.take n = l := List.take_of_length_le (by have := Hn.out; omega)
              rw [e] at hc1 hd1 ⊢
              clear e
              obtain ⟨Pw, hPw⟩ : ∃ c, c = prodOf wish l := ⟨_, rfl⟩
              obtain ⟨Nm, hNm⟩ : ∃ c, c = namedOf wish l := ⟨_, rfl⟩
              rw [← hPw] at hc1 ⊢
              rw [← hNm] at hd1 ⊢
              have hmn := Hmany.out
              rw [← hPw, ← hNm, ← Hwn.out] at hmn
              have hAr := HA.out wr hb
              by_cases hless : Nm < wn
              · rw [if_pos hless] at hmn
                have k5 : decide ((Nm : Int) < (wn : Int)) = true := by rw [decide_eq_true_eq]; omega
                have HPw := Lib.hid hPw; have HNm := Lib.hid hNm; have Hmn := Lib.hid hmn; have Hb := Lib.hid hb; have HAr := Lib.hid hAr; clear hPw hNm hmn hb hAr
                go_wp2_with fail
                refine HAr.out.mono ?_
                rintro e w1 ⟨o, vs, rfl, hs, hb5⟩
                obtain ⟨N, hN⟩ : ∃ N, N = (allOf l).length := ⟨_, rfl⟩
                have hrow := hs.row
                rw [← hN] at hrow
                obtain ⟨oa, oc, rfl⟩ := own_shape hrow
                have hN3 : N ≤ 256 := by rw [hN]; exact HN2.out
                have hb6 := Hb.out.trans (hb5.mono hB)
                have Hs := Lib.hid hs; have Hb5 := Lib.hid hb5; have HN := Lib.hid hN; have Hrow := Lib.hid hrow; have Hb6 := Lib.hid hb6; clear hs hb5 hN hrow hb6
                go_wp2_with fail
                go_loopw [17, 100] (fun o i w2 => ∃ p : Nat, p ≤ N ∧ i = .int .i64 p ∧ o = .int .i64 (((allOf l).take p).countP (fun f => meetsOf f wish)) ∧ Below w1.heap.size w1 w2) (fun _ i _ => N - (intOf i).toNat)
                case atStart => exact ⟨0, Nat.zero_le _, rfl, rfl, Below.refl _ _⟩
                case round =>
                  obtain ⟨p, hp, rfl, rfl, hbp⟩ := hrel
                  have hBp := hbp.size
                  by_cases hlt : p < N
                  · have hpA : p < (allOf l).length := by rw [← HN.out]; exact hlt
                    have hpv : p < vs.length := by rw [Hs.out.len]; exact hpA
                    obtain ⟨og, ocap, hsh, _, _, _, _, hogcell⟩ := ownsRow_some Hrow.out (by omega)
                    simp only [Value.slice.injEq] at hsh
                    obtain ⟨rfl, hsh2, rfl⟩ := hsh
                    clear hsh2
                    have hcm := countm_succ (wish := wish) hpA
                    obtain ⟨f, hf⟩ : ∃ f, f = (allOf l)[p] := ⟨_, rfl⟩
                    rw [← hf] at hcm
                    obtain ⟨u2, hu2⟩ : ∃ u, u = vs[p] := ⟨_, rfl⟩
                    have hkf : (allOf l)[p]? = some f := by rw [hf]; exact List.getElem?_eq_getElem hpA
                    have hku : vs[p]? = some u2 := by rw [hu2]; exact List.getElem?_eq_getElem hpv
                    have hfr := Hs.out.rows p u2 f hku hkf
                    have dd := cell_later hbp (hogcell p _ hku)
                    have hrs := sets_reads (Hsz2.out f (List.mem_of_getElem? hkf)) hfr
                    have hMe := meets_any (stays_slice stays_set _ _ _ _ hrs hbp) (HR.out wr (Hb6.out.trans (hbp.mono Hb6.out.size)))
                    obtain ⟨fa, fc, rfl⟩ := own_shape hfr
                    obtain ⟨fn, hfn⟩ : ∃ n, n = f.length := ⟨_, rfl⟩
                    rw [← hfn] at dd hMe
                    have hcb : ((allOf l).take p).countP (fun f => meetsOf f wish) ≤ p := Nat.le_trans List.countP_le_length (by rw [List.length_take]; omega)
                    obtain ⟨cp, hcp⟩ : ∃ c, c = ((allOf l).take p).countP (fun f => meetsOf f wish) := ⟨_, rfl⟩
                    rw [← hcp] at hcm hcb ⊢
                    have k8 : (0 : Int) ≤ (p : Int) := by omega
                    have k9 : (p : Int) < (N : Int) := by omega
                    clear hf hu2 hogcell hku hpA hpv
                    cases hmf : meetsOf f wish with
                    | true =>
                      rw [hmf] at hMe hcm
                      have Hbp := Lib.hid hbp; have Hkf := Lib.hid hkf; have Hfr := Lib.hid hfr; have Hrs := Lib.hid hrs; have HMe := Lib.hid hMe; have Hfn := Lib.hid hfn; have Hcm := Lib.hid hcm; have Hcp := Lib.hid hcp; have Hmf := Lib.hid hmf; clear hbp hkf hfr hrs hMe hfn hcm hcp hmf
                      go_wp2_with fail
                      refine HMe.out.mono ?_
                      rintro e w4 ⟨rfl, hb7⟩
                      have hb8 := Hbp.out.trans (hb7.mono hBp)
                      have Hb7 := Lib.hid hb7; have Hb8 := Lib.hid hb8; clear hb7 hb8
                      go_wp2_with fail
                      go_roundw
                      case rel => exact ⟨p + 1, by omega, by go_num, by rw [Hcm.out]; rfl, Hb8.out⟩
                      case measure => simp [intOf]; omega
                    | false =>
                      rw [hmf] at hMe hcm
                      have Hbp := Lib.hid hbp; have Hkf := Lib.hid hkf; have Hfr := Lib.hid hfr; have Hrs := Lib.hid hrs; have HMe := Lib.hid hMe; have Hfn := Lib.hid hfn; have Hcm := Lib.hid hcm; have Hcp := Lib.hid hcp; have Hmf := Lib.hid hmf; clear hbp hkf hfr hrs hMe hfn hcm hcp hmf
                      go_wp2_with fail
                      refine HMe.out.mono ?_
                      rintro e w4 ⟨rfl, hb7⟩
                      have hb8 := Hbp.out.trans (hb7.mono hBp)
                      have Hb7 := Lib.hid hb7; have Hb8 := Lib.hid hb8; clear hb7 hb8
                      go_wp2_with fail
                      go_roundw
                      case rel => exact ⟨p + 1, by omega, by go_num, by rw [Hcm.out]; rfl, Hb8.out⟩
                      case measure => simp [intOf]; omega
                  · obtain rfl : N = p := by omega
                    have e : (allOf l).take N = allOf l := List.take_of_length_le (by rw [← HN.out]; exact Nat.le_refl _)
                    rw [e, Hmn.out]
                    have eW : ((((0 : Nat) : Int) : Int) == ((0 : Nat) : Int)) = true := by simp
                    have hbw := Hb6.out.trans (hbp.mono Hb6.out.size)
                    clear e
                    have Hbp := Lib.hid hbp; have Hbw := Lib.hid hbw; clear hbp hbw
                    go_wp2_with fail
                    refine (HF.out _).mono ?_
                    rintro e w3 ⟨rfl, hb3⟩
                    have hb4 := Hbw.out.trans (hb3.mono Hbw.out.size)
                    have Hb3 := Lib.hid hb3; have Hb4 := Lib.hid hb4; clear hb3 hb4
                    go_wp2_with fail
                    go_ret
                    exact ⟨rfl, Hb4.out⟩
              · rw [if_neg hless] at hmn
                have k5 : decide ((Nm : Int) < (wn : Int)) = false := by rw [decide_eq_false_iff_not]; omega
                have HPw := Lib.hid hPw; have HNm := Lib.hid hNm; have Hmn := Lib.hid hmn; have Hb := Lib.hid hb; have HAr := Lib.hid hAr; clear hPw hNm hmn hb hAr
                go_wp2_with fail
                refine HAr.out.mono ?_
                rintro e w1 ⟨o, vs, rfl, hs, hb5⟩
                obtain ⟨N, hN⟩ : ∃ N, N = (allOf l).length := ⟨_, rfl⟩
                have hrow := hs.row
                rw [← hN] at hrow
                obtain ⟨oa, oc, rfl⟩ := own_shape hrow
                have hN3 : N ≤ 256 := by rw [hN]; exact HN2.out
                have hb6 := Hb.out.trans (hb5.mono hB)
                have Hs := Lib.hid hs; have Hb5 := Lib.hid hb5; have HN := Lib.hid hN; have Hrow := Lib.hid hrow; have Hb6 := Lib.hid hb6; clear hs hb5 hN hrow hb6
                go_wp2_with fail
                go_loopw [17, 100] (fun o i w2 => ∃ p : Nat, p ≤ N ∧ i = .int .i64 p ∧ o = .int .i64 (((allOf l).take p).countP (fun f => meetsOf f wish)) ∧ Below w1.heap.size w1 w2) (fun _ i _ => N - (intOf i).toNat)
                case atStart => exact ⟨0, Nat.zero_le _, rfl, rfl, Below.refl _ _⟩
                case round =>
                  obtain ⟨p, hp, rfl, rfl, hbp⟩ := hrel
                  have hBp := hbp.size
                  by_cases hlt : p < N
                  · have hpA : p < (allOf l).length := by rw [← HN.out]; exact hlt
                    have hpv : p < vs.length := by rw [Hs.out.len]; exact hpA
                    obtain ⟨og, ocap, hsh, _, _, _, _, hogcell⟩ := ownsRow_some Hrow.out (by omega)
                    simp only [Value.slice.injEq] at hsh
                    obtain ⟨rfl, hsh2, rfl⟩ := hsh
                    clear hsh2
                    have hcm := countm_succ (wish := wish) hpA
                    obtain ⟨f, hf⟩ : ∃ f, f = (allOf l)[p] := ⟨_, rfl⟩
                    rw [← hf] at hcm
                    obtain ⟨u2, hu2⟩ : ∃ u, u = vs[p] := ⟨_, rfl⟩
                    have hkf : (allOf l)[p]? = some f := by rw [hf]; exact List.getElem?_eq_getElem hpA
                    have hku : vs[p]? = some u2 := by rw [hu2]; exact List.getElem?_eq_getElem hpv
                    have hfr := Hs.out.rows p u2 f hku hkf
                    have dd := cell_later hbp (hogcell p _ hku)
                    have hrs := sets_reads (Hsz2.out f (List.mem_of_getElem? hkf)) hfr
                    have hMe := meets_any (stays_slice stays_set _ _ _ _ hrs hbp) (HR.out wr (Hb6.out.trans (hbp.mono Hb6.out.size)))
                    obtain ⟨fa, fc, rfl⟩ := own_shape hfr
                    obtain ⟨fn, hfn⟩ : ∃ n, n = f.length := ⟨_, rfl⟩
                    rw [← hfn] at dd hMe
                    have hcb : ((allOf l).take p).countP (fun f => meetsOf f wish) ≤ p := Nat.le_trans List.countP_le_length (by rw [List.length_take]; omega)
                    obtain ⟨cp, hcp⟩ : ∃ c, c = ((allOf l).take p).countP (fun f => meetsOf f wish) := ⟨_, rfl⟩
                    rw [← hcp] at hcm hcb ⊢
                    have k8 : (0 : Int) ≤ (p : Int) := by omega
                    have k9 : (p : Int) < (N : Int) := by omega
                    clear hf hu2 hogcell hku hpA hpv
                    cases hmf : meetsOf f wish with
                    | true =>
                      rw [hmf] at hMe hcm
                      have Hbp := Lib.hid hbp; have Hkf := Lib.hid hkf; have Hfr := Lib.hid hfr; have Hrs := Lib.hid hrs; have HMe := Lib.hid hMe; have Hfn := Lib.hid hfn; have Hcm := Lib.hid hcm; have Hcp := Lib.hid hcp; have Hmf := Lib.hid hmf; clear hbp hkf hfr hrs hMe hfn hcm hcp hmf
                      go_wp2_with fail
                      refine HMe.out.mono ?_
                      rintro e w4 ⟨rfl, hb7⟩
                      have hb8 := Hbp.out.trans (hb7.mono hBp)
                      have Hb7 := Lib.hid hb7; have Hb8 := Lib.hid hb8; clear hb7 hb8
                      go_wp2_with fail
                      go_roundw
                      case rel => exact ⟨p + 1, by omega, by go_num, by rw [Hcm.out]; rfl, Hb8.out⟩
                      case measure => simp [intOf]; omega
                    | false =>
                      rw [hmf] at hMe hcm
                      have Hbp := Lib.hid hbp; have Hkf := Lib.hid hkf; have Hfr := Lib.hid hfr; have Hrs := Lib.hid hrs; have HMe := Lib.hid hMe; have Hfn := Lib.hid hfn; have Hcm := Lib.hid hcm; have Hcp := Lib.hid hcp; have Hmf := Lib.hid hmf; clear hbp hkf hfr hrs hMe hfn hcm hcp hmf
                      go_wp2_with fail
                      refine HMe.out.mono ?_
                      rintro e w4 ⟨rfl, hb7⟩
                      have hb8 := Hbp.out.trans (hb7.mono hBp)
                      have Hb7 := Lib.hid hb7; have Hb8 := Lib.hid hb8; clear hb7 hb8
                      go_wp2_with fail
                      go_roundw
                      case rel => exact ⟨p + 1, by omega, by go_num, by rw [Hcm.out]; rfl, Hb8.out⟩
                      case measure => simp [intOf]; omega
                  · obtain rfl : N = p := by omega
                    have e : (allOf l).take N = allOf l := List.take_of_length_le (by rw [← HN.out]; exact Nat.le_refl _)
                    rw [e, Hmn.out]
                    have eW : (((Pw : Int) : Int) == (Pw : Int)) = true := by simp
                    have hbw := Hb6.out.trans (hbp.mono Hb6.out.size)
                    clear e
                    have Hbp := Lib.hid hbp; have Hbw := Lib.hid hbw; clear hbp hbw
                    go_wp2_with fail
                    refine (HF.out _).mono ?_
                    rintro e w3 ⟨rfl, hb3⟩
                    have hb4 := Hbw.out.trans (hb3.mono Hbw.out.size)
                    have Hb3 := Lib.hid hb3; have Hb4 := Lib.hid hb4; clear hb3 hb4
                    go_wp2_with fail
                    go_ret
                    exact ⟨rfl, Hb4.out⟩
end Go.Proofs.Ytnelgellbabkoaa
