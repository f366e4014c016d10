/- The walk of cooperref12.Form: a clause's form. Condition: at most a thousand literals. -/
import Derived.Test.YtnelgellbabkoaaCnfH
import Derived.Test.YtnelgellbabkoaaApp
namespace Go.Proofs.Ytnelgellbabkoaa
open Go.RowKit Go.Lib Go.Sort
open CnfM (InR rgo place ab neg wrong form)

theorem elem_int' : Elem Try.prog 22 3 (.int .i64 0) 1 8 := ⟨Try.underlying22, by kernel_rfl, rfl, by decide⟩
/-- what the loop keeps -/
structure RGo (w0 : World) (l : List Int) (k : Nat) (out : List Int) (o : Value) (w : World) : Prop where
  own : w.ownsRow w0.heap.size 3 1 o out.length (out.map intv)
  go : rgo out (l.drop k) = form l
  ok : ∀ y ∈ out, InR y ∧ wrong y = false
  len : out.length ≤ k
  bel : Below w0.heap.size w0 w
  sh : ∃ g cap, o = .slice (some ⟨g, 0, none⟩) out.length cap ∧ out.length ≤ cap ∧ cap ≤ 9223372036854775807 ∧ g < w.heap.size
theorem RGo.drewN {w0 w : World} {l : List Int} {k : Nat} {out : List Int} {o : Value} (h : RGo w0 l k out o w) (n : Nat) : RGo w0 l k out o (w.drewN n) := ⟨h.own, h.go, h.ok, h.len, bel_drewN h.bel n, h.sh⟩
theorem RGo.alloc {w0 w : World} {l : List Int} {k : Nat} {out : List Int} {o : Value} (h : RGo w0 l k out o w) (x : Obj) : RGo w0 l k out o (w.alloc x) := ⟨h.own.alloc x, h.go, h.ok, h.len, h.bel.alloc h.bel.size x, by obtain ⟨g, cap, h1, h2, h3, h4⟩ := h.sh; exact ⟨g, cap, h1, h2, h3, by simp; omega⟩⟩
/-- another row grows -/
theorem RGo.app {w0 w w' : World} {l : List Int} {k : Nat} {out : List Int} {g n cap base : Nat} {e : TypeId} {v : Value} {m : Nat} {xs : List Value} (h : RGo w0 l k out (.slice (some ⟨g, 0, none⟩) n cap) w) (hgb : g < base) (hB : w0.heap.size ≤ base) (hown : w.ownsRow base e 1 v m xs) (hg : w.grownBy w' v.ownBlock) : RGo w0 l k out (.slice (some ⟨g, 0, none⟩) n cap) w' where
  own := h.own.kept hg (.inr (fun e => by have := (hown.lt g e.symm).1; omega))
  go := h.go
  ok := h.ok
  len := h.len
  bel := bel_own h.bel hown hB hg h.bel.size
  sh := by obtain ⟨g', cap', h1, h2, h3, h4⟩ := h.sh; exact ⟨g', cap', h1, h2, h3, by have := hg.size; omega⟩
/-- the next one -/
theorem RGo.next {w0 w w' : World} {l : List Int} {k : Nat} {out out' : List Int} {o : Value} {g cap B : Nat} (h : RGo w0 l k out o w) (hown : w'.ownsRow B 3 1 (.slice (some ⟨g, 0, none⟩) out'.length cap) out'.length (out'.map intv)) (hB : w0.heap.size ≤ B) (hgo : rgo out' (l.drop (k + 1)) = form l) (hok : ∀ y ∈ out', InR y ∧ wrong y = false) (hlen : out'.length ≤ k + 1) (hbel : Below w0.heap.size w0 w') : RGo w0 l (k + 1) out' (.slice (some ⟨g, 0, none⟩) out'.length cap) w' where
  own := ownsRow_mono hown hB
  go := hgo
  ok := hok
  len := hlen
  bel := hbel
  sh := by
    have hh : out'.length ≤ cap ∧ cap ≤ 9223372036854775807 := by
      rcases hown.2 with ⟨h1, _⟩ | ⟨g', cap', cur, h1, _, _, hn, hm, _⟩
      · cases h1
      · simp at h1; obtain ⟨_, rfl⟩ := h1; exact ⟨hn, by unfold maxLen at hm; omega⟩
    exact ⟨g, cap, rfl, hh.1, hh.2, (hown.lt g rfl).2⟩
theorem rgo_ins {out : List Int} {x : Int} {r : List Int} (hw : wrong x = false) (h : ∀ (hp : place out x < out.length), out[place out x] ≠ neg x ∧ out[place out x] ≠ x) : rgo out (x :: r) = rgo (out.take (place out x) ++ x :: out.drop (place out x)) r := by
  have hg : ∀ (hp : place out x < out.length), out.getD (place out x) 0 = out[place out x] := fun hp => by rw [List.getD_eq_getElem?_getD, List.getElem?_eq_getElem hp]; rfl
  rw [rgo, if_neg (by rw [hw]; simp), if_neg (fun ⟨hp, e⟩ => (h hp).1 (by rw [← hg hp]; exact e)), if_neg (fun ⟨hp, e⟩ => (h hp).2 (by rw [← hg hp]; exact e))]
theorem rgo_opp {out : List Int} {x : Int} {r : List Int} (hw : wrong x = false) (hp : place out x < out.length) (h : out[place out x] = neg x) : rgo out (x :: r) = ([], false) := by
  have hg : out.getD (place out x) 0 = out[place out x] := by rw [List.getD_eq_getElem?_getD, List.getElem?_eq_getElem hp]; rfl
  rw [rgo, if_neg (by rw [hw]; simp), if_pos ⟨hp, by rw [hg]; exact h⟩]
theorem rgo_same {out : List Int} {x : Int} {r : List Int} (hw : wrong x = false) (hp : place out x < out.length) (h0 : out[place out x] ≠ neg x) (h : out[place out x] = x) : rgo out (x :: r) = rgo out r := by
  have hg : out.getD (place out x) 0 = out[place out x] := by rw [List.getD_eq_getElem?_getD, List.getElem?_eq_getElem hp]; rfl
  rw [rgo, if_neg (by rw [hw]; simp), if_neg (fun ⟨hp, e⟩ => h0 (by rw [← hg]; exact e)), if_pos ⟨hp, by rw [hg]; exact h⟩]
theorem one_cells (l : List Int) : ∀ u ∈ l.map intv, u.oneCell' = true := by
  intro u hu; obtain ⟨y, _, rfl⟩ := List.mem_map.1 hu; rfl
/-- the cells of a part of a row -/
theorem part_cells {w : World} {B : Nat} {g cap n : Nat} {l : List Int} (h : w.ownsRow B 3 1 (.slice (some ⟨g, 0, none⟩) n cap) n (l.map intv)) (a : Nat) (m : List Int) (hm : ∀ j x, m[j]? = some x → l[a + j]? = some x) : ∀ j u, (m.map intv)[j]? = some u → ∃ b off, (some ⟨g, a, none⟩ : Option Addr) = some ⟨b, off, none⟩ ∧ w.cell? ⟨b, off + j, none⟩ = some u := by
  intro j u hu
  rw [List.getElem?_map] at hu
  obtain ⟨x, hx, rfl⟩ := Option.map_eq_some_iff.1 hu
  refine ⟨g, a, rfl, ?_⟩
  have := h.cells (g := g) rfl (a + j) (intv x) (by rw [List.getElem?_map, hm j x hx]; rfl)
  rwa [Addr.add_lit, Nat.zero_add] at this
theorem lit_zero {w : World} {B : Nat} (h : B ≤ w.heap.size) : (w.alloc (.cells #[] 3)).ownsRow B 3 1 (.slice (some ⟨w.heap.size, 0, none⟩) 0 0) 0 [] := World.ownsRow_lit (base := B) (e := 3) (size := 1) w #[] 0 h (by decide) rfl
set_option maxRecDepth 10000 in
set_option maxHeartbeats 4000000 in
theorem refForm_any {w : World} {v : Value} {l : List Int} (h : RIs w [v] l) (hl : l.length ≤ 1000) : Calls Try.prog 25 #[v] w (FormPost w l) := by
  obtain ⟨a, cap, rfl, hz, g⟩ := ints_open h
  have hin : ∀ x ∈ l, InR x := fun x hx => by
    obtain ⟨i, hi, e⟩ := List.mem_iff_getElem.1 hx
    obtain ⟨_, _, _, _, h1⟩ := g i hi
    rw [e] at h1; exact h1
  have h0 : RGo w l 0 [] (.slice (some ⟨w.heap.size, 0, none⟩) 0 0) (w.alloc (.cells #[] 3)) := ⟨lit_zero (Nat.le_refl _), by rw [List.drop_zero]; exact CnfM.rgo_is l hin, fun y hy => by simp at hy, Nat.le_refl _, below_alloc1 _ _, _, _, rfl, Nat.le_refl _, by decide, by simp⟩
  obtain ⟨n, hn⟩ : ∃ n, n = l.length := ⟨_, rfl⟩
  rw [← hn] at hz hl h ⊢
  have Hh := Lib.hid h; have Hg := Lib.hid g; have Hn := Lib.hid hn; have Hin := Lib.hid hin; have H0 := Lib.hid h0; clear h g hn hin h0
  go_enter Try.func25, Try.ntmps25
  go_wp2_with fail
  go_loopw [4, 11] (fun o i wr => ∃ k : Nat, k ≤ n ∧ i = .int .i64 k ∧ ∃ out, RGo w l k out o wr) (fun _ i _ => n - (intOf i).toNat)
  case atStart => exact ⟨0, Nat.zero_le _, rfl, [], H0.out⟩
  case round =>
    obtain ⟨k, hk, rfl, out, hst⟩ := hrel
    obtain ⟨og, oc, rfl, hoc, hoc2, hog⟩ := hst.sh
    have hB := hst.bel.size
    have hol := hst.len
    obtain ⟨m, hm⟩ : ∃ m, m = out.length := ⟨_, rfl⟩
    rw [← hm] at hol hoc ⊢
    by_cases hlt : k < n
    · have hkl : k < l.length := by have := Hn.out; omega
      obtain ⟨b, off, rfl, d, hxr⟩ := Hg.out k hkl
      obtain ⟨x, hx⟩ : ∃ x, x = l[k] := ⟨_, rfl⟩
      have hdrop : l.drop k = x :: l.drop (k + 1) := by rw [hx]; exact List.drop_eq_getElem_cons hkl
      rw [← hx] at d hxr
      have d1 := cell_later hst.bel d
      have hgo := hst.go
      rw [hdrop] at hgo
      have hW := fun W => none_any x hxr W
      have k5 : (0 : Int) ≤ (k : Int) := by omega
      have k6 : (k : Int) < (n : Int) := by omega
      cases hw : wrong x with
      | true =>
        have hf : form l = ([], false) := by rw [← hgo]; unfold rgo; rw [if_pos hw]
        rw [hw] at hW
        clear hx hkl
        have Hst := Lib.hid hst; have Hm := Lib.hid hm; have Hdrop := Lib.hid hdrop; have Hd := Lib.hid d; have Hgo := Lib.hid hgo; have HW := Lib.hid hW; have Hxr := Lib.hid hxr; have Hw := Lib.hid hw; have Hf := Lib.hid hf; clear hst hm hdrop d hgo hW hxr hw hf
        go_wp2_with fail
        refine (HW.out _).mono ?_
        rintro e w1 ⟨rfl, rfl⟩
        go_wp2_with fail
        go_ret2
        exact form_post Hf.out (lit_zero hB) (Hst.out.bel.alloc hB _)
      | false =>
        rw [hw] at hW
        obtain ⟨p, hp⟩ : ∃ p, p = place out x := ⟨_, rfl⟩
        have hpm : p ≤ m := by rw [hp, hm]; exact CnfM.place_le out x
        have hrow := hst.own
        have hcell : ∀ j (hj : j < out.length), wr.cell? ⟨og, j, none⟩ = some (.int .i64 out[j]) := by
          intro j hj
          have := hrow.cells (g := og) rfl j (intv out[j]) (by rw [List.getElem?_map, List.getElem?_eq_getElem hj]; rfl)
          rwa [Addr.add_lit, Nat.zero_add] at this
        have hA : ∀ z, (InR z ∧ wrong z = false) → ∀ W, Calls Try.prog 70 #[.int .i64 z] W fun e w' => e = .returned (.int .i64 (ab z)) ∧ ∃ q, w' = W.drewN q := fun z hz W => (atom_any z hz.1 hz.2 W).mono fun e w' ⟨he, hw⟩ => ⟨he, 0, hw.symm⟩
        clear hx hkl
        have Hst := Lib.hid hst; have Hdrop := Lib.hid hdrop; have Hd := Lib.hid d; have Hgo := Lib.hid hgo; have HW := Lib.hid hW; have Hrow := Lib.hid hrow; have HA := Lib.hid hA; have Hxr := Lib.hid hxr; have Hw := Lib.hid hw; have Hcell := Lib.hid hcell; have Hm := Lib.hid hm; have Hp := Lib.hid hp; clear hst hdrop d hgo hW hrow hA hxr hw hcell hm hp
        go_wp2_with fail
        refine (HW.out _).mono ?_
        rintro e w1 ⟨rfl, rfl⟩
        go_wp2_with fail
        go_loopw [6] (fun j w1 => ∃ i : Nat, i ≤ p ∧ j = .int .i64 i ∧ ∃ q, w1 = wr.drewN q) (fun j _ => p - (intOf j).toNat)
        case atStart => exact ⟨0, Nat.zero_le _, rfl, 0, rfl⟩
        case round =>
          obtain ⟨i, hi, rfl, q, rfl⟩ := hrel
          by_cases hip : i < p
          · have him : i < out.length := by have := Hm.out; omega
            have d2 := Hcell.out i him
            obtain ⟨y, hy⟩ : ∃ y, y = out[i] := ⟨_, rfl⟩
            rw [← hy] at d2
            have hyok := Hst.out.ok y (by rw [hy]; exact List.getElem_mem him)
            have hlt2 : ab y < ab x := CnfM.place_take out x y (by rw [← Hp.out, hy]; exact List.mem_iff_getElem.2 ⟨i, by simp; omega, by simp⟩)
            have hAy := HA.out y hyok
            have hAx := HA.out x ⟨Hxr.out, Hw.out⟩
            obtain ⟨ay, hay⟩ : ∃ z, z = ab y := ⟨_, rfl⟩
            obtain ⟨ax, hax⟩ : ∃ z, z = ab x := ⟨_, rfl⟩
            rw [← hay] at hAy hlt2
            rw [← hax] at hAx hlt2
            have k7 : (0 : Int) ≤ (i : Int) := by omega
            have k8 : (i : Int) < (m : Int) := by omega
            have k9 : decide ((i : Int) < (m : Int)) = true := by simpa using k8
            have k10 : decide (ay < ax) = true := by simpa using hlt2
            clear hy him hyok
            have HAy := Lib.hid hAy; have HAx := Lib.hid hAx; have Hay := Lib.hid hay; have Hax := Lib.hid hax; clear hAy hAx hay hax
            go_wp2_with fail
            go_quiet (first | (go_at_call_of 70 (Value.int .i64 y); exact quiet_addl (HAy.out _)) | (go_at_call_of 70 (Value.int .i64 x); exact quiet_addl (HAx.out _)))
            go_wp2_with fail
            go_roundw
            case rel => exact ⟨i + 1, by omega, by go_num, _, rfl⟩
            case measure => simp [intOf]; omega
          · obtain rfl : p = i := by omega
            by_cases hpm2 : p < m
            · have him : p < out.length := by have := Hm.out; omega
              have d2 := Hcell.out p him
              obtain ⟨y, hy⟩ : ∃ y, y = out[p] := ⟨_, rfl⟩
              rw [← hy] at d2
              have hyok := Hst.out.ok y (by rw [hy]; exact List.getElem_mem him)
              have hpl : place out x < out.length := by rw [← Hp.out]; exact him
              have hye : out[place out x] = y := by rw [hy]; simp only [← Hp.out]
              have hge : ab x ≤ ab y := by have := CnfM.place_at out x hpl; rw [hye] at this; omega
              have hAy := HA.out y hyok
              have hAx := HA.out x ⟨Hxr.out, Hw.out⟩
              obtain ⟨ay, hay⟩ : ∃ z, z = ab y := ⟨_, rfl⟩
              obtain ⟨ax, hax⟩ : ∃ z, z = ab x := ⟨_, rfl⟩
              rw [← hay] at hAy hge
              rw [← hax] at hAx hge
              have k7 : (0 : Int) ≤ (p : Int) := by omega
              have k8 : (p : Int) < (m : Int) := by omega
              have k9 : decide ((p : Int) < (m : Int)) = true := by simpa using k8
              have k10 : decide (ay < ax) = false := by simpa using hge
              by_cases c1 : y = wrap64 (-x)
              · have e1 : (y == wrap64 (-x)) = true := by rw [c1]; exact beq_self_eq_true _
                have hf : form l = ([], false) := by rw [← Hgo.out]; exact rgo_opp Hw.out hpl (by rw [hye]; exact c1)
                clear hy hye hpl him hyok
                have HAy := Lib.hid hAy; have HAx := Lib.hid hAx; have Hay := Lib.hid hay; have Hax := Lib.hid hax; have Hc1 := Lib.hid c1; have Hf := Lib.hid hf; clear hAy hAx hay hax c1 hf
                go_wp2_with fail
                go_quiet (first | (go_at_call_of 70 (Value.int .i64 y); exact quiet_addl (HAy.out _)) | (go_at_call_of 70 (Value.int .i64 x); exact quiet_addl (HAx.out _)))
                go_wp2_with fail
                go_quiet (fail)
                go_wp2_with fail
                go_ret2
                exact form_post Hf.out (lit_zero hB) ((bel_drewN Hst.out.bel _).alloc hB _)
              · have e1 : (y == wrap64 (-x)) = false := by simpa using c1
                by_cases c2 : y = x
                · have e2 : (y == x) = true := by rw [c2]; exact beq_self_eq_true _
                  have hgo2 : rgo out (l.drop (k + 1)) = form l := by rw [← Hgo.out]; exact (rgo_same Hw.out hpl (by rw [hye]; exact c1) (by rw [hye]; exact c2)).symm
                  have hfin : ∀ Q, RGo w l (k + 1) out (.slice (some ⟨og, 0, none⟩) m oc) (wr.drewN Q) := fun Q => by
                    have h9 := Hst.out.drewN Q
                    rw [← Hm.out] at h9
                    exact ⟨h9.own, hgo2, h9.ok, by have := h9.len; omega, h9.bel, h9.sh⟩
                  clear hy hye hpl him hyok
                  have HAy := Lib.hid hAy; have HAx := Lib.hid hAx; have Hay := Lib.hid hay; have Hax := Lib.hid hax; have Hc1 := Lib.hid c1; have Hc2 := Lib.hid c2; have Hgo2 := Lib.hid hgo2; have Hfin := Lib.hid hfin; clear hAy hAx hay hax c1 c2 hgo2 hfin
                  go_wp2_with fail
                  go_quiet (first | (go_at_call_of 70 (Value.int .i64 y); exact quiet_addl (HAy.out _)) | (go_at_call_of 70 (Value.int .i64 x); exact quiet_addl (HAx.out _)))
                  go_wp2_with fail
                  go_quiet (fail)
                  go_wp2_with fail
                  go_quiet (fail)
                  go_wp2_with fail
                  go_roundw
                  case rel => exact ⟨k + 1, by omega, by go_num, _, Hfin.out _⟩
                  case measure => simp [intOf]; omega
                · have e2 : (y == x) = false := by simpa using c2
                  have hins : rgo out (x :: l.drop (k + 1)) = rgo (out.take p ++ x :: out.drop p) (l.drop (k + 1)) := by rw [Hp.out]; exact rgo_ins Hw.out (fun hp' => by rw [hye]; exact ⟨c1, c2⟩)
                  clear hy hye hpl him hyok
                  have HAy := Lib.hid hAy; have HAx := Lib.hid hAx; have Hay := Lib.hid hay; have Hax := Lib.hid hax; have Hc1 := Lib.hid c1; have Hc2 := Lib.hid c2; have Hins := Lib.hid hins; clear hAy hAx hay hax c1 c2 hins
                  go_wp2_with fail
                  go_quiet (first | (go_at_call_of 70 (Value.int .i64 y); exact quiet_addl (HAy.out _)) | (go_at_call_of 70 (Value.int .i64 x); exact quiet_addl (HAx.out _)))
                  go_wp2_with fail
                  go_quiet (fail)
                  go_wp2_with fail
                  go_quiet (fail)
                  have hT : ∃ T, T = (out.take p).map intv := ⟨_, rfl⟩
                  obtain ⟨T, hT⟩ := hT
                  obtain ⟨S, hS⟩ : ∃ S, S = (out.drop p).map intv := ⟨_, rfl⟩
                  have hTl : T.length = p * 1 := by have := Hm.out; rw [hT]; simp; omega
                  have hSl : S.length = (m - p) * 1 := by have := Hm.out; rw [hS]; simp; omega
                  have hT1 : ∀ u ∈ T, u.oneCell' = true := by rw [hT]; exact one_cells _
                  have hS1 : ∀ u ∈ S, u.oneCell' = true := by rw [hS]; exact one_cells _
                  have hst0 : ∀ Q, RGo w l k out (.slice (some ⟨og, 0, none⟩) m oc) ((wr.drewN Q).alloc (.cells #[] 3)) := fun Q => by have h9 := (Hst.out.drewN Q).alloc (.cells #[] 3); rw [← Hm.out] at h9; exact h9
                  have hTn : ∀ Q, ∀ j u, T[j]? = some u → ∃ b off, (some ⟨og, 0, none⟩ : Option Addr) = some ⟨b, off, none⟩ ∧ ((wr.drewN Q).alloc (.cells #[] 3)).cell? ⟨b, off + j, none⟩ = some u := fun Q => by
                    have h8 := (hst0 Q).own
                    rw [← Hm.out] at h8
                    rw [hT]
                    exact part_cells h8 0 _ (fun j y hy => by rw [Nat.zero_add]; rw [List.getElem?_take] at hy; split at hy; exact hy; cases hy)
                  have hlit : ∀ Q, ((wr.drewN Q).alloc (.cells #[] 3)).ownsRow wr.heap.size 3 1 (.slice (some ⟨wr.heap.size, 0, none⟩) 0 0) 0 [] := fun Q => lit_zero (w := wr.drewN Q) (Nat.le_refl _)
                  have hSn : ∀ W, RGo w l k out (.slice (some ⟨og, 0, none⟩) m oc) W → ∀ j u, S[j]? = some u → ∃ b off, (some ⟨og, p, none⟩ : Option Addr) = some ⟨b, off, none⟩ ∧ W.cell? ⟨b, off + j, none⟩ = some u := fun W h9 => by
                    have h8 := h9.own
                    rw [← Hm.out] at h8
                    rw [hS]
                    exact part_cells h8 p _ (fun j y hy => by rw [List.getElem?_drop] at hy; exact hy)
                  have k20 : (p : Int) ≤ (oc : Int) := by omega
                  have k21 : (0 : Int) ≤ (p : Int) := by omega
                  have k22 : (p : Int) ≤ (m : Int) := by omega
                  have hm1000 : m ≤ 1000 := by omega
                  have HTl := Lib.hid hTl; have HSl := Lib.hid hSl; have HT1 := Lib.hid hT1; have HS1 := Lib.hid hS1; have HTn := Lib.hid hTn; have Hlit := Lib.hid hlit; have HSn := Lib.hid hSn; have Hst0 := Lib.hid hst0; have HT := Lib.hid hT; have HS := Lib.hid hS; clear hTl hSl hT1 hS1 hTn hlit hSn hst0 hT hS
                  go_wp2_with (first | (at_builtin; (refine wpList_append_from elem_int' rfl (.tmp 72) (.tmp 75) rfl wr.heap.size (.slice (some ⟨wr.heap.size, 0, none⟩) 0 0) 0 [] rfl (Hlit.out _) (some ⟨og, 0, none⟩) p oc T rfl HTl.out (HTn.out _) HT1.out (by omega) (by unfold maxLen; omega) (by simp) ?_; intro v7 w7 hown7 hg7 hm7; have hst7 := (Hst0.out _).app hog hB (Hlit.out _) hg7; obtain ⟨a7, c7, rfl⟩ := own_shape hown7; generalize hN7 : 0 + p = N7 at hown7 ⊢; have d7 := cell_later hst7.bel Hd.out; have hB7 : wr.heap.size ≤ w7.heap.size := (by have := hg7.size; simp at this; omega); have Hown7 := Lib.hid hown7; have Hst7 := Lib.hid hst7; have HN7 := Lib.hid hN7; have hN7' : N7 ≤ 1000 := (by omega); clear hown7 hg7 hm7 hst7 hN7)) | (at_builtin; (refine wpList_append_lit elem_int' rfl (.tmp 77) (.tmp 82) rfl wr.heap.size (.slice a7 N7 c7) N7 _ rfl Hown7.out 1 #[.int .i64 x] rfl rfl (by simp [Value.oneCell']) (by omega) (by unfold maxLen; omega) hB7 ?_; intro v8 w8 hown8 hg8 hm8; have hst8 := (Hst7.out).app hog hB Hown7.out hg8; obtain ⟨a8, c8, rfl⟩ := own_shape hown8; generalize hN8 : N7 + 1 = N8 at hown8 ⊢; have hB8 : wr.heap.size ≤ w8.heap.size := (by have := hg8.size; omega); have Hown8 := Lib.hid hown8; have Hst8 := Lib.hid hst8; have HN8 := Lib.hid hN8; have hN8' : N8 ≤ 1001 := (by omega); clear hown8 hg8 hm8 hst8 hN8)) | (at_builtin; (refine wpList_append_from elem_int' rfl (.tmp 84) (.tmp 87) rfl wr.heap.size (.slice a8 N8 c8) N8 _ rfl Hown8.out (some ⟨og, p, none⟩) (m - p) (oc - p) S rfl HSl.out (HSn.out _ Hst8.out) HS1.out (by omega) (by unfold maxLen; omega) hB8 ?_; intro v9 w9 hown9 hg9 hm9; have hst9 := (Hst8.out).app hog hB Hown8.out hg9; have hpos9 : 0 < N8 + (m - p) := (by have := HN8.out; omega); obtain ⟨g9, c9, rfl, _⟩ := ownsRow_some hown9 hpos9; generalize hN9 : N8 + (m - p) = N9 at hown9 ⊢; have Hown9 := Lib.hid hown9; have Hst9 := Lib.hid hst9; have HN9 := Lib.hid hN9; clear hown9 hg9 hm9 hst9 hN9 hpos9)))
                  have hout : ∃ O, O = out.take p ++ x :: out.drop p := ⟨_, rfl⟩
                  obtain ⟨O, hO⟩ := hout
                  have hOl : O.length = N9 := by
                    have h1 := HN7.out; have h2 := HN8.out; have h3 := HN9.out; have h4 := Hm.out
                    rw [hO]; simp; omega
                  have hOv : O.map intv = [] ++ T ++ #[Value.int .i64 x].toList ++ S := by rw [hO, HT.out, HS.out]; simp
                  have hgoO : rgo O (l.drop (k + 1)) = form l := by rw [← Hgo.out, Hins.out, hO]
                  have hokO : ∀ y ∈ O, InR y ∧ wrong y = false := by
                    intro y hy
                    rw [hO] at hy
                    rcases List.mem_append.1 hy with hy | hy
                    · exact Hst.out.ok y (List.mem_of_mem_take hy)
                    · rcases List.mem_cons.1 hy with e | hy
                      · rw [e]; exact ⟨Hxr.out, Hw.out⟩
                      · exact Hst.out.ok y (List.mem_of_mem_drop hy)
                  have hlenO : O.length ≤ k + 1 := by
                    have h1 := HN7.out; have h2 := HN8.out; have h3 := HN9.out
                    omega
                  have hfin : RGo w l (k + 1) O (.slice (some ⟨g9, 0, none⟩) N9 c9) w9 := by
                    have h9 := Hown9.out
                    rw [← hOv] at h9
                    rw [← hOl] at h9 ⊢
                    exact Hst9.out.next h9 hB hgoO hokO hlenO Hst9.out.bel
                  have HO := Lib.hid hO; have HOl := Lib.hid hOl; have HOv := Lib.hid hOv; have HgoO := Lib.hid hgoO; have HokO := Lib.hid hokO; have HlenO := Lib.hid hlenO; have Hfin := Lib.hid hfin; clear hO hOl hOv hgoO hokO hlenO hfin
                  go_wp2_with fail
                  go_roundw
                  case rel => exact ⟨k + 1, by omega, by go_num, _, Hfin.out⟩
                  case measure => simp [intOf]; omega
            · obtain rfl : p = m := by omega
              have hins : rgo out (x :: l.drop (k + 1)) = rgo (out.take p ++ x :: out.drop p) (l.drop (k + 1)) := by rw [Hp.out]; exact rgo_ins Hw.out (fun hp' => by have := Hp.out; have := Hm.out; omega)
              have k9 : decide ((p : Int) < (p : Int)) = false := by simp
              rcases Nat.lt_or_eq_of_le hoc with hcc | hcc
              · have Hins := Lib.hid hins; clear hins
                go_wp2_with fail
                go_quiet (fail)
                go_wp2_with fail
                go_quiet (fail)
                go_wp2_with fail
                go_quiet (fail)
                have hT : ∃ T, T = (out.take p).map intv := ⟨_, rfl⟩
                obtain ⟨T, hT⟩ := hT
                obtain ⟨S, hS⟩ : ∃ S, S = (out.drop p).map intv := ⟨_, rfl⟩
                have hTl : T.length = p * 1 := by have := Hm.out; rw [hT]; simp; omega
                have hSl : S.length = (0) * 1 := by have := Hm.out; rw [hS]; simp; omega
                have hT1 : ∀ u ∈ T, u.oneCell' = true := by rw [hT]; exact one_cells _
                have hS1 : ∀ u ∈ S, u.oneCell' = true := by rw [hS]; exact one_cells _
                have hst0 : ∀ Q, RGo w l k out (.slice (some ⟨og, 0, none⟩) p oc) ((wr.drewN Q).alloc (.cells #[] 3)) := fun Q => by have h9 := (Hst.out.drewN Q).alloc (.cells #[] 3); rw [← Hm.out] at h9; exact h9
                have hTn : ∀ Q, ∀ j u, T[j]? = some u → ∃ b off, (some ⟨og, 0, none⟩ : Option Addr) = some ⟨b, off, none⟩ ∧ ((wr.drewN Q).alloc (.cells #[] 3)).cell? ⟨b, off + j, none⟩ = some u := fun Q => by
                  have h8 := (hst0 Q).own
                  rw [← Hm.out] at h8
                  rw [hT]
                  exact part_cells h8 0 _ (fun j y hy => by rw [Nat.zero_add]; rw [List.getElem?_take] at hy; split at hy; exact hy; cases hy)
                have hlit : ∀ Q, ((wr.drewN Q).alloc (.cells #[] 3)).ownsRow wr.heap.size 3 1 (.slice (some ⟨wr.heap.size, 0, none⟩) 0 0) 0 [] := fun Q => lit_zero (w := wr.drewN Q) (Nat.le_refl _)
                have hSn : ∀ W, RGo w l k out (.slice (some ⟨og, 0, none⟩) p oc) W → ∀ j u, S[j]? = some u → ∃ b off, (some ⟨og, p, none⟩ : Option Addr) = some ⟨b, off, none⟩ ∧ W.cell? ⟨b, off + j, none⟩ = some u := fun W h9 => by
                  have h8 := h9.own
                  rw [← Hm.out] at h8
                  rw [hS]
                  intro j u hu; rw [List.drop_of_length_le (by have := Hm.out; omega)] at hu; simp at hu
                have k20 : (p : Int) ≤ (oc : Int) := by omega
                have k21 : (0 : Int) ≤ (p : Int) := by omega
                have k22 : (p : Int) ≤ (p : Int) := by omega
                have hm1000 : p ≤ 1000 := by omega
                have HTl := Lib.hid hTl; have HSl := Lib.hid hSl; have HT1 := Lib.hid hT1; have HS1 := Lib.hid hS1; have HTn := Lib.hid hTn; have Hlit := Lib.hid hlit; have HSn := Lib.hid hSn; have Hst0 := Lib.hid hst0; have HT := Lib.hid hT; have HS := Lib.hid hS; clear hTl hSl hT1 hS1 hTn hlit hSn hst0 hT hS
                go_wp2_with (first | (at_builtin; (refine wpList_append_from elem_int' rfl (.tmp 72) (.tmp 75) rfl wr.heap.size (.slice (some ⟨wr.heap.size, 0, none⟩) 0 0) 0 [] rfl (Hlit.out _) (some ⟨og, 0, none⟩) p oc T rfl HTl.out (HTn.out _) HT1.out (by omega) (by unfold maxLen; omega) (by simp) ?_; intro v7 w7 hown7 hg7 hm7; have hst7 := (Hst0.out _).app hog hB (Hlit.out _) hg7; obtain ⟨a7, c7, rfl⟩ := own_shape hown7; generalize hN7 : 0 + p = N7 at hown7 ⊢; have d7 := cell_later hst7.bel Hd.out; have hB7 : wr.heap.size ≤ w7.heap.size := (by have := hg7.size; simp at this; omega); have Hown7 := Lib.hid hown7; have Hst7 := Lib.hid hst7; have HN7 := Lib.hid hN7; have hN7' : N7 ≤ 1000 := (by omega); clear hown7 hg7 hm7 hst7 hN7)) | (at_builtin; (refine wpList_append_lit elem_int' rfl (.tmp 77) (.tmp 82) rfl wr.heap.size (.slice a7 N7 c7) N7 _ rfl Hown7.out 1 #[.int .i64 x] rfl rfl (by simp [Value.oneCell']) (by omega) (by unfold maxLen; omega) hB7 ?_; intro v8 w8 hown8 hg8 hm8; have hst8 := (Hst7.out).app hog hB Hown7.out hg8; obtain ⟨a8, c8, rfl⟩ := own_shape hown8; generalize hN8 : N7 + 1 = N8 at hown8 ⊢; have hB8 : wr.heap.size ≤ w8.heap.size := (by have := hg8.size; omega); have Hown8 := Lib.hid hown8; have Hst8 := Lib.hid hst8; have HN8 := Lib.hid hN8; have hN8' : N8 ≤ 1001 := (by omega); clear hown8 hg8 hm8 hst8 hN8)) | (at_builtin; (refine wpList_append_from elem_int' rfl (.tmp 84) (.tmp 87) rfl wr.heap.size (.slice a8 N8 c8) N8 _ rfl Hown8.out (some ⟨og, p, none⟩) (0) (oc - p) S rfl HSl.out (HSn.out _ Hst8.out) HS1.out (by omega) (by unfold maxLen; omega) hB8 ?_; intro v9 w9 hown9 hg9 hm9; have hst9 := (Hst8.out).app hog hB Hown8.out hg9; have hpos9 : 0 < N8 + (0) := (by have := HN8.out; omega); obtain ⟨g9, c9, rfl, _⟩ := ownsRow_some hown9 hpos9; generalize hN9 : N8 + (0) = N9 at hown9 ⊢; have Hown9 := Lib.hid hown9; have Hst9 := Lib.hid hst9; have HN9 := Lib.hid hN9; clear hown9 hg9 hm9 hst9 hN9 hpos9)))
                have hout : ∃ O, O = out.take p ++ x :: out.drop p := ⟨_, rfl⟩
                obtain ⟨O, hO⟩ := hout
                have hOl : O.length = N9 := by
                  have h1 := HN7.out; have h2 := HN8.out; have h3 := HN9.out; have h4 := Hm.out
                  rw [hO]; simp; omega
                have hOv : O.map intv = [] ++ T ++ #[Value.int .i64 x].toList ++ S := by rw [hO, HT.out, HS.out]; simp
                have hgoO : rgo O (l.drop (k + 1)) = form l := by rw [← Hgo.out, Hins.out, hO]
                have hokO : ∀ y ∈ O, InR y ∧ wrong y = false := by
                  intro y hy
                  rw [hO] at hy
                  rcases List.mem_append.1 hy with hy | hy
                  · exact Hst.out.ok y (List.mem_of_mem_take hy)
                  · rcases List.mem_cons.1 hy with e | hy
                    · rw [e]; exact ⟨Hxr.out, Hw.out⟩
                    · exact Hst.out.ok y (List.mem_of_mem_drop hy)
                have hlenO : O.length ≤ k + 1 := by
                  have h1 := HN7.out; have h2 := HN8.out; have h3 := HN9.out
                  omega
                have hfin : RGo w l (k + 1) O (.slice (some ⟨g9, 0, none⟩) N9 c9) w9 := by
                  have h9 := Hown9.out
                  rw [← hOv] at h9
                  rw [← hOl] at h9 ⊢
                  exact Hst9.out.next h9 hB hgoO hokO hlenO Hst9.out.bel
                have HO := Lib.hid hO; have HOl := Lib.hid hOl; have HOv := Lib.hid hOv; have HgoO := Lib.hid hgoO; have HokO := Lib.hid hokO; have HlenO := Lib.hid hlenO; have Hfin := Lib.hid hfin; clear hO hOl hOv hgoO hokO hlenO hfin
                go_wp2_with fail
                go_roundw
                case rel => exact ⟨k + 1, by omega, by go_num, _, Hfin.out⟩
                case measure => simp [intOf]; omega
              · subst hcc
                have Hins := Lib.hid hins; clear hins
                go_wp2_with fail
                go_quiet (fail)
                go_wp2_with fail
                go_quiet (fail)
                go_wp2_with fail
                go_quiet (fail)
                have hT : ∃ T, T = (out.take p).map intv := ⟨_, rfl⟩
                obtain ⟨T, hT⟩ := hT
                obtain ⟨S, hS⟩ : ∃ S, S = (out.drop p).map intv := ⟨_, rfl⟩
                have hTl : T.length = p * 1 := by have := Hm.out; rw [hT]; simp; omega
                have hSl : S.length = (0) * 1 := by have := Hm.out; rw [hS]; simp; omega
                have hT1 : ∀ u ∈ T, u.oneCell' = true := by rw [hT]; exact one_cells _
                have hS1 : ∀ u ∈ S, u.oneCell' = true := by rw [hS]; exact one_cells _
                have hst0 : ∀ Q, RGo w l k out (.slice (some ⟨og, 0, none⟩) p p) ((wr.drewN Q).alloc (.cells #[] 3)) := fun Q => by have h9 := (Hst.out.drewN Q).alloc (.cells #[] 3); rw [← Hm.out] at h9; exact h9
                have hTn : ∀ Q, ∀ j u, T[j]? = some u → ∃ b off, (some ⟨og, 0, none⟩ : Option Addr) = some ⟨b, off, none⟩ ∧ ((wr.drewN Q).alloc (.cells #[] 3)).cell? ⟨b, off + j, none⟩ = some u := fun Q => by
                  have h8 := (hst0 Q).own
                  rw [← Hm.out] at h8
                  rw [hT]
                  exact part_cells h8 0 _ (fun j y hy => by rw [Nat.zero_add]; rw [List.getElem?_take] at hy; split at hy; exact hy; cases hy)
                have hlit : ∀ Q, ((wr.drewN Q).alloc (.cells #[] 3)).ownsRow wr.heap.size 3 1 (.slice (some ⟨wr.heap.size, 0, none⟩) 0 0) 0 [] := fun Q => lit_zero (w := wr.drewN Q) (Nat.le_refl _)
                have hSn : ∀ W, RGo w l k out (.slice (some ⟨og, 0, none⟩) p p) W → ∀ j u, S[j]? = some u → ∃ b off, (some ⟨og, 0, none⟩ : Option Addr) = some ⟨b, off, none⟩ ∧ W.cell? ⟨b, off + j, none⟩ = some u := fun W h9 => by
                  have h8 := h9.own
                  rw [← Hm.out] at h8
                  rw [hS]
                  intro j u hu; rw [List.drop_of_length_le (by have := Hm.out; omega)] at hu; simp at hu
                have k20 : (p : Int) ≤ (p : Int) := by omega
                have k21 : (0 : Int) ≤ (p : Int) := by omega
                have k22 : (p : Int) ≤ (p : Int) := by omega
                have hm1000 : p ≤ 1000 := by omega
                have HTl := Lib.hid hTl; have HSl := Lib.hid hSl; have HT1 := Lib.hid hT1; have HS1 := Lib.hid hS1; have HTn := Lib.hid hTn; have Hlit := Lib.hid hlit; have HSn := Lib.hid hSn; have Hst0 := Lib.hid hst0; have HT := Lib.hid hT; have HS := Lib.hid hS; clear hTl hSl hT1 hS1 hTn hlit hSn hst0 hT hS
                go_wp2_with (first | (at_builtin; (refine wpList_append_from elem_int' rfl (.tmp 72) (.tmp 75) rfl wr.heap.size (.slice (some ⟨wr.heap.size, 0, none⟩) 0 0) 0 [] rfl (Hlit.out _) (some ⟨og, 0, none⟩) p p T rfl HTl.out (HTn.out _) HT1.out (by omega) (by unfold maxLen; omega) (by simp) ?_; intro v7 w7 hown7 hg7 hm7; have hst7 := (Hst0.out _).app hog hB (Hlit.out _) hg7; obtain ⟨a7, c7, rfl⟩ := own_shape hown7; generalize hN7 : 0 + p = N7 at hown7 ⊢; have d7 := cell_later hst7.bel Hd.out; have hB7 : wr.heap.size ≤ w7.heap.size := (by have := hg7.size; simp at this; omega); have Hown7 := Lib.hid hown7; have Hst7 := Lib.hid hst7; have HN7 := Lib.hid hN7; have hN7' : N7 ≤ 1000 := (by omega); clear hown7 hg7 hm7 hst7 hN7)) | (at_builtin; (refine wpList_append_lit elem_int' rfl (.tmp 77) (.tmp 82) rfl wr.heap.size (.slice a7 N7 c7) N7 _ rfl Hown7.out 1 #[.int .i64 x] rfl rfl (by simp [Value.oneCell']) (by omega) (by unfold maxLen; omega) hB7 ?_; intro v8 w8 hown8 hg8 hm8; have hst8 := (Hst7.out).app hog hB Hown7.out hg8; obtain ⟨a8, c8, rfl⟩ := own_shape hown8; generalize hN8 : N7 + 1 = N8 at hown8 ⊢; have hB8 : wr.heap.size ≤ w8.heap.size := (by have := hg8.size; omega); have Hown8 := Lib.hid hown8; have Hst8 := Lib.hid hst8; have HN8 := Lib.hid hN8; have hN8' : N8 ≤ 1001 := (by omega); clear hown8 hg8 hm8 hst8 hN8)) | (at_builtin; (refine wpList_append_from elem_int' rfl (.tmp 84) (.tmp 87) rfl wr.heap.size (.slice a8 N8 c8) N8 _ rfl Hown8.out (some ⟨og, 0, none⟩) (0) (0) S rfl HSl.out (HSn.out _ Hst8.out) HS1.out (by omega) (by unfold maxLen; omega) hB8 ?_; intro v9 w9 hown9 hg9 hm9; have hst9 := (Hst8.out).app hog hB Hown8.out hg9; have hpos9 : 0 < N8 + (0) := (by have := HN8.out; omega); obtain ⟨g9, c9, rfl, _⟩ := ownsRow_some hown9 hpos9; generalize hN9 : N8 + (0) = N9 at hown9 ⊢; have Hown9 := Lib.hid hown9; have Hst9 := Lib.hid hst9; have HN9 := Lib.hid hN9; clear hown9 hg9 hm9 hst9 hN9 hpos9)))
                have hout : ∃ O, O = out.take p ++ x :: out.drop p := ⟨_, rfl⟩
                obtain ⟨O, hO⟩ := hout
                have hOl : O.length = N9 := by
                  have h1 := HN7.out; have h2 := HN8.out; have h3 := HN9.out; have h4 := Hm.out
                  rw [hO]; simp; omega
                have hOv : O.map intv = [] ++ T ++ #[Value.int .i64 x].toList ++ S := by rw [hO, HT.out, HS.out]; simp
                have hgoO : rgo O (l.drop (k + 1)) = form l := by rw [← Hgo.out, Hins.out, hO]
                have hokO : ∀ y ∈ O, InR y ∧ wrong y = false := by
                  intro y hy
                  rw [hO] at hy
                  rcases List.mem_append.1 hy with hy | hy
                  · exact Hst.out.ok y (List.mem_of_mem_take hy)
                  · rcases List.mem_cons.1 hy with e | hy
                    · rw [e]; exact ⟨Hxr.out, Hw.out⟩
                    · exact Hst.out.ok y (List.mem_of_mem_drop hy)
                have hlenO : O.length ≤ k + 1 := by
                  have h1 := HN7.out; have h2 := HN8.out; have h3 := HN9.out
                  omega
                have hfin : RGo w l (k + 1) O (.slice (some ⟨g9, 0, none⟩) N9 c9) w9 := by
                  have h9 := Hown9.out
                  rw [← hOv] at h9
                  rw [← hOl] at h9 ⊢
                  exact Hst9.out.next h9 hB hgoO hokO hlenO Hst9.out.bel
                have HO := Lib.hid hO; have HOl := Lib.hid hOl; have HOv := Lib.hid hOv; have HgoO := Lib.hid hgoO; have HokO := Lib.hid hokO; have HlenO := Lib.hid hlenO; have Hfin := Lib.hid hfin; clear hO hOl hOv hgoO hokO hlenO hfin
                go_wp2_with fail
                go_roundw
                case rel => exact ⟨k + 1, by omega, by go_num, _, Hfin.out⟩
                case measure => simp [intOf]; omega
    · obtain rfl : k = n := by omega
      have hd : l.drop k = [] := List.drop_of_length_le (by have := Hn.out; omega)
      have hgo := hst.go
      rw [hd] at hgo
      have hf : form l = (out, true) := by rw [← hgo]; rfl
      have hown := hst.own
      rw [← hm] at hown
      have Hst := Lib.hid hst; have Hm := Lib.hid hm; have Hd := Lib.hid hd; have Hgo := Lib.hid hgo; have Hf := Lib.hid hf; have Hown := Lib.hid hown; clear hst hm hd hgo hf hown
      go_wp2_with fail
      go_ret2
      exact form_post Hf.out (by rw [← Hm.out]; exact Hown.out) Hst.out.bel
end Go.Proofs.Ytnelgellbabkoaa
