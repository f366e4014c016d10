/- The walk of variant.All: all settings of variants. Condition: few variants of few values. -/
import Derived.Test.YtnelgellbabkoaaVarC
import Derived.Deep.RegionHeld3
import Derived.Deep.DrawnRows
namespace Go.Proofs.Ytnelgellbabkoaa
open Go.RowKit Go.Shelf
attribute [local go_sem ↓] Go.wp_at_zero Go.wp_at_succ

theorem elem_sets : Elem Try.prog 31 36 (.slice none 0 0) 1 24 := ⟨Try.underlying31, by kernel_rfl, rfl, by decide⟩
def ext1 (s y : ByteArray) (O : List (List Setg)) : List (List Setg) := O.map fun f => f ++ [(s, y)]
def allStep (O : List (List Setg)) (x : Var) : List (List Setg) := x.2.flatMap fun y => ext1 x.1 y O
/-- all settings of variants -/
def allOf (l : List Var) : List (List Setg) := l.foldl allStep [[]]
theorem allOf_succ {l : List Var} {k : Nat} (h : k < l.length) : allOf (l.take (k + 1)) = allStep (allOf (l.take k)) l[k] := by
  unfold allOf
  rw [List.take_succ_eq_append_getElem h, List.foldl_append]; rfl
theorem ext1_succ {s y : ByteArray} {O : List (List Setg)} {k : Nat} (h : k < O.length) : ext1 s y (O.take (k + 1)) = ext1 s y (O.take k) ++ [O[k] ++ [(s, y)]] := by
  unfold ext1
  rw [List.take_succ_eq_append_getElem h, List.map_append]; rfl
theorem ext1_len (s y : ByteArray) (O : List (List Setg)) : (ext1 s y O).length = O.length := by unfold ext1; simp
theorem vals_succ {s : ByteArray} {O : List (List Setg)} {ys : List ByteArray} {k : Nat} (h : k < ys.length) : ((ys.take (k + 1)).flatMap fun y => ext1 s y O) = ((ys.take k).flatMap fun y => ext1 s y O) ++ ext1 s ys[k] O := by
  rw [List.take_succ_eq_append_getElem h, List.flatMap_append]; simp
theorem vals_len (s : ByteArray) (O : List (List Setg)) : ∀ ys : List ByteArray, (ys.flatMap fun y => ext1 s y O).length = ys.length * O.length
  | [] => by simp
  | y :: ys => by rw [List.flatMap_cons, List.length_append, ext1_len, vals_len s O ys, List.length_cons, Nat.succ_mul]; omega
/-- the sizes stay small -/
theorem allOf_small (l : List Var) (hv : ∀ x ∈ l, x.2.length ≤ 4) : (allOf l).length ≤ 4 ^ l.length ∧ (∀ f ∈ allOf l, f.length = l.length) ∧ (∀ f ∈ allOf l, ∀ y ∈ f, ∃ x ∈ l, y.1 = x.1 ∧ y.2 ∈ x.2) := by
  have key : ∀ (r : List Var) (p : List Var), (∀ x ∈ p ++ r, x.2.length ≤ 4) → ((allOf p).length ≤ 4 ^ p.length ∧ (∀ f ∈ allOf p, f.length = p.length) ∧ (∀ f ∈ allOf p, ∀ y ∈ f, ∃ x ∈ p, y.1 = x.1 ∧ y.2 ∈ x.2)) → ((allOf (p ++ r)).length ≤ 4 ^ (p ++ r).length ∧ (∀ f ∈ allOf (p ++ r), f.length = (p ++ r).length) ∧ (∀ f ∈ allOf (p ++ r), ∀ y ∈ f, ∃ x ∈ p ++ r, y.1 = x.1 ∧ y.2 ∈ x.2)) := by
    intro r
    induction r with
    | nil => intro p _ h; simpa using h
    | cons x r ih =>
      intro p hv h
      have e : p ++ x :: r = (p ++ [x]) ++ r := by simp
      rw [e] at hv ⊢
      refine ih (p ++ [x]) hv ?_
      have ea : allOf (p ++ [x]) = allStep (allOf p) x := by unfold allOf; rw [List.foldl_append]; rfl
      obtain ⟨h1, h2, h3⟩ := h
      have hx := hv x (by simp)
      rw [ea]
      refine ⟨?_, ?_, ?_⟩
      · unfold allStep
        rw [vals_len, List.length_append, List.length_singleton, Nat.pow_succ, Nat.mul_comm]
        exact Nat.mul_le_mul h1 hx
      · intro f hf
        unfold allStep at hf
        obtain ⟨y, _, hf⟩ := List.mem_flatMap.1 hf
        obtain ⟨g, hg, rfl⟩ := List.mem_map.1 hf
        simp [h2 g hg]
      · intro f hf z hz
        unfold allStep at hf
        obtain ⟨y, hy, hf⟩ := List.mem_flatMap.1 hf
        obtain ⟨g, hg, rfl⟩ := List.mem_map.1 hf
        rcases List.mem_append.1 hz with hz | hz
        · obtain ⟨x', hx', hh⟩ := h3 g hg z hz
          exact ⟨x', by simp [hx'], hh⟩
        · simp at hz
          subst hz
          exact ⟨x, by simp, rfl, hy⟩
  have := key l [] (by simpa using hv) (by simp [allOf])
  simpa using this
theorem step_append_from {P : Program} {t e : TypeId} {z : Value} {size bytes : Nat} (E : Elem P t e z size bytes) {w : World} {ops : Array Oper} {o : Oper} {a : Act} {K : Act → World → Prop} {Q : Exit → Act → World → Prop} {X : Prop}
    (hgd : o.guard = none) (s x : Operand) (ho : o.op = .call { callee := .builtin .append, args := #[s, x], argTypes := #[t, t] })
    (base : Nat) (v : Value) (n : Nat) (xs : List Value) (hs : a.eval s = v) (hown : w.ownsRow base e size v n xs)
    (ao : Option Addr) (m c : Nat) (news : List Value) (hx : a.eval x = .slice ao m c) (hl : news.length = m * size) (hnews : ∀ j u, news[j]? = some u → ∃ b off, ao = some ⟨b, off, none⟩ ∧ w.cell? ⟨b, off + j, none⟩ = some u) (h1 : ∀ u ∈ news, u.oneCell' = true)
    (hb : (n + m) * bytes ≤ 140737488355328) (hb1 : n + m ≤ maxLen) (hbase : base ≤ w.heap.size)
    (h : ∀ v' w', w'.ownsRow base e size v' (n + m) (xs ++ news) → w.grownBy w' v.ownBlock → Moved w v v' → K (a.put o.dst v') w') :
    if Region.wanted o (yielded ops a.tmps) = true then Oper.wp P o a w K Q else X := by
  have hw : Region.wanted o (yielded ops a.tmps) = true := by simp [Region.wanted, hgd]
  rw [if_pos hw]
  exact wp_append_from E s x ho base v n xs hs hown ao m c news hx hl hnews h1 hb hb1 hbase h
theorem lit_two {w : World} {b : Nat} {s y : ByteArray} (h : w.heap[b]? = some (.cells #[.string s, .string y] 38 (0, 0))) : ∀ (j : Nat) u, ([.string s, .string y] : List Value)[j]? = some u → ∃ b' off, (some ⟨b, 0, none⟩ : Option Addr) = some ⟨b', off, none⟩ ∧ w.cell? ⟨b', off + j, none⟩ = some u := by
  intro j u hu
  refine ⟨b, 0, rfl, ?_⟩
  match j, hu with
  | 0, hu => simp at hu; subst hu; simpa using cells_at h 0
  | 1, hu => simp at hu; subst hu; simpa using cells_at h 1
/-- the row that is built -/
structure AllSt (W0 w : World) (ov : Value) (ovs : List Value) (O : List (List Setg)) (nv : Value) (nvs : List Value) (N : List (List Setg)) : Prop where
  out : SRws W0.heap.size w ov ovs O
  next : SRws W0.heap.size w nv nvs N
  ne : ∀ k, ov.ownBlock = some k → nv.ownBlock ≠ some k
  bel : Below W0.heap.size W0 w
/-- inside the loops: the rows, and the variant's box -/
structure In2 (W0 : World) (vb : Nat) (bc : Array Value) (ov : Value) (ovs : List Value) (O : List (List Setg)) (nv : Value) (N : List (List Setg)) (w : World) : Prop where
  st : ∃ nvs, AllSt W0 w ov ovs O nv nvs N
  box : w.heap[vb]? = some (.cells bc 35 (0, 0))
theorem In2.below {W0 w w' : World} {vb : Nat} {bc : Array Value} {ov : Value} {ovs : List Value} {O : List (List Setg)} {nv : Value} {N : List (List Setg)} (h : In2 W0 vb bc ov ovs O nv N w) (hb : Below w.heap.size w w') : In2 W0 vb bc ov ovs O nv N w' := by
  obtain ⟨nvs, h1⟩ := h.st
  exact ⟨⟨nvs, h1.out.below hb, h1.next.below hb, h1.ne, h1.bel.trans (hb.mono h1.bel.size)⟩, heap_below hb h.box⟩
/-- a row more -/
theorem In2.push {W0 w w' : World} {vb : Nat} {bc : Array Value} {ov : Value} {ovs : List Value} {O : List (List Setg)} {nv nv' u : Value} {nvs : List Value} {N : List (List Setg)} {f : List Setg} (h1 : AllSt W0 w ov ovs O nv nvs N) (hbox : w.heap[vb]? = some (.cells bc 35 (0, 0))) (hu : w.ownsRow W0.heap.size 38 2 u f.length (f.flatMap setCells))
    (hown : w'.ownsRow W0.heap.size 36 1 nv' (N.length + 1) (nvs ++ [u])) (hg : w.grownBy w' nv.ownBlock) (hm : Moved w nv nv') : In2 W0 vb bc ov ovs O nv' (N ++ [f]) w' := by
  refine ⟨⟨nvs ++ [u], h1.out.kept h1.next.row h1.ne hg, h1.next.push hu hown hg, fun k hk e => ?_, bel_own h1.bel h1.next.row (Nat.le_refl _) hg h1.bel.size⟩, ?_⟩
  · rcases hm k e with e2 | e2
    · exact h1.ne k hk e2
    · have := (h1.out.row.lt k hk).2; omega
  · exact keepT_grown hg h1.next.row (by decide) _ _ _ hbox
theorem In2.more {W0 w w5 w6 : World} {vb : Nat} {bc : Array Value} {ov : Value} {ovs : List Value} {O : List (List Setg)} {nv6 u : Value} {na : Option Addr} {nc : Nat} {nvs : List Value} {N : List (List Setg)} {f : List Setg} {s y : ByteArray} {fn NL : Nat} (h1 : AllSt W0 w ov ovs O (.slice na N.length nc) nvs N) (hbox : w.heap[vb]? = some (.cells bc 35 (0, 0))) (hb5 : Below w.heap.size w w5) (hfn : fn = f.length) (hNL : NL = N.length)
    (hown5 : w5.ownsRow w.heap.size 38 2 u (fn + 1) (f.flatMap setCells ++ [.string s, .string y])) (hown6 : w6.ownsRow W0.heap.size 36 1 nv6 (NL + 1) (nvs ++ [u])) (hg6 : w5.grownBy w6 (Value.slice na NL nc).ownBlock) (hm6 : Moved w5 (.slice na NL nc) nv6) : In2 W0 vb bc ov ovs O nv6 (N ++ [f ++ [(s, y)]]) w6 := by
  subst hfn hNL
  have hu := ownsRow_mono (B := W0.heap.size) hown5 h1.bel.size
  exact In2.push ⟨h1.out.below hb5, h1.next.below hb5, h1.ne, h1.bel.trans (hb5.mono h1.bel.size)⟩ (heap_below hb5 hbox) (by simpa [setCells] using hu) hown6 hg6 hm6
set_option maxRecDepth 10000 in
set_option maxHeartbeats 4000000 in
theorem all_any {w : World} {v : Value} {l : List Var} (h : RVars w [v] l) (hmay : mayOf l = true) : Calls Try.prog 22 #[v] w fun e w' => ∃ o vs, e = .returned o ∧ SRws w.heap.size w' o vs (allOf l) ∧ Below w.heap.size w w' := by
  obtain ⟨a, cap, rfl, hz, g⟩ := vars_open h
  have hv4 : ∀ x ∈ l, x.2.length ≤ 4 := fun x hx => by
    unfold mayOf at hmay
    simp only [Bool.and_eq_true, List.all_eq_true] at hmay
    have := hmay.1 x hx
    unfold oneOf at this
    simp only [Bool.and_eq_true, decide_eq_true_eq] at this
    exact this.2.2.1
  have hl4 : l.length ≤ 4 := by
    unfold mayOf at hmay
    simp only [Bool.and_eq_true, decide_eq_true_eq] at hmay
    exact hmay.2.1
  have hM := may_any h (by omega) (fun x hx => by have := hv4 x hx; omega)
  rw [hmay] at hM
  obtain ⟨n, hn⟩ : ∃ n, n = l.length := ⟨_, rfl⟩
  rw [← hn] at hz hl4 h hM ⊢
  have Hh := Lib.hid h; have Hg := Lib.hid g; have Hn := Lib.hid hn; have Hv4 := Lib.hid hv4; have HM := Lib.hid hM; have Hmay := Lib.hid hmay; clear h g hn hv4 hM hmay
  go_enter Try.func22, Try.ntmps22
  go_wp2_with fail
  refine HM.out.mono ?_
  rintro e w1 ⟨rfl, hb1⟩
  have hz1 := hb1.size
  have h0 : SRws w.heap.size (w1.alloc (.cells #[.slice none 0 0] 36)) (.slice (some ⟨w1.heap.size, 0, none⟩) 1 1) [.slice none 0 0] [[]] := ⟨rfl, World.ownsRow_lit (base := w.heap.size) (e := 36) (size := 1) w1 #[.slice none 0 0] 1 hz1 (by decide) rfl, fun i u f hu hf => by
    match i, hu, hf with
    | 0, hu, hf => simp at hu hf; subst hu; subst hf; exact World.ownsRow_nil _ _ _ _⟩
  have hb2 := hb1.alloc hz1 (.cells #[.slice none 0 0] 36)
  have Hb1 := Lib.hid hb1; have H0 := Lib.hid h0; have Hb2 := Lib.hid hb2; clear hb1 h0 hb2
  go_wp2_with fail
  go_loopw [3, 17] (fun o i wr => ∃ k m : Nat, k ≤ n ∧ i = .int .i64 k ∧ m = (allOf (l.take k)).length ∧ (∃ c : Option Addr × Nat, o = .slice c.1 m c.2) ∧ (∃ vs, SRws w.heap.size wr o vs (allOf (l.take k))) ∧ Below w.heap.size w wr) (fun _ i _ => n - (intOf i).toNat)
  case atStart => exact ⟨0, 1, Nat.zero_le _, rfl, rfl, ⟨(_, _), rfl⟩, ⟨_, H0.out⟩, Hb2.out⟩
  case round =>
    obtain ⟨k, m, hk, rfl, hm, ⟨⟨oa, oc⟩, rfl⟩, ⟨ovs, hO⟩, hb⟩ := hrel
    have hB := hb.size
    by_cases hlt : k < n
    · have hkl : k < l.length := by have := Hn.out; omega
      obtain ⟨b, off, u, rfl, d0, d1, hsx, hu⟩ := Hg.out k hkl
      obtain ⟨x, hx⟩ : ∃ x, x = l[k] := ⟨_, rfl⟩
      rw [← hx] at d0 hu hsx
      have hxl : x ∈ l := by rw [hx]; exact List.getElem_mem hkl
      have hxv := Hv4.out x hxl
      obtain ⟨ua, uc, rfl, hz2, g2⟩ := strs_open hu
      have e0 := cell_later hb d0
      have e1 := cell_later hb d1
      have hstep := allOf_succ hkl
      rw [← hx] at hstep
      have hsmall := (allOf_small (l.take k) (fun x hx => Hv4.out x (List.mem_of_mem_take hx))).1
      have hmsm : m ≤ 256 := by
        rw [hm]
        refine Nat.le_trans hsmall ?_
        rw [List.length_take]
        exact Nat.le_trans (Nat.pow_le_pow_right (by omega) (by omega : min k l.length ≤ 4)) (by decide)
      obtain ⟨m2, hm2⟩ : ∃ m, m = x.2.length := ⟨_, rfl⟩
      rw [← hm2] at e1 d1 hu hz2 hxv
      obtain ⟨s, hs⟩ : ∃ s, s = x.1 := ⟨_, rfl⟩
      rw [← hs] at e0 d0 hsx
      obtain ⟨O, hOO⟩ : ∃ O, O = allOf (l.take k) := ⟨_, rfl⟩
      rw [← hOO] at hm hO hstep
      have k5 : (0 : Int) ≤ (k : Int) := by omega
      have k6 : (k : Int) < (n : Int) := by omega
      have hOlen : ∀ f ∈ O, f.length = k := fun f hf => by
        have := (allOf_small (l.take k) (fun x hx => Hv4.out x (List.mem_of_mem_take hx))).2.1 f (by rw [← hOO]; exact hf)
        rw [this, List.length_take]; omega
      have hOsz : ∀ f ∈ O, ∀ z ∈ f, z.1.size ≤ maxLen ∧ z.2.size ≤ maxLen := fun f hf z hz => by
        obtain ⟨x', hx', e1, e2⟩ := (allOf_small (l.take k) (fun x hx => Hv4.out x (List.mem_of_mem_take hx))).2.2 f (by rw [← hOO]; exact hf) z hz
        obtain ⟨j, hj, ej⟩ := List.mem_iff_getElem.1 (List.mem_of_mem_take hx')
        obtain ⟨_, _, u', _, _, _, h5, h6⟩ := Hg.out j hj
        rw [ej] at h5 h6
        obtain ⟨_, _, _, _, g3⟩ := strs_open h6
        obtain ⟨t, ht, et⟩ := List.mem_iff_getElem.1 e2
        obtain ⟨_, _, _, _, h7⟩ := g3 t ht
        rw [et] at h7
        exact ⟨by rw [e1]; unfold maxLen; omega, h7⟩
      clear hx hkl hsmall
      have HOlen := Lib.hid hOlen; have HOsz := Lib.hid hOsz; clear hOlen hOsz
      have hOa := hO.below (below_alloc1 wr (.cells #[.string s, .slice ua m2 uc] 35))
      have hba := hb.alloc hB (.cells #[.string s, .slice ua m2 uc] 35)
      have hbx : (wr.alloc (.cells #[.string s, .slice ua m2 uc] 35)).heap[wr.heap.size]? = some (.cells #[.string s, .slice ua m2 uc] 35 (0, 0)) := heap_alloc_new _ _
      have HO := Lib.hid hO; have Hb := Lib.hid hb; have Hd0 := Lib.hid d0; have Hd1 := Lib.hid d1; have Hu := Lib.hid hu; have Hg2 := Lib.hid g2; have Hm := Lib.hid hm; have HOO := Lib.hid hOO; have Hstep := Lib.hid hstep; have Hxl := Lib.hid hxl; have Hs := Lib.hid hs; have Hm2 := Lib.hid hm2; have HOa := Lib.hid hOa; have Hba := Lib.hid hba; have Hbx := Lib.hid hbx; clear hO hb d0 d1 hu g2 hm hOO hstep hxl hs hm2 hOa hba hbx
      have hin0 : In2 w wr.heap.size #[.string s, .slice ua m2 uc] (.slice oa m oc) ovs O (.slice none 0 0) ((x.2.take 0).flatMap fun y => ext1 s y O) (wr.alloc (.cells #[.string s, .slice ua m2 uc] 35)) := ⟨⟨[], HOa.out, SRws.nil _ _, fun k _ e => by simp [Value.ownBlock] at e, Hba.out⟩, Hbx.out⟩
      obtain ⟨vb, hvb⟩ : ∃ vb, vb = wr.heap.size := ⟨_, rfl⟩
      rw [← hvb] at hin0
      have Hin0 := Lib.hid hin0; clear hin0
      go_wp2_with fail
      rw [← hvb]
      clear hvb
      go_loopw [6, 24] (fun nv j w2 => ∃ i : Nat, i ≤ m2 ∧ j = .int .i64 i ∧ In2 w vb #[.string s, .slice ua m2 uc] (.slice oa m oc) ovs O nv ((x.2.take i).flatMap fun y => ext1 s y O) w2) (fun _ j _ => m2 - (intOf j).toNat)
      case atStart => exact ⟨0, Nat.zero_le _, rfl, Hin0.out⟩
      case round =>
        obtain ⟨i, hi, rfl, hin⟩ := hrel
        by_cases hlt2 : i < m2
        · have hil : i < x.2.length := by have := Hm2.out; omega
          obtain ⟨b2, off2, rfl, d2, hys⟩ := Hg2.out i hil
          obtain ⟨y, hy⟩ : ∃ y, y = x.2[i] := ⟨_, rfl⟩
          rw [← hy] at d2 hys
          have hbw2 : Below w.heap.size w wr := by obtain ⟨_, h1⟩ := hin.st; exact h1.bel
          have e2 := cell_later hbw2 d2
          have hvs := vals_succ (s := s) (O := O) hil
          rw [← hy] at hvs
          have hvl := vals_len s O (x.2.take i)
          rw [List.length_take, show min i x.2.length = i by omega] at hvl
          obtain ⟨P, hP⟩ : ∃ P, P = (x.2.take i).flatMap fun y => ext1 s y O := ⟨_, rfl⟩
          rw [← hP] at hin hvs hvl
          have hPl : P.length ≤ 1024 := by
            rw [hvl]
            have := Hm.out
            exact Nat.le_trans (Nat.mul_le_mul (by omega : i ≤ 4) (by omega : O.length ≤ 256)) (by decide)
          have k7 : (0 : Int) ≤ (i : Int) := by omega
          have k8 : (i : Int) < (m2 : Int) := by omega
          clear hy hil
          have hin3 : ∃ nv, In2 w vb #[.string s, .slice (some ⟨b2, off2, none⟩) m2 uc] (.slice oa m oc) ovs O nv (P ++ ext1 s y (O.take 0)) wr := ⟨_, by simpa [ext1] using hin⟩
          clear hin3
          have Hin := Lib.hid hin; have Hd2 := Lib.hid d2; have Hbw2 := Lib.hid hbw2; have Hvs := Lib.hid hvs; have Hvl := Lib.hid hvl; have HP := Lib.hid hP; clear hin d2 hbw2 hvs hvl hP
          go_wp2_with fail
          go_loopw [6, 30] (fun nv j w2 => ∃ q : Nat, q ≤ m ∧ j = .int .i64 q ∧ In2 w vb #[.string s, .slice (some ⟨b2, off2, none⟩) m2 uc] (.slice oa m oc) ovs O nv (P ++ ext1 s y (O.take q)) w2) (fun _ j _ => m - (intOf j).toNat)
          case atStart => exact ⟨0, Nat.zero_le _, rfl, by simpa [ext1] using Hin.out⟩
          case round =>
            obtain ⟨q, hq, rfl, hin3⟩ := hrel
            obtain ⟨nvs, h1⟩ := hin3.st
            have hbox := hin3.box
            obtain ⟨na, nc, rfl⟩ := own_shape h1.next.row
            by_cases hlt3 : q < m
            · have hqO : q < O.length := by have := Hm.out; omega
              have hqv : q < ovs.length := by rw [h1.out.len]; exact hqO
              obtain ⟨og, ocap, hsh, hogB, hogl, hogc, _, hogcell⟩ := ownsRow_some h1.out.row (by omega)
              simp only [Value.slice.injEq] at hsh
              obtain ⟨rfl, hsh2, rfl⟩ := hsh
              clear hsh2
              obtain ⟨f, hf⟩ : ∃ f, f = O[q] := ⟨_, rfl⟩
              obtain ⟨u2, hu2⟩ : ∃ u, u = ovs[q] := ⟨_, rfl⟩
              have hkf : O[q]? = some f := by rw [hf]; exact List.getElem?_eq_getElem hqO
              have hku : ovs[q]? = some u2 := by rw [hu2]; exact List.getElem?_eq_getElem hqv
              have hrow := h1.out.rows q u2 f hku hkf
              have dd := hogcell q _ hku
              obtain ⟨fa, fc, rfl⟩ := own_shape hrow
              have hfO : f ∈ O := by rw [hf]; exact List.getElem_mem hqO
              have hfl : f.length ≤ 4 := by rw [HOlen.out f hfO]; omega
              have hrd := sets_reads (HOsz.out f hfO) hrow
              obtain ⟨fn, hfn⟩ : ∃ n, n = f.length := ⟨_, rfl⟩
              rw [← hfn] at hrow dd hrd hfl
              have hC := fun (W : World) (hW : Below wr.heap.size wr W) => cloneSet_any (stays_slice stays_set _ _ _ _ hrd hW) (by omega)
              rw [← hfn] at hC
              have c0 := cells_at hbox 0
              simp only [List.getElem?_toArray, List.getElem?_cons_zero] at c0
              have hnext := ext1_succ (s := s) (y := y) hqO
              rw [← hf] at hnext
              obtain ⟨NL, hNL⟩ : ∃ NL, NL = (P ++ ext1 s y (O.take q)).length := ⟨_, rfl⟩
              have hNL2 : NL ≤ 2000 := by
                rw [hNL, List.length_append, ext1_len, List.length_take]
                have := Hm.out
                omega
              rw [← hNL]
              have hB3 := h1.bel.size
              have h1n := h1.next.row
              rw [← hNL] at h1n
              have hvbl : vb < wr.heap.size := (Array.getElem?_eq_some_iff.1 hbox).1
              have k9 : (0 : Int) ≤ (q : Int) := by omega
              have k10 : (q : Int) < (m : Int) := by omega
              clear hf hu2 hqO hqv hogcell hku hkf
              have Hin3 := Lib.hid hin3; have H1 := Lib.hid h1; have Hbox := Lib.hid hbox; have Hrow := Lib.hid hrow; have HfO := Lib.hid hfO; have Hrd := Lib.hid hrd; have Hfn := Lib.hid hfn; have HC := Lib.hid hC; have Hnext := Lib.hid hnext; have HNL := Lib.hid hNL; clear hin3 h1 hbox hrow hfO hrd hfn hC hnext hNL
              go_wp2_with fail
              have w0 := World.new_ne wr ⟨vb, 0, none⟩ c0
              go_region_held3? (fun w' => w'.cell? ⟨vb, 0, none⟩ = some (.string s)) (first | go_keep | exact cc6 | exact cell_later hb5 c0 | exact cell_later hA4 c0) (first | (have := ord1; have hA3 := hA1; refine step_append_some elem_set (w := wA) rfl (.tmp 36) (.tmp 41) rfl wr.heap.size (.slice a1 fn c1) fn (f.flatMap setCells) rfl hA3 1 (by decide) #[.string s, .string y] rfl rfl (by simp [Value.oneCell']) (by omega) (by unfold maxLen; omega) hzA ?_; intro g5 c5 w5 hown5 hg5 hm5; have hb5 := bel_own hA4 hA3 (Nat.le_refl _) hg5 hzA; have hz5 := hb5.size; have hn5 := ownsRow_below h1n hb5) | (have := ord2; have hA3 := ownsRow_mono (B := wr.heap.size) hA1 ((below_alloc1 (wr.drewN 1) _).size); have hL2 := heap_below hA2 (heap_new_at (o := .cells #[.string s, .string y] 38) (w := wr.drewN 1) (n := wr.heap.size) rfl); refine step_append_from elem_set rfl (.tmp 36) (.tmp 41) rfl wr.heap.size (.slice a1 fn c1) fn (f.flatMap setCells) rfl hA3 (some ⟨wr.heap.size, 0, none⟩) 1 1 [.string s, .string y] rfl rfl (lit_two hL2) (by simp [Value.oneCell']) (by omega) (by unfold maxLen; omega) hzA ?_; intro v5 w5 hown5 hg5 hm5; obtain ⟨g5, c5, rfl, _⟩ := ownsRow_some hown5 (by omega); have hb5 := bel_own hA4 hA3 (Nat.le_refl _) hg5 hzA; have hz5 := hb5.size; have hn5 := ownsRow_below h1n hb5) | (have := hown5; refine step_append_some elem_sets (w := w5) rfl (.tmp 34) (.tmp 43) rfl w.heap.size (.slice na NL nc) NL nvs rfl hn5 1 (by decide) #[.slice (some ⟨g5, 0, none⟩) (fn + 1) c5] rfl rfl (by simp [Value.oneCell']) (by omega) (by unfold maxLen; omega) (Nat.le_trans hB3 hz5) ?_; intro g6 c6 w6 hown6 hg6 hm6; have hbox6 := keepT_grown hg6 hn5 (by decide) _ _ _ (heap_below hb5 Hbox.out); have cc6 := cells_at hbox6 0; simp only [List.getElem?_toArray, List.getElem?_cons_zero] at cc6) | (go_at_call 68; refine (HC.out _ (by exact bel_drewN (Below.refl _ _) 1)).mono ?_; rintro e wA ⟨v1, rfl, hA1, hA2⟩; have hA4 : Below wr.heap.size wr wA := ⟨hA2.os, hA2.tape, hA2.output, hA2.size, hA2.block⟩; have ord1 : True := trivial; obtain ⟨a1, c1, rfl⟩ := own_shape hA1; have hzA := hA4.size) | (go_at_call 68; refine (HC.out _ (by exact (bel_drewN (Below.refl _ _) 1).alloc (Nat.le_refl _) _)).mono ?_; rintro e wA ⟨v1, rfl, hA1, hA2⟩; have hA4 : Below wr.heap.size wr wA := ((bel_drewN (Below.refl wr.heap.size wr) 1).alloc (Nat.le_refl _) _).trans (hA2.mono ((below_alloc1 (wr.drewN 1) _).size)); have ord2 : True := trivial; obtain ⟨a1, c1, rfl⟩ := own_shape hA1; have hzA := hA4.size))
              all_goals
                have hN : In2 w vb #[.string s, .slice (some ⟨b2, off2, none⟩) m2 uc] (.slice (some ⟨og, 0, none⟩) m oc) ovs O (.slice (some ⟨g6, 0, none⟩) (NL + 1) c6) (P ++ ext1 s y (O.take (q + 1))) w6 := by
                  rw [Hnext.out, ← List.append_assoc]
                  exact In2.more H1.out Hbox.out hb5 Hfn.out HNL.out hown5 hown6 hg6 hm6
                have HN := Lib.hid hN; have Hown5 := Lib.hid hown5; have Hown6 := Lib.hid hown6; have Hg6 := Lib.hid hg6; have Hm6 := Lib.hid hm6; have Hb5 := Lib.hid hb5; have HA4 := Lib.hid hA4; have HA1 := Lib.hid hA1; have HA2 := Lib.hid hA2; have Hn5 := Lib.hid hn5; have Hbox6 := Lib.hid hbox6; clear hN hown5 hown6 hg6 hm6 hb5 hA4 hA1 hA2 hn5 hbox6
                go_wp2_with fail
                go_roundw
                case rel => exact ⟨q + 1, by omega, by go_num, HN.out⟩
                case measure => simp [intOf]; omega
            · obtain rfl : m = q := by omega
              have hfull : In2 w vb #[.string s, .slice (some ⟨b2, off2, none⟩) m2 uc] (.slice oa m oc) ovs O (.slice na (P ++ ext1 s y (O.take m)).length nc) ((x.2.take (i + 1)).flatMap fun y => ext1 s y O) wr := by
                rw [Hvs.out]
                have e : O.take m = O := List.take_of_length_le (by rw [← Hm.out]; exact Nat.le_refl _)
                rw [e] at hin3 ⊢
                exact hin3
              obtain ⟨NL, hNL⟩ : ∃ NL, NL = (P ++ ext1 s y (O.take m)).length := ⟨_, rfl⟩
              rw [← hNL] at hfull ⊢
              have Hfull := Lib.hid hfull; have Hin3 := Lib.hid hin3; have H1 := Lib.hid h1; have Hbox := Lib.hid hbox; have HNL := Lib.hid hNL; clear hfull hin3 h1 hbox hNL
              go_wp2_with fail
              go_roundw
              case rel => exact ⟨i + 1, by omega, by go_num, Hfull.out⟩
              case measure => simp [intOf]; omega
        · obtain rfl : m2 = i := by omega
          obtain ⟨nvs, h1⟩ := hin.st
          have e : x.2.take m2 = x.2 := List.take_of_length_le (by rw [← Hm2.out]; exact Nat.le_refl _)
          have e2 : ((x.2.take m2).flatMap fun y => ext1 s y O) = allOf (l.take (k + 1)) := by
            rw [Hstep.out, e, Hs.out]; rfl
          rw [e2] at h1
          obtain ⟨na, nc, rfl⟩ := own_shape h1.next.row
          obtain ⟨NL, hNL⟩ : ∃ NL, NL = (allOf (l.take (k + 1))).length := ⟨_, rfl⟩
          rw [← hNL]
          have hnx := h1.next
          have hbl := h1.bel
          rw [← hNL] at hnx
          have Hnx := Lib.hid hnx; have Hbl := Lib.hid hbl; have Hin := Lib.hid hin; have H1 := Lib.hid h1; have HNL := Lib.hid hNL; clear hnx hbl hin h1 hNL
          go_wp2_with fail
          go_roundw
          case rel => exact ⟨k + 1, NL, by omega, by go_num, HNL.out, ⟨(_, _), rfl⟩, ⟨_, Hnx.out⟩, Hbl.out⟩
          case measure => simp [intOf]; omega
    · obtain rfl : n = k := by omega
      have e : l.take n = l := List.take_of_length_le (by rw [← Hn.out]; exact Nat.le_refl _)
      rw [e] at hO
      have HO := Lib.hid hO; have Hb := Lib.hid hb; have Hm := Lib.hid hm; clear hO hb hm
      go_wp2_with fail
      go_ret
      exact ⟨_, rfl, ⟨_, HO.out⟩, Hb.out⟩
end Go.Proofs.Ytnelgellbabkoaa
