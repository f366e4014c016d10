/- Walks and plain facts. Texts merged: RqI, RqN, RqO, RqP, RqQ, RqR, RqS, RqT, LexR, LexD, RqU, SetSame, SmS, RqV, RqW, RqY, RqJ, RpM, RqK. Condition: none beyond what each says. -/
import Derived.Lib.IndexLaws
import Derived.Lib.Bytealg
import Derived.Test.YteailgjiifdgcaaGreatDoorRequestJoinsAll8
set_option linter.unusedVariables false
set_option linter.unusedSimpArgs false
/- The walk of request.Parse: the request of a text. Condition: the library's variables as they were laid; a text that is not great. -/
namespace Go.Proofs.YteailgjiifdgcaaGreatDoor
open Go.Shelf Go.RowKit Go.Lib VerN VarM
open LexM (Wd Ln GoodL)
attribute [local go_sem ↓] Go.wp_at_zero Go.wp_at_succ

abbrev Rt := Spc3 × Int
def RRootT (W : World) (cs : List Value) (x : Rt) : Prop := ∃ v1 v2, cs = [.string x.1.1, v1, v2, .int .i64 x.2] ∧ RSpsT W v1 x.1.2.1 ∧ RSetsT W v2 x.1.2.2
def RRoot : Rd Rt := fun W cs x => ∃ v1 v2, cs = [.string x.1.1, v1, v2, .int .i64 x.2] ∧ RSps W [v1] x.1.2.1 ∧ RSets W [v2] x.1.2.2
theorem stays_root : Stays RRoot := fun w w' cs x h hb => by
 obtain ⟨v1, v2, e, h1, h2⟩ := h
 exact ⟨v1, v2, e, stays_slice stays_spn _ _ _ _ h1 hb, stays_slice stays_set _ _ _ _ h2 hb⟩
abbrev RRoots : Rd (List Rt) := RSlice 4 RRoot
structure RqSt (w : World) (g : Nat) (rs : List Rt) (css : List (List Value)) (v : Value) (W : World) : Prop where
 box : W.heap[g]? = some (.cells #[v] 38 (0, 0))
 row : W.ownsRow w.heap.size 101 4 v rs.length css.flatten
 len : css.length = rs.length
 els : ∀ (i : Nat) cs x, css[i]? = some cs → rs[i]? = some x → RRootT W cs x
 bel : Below w.heap.size w W
theorem RqSt.to {w W W' : World} {g : Nat} {rs : List Rt} {css : List (List Value)} {v : Value} (h : RqSt w g rs css v W) (hb : Below W.heap.size W W') : RqSt w g rs css v W' :=
 ⟨heap_below hb h.box, ownsRow_below h.row hb, h.len, fun i cs x h1 h2 => by
  obtain ⟨v1, v2, e, k1, k2⟩ := h.els i cs x h1 h2
  exact ⟨v1, v2, e, spsT_below k1 hb, setsT_below k2 hb⟩, h.bel.trans (hb.mono h.bel.size)⟩
theorem RqSt.reads {w W : World} {g : Nat} {rs : List Rt} {css : List (List Value)} {v : Value} (h : RqSt w g rs css v W) : RRoots W [v] rs := by
 refine slice_of_cells (by decide) h.len (fun cs hcs => ?_) h.row (fun i cs x h1 h2 => ?_)
 ·obtain ⟨i, hi, e⟩ := List.getElem_of_mem hcs
  obtain ⟨v1, v2, e2, _⟩ := h.els i cs (rs[i]'(by rw [← h.len]; exact hi)) (by rw [← e]; exact List.getElem?_eq_getElem hi) (List.getElem?_eq_getElem (by rw [← h.len]; exact hi))
  rw [e2]; rfl
 ·obtain ⟨v1, v2, e, k1, k2⟩ := h.els i cs x h1 h2
  exact ⟨v1, v2, e, k1.1, k2.1⟩
theorem RqSt.other {w W W' : World} {g : Nat} {rs : List Rt} {css : List (List Value)} {v : Value} {T : Nat → Prop} (h : RqSt w g rs css v W) (hF : Frm T W W') (hT : No2 W T) (hO : ∀ k, T k → v.ownBlock ≠ some k) : RRoots W' [v] rs := by
 refine slice_of_cells (by decide) h.len (fun cs hcs => ?_) (hF.owns h.row (fun k hk kT => hO k kT hk)) (fun i cs x h1 h2 => ?_)
 ·obtain ⟨i, hi, e⟩ := List.getElem_of_mem hcs
  obtain ⟨v1, v2, e2, _⟩ := h.els i cs (rs[i]'(by rw [← h.len]; exact hi)) (by rw [← e]; exact List.getElem?_eq_getElem hi) (List.getElem?_eq_getElem (by rw [← h.len]; exact hi))
  rw [e2]; rfl
 ·obtain ⟨v1, v2, e, k1, k2⟩ := h.els i cs x h1 h2
  exact ⟨v1, v2, e, (sps_other k1 hF hT).1, (sets_other k2 hF hT).1⟩
theorem RqSt.push {w W w9 : World} {g : Nat} {rs : List Rt} {css : List (List Value)} {v v9 v1 v2 : Value} {x : Rt} (h : RqSt w g rs css v W) (hg : w.heap.size ≤ g) (h1 : RSpsT W v1 x.1.2.1) (h2 : RSetsT W v2 x.1.2.2)
  (ho : w9.ownsRow w.heap.size 101 4 v9 (rs.length + 1) (css.flatten ++ [.string x.1.1, v1, v2, .int .i64 x.2])) (hgr : W.grownBy w9 v.ownBlock) :
  RqSt w g (rs ++ [x]) (css ++ [[.string x.1.1, v1, v2, .int .i64 x.2]]) v9 (w9.setCell ⟨g, 0, none⟩ v9) ∧ w9.heap[g]? = some (.cells #[v] 38 (0, 0)) := by
 have f1 : Frm (fun k => v.ownBlock = some k) W w9 := frm_of_grown hgr
 have hvg := apart_block h.row h.box (by decide)
 have hb9 := heap_to h.box f1 hvg
 have hv9g := apart_block ho hb9 (by decide)
 have f2 : Frm (fun k => k = g) w9 (w9.setCell ⟨g, 0, none⟩ v9) := frm_cell (Frm.refl _ _) 0 _
 have fT : Frm (fun k => v.ownBlock = some k ∨ k = g) W (w9.setCell ⟨g, 0, none⟩ v9) := (f1.mono (fun _ _ h => .inl h)).trans f2 (fun _ _ h => .inr h)
 have hT : No2 W (fun k => v.ownBlock = some k ∨ k = g) := by
  rintro k (hk | rfl)
  ·obtain ⟨cs, hc⟩ := own_type h.row k hk
   exact no2_of hc (by decide) (by decide)
  ·exact no2_of h.box (by decide) (by decide)
 refine ⟨⟨heap_setCell_same w9 g 0 _ _ v9 hb9, ?_, by simp [h.len], fun i cs y e1 e2 => ?_, ?_⟩, hb9⟩
 ·rw [List.length_append, List.flatten_append]
  have := f2.owns ho (fun k hk e => hv9g (by rw [hk, e]))
  simpa using this
 ·by_cases hi : i < css.length
  ·rw [List.getElem?_append_left hi] at e1
   rw [List.getElem?_append_left (by rw [← h.len]; exact hi)] at e2
   obtain ⟨u1, u2, e, k1, k2⟩ := h.els i cs y e1 e2
   exact ⟨u1, u2, e, sps_other k1 fT hT, sets_other k2 fT hT⟩
  ·have hlt := (List.getElem?_eq_some_iff.1 e1).1
   have e : i = css.length := by simp at hlt; omega
   rw [List.getElem?_append_right (by omega), e, Nat.sub_self] at e1
   rw [List.getElem?_append_right (by rw [← h.len]; omega), e, h.len, Nat.sub_self] at e2
   simp at e1 e2
   subst e1 e2
   exact ⟨v1, v2, rfl, sps_other h1 fT hT, sets_other h2 fT hT⟩
 ·exact h.bel.trans (fT.below h.bel.size (by
   rintro k (hk | rfl)
   ·exact (h.row.lt k hk).1
   ·exact hg))
theorem lns_at {w : World} {a : Option Addr} {n c : Nat} {ls : List Ln} (h : RLns w [.slice a n c] ls) : n = ls.length ∧ n ≤ 9223372036854775807 ∧ ∀ i x, ls[i]? = some x → ∃ b off a2 n2 c2, a = some ⟨b, off, none⟩ ∧ w.cell? ⟨b, off + i * 2, none⟩ = some (.int .i64 x.1) ∧ w.cell? ⟨b, off + i * 2 + 1, none⟩ = some (.slice a2 n2 c2) ∧ RWds w [.slice a2 n2 c2] x.2 := by
 obtain ⟨a', cap, hv, hcap, hmax, hel⟩ := h
 simp only [List.cons.injEq, and_true, Value.slice.injEq] at hv
 obtain ⟨rfl, hn, _⟩ := hv
 unfold maxLen at hmax
 refine ⟨hn, by omega, fun i x hi => ?_⟩
 obtain ⟨b, off, ecs, h1, h2, h3, v, h4, h5, _⟩ := hel i x hi
 obtain ⟨a2, c2, rfl⟩ := wds_shape h5
 subst h4
 exact ⟨b, off, a2, _, c2, h1, by simpa using h3 0 _ rfl, by simpa using h3 1 _ rfl, h5⟩
theorem results_cct {P : Program} {fn : Func} {p q u : Tmp} {ty tz t1 t2 : TypeId} (h : fn.results = #[.cell p ty, .cell q tz, .tmp u]) {tmps : Array Value} {w : World} {g k : Nat} {cs ds : Array Value} {d1 d2 : TypeDesc} {x : Value}
  (hp : tmps.getD p undef = .pointer (some ⟨g, 0, none⟩)) (hq : tmps.getD q undef = .pointer (some ⟨k, 0, none⟩)) (hx : tmps.getD u undef = x) (hg : w.heap[g]? = some (.cells cs t1 (0, 0))) (hk : w.heap[k]? = some (.cells ds t2 (0, 0)))
  (hu : P.underlying ty = some d1) (hd : (match d1 with | .struct _ | .array _ _ => true | _ => false) = true) (hi : (P.info? ty).map (·.size) = some cs.size)
  (hu2 : P.underlying tz = some d2) (hd2 : (match d2 with | .struct _ | .array _ _ => true | _ => false) = true) (hi2 : (P.info? tz).map (·.size) = some ds.size) :
  (results fn tmps).run P w = .ok (.tuple #[.agg cs, .agg ds, x]) w := by
 have hl := run_loadVar_row w g t1 ty cs (0, 0) d1 hg hu hd hi
 have hl2 := run_loadVar_row w k t2 tz ds (0, 0) d2 hk hu2 hd2 hi2
 have hp' : tmps[p]?.getD undef = .pointer (some ⟨g, 0, none⟩) := by simpa using hp
 have hq' : tmps[q]?.getD undef = .pointer (some ⟨k, 0, none⟩) := by simpa using hq
 have hx' : tmps[u]?.getD undef = x := by simpa using hx
 simp only [results, h]
 simp [Sem.run_bind, Result.andThen, asAddr, hp', hq', hx', hl, hl2]
def ReqPost (w : World) (r : ReqRes) (e : Ending) (w' : World) : Prop := ∃ v, e = .returned (.tuple #[.agg #[v], .agg #[.int .i64 r.at1, .int .i64 r.at2], .int .i64 r.e]) ∧ RRoots w' [v] r.roots ∧ Below w.heap.size w w'
theorem elem_root : Elem Tryz.prog 36 101 (.agg #[.string ⟨#[]⟩, .slice none 0 0, .slice none 0 0, .int .i64 0]) 4 72 := ⟨Tryz.underlying36, by kernel_rfl, rfl, by decide⟩
theorem reqGo_on {l : Ln} {r : List Ln} {out : List Rt} {s : Spc3} {c : Int} (h : rootW l = (some s, c)) : reqGo (l :: r) out = reqGo r (out ++ [(s, l.1)]) := by
 show (match rootW l with | (some s, _) => reqGo r (out ++ [(s, l.1)]) | (none, c) => ⟨[], l.1, c, 2⟩) = _
 rw [h]
theorem reqGo_no {l : Ln} {r : List Ln} {out : List Rt} {c : Int} (h : rootW l = (none, c)) : reqGo (l :: r) out = ⟨[], l.1, c, 2⟩ := by
 show (match rootW l with | (some s, _) => reqGo r (out ++ [(s, l.1)]) | (none, c) => ⟨[], l.1, c, 2⟩) = _
 rw [h]
abbrev WhBox (k : Nat) (x y : Int) (W : World) : Prop := W.heap[k]? = some (.cells #[.int .i64 x, .int .i64 y] 40 (0, 0))
abbrev RqBox (k : Nat) (v : Value) (W : World) : Prop := W.heap[k]? = some (.cells #[v] 38 (0, 0))
theorem wh_cells {k : Nat} {x y : Int} {W : World} (h : WhBox k x y W) : W.cell? ⟨k, 0, none⟩ = some (.int .i64 x) ∧ W.cell? ⟨k, 1, none⟩ = some (.int .i64 y) ∧ W.frozen? ⟨k, 0, none⟩ = false ∧ W.frozen? ⟨k, 1, none⟩ = false := ⟨cells_at h 0, cells_at h 1, frozen_at h 0, frozen_at h 1⟩
theorem rq_cells {k : Nat} {v : Value} {W : World} (h : RqBox k v W) : W.cell? ⟨k, 0, none⟩ = some v ∧ W.frozen? ⟨k, 0, none⟩ = false := ⟨cells_at h 0, frozen_at h 0⟩
set_option maxRecDepth 10000 in
set_option maxHeartbeats 8000000 in
theorem parse_any (t : ByteArray) (ht : t.size ≤ 140737488351232) {w : World} (hD : Doors w) : Calls Tryz.prog 28 #[.string t] w (ReqPost w (reqOf t.data.toList)) := by
 have hgood := LexM.doc_good7 t.data.toList
 have hL := fun (W : World) => lexLines_any t (by omega) W
 rw [LexM.lines_eq] at hL
 obtain ⟨R, hR⟩ : ∃ R, R = LexM.docLines t.data.toList := ⟨_, rfl⟩
 have hreq : reqOf t.data.toList = if R.e = 0 then reqGo R.lines [] else ⟨[], R.at1, R.at2, R.e⟩ := by unfold reqOf; rw [hR]
 rw [← hR] at hL hgood
 have hlen : t.data.toList.length = t.size := Txt.len t
 obtain ⟨g, hg⟩ : ∃ g, g = w.heap.size := ⟨_, rfl⟩
 obtain ⟨W1, hW1⟩ : ∃ W, W = (w.alloc (.cells #[.slice none 0 0] 38)).alloc (.cells #[.int .i64 0, .int .i64 0] 40) := ⟨_, rfl⟩
 have hb1 : Below w.heap.size w W1 := by rw [hW1]; exact (below_alloc1 _ _).alloc (by simp) _
 have p0 : RqBox g (.slice none 0 0) W1 := by rw [hW1, hg]; exact heap_below (below_alloc1 _ _) (heap_new_at rfl)
 have p1 : WhBox (g + 1) 0 0 W1 := by rw [hW1, hg]; exact heap_new_at (by simp)
 have hs1 : W1.heap.size = g + 2 := by rw [hW1, hg]; simp
 have hwg : w.heap.size ≤ g := Nat.le_of_eq hg.symm
 have hL1 := hL W1
 unfold LinesPost at hL1
 obtain ⟨a1, ha1⟩ : ∃ z, z = R.at1 := ⟨_, rfl⟩
 obtain ⟨a2, ha2⟩ : ∃ z, z = R.at2 := ⟨_, rfl⟩
 obtain ⟨er, her⟩ : ∃ z, z = R.e := ⟨_, rfl⟩
 obtain ⟨ls, hls⟩ : ∃ z, z = R.lines := ⟨_, rfl⟩
 rw [← ha1, ← ha2, ← her, ← hls] at hL1 hreq
 rw [← hls] at hgood
 clear hL
 obtain ⟨HD, Hgood, Hreq, HL1, Hb1, Hp0, Hp1, HR, Hlen, Ha1, Ha2, Her, Hls⟩ := hd13 hD hgood hreq hL1 hb1 p0 p1 hR hlen ha1 ha2 her hls; clear hD hgood hreq hL1 hb1 p0 p1 hR hlen ha1 ha2 her hls
 go_enter Tryz.func28, Tryz.ntmps28
 go_upto_region 1 with (fail)
 rw [← hW1, ← hg]
 clear hW1 hg
 go_wp2_with fail
 refine HL1.out.mono ?_
 rintro e w2 ⟨v, rfl, hln, hb2⟩
 obtain ⟨ad, cp, rfl⟩ : ∃ a c, v = .slice a ls.length c := by
  obtain ⟨a, cap, hv, _⟩ := hln
  simp only [List.cons.injEq, and_true] at hv
  exact ⟨a, cap, hv⟩
 obtain ⟨n, hn⟩ : ∃ n, n = ls.length := ⟨_, rfl⟩
 rw [← hn] at hln ⊢
 obtain ⟨w3, hw3⟩ : ∃ W, W = w2.alloc (.cells #[.int .i64 a1, .int .i64 a2] 40) := ⟨_, rfl⟩
 have hb23 : Below w2.heap.size w2 w3 := by rw [hw3]; exact below_alloc1 _ _
 have hb13 := hb2.trans (hb23.mono hb2.size)
 have hb3 := Hb1.out.trans (hb13.mono Hb1.out.size)
 have hs2 : g + 2 ≤ w2.heap.size := by have := hb2.size; omega
 have p6 : WhBox w2.heap.size a1 a2 w3 := by rw [hw3]; exact heap_alloc_new _ _
 have p0' := heap_below hb13 Hp0.out
 have p1' := heap_below hb13 Hp1.out
 have hln3 := stays_lns _ _ _ _ hln hb23
 have hs3 : w3.heap.size = w2.heap.size + 1 := by rw [hw3]; simp
 obtain ⟨x0, x1, _, _⟩ := wh_cells p6
 obtain ⟨_, f0⟩ := rq_cells p0'
 obtain ⟨_, _, f1, f2⟩ := wh_cells p1'
 by_cases he : er = 0
 ·have k1 : (er != 0) = false := by rw [he]; rfl
  have hq := Hreq.out
  rw [if_pos he] at hq
  obtain ⟨q, hqq⟩ : ∃ q, q = w3.heap.size := ⟨_, rfl⟩
  obtain ⟨w4, hw4⟩ : ∃ W, W = w3.alloc (.cells #[.slice none 0 0] 38) := ⟨_, rfl⟩
  have hI0 : RqSt w3 q [] [] (.slice none 0 0) w4 := ⟨by rw [hw4, hqq]; exact heap_alloc_new _ _, World.ownsRow_nil _ _ _ _, rfl, (fun i cs x h => by simp at h), by rw [hw4]; exact below_alloc1 _ _⟩
  have hn1 : n ≤ 70001 := by have := Hgood.out.2; omega
  have hlow : w3.heap.size ≤ q := Nat.le_of_eq hqq.symm
  clear x0 x1 f0 f1 f2
  obtain ⟨Hln, Hb2, Hb23, Hb13, Hb3, Hp6, Hp0', Hp1', Hln3, Hn, Hq, He, HI0, Hs3⟩ := hd14 hln hb2 hb23 hb13 hb3 p6 p0' p1' hln3 hn hq he hI0 hs3; clear hln hb2 hb23 hb13 hb3 p6 p0' p1' hln3 hn hq he hI0 hs3
  go_upto_region 2 with (fail)
  rw [← hw3]
  clear hw3
  go_upto_region 5 with (fail)
  rw [← hw4, ← hqq]
  clear hw4 hqq
  go_wp2_with fail
  go_loopw [26] (fun v wr => ∃ (k : Nat) (rs : List Rt) (css : List (List Value)) (u : Value), k ≤ n ∧ v = .int .i64 k ∧ RqSt w3 q rs css u wr ∧ rs.length = k ∧ reqOf t.data.toList = reqGo (ls.drop k) rs) (fun v _ => n - (RowKit.intOf v).toNat)
  case atStart => exact ⟨0, [], [], _, Nat.zero_le _, rfl, HI0.out, rfl, by rw [List.drop_zero]; exact Hq.out⟩
  case round =>
   obtain ⟨wo, hwo⟩ : ∃ W, W = wr := ⟨_, rfl⟩
   rw [← hwo] at hrel ⊢
   clear hwo wr
   obtain ⟨k, rs, css, u, hk, rfl, hI, hrk, hgo⟩ := hrel
   by_cases hlt : k < n
   ·have hkl : k < ls.length := by have := Hn.out; omega
    obtain ⟨x, hx⟩ : ∃ x, x = ls[k] := ⟨_, rfl⟩
    obtain ⟨-, -, hat⟩ := lns_at Hln3.out
    obtain ⟨b, off, a2', n2, c2, rfl, c0, c1, hwd⟩ := hat k x (by rw [hx]; exact List.getElem?_eq_getElem hkl)
    clear hat
    have d0 := cell_later hI.bel c0
    have d1 := cell_later hI.bel c1
    obtain ⟨ln, hln0⟩ : ∃ z, z = x.1 := ⟨_, rfl⟩
    rw [← hln0] at d0
    have hgx0 := Hgood.out.1 x (by rw [hx]; exact List.getElem_mem hkl)
    have hgx : GoodL 70000 x := hgx0
    have hdr : ls.drop k = x :: ls.drop (k + 1) := by rw [hx]; exact List.drop_eq_getElem_cons hkl
    rw [hdr] at hgo
    obtain ⟨w5, hw5⟩ : ∃ W, W = wo.alloc (.cells #[.int .i64 ln, .slice a2' n2 c2] 62) := ⟨_, rfl⟩
    have hb5 : Below wo.heap.size wo w5 := by rw [hw5]; exact below_alloc1 _ _
    have hb35 := hI.bel.trans (hb5.mono hI.bel.size)
    obtain ⟨lb, hlb⟩ : ∃ z, z = wo.heap.size := ⟨_, rfl⟩
    have p10 : w5.heap[lb]? = some (.cells #[.int .i64 ln, .slice a2' n2 c2] 62 (0, 0)) := by rw [hw5, hlb]; exact heap_alloc_new _ _
    have y0 := cells_at p10 0
    have y1 := cells_at p10 1
    simp only [List.getElem?_toArray, List.getElem?_cons_zero, List.getElem?_cons_succ] at y0 y1
    have hO := requestOne_any (stays_slice stays_wd _ _ _ _ hwd hb35) (HD.out.below (Hb3.out.trans (hb35.mono Hb3.out.size))) hgx
    rw [← hln0] at hO
    have hlg : g + 2 < lb := by have := hI.bel.size; have := Hs3.out; omega
    obtain ⟨au, cu, rfl⟩ := own_shape hI.row
    have k5 : (0 : Int) ≤ (k : Int) := by omega
    have k6 : (k : Int) < (n : Int) := by omega
    rw [hrk] at hI
    clear c0 c1
    obtain ⟨HI, Hrk, Hgo, Hx, Hwd, Hln0, Hgx0, Hgx, Hdr, Hb5, Hb35, Hp10, HO⟩ := hd13 hI hrk hgo hx hwd hln0 hgx0 hgx hdr hb5 hb35 p10 hO; clear hI hrk hgo hx hwd hln0 hgx0 hgx hdr hb5 hb35 p10 hO
    go_upto_region 8 with (fail)
    rw [← hw5, ← hlb]
    clear hw5 hlb
    go_wp2_with fail
    refine HO.out.mono ?_
    rintro e w6 ⟨⟨s, col, b1, n1, c1, b2, n2', c2', hw, rfl, hv1, hv2⟩ | ⟨col, hw, hcol, rfl⟩, hb6⟩
    ·rw [← Hln0.out]
     obtain ⟨w7, hw7⟩ : ∃ W, W = w6.alloc (.cells #[.string s.1, .slice b1 n1 c1, .slice b2 n2' c2', .int .i64 ln] 101) := ⟨_, rfl⟩
     have hb67 : Below w6.heap.size w6 w7 := by rw [hw7]; exact below_alloc1 _ _
     have hb57 := hb6.trans (hb67.mono hb6.size)
     have hb47 := Hb5.out.trans (hb57.mono Hb5.out.size)
     have hI7 := HI.out.to hb47
     obtain ⟨tb, htb⟩ : ∃ z, z = w6.heap.size := ⟨_, rfl⟩
     have p11 : RootBox tb (.string s.1) (.slice b1 n1 c1) (.slice b2 n2' c2') (.int .i64 ln) w7 := by rw [hw7, htb]; exact heap_alloc_new _ _
     obtain ⟨⟨u0, u1, u2, u3⟩, _, _, _, _⟩ := root_cells p11
     obtain ⟨qc, _⟩ := rq_cells hI7.box
     have hv1' := spsT_below hv1 hb67
     have hv2' := setsT_below hv2 hb67
     have hrow7 := hI7.row
     rw [Hrk.out] at hrow7
     have hbz : w3.heap.size ≤ w7.heap.size := hI7.bel.size
     obtain ⟨N, hN⟩ : ∃ N, N = css.flatten := ⟨_, rfl⟩
     rw [← hN] at hrow7
     obtain ⟨Hw, Hv1, Hv2, Hb6, Hb67, Hb57, Hb47, HI7, Hp11, Hv1', Hv2', Hrow7, HN⟩ := hd13 hw hv1 hv2 hb6 hb67 hb57 hb47 hI7 p11 hv1' hv2' hrow7 hN; clear hw hv1 hv2 hb6 hb67 hb57 hb47 hI7 p11 hv1' hv2' hrow7 hN
     go_upto_region 9 with (fail)
     rw [← hw7, ← htb]
     clear hw7 htb
     go_wp2_with (at_builtin; (refine wpList_append_lit elem_root rfl (.tmp 43) (.tmp 45) rfl w3.heap.size (.slice au k cu) k N rfl Hrow7.out 1 #[.string s.1, .slice b1 n1 c1, .slice b2 n2' c2', .int .i64 ln] rfl rfl (by simp [Value.oneCell']) (by omega) (by unfold maxLen; omega) hbz ?_; intro v9 w9 hown9 hg9 hm9; obtain ⟨a9, c9, rfl⟩ := own_shape hown9; have hpu := HI7.out.push hlow (x := (s, ln)) Hv1'.out Hv2'.out (by rw [Hrk.out, ← HN.out]; exact hown9) hg9; obtain ⟨qc9, qf9⟩ := rq_cells hpu.2; have Hpu := hd hpu; clear hown9 hg9 hm9 hpu))
     go_roundw
     case rel =>
      refine ⟨k + 1, rs ++ [(s, ln)], _, _, by omega, by go_num, Hpu.out.1, by rw [List.length_append, Hrk.out]; rfl, ?_⟩
      rw [Hgo.out, reqGo_on Hw.out, ← Hln0.out]
     case measure => simp [RowKit.intOf]; omega
    ·have hne : (col != 0) = true := by simpa using hcol
     obtain ⟨w7, hw7⟩ : ∃ W, W = w6.alloc (.cells #[.string ⟨#[]⟩, .slice none 0 0, .slice none 0 0, .int .i64 0] 101) := ⟨_, rfl⟩
     have hb67 : Below w6.heap.size w6 w7 := by rw [hw7]; exact below_alloc1 _ _
     have hb57 := hb6.trans (hb67.mono hb6.size)
     have hb47 := Hb5.out.trans (hb57.mono Hb5.out.size)
     have hI7 := HI.out.to hb47
     have z10 := heap_below hb57 Hp10.out
     have z0 := heap_below hI7.bel Hp0'.out
     have z1 := heap_below hI7.bel Hp1'.out
     have hb37 := Hb3.out.trans (hI7.bel.mono Hb3.out.size)
     have t0 := cells_at z10 0
     simp only [List.getElem?_toArray, List.getElem?_cons_zero, List.getElem?_cons_succ] at t0
     obtain ⟨_, f0⟩ := rq_cells z0
     obtain ⟨_, _, f1, f2⟩ := wh_cells z1
     have hne1 : ¬ lb = g := by omega
     have hne2 : ¬ lb = g + 1 := by omega
     obtain ⟨Hw, Hcol, Hb6, Hb67, Hb57, Hb47, HI7, Hz10, Hz0, Hz1, Hb37⟩ := hd11 hw hcol hb6 hb67 hb57 hb47 hI7 z10 z0 z1 hb37; clear hw hcol hb6 hb67 hb57 hb47 hI7 z10 z0 z1 hb37
     go_upto_region 9 with (fail)
     rw [← hw7]
     clear hw7
     go_wp2_with fail
     go_region
     go_wp2_with fail
     have x0 := heap_other (b := g + 1) (i := 1) (u := .int .i64 col) (heap_other (b := g + 1) (i := 0) (u := .int .i64 ln) (heap_setCell_same w7 g 0 _ _ (.slice none 0 0) Hz0.out) (by omega)) (by omega)
     have x1 := heap_setCell_same _ (g + 1) 1 _ _ (.int .i64 col) (heap_setCell_same _ (g + 1) 0 _ _ (.int .i64 ln) (heap_other (b := g) (i := 0) (u := .slice none 0 0) Hz1.out (by omega)))
     refine bodyPost_ret (results_cct (g := g) (k := g + 1) rfl rfl rfl rfl x0 x1 Tryz.underlying38 rfl (by kernel_rfl) Tryz.underlying40 rfl (by kernel_rfl)) rfl ?_
     rw [Hgo.out, reqGo_no Hw.out, ← Hln0.out]
     exact ⟨_, rfl, ⟨none, 0, rfl, Nat.le_refl _, Nat.zero_le _, fun i x hi => by simp at hi⟩, Below.drew (((Hb37.out.setCell (p := ⟨g, 0, none⟩) hwg _).setCell (p := ⟨g + 1, 0, none⟩) (by show w.heap.size ≤ g + 1; omega) _).setCell (p := ⟨g + 1, 1, none⟩) (by show w.heap.size ≤ g + 1; omega) _)⟩
   ·obtain rfl : k = n := by omega
    have hd : ls.drop k = [] := List.drop_eq_nil_of_le (Nat.le_of_eq Hn.out.symm)
    rw [hd] at hgo
    have z0 := heap_below hI.bel Hp0'.out
    have z1 := heap_below hI.bel Hp1'.out
    obtain ⟨qc, _⟩ := rq_cells hI.box
    obtain ⟨_, f0⟩ := rq_cells z0
    obtain ⟨_, _, f1, f2⟩ := wh_cells z1
    obtain ⟨au, cu, rfl⟩ := own_shape hI.row
    have hb3o := Hb3.out.trans (hI.bel.mono Hb3.out.size)
    rw [hrk] at hI qc
    obtain ⟨HI, Hrk, Hgo, Hz0, Hz1, Hb3o, Hd⟩ := hd7 hI hrk hgo z0 z1 hb3o hd; clear hI hrk hgo z0 z1 hb3o hd
    go_wp2_with fail
    have x0 := heap_other (b := g + 1) (i := 1) (u := .int .i64 0) (heap_other (b := g + 1) (i := 0) (u := .int .i64 0) (heap_setCell_same wo g 0 _ _ (.slice au k cu) Hz0.out) (by omega)) (by omega)
    have x1 := heap_setCell_same _ (g + 1) 1 _ _ (.int .i64 0) (heap_setCell_same _ (g + 1) 0 _ _ (.int .i64 0) (heap_other (b := g) (i := 0) (u := .slice au k cu) Hz1.out (by omega)))
    have hT : Frm (fun z => z = g ∨ z = g + 1) wo (((wo.setCell ⟨g, 0, none⟩ (.slice au k cu)).setCell ⟨g + 1, 0, none⟩ (.int .i64 0)).setCell ⟨g + 1, 1, none⟩ (.int .i64 0)) :=
     (((Frm.refl _ wo).setCell (p := ⟨g, 0, none⟩) (.inr (.inl rfl)) _).setCell (p := ⟨g + 1, 0, none⟩) (.inr (.inr rfl)) _).setCell (p := ⟨g + 1, 1, none⟩) (.inr (.inr rfl)) _
    have hno : No2 wo (fun z => z = g ∨ z = g + 1) := by
     rintro z (rfl | rfl)
     ·exact no2_of Hz0.out (by decide) (by decide)
     ·exact no2_of Hz1.out (by decide) (by decide)
    have hap : ∀ z, (z = g ∨ z = g + 1) → (Value.slice au k cu).ownBlock ≠ some z := by
     rintro z (rfl | rfl)
     ·exact apart_block HI.out.row Hz0.out (by decide)
     ·exact apart_block HI.out.row Hz1.out (by decide)
    refine bodyPost_ret (results_cct (g := g) (k := g + 1) rfl rfl rfl rfl x0 x1 Tryz.underlying38 rfl (by kernel_rfl) Tryz.underlying40 rfl (by kernel_rfl)) rfl ?_
    rw [Hgo.out]
    exact ⟨_, rfl, HI.out.other hT hno hap, ((Hb3o.out.setCell (p := ⟨g, 0, none⟩) hwg _).setCell (p := ⟨g + 1, 0, none⟩) (by show w.heap.size ≤ g + 1; omega) _).setCell (p := ⟨g + 1, 1, none⟩) (by show w.heap.size ≤ g + 1; omega) _⟩
 ·have k1 : (er != 0) = true := by simpa using he
  have hq := Hreq.out
  rw [if_neg he] at hq
  obtain ⟨Hln, Hb2, Hb23, Hb13, Hb3, Hp6, Hp0', Hp1', Hln3, Hn, Hq, He⟩ := hd12 hln hb2 hb23 hb13 hb3 p6 p0' p1' hln3 hn hq he; clear hln hb2 hb23 hb13 hb3 p6 p0' p1' hln3 hn hq he
  go_upto_region 2 with (fail)
  rw [← hw3]
  clear hw3
  go_wp2_with fail
  go_region
  go_wp2_with fail
  have x0 := heap_other (b := g + 1) (i := 1) (u := .int .i64 a2) (heap_other (b := g + 1) (i := 0) (u := .int .i64 a1) (heap_setCell_same w3 g 0 _ _ (.slice none 0 0) Hp0'.out) (by omega)) (by omega)
  have x1 := heap_setCell_same _ (g + 1) 1 _ _ (.int .i64 a2) (heap_setCell_same _ (g + 1) 0 _ _ (.int .i64 a1) (heap_other (b := g) (i := 0) (u := .slice none 0 0) Hp1'.out (by omega)))
  refine bodyPost_ret (results_cct (g := g) (k := g + 1) rfl rfl rfl rfl x0 x1 Tryz.underlying38 rfl (by kernel_rfl) Tryz.underlying40 rfl (by kernel_rfl)) rfl ?_
  rw [Hq.out]
  exact ⟨_, rfl, ⟨none, 0, rfl, Nat.le_refl _, Nat.zero_le _, fun i x hi => by simp at hi⟩, Below.drew (((Hb3.out.setCell (p := ⟨g, 0, none⟩) hwg _).setCell (p := ⟨g + 1, 0, none⟩) (by show w.heap.size ≤ g + 1; omega) _).setCell (p := ⟨g + 1, 1, none⟩) (by show w.heap.size ≤ g + 1; omega) _)⟩
end Go.Proofs.YteailgjiifdgcaaGreatDoor

/- The walks of the document's reading of words: more, word, fail, next, at, all. No condition. -/
namespace Go.Proofs.YteailgjiifdgcaaGreatDoor
open Go.Shelf Go.RowKit Go.Lib VerN VarM
open LexM (Wd)
attribute [local go_sem ↓] Go.wp_at_zero Go.wp_at_succ

abbrev PBox (k : Nat) (a : Option Addr) (n c i : Nat) (fin bad : Int) (W : World) : Prop := W.heap[k]? = some (.cells #[.slice a n c, .int .i64 i, .int .i64 fin, .int .i64 bad] 113 (0, 0))
end Go.Proofs.YteailgjiifdgcaaGreatDoor

/- The walks of the document's next, at, all; a text cut at a byte. Condition: at most a thousand words; texts of at most 70000 bytes. -/
namespace Go.Proofs.YteailgjiifdgcaaGreatDoor
open Go.Shelf Go.RowKit Go.Lib VerN VarM
open LexM (Wd)
attribute [local go_sem ↓] Go.wp_at_zero Go.wp_at_succ

end Go.Proofs.YteailgjiifdgcaaGreatDoor

/- The walk of the document's settings. Condition: at most a thousand words of at most 70000 bytes, at places from one on. -/
namespace Go.Proofs.YteailgjiifdgcaaGreatDoor
open Go.Shelf Go.RowKit Go.Lib VerN VarM
open LexM (Wd)
attribute [local go_sem ↓] Go.wp_at_zero Go.wp_at_succ

structure St6 (w : World) (g : Nat) (a : Option Addr) (n c : Nat) (fin : Int) (ws : List Wd) (i k : Nat) (out : List Setg) (bad : Int) (v : Value) (W : World) : Prop where
 box : PBox g a n c (i + k) fin bad W
 box1 : PBox (g + 1) none 0 0 0 0 0 W
 row : W.ownsRow (g + 2) 109 2 v out.length (out.flatMap setCells)
 bel : Below w.heap.size w W
 sz : ∀ x ∈ out, x.1.size ≤ 70000 ∧ x.2.size ≤ 70000
 st : (bad = 0 ∧ out.length = k ∧ setsAt ws i [] = setsAt ws (i + k) out) ∨ (bad ≠ 0 ∧ ∃ j, setsAt ws i [] = (none, j) ∧ bad = colAt ws fin j)
theorem St6.to {w W W' : World} {g : Nat} {a : Option Addr} {n c : Nat} {fin : Int} {ws : List Wd} {i k : Nat} {out : List Setg} {bad : Int} {v : Value} (h : St6 w g a n c fin ws i k out bad v W) (hb : Below W.heap.size W W') : St6 w g a n c fin ws i k out bad v W' :=
 ⟨heap_below hb h.box, heap_below hb h.box1, ownsRow_below h.row hb, h.bel.trans (hb.mono h.bel.size), h.sz, h.st⟩
theorem St6.reads {w W : World} {g : Nat} {a : Option Addr} {n c : Nat} {fin : Int} {ws : List Wd} {i k : Nat} {out : List Setg} {bad : Int} {v : Value} (h : St6 w g a n c fin ws i k out bad v W) : RSetsT W v out :=
 ⟨sets_reads (B := g + 2) (fun x hx => by have := h.sz x hx; unfold maxLen; omega) h.row, fun _ => typ_owns h.row⟩
theorem St6.push {w W w8 : World} {g : Nat} {a : Option Addr} {n c : Nat} {fin : Int} {ws : List Wd} {i k : Nat} {out : List Setg} {bad : Int} {v v8 : Value} (h : St6 w g a n c fin ws i k out bad v W) (hwg : w.heap.size ≤ g) {x : Setg} (hx : x.1.size ≤ 70000 ∧ x.2.size ≤ 70000) (hg : W.grownBy w8 v.ownBlock)
  (ho : w8.ownsRow (g + 2) 109 2 v8 (out.length + 1) (out.flatMap setCells ++ [.string x.1, .string x.2])) :
  PBox g a n c (i + k) fin bad w8 ∧ PBox (g + 1) none 0 0 0 0 0 w8 ∧ Below w.heap.size w w8 ∧ RSetsT w8 v8 (out ++ [x]) ∧ (∀ y ∈ out ++ [x], y.1.size ≤ 70000 ∧ y.2.size ≤ 70000) ∧ w8.ownsRow (g + 2) 109 2 v8 (out ++ [x]).length ((out ++ [x]).flatMap setCells) := by
 have f1 : Frm (fun k => v.ownBlock = some k) W w8 := frm_of_grown hg
 have hsz : ∀ y ∈ out ++ [x], y.1.size ≤ 70000 ∧ y.2.size ≤ 70000 := fun y hy => by
  rcases List.mem_append.1 hy with hy | hy
  ·exact h.sz y hy
  ·rw [List.mem_singleton] at hy; rw [hy]; exact hx
 have ho2 : w8.ownsRow (g + 2) 109 2 v8 (out ++ [x]).length ((out ++ [x]).flatMap setCells) := by
  rw [List.length_append, sets_snoc]
  exact ho
 exact ⟨heap_to h.box f1 (apart_block h.row h.box (by decide)), heap_to h.box1 f1 (apart_block h.row h.box1 (by decide)), h.bel.trans (f1.below h.bel.size (fun k hk => by have := (h.row.lt k hk).1; omega)),
  ⟨sets_reads (B := g + 2) (fun y hy => by have := hsz y hy; unfold maxLen; omega) ho2, fun _ => typ_owns ho2⟩, hsz, ho2⟩
theorem pset {W : World} {g : Nat} {a a' : Option Addr} {n n' c c' i i' : Nat} {fin fin' x x' : Int} (h : PBox g a n c i fin x W) : PBox g a' n' c' i' fin' x' ((((W.setCell ⟨g, 0, none⟩ (.slice a' n' c')).setCell ⟨g, 1, none⟩ (.int .i64 i')).setCell ⟨g, 2, none⟩ (.int .i64 fin')).setCell ⟨g, 3, none⟩ (.int .i64 x')) := by
 have k0 := heap_setCell_same W g 0 _ _ (.slice a' n' c') h
 have k1 := heap_setCell_same _ g 1 _ _ (.int .i64 (i' : Int)) k0
 have k2 := heap_setCell_same _ g 2 _ _ (.int .i64 fin') k1
 have k3 := heap_setCell_same _ g 3 _ _ (.int .i64 x') k2
 exact k3
theorem St6.back {w W : World} {g : Nat} {a : Option Addr} {n c m : Nat} {fin : Int} {ws : List Wd} {i k : Nat} {out : List Setg} {bad : Int} {v : Value} (hwg : w.heap.size ≤ g) (h0 : PBox g a n c m fin 0 W) (h1 : PBox (g + 1) none 0 0 0 0 0 W) (hb : Below w.heap.size w W) (hsz : ∀ y ∈ out, y.1.size ≤ 70000 ∧ y.2.size ≤ 70000) (ho : W.ownsRow (g + 2) 109 2 v out.length (out.flatMap setCells))
  (hst : (bad = 0 ∧ out.length = k ∧ setsAt ws i [] = setsAt ws (i + k) out) ∨ (bad ≠ 0 ∧ ∃ j, setsAt ws i [] = (none, j) ∧ bad = colAt ws fin j)) {p : Nat} (hp : p = i + k) :
  St6 w g a n c fin ws i k out bad v ((((W.setCell ⟨g, 0, none⟩ (.slice a n c)).setCell ⟨g, 1, none⟩ (.int .i64 p)).setCell ⟨g, 2, none⟩ (.int .i64 fin)).setCell ⟨g, 3, none⟩ (.int .i64 bad)) := by
 subst hp
 have hg2 : g < g + 2 := by omega
 exact ⟨pset h0, heap_other (heap_other (heap_other (heap_other h1 (by omega)) (by omega)) (by omega)) (by omega), own_set (own_set (own_set (own_set ho hg2 0 _) hg2 1 _) hg2 2 _) hg2 3 _,
  (((hb.setCell (p := ⟨g, 0, none⟩) hwg _).setCell (p := ⟨g, 1, none⟩) hwg _).setCell (p := ⟨g, 2, none⟩) hwg _).setCell (p := ⟨g, 3, none⟩) hwg _, hsz, hst⟩
end Go.Proofs.YteailgjiifdgcaaGreatDoor

/- The walk of the document's wish. Condition: at most a thousand words of at most 70000 bytes, at places from one on. -/
namespace Go.Proofs.YteailgjiifdgcaaGreatDoor
open Go.Shelf Go.RowKit Go.Lib VerN VarM
open LexM (Wd)
attribute [local go_sem ↓] Go.wp_at_zero Go.wp_at_succ

end Go.Proofs.YteailgjiifdgcaaGreatDoor

/- The walk of the document's wish. Condition: the library's variables play no part; at most a thousand words of at most 70000 bytes, at places from one on. -/
namespace Go.Proofs.YteailgjiifdgcaaGreatDoor
open Go.Shelf Go.RowKit Go.Lib VerN VarM
open LexM (Wd)
attribute [local go_sem ↓] Go.wp_at_zero Go.wp_at_succ

end Go.Proofs.YteailgjiifdgcaaGreatDoor

/- The walk of cooperref06.Spec where a wish is asked for. Condition: at most a thousand words of at most 70000 bytes, at places from one on. -/
namespace Go.Proofs.YteailgjiifdgcaaGreatDoor
open Go.Shelf Go.RowKit Go.Lib VerN VarM
open LexM (Wd)
attribute [local go_sem ↓] Go.wp_at_zero Go.wp_at_succ

end Go.Proofs.YteailgjiifdgcaaGreatDoor

/- The walk of cooperref08.line: the root of a line, as the document tells it. Condition: a line as lexed, of words of at most 70000 bytes. -/
namespace Go.Proofs.YteailgjiifdgcaaGreatDoor
open Go.Shelf Go.RowKit Go.Lib VerN VarM
open LexM (Wd Ln GoodL)
attribute [local go_sem ↓] Go.wp_at_zero Go.wp_at_succ

end Go.Proofs.YteailgjiifdgcaaGreatDoor

/- The walks of cooperref05: part, line. Condition: the text is not great. -/
namespace Go.Proofs.YteailgjiifdgcaaGreatDoor
open Go.RowKit
open LexM (Bs Wd Ln St RS)

end Go.Proofs.YteailgjiifdgcaaGreatDoor

/- The walk of cooperref05.Lines. Condition: the text is not longer than there may be memory. -/
namespace Go.Proofs.YteailgjiifdgcaaGreatDoor
open Go.RowKit
open LexM (Bs Wd Ln St RS)

structure LnsOwn (B : Nat) (out : List Ln) (ov : Value) (rv : List Value) (w : World) : Prop where
 row : w.ownsRow B 62 2 ov out.length (lnCells out rv)
 rlen : rv.length = out.length
 rows : ∀ (i : Nat) (ln : Ln) (v : Value), out[i]? = some ln → rv[i]? = some v → w.ownsRow B 64 2 v ln.2.length (ln.2.flatMap wdCells)
theorem LnsOwn.kept {B : Nat} {out : List Ln} {ov : Value} {rv : List Value} {w w' : World} (h : LnsOwn B out ov rv w) {S : Nat → Prop} (hf : Frm S w w') (hS : ∀ k cs, S k → w.heap[k]? = some (.cells cs 62 (0, 0)) → False) (hS2 : ∀ k cs, S k → w.heap[k]? = some (.cells cs 64 (0, 0)) → False) : LnsOwn B out ov rv w' :=
 ⟨hf.owns h.row (fun k hk e => by obtain ⟨cs, hc⟩ := own_type h.row k hk; exact hS k cs e hc), h.rlen, fun i ln v hi hv => hf.owns (h.rows i ln v hi hv) (fun k hk e => by obtain ⟨cs, hc⟩ := own_type (h.rows i ln v hi hv) k hk; exact hS2 k cs e hc)⟩
theorem LnsOwn.below {B : Nat} {out : List Ln} {ov : Value} {rv : List Value} {w w' : World} (h : LnsOwn B out ov rv w) (hb : Below w.heap.size w w') : LnsOwn B out ov rv w' :=
 h.kept (S := fun _ => False) (Frm.of_below hb) (fun _ _ h => h.elim) (fun _ _ h => h.elim)
theorem LnsOwn.push {B : Nat} {out : List Ln} {ov ov' : Value} {rv : List Value} {w w3 : World} (h : LnsOwn B out ov rv w) (n : Int) (ws : List Wd) (v : Value) (hv : w.ownsRow B 64 2 v ws.length (ws.flatMap wdCells))
  (hown : w3.ownsRow B 62 2 ov' (out.length + 1) (lnCells out rv ++ [.int .i64 n, v])) (hg : w.grownBy w3 ov.ownBlock) : LnsOwn B (out ++ [(n, ws)]) ov' (rv ++ [v]) w3 := by
 have f1 : Frm (fun k => ov.ownBlock = some k) w w3 := (Frm.refl _ w).grown hg (fun k hk => .inr hk)
 refine ⟨by rw [lnCells_snoc h.rlen, List.length_append]; exact hown, by simp [h.rlen], ?_⟩
 intro i ln u hi hu
 by_cases hlt : i < out.length
 ·rw [List.getElem?_append_left hlt] at hi
  rw [List.getElem?_append_left (by rw [h.rlen]; exact hlt)] at hu
  have r1 := h.rows i ln u hi hu
  exact f1.owns r1 (fun k hk e => apart_type r1 h.row (by decide) k hk e)
 ·have hil := (List.getElem?_eq_some_iff.1 hi).1
  simp at hil
  obtain rfl : i = out.length := by omega
  have hh := h.rlen
  rw [List.getElem?_append_right (Nat.le_refl _)] at hi
  rw [← hh, List.getElem?_append_right (Nat.le_refl _)] at hu
  simp at hi hu
  subst hi; subst hu
  exact f1.owns hv (fun k hk e => apart_type hv h.row (by decide) k hk e)
theorem LnsOwn.reads {B : Nat} {out : List Ln} {ov : Value} {rv : List Value} {w : World} (h : LnsOwn B out ov rv w) {m : Nat} (hm : m ≤ 10000000) (hf : ∀ ln ∈ out, LnOk m ln) : RLns w [ov] out := by
 have hlen : (out.zip rv).length = out.length := by simp [h.rlen]
 have h1 := h.row
 have h2 : RSlice 2 (fun w cs (y : Ln × Value) => RLn w cs y.1) w [ov] (out.zip rv) := by
  refine rslice_of_owns (B := B) (e := 62) (fun x : Ln × Value => [.int .i64 x.1.1, x.2]) _ (fun _ _ => rfl) ?_ (by rw [hlen]; exact h1)
  intro y hy
  obtain ⟨i, hi, rfl⟩ := List.mem_iff_getElem.1 hy
  have hi1 : i < out.length := by omega
  have hi2 : i < rv.length := by rw [h.rlen]; exact hi1
  rw [List.getElem_zip]
  have r1 := h.rows i out[i] rv[i] (List.getElem?_eq_getElem hi1) (List.getElem?_eq_getElem hi2)
  obtain ⟨a, b, c⟩ := hf _ (List.getElem_mem hi1)
  exact ⟨rv[i], rfl, rslice_of_owns wdCells RWd (fun _ _ => rfl) (fun wd hw => rword hm (c wd hw)) r1, wf_small (n := out[i].1) a (by omega)⟩
 obtain ⟨a, cap, hv, g1, g2, g3⟩ := h2
 rw [hlen] at hv g1
 refine ⟨a, cap, hv, g1, g2, fun i ln hi => ?_⟩
 have hi1 := (List.getElem?_eq_some_iff.1 hi).1
 have hi2 : i < rv.length := by rw [h.rlen]; exact hi1
 have hzi : (out.zip rv)[i]? = some (ln, rv[i]) := by
  rw [List.getElem?_zip_eq_some]
  exact ⟨hi, List.getElem?_eq_getElem hi2⟩
 exact g3 i _ hzi

abbrev refCells (ov : Value) : Array Value := #[ov, .int .i64 0, .int .i64 0, .int .i64 0]
structure RefSt (w1 : World) (x : Nat) (out : List Ln) (ov : Value) (rv : List Value) (w : World) : Prop where
 cells : w.heap[x]? = some (.cells (refCells ov) 58 (0, 0))
 own : LnsOwn w1.heap.size out ov rv w
 bel : Below w1.heap.size w1 w
 xB : w1.heap.size ≤ x
theorem RefSt.below {w1 w w' : World} {x : Nat} {out : List Ln} {ov : Value} {rv : List Value} (h : RefSt w1 x out ov rv w) (hb : Below w.heap.size w w') : RefSt w1 x out ov rv w' :=
 ⟨heap_to h.cells (Frm.of_below (S := fun _ => False) hb) (fun h => h), h.own.below hb, h.bel.trans (hb.mono h.bel.size), h.xB⟩
theorem RefSt.push {w1 w w3 : World} {x : Nat} {out : List Ln} {ov ov' : Value} {rv : List Value} (h : RefSt w1 x out ov rv w) (n : Int) (ws : List Wd) (v : Value) (hv : w.ownsRow w1.heap.size 64 2 v ws.length (ws.flatMap wdCells))
  (hown : w3.ownsRow w1.heap.size 62 2 ov' (out.length + 1) (lnCells out rv ++ [.int .i64 n, v])) (hg : w.grownBy w3 ov.ownBlock) : RefSt w1 x (out ++ [(n, ws)]) ov' (rv ++ [v]) (w3.setCell ⟨x, 0, none⟩ ov') := by
 have hx := apart_block h.own.row h.cells (by decide)
 have f1 : Frm (fun k => ov.ownBlock = some k) w w3 := (Frm.refl _ w).grown hg (fun k hk => .inr hk)
 have hc3 := heap_to h.cells f1 hx
 have f2 := frm_cell (Frm.refl (fun k => k = x) w3) 0 ov'
 refine ⟨?_, ?_, ?_, h.xB⟩
 ·rw [heap_setCell_same w3 x 0 _ _ ov' hc3]; rfl
 ·refine (h.own.push n ws v hv hown hg).kept f2 (fun k cs e hc => ?_) (fun k cs e hc => ?_)
  ·rw [e, hc3] at hc; simp at hc
  ·rw [e, hc3] at hc; simp at hc
 ·have b1 : Below w1.heap.size w w3 := f1.below h.bel.size (fun k hk => (h.own.row.lt k hk).1)
  exact (h.bel.trans b1).trans (f2.below (by have := h.bel.size; have := f1.size; omega) (fun k hk => by rw [hk]; exact h.xB))
end Go.Proofs.YteailgjiifdgcaaGreatDoor

/- The walk of cooperref08.Parse: the request of a text, as the document tells it. Condition: a text that is not great. -/
namespace Go.Proofs.YteailgjiifdgcaaGreatDoor
open Go.Shelf Go.RowKit Go.Lib VerN VarM
open LexM (Wd Ln GoodL)
attribute [local go_sem ↓] Go.wp_at_zero Go.wp_at_succ

end Go.Proofs.YteailgjiifdgcaaGreatDoor

/- The walk of cooperref04.Same. No condition. -/
namespace Go.Proofs.YteailgjiifdgcaaGreatDoor
open Go.RowKit Go.Shelf
attribute [local go_sem ↓] Go.wp_at_zero Go.wp_at_succ

theorem set_neqs (s t a b : ByteArray) (W : World) : (binOp .neq 109 (.agg #[.string s, .string t]) (.agg #[.string a, .string b])).run Tryz.prog W = .ok (.bool (!(decide (s = a) && decide (t = b)))) W := by
 have u9 := Tryz.underlying9
 have hS : Tryz.prog.underlying 109 = some (.struct (Tryz.prog.fieldsOf 109)) := by kernel_rfl
 have hp : Tryz.prog.stoodInHeld 109 = false := by kernel_rfl
 rw [run_neq_struct, show (10000 : Nat) = 9999 + 1 from rfl, run_equalIn_agg W 9999 109 _ _ hS hp]
 simp only [Program.fieldsOf, Tryz.underlying109]
 go_simp
 have e1 := Txt.eq_dec s a
 have e2 := Txt.eq_dec t b
 by_cases h1 : s = a <;> by_cases h2 : t = b <;> simp [h1, h2] at e1 e2 ⊢ <;> simp_all
set_option maxRecDepth 10000 in
set_option maxHeartbeats 1000000 in
theorem sameRef_any {w : World} {v u : Value} {l m : List Setg} (h : RSets w [v] l) (hm : RSets w [u] m) : Calls Tryz.prog 80 #[v, u] w fun e w' => e = .returned (.bool (decide (l = m))) ∧ ∃ q, w' = w.drewN q := by
 obtain ⟨a, cap, rfl, hz, g⟩ := sets_open h
 obtain ⟨a2, cap2, rfl, hz2, g2⟩ := sets_open hm
 obtain ⟨n, hn⟩ : ∃ n, n = l.length := ⟨_, rfl⟩
 obtain ⟨n2, hn2⟩ : ∃ n, n = m.length := ⟨_, rfl⟩
 obtain ⟨r, hr⟩ : ∃ r, r = decide (l = m) := ⟨_, rfl⟩
 have q1 := fun s t a b => set_neqs s t a b
 rw [← hr]
 rw [← hn] at hz h ⊢
 rw [← hn2] at hz2 hm ⊢
 obtain ⟨Hh, Hm, Hg, Hg2, Hn, Hn2, Hr, Hq1⟩ := hd8 h hm g g2 hn hn2 hr q1; clear h hm g g2 hn hn2 hr q1
 go_enter Tryz.func80, Tryz.ntmps80
 by_cases hne : n = n2
 case neg =>
  have k1 : ((n : Int) != (n2 : Int)) = true := by simp; omega
  have hf : r = false := by rw [Hr.out, decide_eq_false_iff_not]; intro e; exact hne (by rw [Hn.out, Hn2.out, e])
  obtain ⟨Hf, Hne⟩ := hd2 hf hne; clear hf hne
  go_wp2_with fail
  go_ret
  exact ⟨ret_bool Hf.out.symm, 0, rfl⟩
 have k1 : ((n : Int) != (n2 : Int)) = false := by simp; omega
 have Hne := hd hne; clear hne
 go_wp2_with fail
 clear k1
 go_loopw [13] (fun i wr => ∃ k : Nat, k ≤ n ∧ i = .int .i64 k ∧ (∀ j (h1 : j < l.length) (h2 : j < m.length), j < k → l[j] = m[j]) ∧ ∃ q, wr = w.drewN q) (fun i _ => n - (intOf i).toNat)
 case atStart => exact ⟨0, Nat.zero_le _, rfl, fun _ _ _ h => by omega, 0, rfl⟩
 case round =>
  obtain ⟨k, hk, rfl, hno, q, rfl⟩ := hrel
  by_cases hlt : k < n
  ·have hkl : k < l.length := by have := Hn.out; omega
   have hkm : k < m.length := by have := Hn2.out; have := Hne.out; omega
   obtain ⟨b, off, rfl, d0, d1, _, _⟩ := Hg.out k _ (List.getElem?_eq_getElem hkl)
   obtain ⟨b2, off2, rfl, f0, f1, _, _⟩ := Hg2.out k _ (List.getElem?_eq_getElem hkm)
   have hnx : l[k] = m[k] → ∀ j (h1 : j < l.length) (h2 : j < m.length), j < k + 1 → l[j] = m[j] := fun h j h1 h2 hjk => by
    by_cases e : j = k
    ·subst e; exact h
    ·exact hno j h1 h2 (by omega)
   have hbd : l[k] ≠ m[k] → l ≠ m := fun h e => h (by subst e; rfl)
   obtain ⟨x, hx⟩ : ∃ x, x = l[k] := ⟨_, rfl⟩
   obtain ⟨y, hy⟩ : ∃ x, x = m[k] := ⟨_, rfl⟩
   rw [← hx] at d0 d1 hnx hbd
   rw [← hy] at f0 f1 hnx hbd
   have q2 := Hq1.out x.1 x.2 y.1 y.2
   have hxy : (decide (x.1 = y.1) && decide (x.2 = y.2)) = decide (x = y) := by
    rw [Bool.eq_iff_iff]
    simp [Prod.ext_iff]
   rw [hxy] at q2
   obtain ⟨s, hs⟩ : ∃ s, s = x.1 := ⟨_, rfl⟩
   obtain ⟨t, ht⟩ : ∃ s, s = x.2 := ⟨_, rfl⟩
   obtain ⟨s', hs'⟩ : ∃ s, s = y.1 := ⟨_, rfl⟩
   obtain ⟨t', ht'⟩ : ∃ s, s = y.2 := ⟨_, rfl⟩
   rw [← hs, ← ht, ← hs', ← ht'] at q2
   rw [← hs] at d0
   rw [← ht] at d1
   rw [← hs'] at f0
   rw [← ht'] at f1
   have k5 : (0 : Int) ≤ (k : Int) := by omega
   have k6 : (k : Int) < (n : Int) := by omega
   have k7 : (k : Int) < (n2 : Int) := by have := Hne.out; omega
   clear hxy
   by_cases e : x = y
   ·have hq := hnx e
    rw [decide_eq_true e] at q2
    simp only [Bool.not_true] at q2
    clear e
    obtain ⟨Hno, Hnx, Hbd, Hx, Hy, Hs, Ht, Hs', Ht', Hq⟩ := hd10 hno hnx hbd hx hy hs ht hs' ht' hq; clear hno hnx hbd hx hy hs ht hs' ht' hq
    go_wp2_with fail
    go_region
    go_wp2_with fail
    go_roundw
    case rel => exact ⟨k + 1, by omega, by go_num, Hq.out, _, rfl⟩
    case measure => simp [intOf]; omega
   ·have hf : r = false := by rw [Hr.out, decide_eq_false_iff_not]; exact hbd e
    rw [decide_eq_false e] at q2
    simp only [Bool.not_false] at q2
    clear e
    obtain ⟨Hno, Hnx, Hbd, Hx, Hy, Hs, Ht, Hs', Ht', Hf⟩ := hd10 hno hnx hbd hx hy hs ht hs' ht' hf; clear hno hnx hbd hx hy hs ht hs' ht' hf
    go_wp2_with fail
    go_region
    go_wp2_with fail
    go_ret
    exact ⟨ret_bool Hf.out.symm, _, rfl⟩
  ·obtain rfl : n = k := by omega
   have hf : r = true := by
    rw [Hr.out, decide_eq_true_eq]
    exact List.ext_getElem (by rw [← Hn.out, ← Hn2.out, Hne.out]) (fun j h1 h2 => hno j h1 h2 (by have := Hn.out; omega))
   obtain ⟨Hno, Hf⟩ := hd2 hno hf; clear hno hf
   go_wp2_with fail
   go_ret
   exact ⟨ret_bool Hf.out.symm, _, rfl⟩
end Go.Proofs.YteailgjiifdgcaaGreatDoor

/- The walk of cooperref06.SameSpec. No condition. -/
namespace Go.Proofs.YteailgjiifdgcaaGreatDoor
open Go.Shelf Go.RowKit Go.Lib VerN VarM
attribute [local go_sem ↓] Go.wp_at_zero Go.wp_at_succ

set_option maxRecDepth 10000 in
set_option maxHeartbeats 2000000 in
theorem sameSpec_any {w : World} {n m : ByteArray} {v1 v2 u1 u2 : Value} {l1 l2 : List BSp} {g1 g2 : List Setg} (h1 : RSps w [v1] l1) (h2 : RSets w [v2] g1) (h3 : RSps w [u1] l2) (h4 : RSets w [u2] g2) :
  Calls Tryz.prog 38 #[.agg #[.string n, v1, v2], .agg #[.string m, u1, u2]] w fun e w' => e = .returned (.bool (decide ((n, l1, g1) = (m, l2, g2)))) ∧ Below w.heap.size w w' := by
 obtain ⟨a1, c1, rfl, -, -⟩ := sps_open h1
 obtain ⟨a2, c2, rfl, -, -⟩ := sets_open h2
 obtain ⟨a3, c3, rfl, -, -⟩ := sps_open h3
 obtain ⟨a4, c4, rfl, -, -⟩ := sets_open h4
 obtain ⟨W1, hW1⟩ : ∃ W, W = (w.alloc (.cells #[.string n, .slice a1 l1.length c1, .slice a2 g1.length c2] 51)).alloc (.cells #[.string m, .slice a3 l2.length c3, .slice a4 g2.length c4] 51) := ⟨_, rfl⟩
 obtain ⟨g, hg⟩ : ∃ g, g = w.heap.size := ⟨_, rfl⟩
 have hb1 : Below w.heap.size w W1 := by rw [hW1]; exact (below_alloc1 _ _).alloc (by simp) _
 have p0 : SpcBox g (.string n) (.slice a1 l1.length c1) (.slice a2 g1.length c2) W1 := by rw [hW1, hg]; exact heap_below (below_alloc1 _ _) (heap_new_at rfl)
 have p1 : SpcBox (g + 1) (.string m) (.slice a3 l2.length c3) (.slice a4 g2.length c4) W1 := by rw [hW1, hg]; exact heap_new_at (by simp)
 have r1 := stays_slice stays_spn _ _ _ _ h1 hb1
 have r2 := stays_slice stays_set _ _ _ _ h2 hb1
 have r3 := stays_slice stays_spn _ _ _ _ h3 hb1
 have r4 := stays_slice stays_set _ _ _ _ h4 hb1
 obtain ⟨x0, x1, x2, -⟩ := spc_cells p0
 obtain ⟨y0, y1, y2, -⟩ := spc_cells p1
 obtain ⟨r, hr⟩ : ∃ r, r = decide ((n, l1, g1) = (m, l2, g2)) := ⟨_, rfl⟩
 have hS := sameRefS_any r1 r3
 have hT := fun (W : World) (k : Below W1.heap.size W1 W) => sameRef_any (stays_slice stays_set _ _ _ _ r2 k) (stays_slice stays_set _ _ _ _ r4 k)
 obtain ⟨n1, hn1⟩ : ∃ n, n = l1.length := ⟨_, rfl⟩
 obtain ⟨n2, hn2⟩ : ∃ n, n = g1.length := ⟨_, rfl⟩
 obtain ⟨n3, hn3⟩ : ∃ n, n = l2.length := ⟨_, rfl⟩
 obtain ⟨n4, hn4⟩ : ∃ n, n = g2.length := ⟨_, rfl⟩
 have hnm := Txt.eq_dec n m
 rw [← hr]
 rw [← hn1] at x1 hS hW1 ⊢
 rw [← hn2] at x2 hT hW1 ⊢
 rw [← hn3] at y1 hS hW1 ⊢
 rw [← hn4] at y2 hT hW1 ⊢
 obtain ⟨bs, hbs⟩ : ∃ b, b = decide (l1 = l2) := ⟨_, rfl⟩
 obtain ⟨bt, hbt⟩ : ∃ b, b = decide (g1 = g2) := ⟨_, rfl⟩
 obtain ⟨bn, hbn⟩ : ∃ b, b = decide (n = m) := ⟨_, rfl⟩
 rw [← hbs] at hS
 rw [← hbt] at hT
 rw [← hbn] at hnm
 have hrr : r = (bn && (bs && bt)) := by
  rw [hr, hbn, hbs, hbt, Bool.eq_iff_iff]
  simp [Prod.ext_iff]
 clear hr hbs hbt hbn
 obtain ⟨H1, H2, H3, H4, Hb1, Hp0, Hp1, Hr1, Hr2, Hr3, Hr4, Hn1, Hn2, Hn3, Hn4, HS⟩ := hd16 h1 h2 h3 h4 hb1 p0 p1 r1 r2 r3 r4 hn1 hn2 hn3 hn4 hS; obtain ⟨HT, Hrr⟩ := hd2 hT hrr; clear h1 h2 h3 h4 hb1 p0 p1 r1 r2 r3 r4 hn1 hn2 hn3 hn4 hS hT hrr
 go_enter Tryz.func38, Tryz.ntmps38
 go_upto_region 1 with (fail)
 rw [← hW1, ← hg]
 clear hW1 hg
 cases bn with
 | false =>
  go_wp2_with fail
  go_ret
  exact ⟨ret_bool (by rw [Hrr.out]; rfl), Hb1.out⟩
 | true =>
  cases bs with
  | false =>
   go_wp2_with fail
   refine HS.out.mono ?_
   rintro e w2 ⟨rfl, q, rfl⟩
   go_wp2_with fail
   go_ret
   exact ⟨ret_bool (by rw [Hrr.out]; rfl), bel_drewN Hb1.out q⟩
  | true =>
   go_wp2_with fail
   refine HS.out.mono ?_
   rintro e w2 ⟨rfl, q, rfl⟩
   have hbq : Below W1.heap.size W1 (W1.drewN q) := bel_drewN (Below.refl _ _) q
   have hT2 := HT.out _ hbq
   obtain ⟨x3, x4, x5, -⟩ := spc_cells (heap_below hbq Hp0.out)
   obtain ⟨y3, y4, y5, -⟩ := spc_cells (heap_below hbq Hp1.out)
   rw [← Hn2.out] at x5
   rw [← Hn4.out] at y5
   obtain ⟨HT2, Hbq⟩ := hd2 hT2 hbq; clear hT2 hbq
   go_wp2_with fail
   refine HT2.out.mono ?_
   rintro e w2 ⟨rfl, q2, rfl⟩
   go_wp2_with fail
   go_ret
   exact ⟨ret_bool (by rw [Hrr.out]; rfl), bel_drewN Hb1.out _⟩

end Go.Proofs.YteailgjiifdgcaaGreatDoor

/- The walk of cooperref08.Same: rows of roots, opened. No condition. -/
namespace Go.Proofs.YteailgjiifdgcaaGreatDoor
open Go.Shelf Go.RowKit Go.Lib VerN VarM
attribute [local go_sem ↓] Go.wp_at_zero Go.wp_at_succ

theorem roots_open {w : World} {v : Value} {l : List Rt} (h : RRoots w [v] l) : ∃ a cap, v = .slice a l.length cap ∧ l.length ≤ 9223372036854775807 ∧ ∀ i x, l[i]? = some x → ∃ b off b1 n1 c1 b2 n2 c2, a = some ⟨b, off, none⟩ ∧ w.cell? ⟨b, off + i * 4, none⟩ = some (.string x.1.1) ∧ w.cell? ⟨b, off + i * 4 + 1, none⟩ = some (.slice b1 n1 c1) ∧ w.cell? ⟨b, off + i * 4 + 2, none⟩ = some (.slice b2 n2 c2) ∧ w.cell? ⟨b, off + i * 4 + 3, none⟩ = some (.int .i64 x.2) ∧ RSps w [.slice b1 n1 c1] x.1.2.1 ∧ RSets w [.slice b2 n2 c2] x.1.2.2 := by
 obtain ⟨a, cap, hv, hcap, hmax, hel⟩ := h
 simp only [List.cons.injEq, and_true] at hv
 unfold maxLen at hmax
 refine ⟨a, cap, hv, by omega, fun i x hi => ?_⟩
 obtain ⟨b, off, ecs, h1, h2, h3, v1, v2, h4, h5, h6⟩ := hel i x hi
 obtain ⟨a1, c1, rfl, -, -⟩ := sps_open h5
 obtain ⟨a2, c2, rfl, -, -⟩ := sets_open h6
 subst h4
 exact ⟨b, off, a1, _, c1, a2, _, c2, h1, by simpa using h3 0 _ rfl, by simpa using h3 1 _ rfl, by simpa using h3 2 _ rfl, by simpa using h3 3 _ rfl, h5, h6⟩
def eqRt (ln : Bool) (x y : Rt) : Bool := decide (x.1 = y.1) && (!ln || decide (x.2 = y.2))
def sameRq (ln : Bool) (l m : List Rt) : Bool := decide (l.length = m.length) && (l.zip m).all fun p => eqRt ln p.1 p.2
theorem sameRq_len {ln : Bool} {l m : List Rt} (h : l.length ≠ m.length) : sameRq ln l m = false := by unfold sameRq; rw [decide_eq_false h]; rfl
theorem sameRq_no {ln : Bool} {l m : List Rt} {k : Nat} (h1 : k < l.length) (h2 : k < m.length) (h : eqRt ln l[k] m[k] = false) : sameRq ln l m = false := by
 unfold sameRq
 rw [Bool.and_eq_false_iff]
 right
 rw [List.all_eq_false]
 exact ⟨(l[k], m[k]), by
  rw [List.mem_iff_getElem]
  exact ⟨k, by rw [List.length_zip]; omega, by rw [List.getElem_zip]⟩, by rw [h]; simp⟩
theorem sameRq_yes {ln : Bool} {l m : List Rt} (hl : l.length = m.length) (h : ∀ j (h1 : j < l.length) (h2 : j < m.length), eqRt ln l[j] m[j] = true) : sameRq ln l m = true := by
 unfold sameRq
 rw [decide_eq_true hl, Bool.true_and, List.all_eq_true]
 intro p hp
 obtain ⟨i, hi, e⟩ := List.getElem_of_mem hp
 rw [List.getElem_zip] at e
 rw [← e]
 exact h i (by rw [List.length_zip] at hi; omega) (by rw [List.length_zip] at hi; omega)
end Go.Proofs.YteailgjiifdgcaaGreatDoor

/- The walk of cooperref08.Same. No condition. -/
namespace Go.Proofs.YteailgjiifdgcaaGreatDoor
open Go.Shelf Go.RowKit Go.Lib VerN VarM
attribute [local go_sem ↓] Go.wp_at_zero Go.wp_at_succ

set_option maxRecDepth 10000 in
set_option maxHeartbeats 4000000 in
theorem same08_any {w : World} {v u : Value} {l m : List Rt} (h : RRoots w [v] l) (hm : RRoots w [u] m) (ln : Bool) : Calls Tryz.prog 30 #[.agg #[v], .agg #[u], .bool ln] w fun e w' => e = .returned (.bool (sameRq ln l m)) ∧ Below w.heap.size w w' := by
 obtain ⟨a, c, rfl, hz, hat⟩ := roots_open h
 obtain ⟨a2, c2, rfl, hz2, hat2⟩ := roots_open hm
 obtain ⟨n, hn⟩ : ∃ n, n = l.length := ⟨_, rfl⟩
 obtain ⟨n2, hn2⟩ : ∃ n, n = m.length := ⟨_, rfl⟩
 obtain ⟨r, hr⟩ : ∃ r, r = sameRq ln l m := ⟨_, rfl⟩
 rw [← hr]
 rw [← hn] at hz h ⊢
 rw [← hn2] at hz2 hm ⊢
 obtain ⟨W1, hW1⟩ : ∃ W, W = (w.alloc (.cells #[.slice a n c] 38)).alloc (.cells #[.slice a2 n2 c2] 38) := ⟨_, rfl⟩
 obtain ⟨g, hg⟩ : ∃ g, g = w.heap.size := ⟨_, rfl⟩
 have hb1 : Below w.heap.size w W1 := by rw [hW1]; exact (below_alloc1 _ _).alloc (by simp) _
 have p0 : RqBox g (.slice a n c) W1 := by rw [hW1, hg]; exact heap_below (below_alloc1 _ _) (heap_new_at rfl)
 have p1 : RqBox (g + 1) (.slice a2 n2 c2) W1 := by rw [hW1, hg]; exact heap_new_at (by simp)
 obtain ⟨x0, -⟩ := rq_cells p0
 obtain ⟨y0, -⟩ := rq_cells p1
 obtain ⟨Hh, Hm, Hb1, Hp0, Hp1, Hn, Hn2, Hr, Hat, Hat2⟩ := hd10 h hm hb1 p0 p1 hn hn2 hr hat hat2; clear h hm hb1 p0 p1 hn hn2 hr hat hat2
 go_enter Tryz.func30, Tryz.ntmps30
 go_upto_region 1 with (fail)
 rw [← hW1, ← hg]
 clear hW1 hg
 by_cases hne : n = n2
 case neg =>
  have k1 : ((n : Int) != (n2 : Int)) = true := by simp; omega
  have hf : r = false := by rw [Hr.out]; exact sameRq_len (by rw [← Hn.out, ← Hn2.out]; exact hne)
  obtain ⟨Hf, Hne⟩ := hd2 hf hne; clear hf hne
  go_wp2_with fail
  go_ret
  exact ⟨ret_bool Hf.out.symm, Hb1.out⟩
 have k1 : ((n : Int) != (n2 : Int)) = false := by simp; omega
 have Hne := hd hne; clear hne
 go_wp2_with fail
 clear k1 x0 y0
 go_loopw [18] (fun i wr => ∃ k : Nat, k ≤ n ∧ i = .int .i64 k ∧ (∀ j (h1 : j < l.length) (h2 : j < m.length), j < k → eqRt ln l[j] m[j] = true) ∧ Below W1.heap.size W1 wr) (fun i _ => n - (RowKit.intOf i).toNat)
 case atStart => exact ⟨0, Nat.zero_le _, rfl, fun _ _ _ h => by omega, Below.refl _ _⟩
 case round =>
  obtain ⟨k, hk, rfl, hno, hbq⟩ := hrel
  by_cases hlt : k < n
  ·have hkl : k < l.length := by have := Hn.out; omega
   have hkm : k < m.length := by have := Hn2.out; have := Hne.out; omega
   obtain ⟨b, off, b1, n1, c1, b2, n2', c2', rfl, d0, d1, d2, d3, hs1, hs2⟩ := Hat.out k _ (List.getElem?_eq_getElem hkl)
   obtain ⟨b3, off3, b4, n4, c4, b5, n5, c5, rfl, e0, e1, e2, e3, hs3, hs4⟩ := Hat2.out k _ (List.getElem?_eq_getElem hkm)
   have hnx : eqRt ln l[k] m[k] = true → ∀ j (h1 : j < l.length) (h2 : j < m.length), j < k + 1 → eqRt ln l[j] m[j] = true := fun h j h1 h2 hjk => by
    by_cases e : j = k
    ·subst e; exact h
    ·exact hno j h1 h2 (by omega)
   have hbd : eqRt ln l[k] m[k] = false → r = false := fun h => by rw [Hr.out]; exact sameRq_no hkl hkm h
   obtain ⟨x, hx⟩ : ∃ x, x = l[k] := ⟨_, rfl⟩
   obtain ⟨y, hy⟩ : ∃ x, x = m[k] := ⟨_, rfl⟩
   rw [← hx] at d0 d3 hs1 hs2 hnx hbd
   rw [← hy] at e0 e3 hs3 hs4 hnx hbd
   have hcf : ∀ W, Below W1.heap.size W1 W → W.cell? ⟨g, 0, none⟩ = some (.slice (some ⟨b, off, none⟩) n c) ∧ W.cell? ⟨g + 1, 0, none⟩ = some (.slice (some ⟨b3, off3, none⟩) n2 c2) ∧ W.cell? ⟨b, off + k * 4, none⟩ = some (.string x.1.1) ∧ W.cell? ⟨b, off + k * 4 + 1, none⟩ = some (.slice b1 n1 c1) ∧ W.cell? ⟨b, off + k * 4 + 2, none⟩ = some (.slice b2 n2' c2') ∧ W.cell? ⟨b, off + k * 4 + 3, none⟩ = some (.int .i64 x.2) ∧ W.cell? ⟨b3, off3 + k * 4, none⟩ = some (.string y.1.1) ∧ W.cell? ⟨b3, off3 + k * 4 + 1, none⟩ = some (.slice b4 n4 c4) ∧ W.cell? ⟨b3, off3 + k * 4 + 2, none⟩ = some (.slice b5 n5 c5) ∧ W.cell? ⟨b3, off3 + k * 4 + 3, none⟩ = some (.int .i64 y.2) :=
    fun W hW => by
     have hw := Hb1.out.trans (hW.mono Hb1.out.size)
     exact ⟨cell_later hW (rq_cells Hp0.out).1, cell_later hW (rq_cells Hp1.out).1, cell_later hw d0, cell_later hw d1, cell_later hw d2, cell_later hw d3, cell_later hw e0, cell_later hw e1, cell_later hw e2, cell_later hw e3⟩
   have hM : ∀ W, Below W1.heap.size W1 W → Calls Tryz.prog 38 #[.agg #[.string x.1.1, .slice b1 n1 c1, .slice b2 n2' c2'], .agg #[.string y.1.1, .slice b4 n4 c4, .slice b5 n5 c5]] W fun e w' => e = .returned (.bool (decide (x.1 = y.1))) ∧ Below W.heap.size W w' := fun W hW => by
    have hw := Hb1.out.trans (hW.mono Hb1.out.size)
    exact sameSpec_any (stays_slice stays_spn _ _ _ _ hs1 hw) (stays_slice stays_set _ _ _ _ hs2 hw) (stays_slice stays_spn _ _ _ _ hs3 hw) (stays_slice stays_set _ _ _ _ hs4 hw)
   obtain ⟨bs, hbs⟩ : ∃ q, q = decide (x.1 = y.1) := ⟨_, rfl⟩
   obtain ⟨bl, hbl⟩ : ∃ q, q = decide (x.2 = y.2) := ⟨_, rfl⟩
   have heq : eqRt ln x y = (bs && (!ln || bl)) := by unfold eqRt; rw [hbs, hbl]
   obtain ⟨s, hs⟩ : ∃ s, s = x.1.1 := ⟨_, rfl⟩
   obtain ⟨t, ht⟩ : ∃ s, s = y.1.1 := ⟨_, rfl⟩
   obtain ⟨i1, hi1⟩ : ∃ s, s = x.2 := ⟨_, rfl⟩
   obtain ⟨i2, hi2⟩ : ∃ s, s = y.2 := ⟨_, rfl⟩
   rw [heq] at hnx hbd
   rw [← hbs] at hM
   simp only [← hs, ← ht, ← hi1, ← hi2] at hcf hM hbl
   have hbl2 : (i1 != i2) = !bl := by rw [hbl]; rfl
   have k5 : (0 : Int) ≤ (k : Int) := by omega
   have k6 : (k : Int) < (n : Int) := by omega
   have k7 : (k : Int) < (n2 : Int) := by have := Hne.out; omega
   have hcz := hcf _ (bel_drewN hbq 1)
   have hbz := bel_drewN (Below.refl wr.heap.size wr) 1
   obtain ⟨x0, y0, -⟩ := hcf _ hbq
   clear d0 d1 d2 d3 e0 e1 e2 e3 heq
   have Hcz := Lib.hid hcf
   obtain ⟨Hno, Hbq, Hnx, Hbd, Hx, Hy, Hs1, Hs2, Hs3, Hs4, HM, Hbs, Hbl, Hs, Ht, Hi1⟩ := hd16 hno hbq hnx hbd hx hy hs1 hs2 hs3 hs4 hM hbs hbl hs ht hi1; have Hi2 := hd hi2; clear hno hbq hnx hbd hx hy hs1 hs2 hs3 hs4 hM hbs hbl hs ht hi1 hi2
   clear hcf
   go_upto_region 6 with (fail)
   clear x0 y0
   go_cut [52] (fun v W => v = .bool (!(bs && (!ln || bl))) ∧ Below W1.heap.size W1 W)
   case first =>
    have hSd := Hcz.out _ (Below.drew Hbq.out)
    have hbdd := Below.drew Hbq.out
    refine wp_region_held_drew (S := fun W => W.cell? ⟨g, 0, none⟩ = some (.slice (some ⟨b, off, none⟩) n c) ∧ W.cell? ⟨g + 1, 0, none⟩ = some (.slice (some ⟨b3, off3, none⟩) n2 c2) ∧ W.cell? ⟨b, off + k * 4, none⟩ = some (.string s) ∧ W.cell? ⟨b, off + k * 4 + 1, none⟩ = some (.slice b1 n1 c1) ∧ W.cell? ⟨b, off + k * 4 + 2, none⟩ = some (.slice b2 n2' c2') ∧ W.cell? ⟨b, off + k * 4 + 3, none⟩ = some (.int .i64 i1) ∧ W.cell? ⟨b3, off3 + k * 4, none⟩ = some (.string t) ∧ W.cell? ⟨b3, off3 + k * 4 + 1, none⟩ = some (.slice b4 n4 c4) ∧ W.cell? ⟨b3, off3 + k * 4 + 2, none⟩ = some (.slice b5 n5 c5) ∧ W.cell? ⟨b3, off3 + k * 4 + 3, none⟩ = some (.int .i64 i2)) (by kernel_rfl) (by exact hSd) (fun hHeld => ?_)
    generalize wr.drew = wd at hSd hbdd ⊢
    have Hbdd := hd hbdd; clear hbdd
    refine wpAnyH_take (i := 0) (v := ?_) rfl (by kernel_rfl) (by kernel_rfl) (by kernel_rfl) (fun _ _ _ h => h) (Or.inl ⟨by kernel_rfl, ?_⟩) (by assumption) ?_
    rotate_left
    ·(intro w hSw; (try dsimp only at hSw); (try obtain ⟨o0, o1, o2, o3, o4, o5, o6, o7, o8, o9⟩ := hSw); go_simp; try with_reducible rfl)
    try simp only [Act.put, List.setIfInBounds_toArray, List.set_cons_zero, List.set_cons_succ]
    refine wpAnyH_take (i := 1) (v := ?_) rfl (by kernel_rfl) (by kernel_rfl) (by kernel_rfl) (fun _ _ _ h => h) (Or.inl ⟨by kernel_rfl, ?_⟩) (by assumption) ?_
    rotate_left
    ·(intro w hSw; (try dsimp only at hSw); (try obtain ⟨o0, o1, o2, o3, o4, o5, o6, o7, o8, o9⟩ := hSw); go_simp; try with_reducible rfl)
    try simp only [Act.put, List.setIfInBounds_toArray, List.set_cons_zero, List.set_cons_succ]
    refine wpAnyH_take (i := 2) (v := ?_) rfl (by kernel_rfl) (by kernel_rfl) (by kernel_rfl) (fun _ _ _ h => h) (Or.inl ⟨by kernel_rfl, ?_⟩) (by assumption) ?_
    rotate_left
    ·(intro w hSw; (try dsimp only at hSw); (try obtain ⟨o0, o1, o2, o3, o4, o5, o6, o7, o8, o9⟩ := hSw); go_simp; try with_reducible rfl)
    try simp only [Act.put, List.setIfInBounds_toArray, List.set_cons_zero, List.set_cons_succ]
    refine wpAnyH_take (i := 3) (v := ?_) rfl (by kernel_rfl) (by kernel_rfl) (by kernel_rfl) (fun _ _ _ h => h) (Or.inl ⟨by kernel_rfl, ?_⟩) (by assumption) ?_
    rotate_left
    ·(intro w hSw; (try dsimp only at hSw); (try obtain ⟨o0, o1, o2, o3, o4, o5, o6, o7, o8, o9⟩ := hSw); go_simp; try with_reducible rfl)
    try simp only [Act.put, List.setIfInBounds_toArray, List.set_cons_zero, List.set_cons_succ]
    refine wpAnyH_take (i := 4) (v := ?_) rfl (by kernel_rfl) (by kernel_rfl) (by kernel_rfl) (fun _ _ _ h => h) (Or.inl ⟨by kernel_rfl, ?_⟩) (by assumption) ?_
    rotate_left
    ·(intro w hSw; (try dsimp only at hSw); (try obtain ⟨o0, o1, o2, o3, o4, o5, o6, o7, o8, o9⟩ := hSw); go_simp; try with_reducible rfl)
    try simp only [Act.put, List.setIfInBounds_toArray, List.set_cons_zero, List.set_cons_succ]
    refine wpAnyH_take (i := 5) (v := ?_) rfl (by kernel_rfl) (by kernel_rfl) (by kernel_rfl) (fun _ _ _ h => h) (Or.inl ⟨by kernel_rfl, ?_⟩) (by assumption) ?_
    rotate_left
    ·(intro w hSw; (try dsimp only at hSw); (try obtain ⟨o0, o1, o2, o3, o4, o5, o6, o7, o8, o9⟩ := hSw); go_simp; try with_reducible rfl)
    try simp only [Act.put, List.setIfInBounds_toArray, List.set_cons_zero, List.set_cons_succ]
    refine wpAnyH_take (i := 6) (v := ?_) rfl (by kernel_rfl) (by kernel_rfl) (by kernel_rfl) (fun _ _ _ h => h) (Or.inl ⟨by kernel_rfl, ?_⟩) (by assumption) ?_
    rotate_left
    ·(intro w hSw; (try dsimp only at hSw); (try obtain ⟨o0, o1, o2, o3, o4, o5, o6, o7, o8, o9⟩ := hSw); go_simp; try with_reducible rfl)
    try simp only [Act.put, List.setIfInBounds_toArray, List.set_cons_zero, List.set_cons_succ]
    refine wpAnyH_take (i := 7) (v := ?_) rfl (by kernel_rfl) (by kernel_rfl) (by kernel_rfl) (fun _ _ _ h => h) (Or.inl ⟨by kernel_rfl, ?_⟩) (by assumption) ?_
    rotate_left
    ·(intro w hSw; (try dsimp only at hSw); (try obtain ⟨o0, o1, o2, o3, o4, o5, o6, o7, o8, o9⟩ := hSw); go_simp; try with_reducible rfl)
    try simp only [Act.put, List.setIfInBounds_toArray, List.set_cons_zero, List.set_cons_succ]
    refine wpAnyH_take (i := 8) (v := ?_) rfl (by kernel_rfl) (by kernel_rfl) (by kernel_rfl) (fun _ _ _ h => h) (Or.inl ⟨by kernel_rfl, ?_⟩) (by assumption) ?_
    rotate_left
    ·(intro w hSw; (try dsimp only at hSw); (try obtain ⟨o0, o1, o2, o3, o4, o5, o6, o7, o8, o9⟩ := hSw); go_simp; try with_reducible rfl)
    try simp only [Act.put, List.setIfInBounds_toArray, List.set_cons_zero, List.set_cons_succ]
    refine wpAnyH_take (i := 9) (v := ?_) rfl (by kernel_rfl) (by kernel_rfl) (by kernel_rfl) (fun _ _ _ h => h) (Or.inl ⟨by kernel_rfl, ?_⟩) (by assumption) ?_
    rotate_left
    ·(intro w hSw; (try dsimp only at hSw); (try obtain ⟨o0, o1, o2, o3, o4, o5, o6, o7, o8, o9⟩ := hSw); go_simp; try with_reducible rfl)
    try simp only [Act.put, List.setIfInBounds_toArray, List.set_cons_zero, List.set_cons_succ]
    refine wpAnyH_take (i := 10) (v := ?_) rfl (by kernel_rfl) (by kernel_rfl) (by kernel_rfl) (fun _ _ _ h => h) (Or.inl ⟨by kernel_rfl, ?_⟩) (by assumption) ?_
    rotate_left
    ·(intro w hSw; (try dsimp only at hSw); (try obtain ⟨o0, o1, o2, o3, o4, o5, o6, o7, o8, o9⟩ := hSw); go_simp; try with_reducible rfl)
    try simp only [Act.put, List.setIfInBounds_toArray, List.set_cons_zero, List.set_cons_succ]
    refine wpAnyH_take (i := 11) (v := ?_) rfl (by kernel_rfl) (by kernel_rfl) (by kernel_rfl) (fun _ _ _ h => h) (Or.inl ⟨by kernel_rfl, ?_⟩) (by assumption) ?_
    rotate_left
    ·(intro w hSw; (try dsimp only at hSw); (try obtain ⟨o0, o1, o2, o3, o4, o5, o6, o7, o8, o9⟩ := hSw); go_simp; try with_reducible rfl)
    try simp only [Act.put, List.setIfInBounds_toArray, List.set_cons_zero, List.set_cons_succ]
    refine wpAnyH_ready (rs := [12]) (by kernel_rfl) (by simp) ?_
    refine AllReadyH.cons rfl (fun K hK => ?_) AllReadyH.nil
    go_simp
    refine (HM.out _ Hbdd.out).mono ?_
    rintro e wy ⟨rfl, hby⟩
    have hb1y := Hbdd.out.trans (hby.mono Hbdd.out.size)
    have hSy := Hcz.out _ hb1y
    obtain ⟨Hb1y, Hby⟩ := hd2 hb1y hby; clear hb1y hby
    go_wp2_with fail
    refine hK.out _ _ (by exact hSy) (fun hHeld => ?_)
    clear hK K
    try simp only [Act.put, List.setIfInBounds_toArray, List.set_cons_zero, List.set_cons_succ]
    cases bs with
    | false =>
     refine wpAnyH_take (i := 13) (v := ?_) rfl (by kernel_rfl) (by kernel_rfl) (by kernel_rfl) (fun _ _ _ h => h) (Or.inl ⟨by kernel_rfl, ?_⟩) (by assumption) ?_
     rotate_left
     ·(intro w hSw; (try dsimp only at hSw); (try obtain ⟨o0, o1, o2, o3, o4, o5, o6, o7, o8, o9⟩ := hSw); go_simp; try with_reducible rfl)
     try simp only [Act.put, List.setIfInBounds_toArray, List.set_cons_zero, List.set_cons_succ]
     refine wpAnyH_take (i := 14) (v := ?_) rfl (by kernel_rfl) (by kernel_rfl) (by kernel_rfl) (fun _ _ _ h => h) (Or.inl ⟨by kernel_rfl, ?_⟩) (by assumption) ?_
     rotate_left
     ·(intro w hSw; (try dsimp only at hSw); (try obtain ⟨o0, o1, o2, o3, o4, o5, o6, o7, o8, o9⟩ := hSw); go_simp; try with_reducible rfl)
     try simp only [Act.put, List.setIfInBounds_toArray, List.set_cons_zero, List.set_cons_succ]
     refine wpAnyH_take (i := 15) (v := undef) rfl (by kernel_rfl) (by kernel_rfl) (by kernel_rfl) (fun _ _ _ h => h) (Or.inr ⟨by kernel_rfl, rfl⟩) (by assumption) ?_
     simp only [Act.put, List.getElem_toArray, List.getElem_cons_succ, List.getElem_cons_zero, List.setIfInBounds_toArray, List.set_cons_zero, List.set_cons_succ]
     refine wpAnyH_take (i := 16) (v := undef) rfl (by kernel_rfl) (by kernel_rfl) (by kernel_rfl) (fun _ _ _ h => h) (Or.inr ⟨by kernel_rfl, rfl⟩) (by assumption) ?_
     simp only [Act.put, List.getElem_toArray, List.getElem_cons_succ, List.getElem_cons_zero, List.setIfInBounds_toArray, List.set_cons_zero, List.set_cons_succ]
     refine wpAnyH_take (i := 17) (v := undef) rfl (by kernel_rfl) (by kernel_rfl) (by kernel_rfl) (fun _ _ _ h => h) (Or.inr ⟨by kernel_rfl, rfl⟩) (by assumption) ?_
     simp only [Act.put, List.getElem_toArray, List.getElem_cons_succ, List.getElem_cons_zero, List.setIfInBounds_toArray, List.set_cons_zero, List.set_cons_succ]
     refine wpAnyH_take (i := 18) (v := undef) rfl (by kernel_rfl) (by kernel_rfl) (by kernel_rfl) (fun _ _ _ h => h) (Or.inr ⟨by kernel_rfl, rfl⟩) (by assumption) ?_
     simp only [Act.put, List.getElem_toArray, List.getElem_cons_succ, List.getElem_cons_zero, List.setIfInBounds_toArray, List.set_cons_zero, List.set_cons_succ]
     refine wpAnyH_take (i := 19) (v := undef) rfl (by kernel_rfl) (by kernel_rfl) (by kernel_rfl) (fun _ _ _ h => h) (Or.inr ⟨by kernel_rfl, rfl⟩) (by assumption) ?_
     simp only [Act.put, List.getElem_toArray, List.getElem_cons_succ, List.getElem_cons_zero, List.setIfInBounds_toArray, List.set_cons_zero, List.set_cons_succ]
     refine wpAnyH_take (i := 20) (v := undef) rfl (by kernel_rfl) (by kernel_rfl) (by kernel_rfl) (fun _ _ _ h => h) (Or.inr ⟨by kernel_rfl, rfl⟩) (by assumption) ?_
     simp only [Act.put, List.getElem_toArray, List.getElem_cons_succ, List.getElem_cons_zero, List.setIfInBounds_toArray, List.set_cons_zero, List.set_cons_succ]
     refine wpAnyH_take (i := 21) (v := undef) rfl (by kernel_rfl) (by kernel_rfl) (by kernel_rfl) (fun _ _ _ h => h) (Or.inr ⟨by kernel_rfl, rfl⟩) (by assumption) ?_
     simp only [Act.put, List.getElem_toArray, List.getElem_cons_succ, List.getElem_cons_zero, List.setIfInBounds_toArray, List.set_cons_zero, List.set_cons_succ]
     refine wpAnyH_take (i := 22) (v := undef) rfl (by kernel_rfl) (by kernel_rfl) (by kernel_rfl) (fun _ _ _ h => h) (Or.inr ⟨by kernel_rfl, rfl⟩) (by assumption) ?_
     simp only [Act.put, List.getElem_toArray, List.getElem_cons_succ, List.getElem_cons_zero, List.setIfInBounds_toArray, List.set_cons_zero, List.set_cons_succ]
     refine wpAnyH_take (i := 23) (v := undef) rfl (by kernel_rfl) (by kernel_rfl) (by kernel_rfl) (fun _ _ _ h => h) (Or.inr ⟨by kernel_rfl, rfl⟩) (by assumption) ?_
     simp only [Act.put, List.getElem_toArray, List.getElem_cons_succ, List.getElem_cons_zero, List.setIfInBounds_toArray, List.set_cons_zero, List.set_cons_succ]
     refine wpAnyH_take (i := 24) (v := undef) rfl (by kernel_rfl) (by kernel_rfl) (by kernel_rfl) (fun _ _ _ h => h) (Or.inr ⟨by kernel_rfl, rfl⟩) (by assumption) ?_
     simp only [Act.put, List.getElem_toArray, List.getElem_cons_succ, List.getElem_cons_zero, List.setIfInBounds_toArray, List.set_cons_zero, List.set_cons_succ]
     refine wpAnyH_take (i := 25) (v := undef) rfl (by kernel_rfl) (by kernel_rfl) (by kernel_rfl) (fun _ _ _ h => h) (Or.inr ⟨by kernel_rfl, rfl⟩) (by assumption) ?_
     simp only [Act.put, List.getElem_toArray, List.getElem_cons_succ, List.getElem_cons_zero, List.setIfInBounds_toArray, List.set_cons_zero, List.set_cons_succ]
     refine wpAnyH_take (i := 26) (v := undef) rfl (by kernel_rfl) (by kernel_rfl) (by kernel_rfl) (fun _ _ _ h => h) (Or.inr ⟨by kernel_rfl, rfl⟩) (by assumption) ?_
     simp only [Act.put, List.getElem_toArray, List.getElem_cons_succ, List.getElem_cons_zero, List.setIfInBounds_toArray, List.set_cons_zero, List.set_cons_succ]
     refine wpAnyH_take (i := 27) (v := undef) rfl (by kernel_rfl) (by kernel_rfl) (by kernel_rfl) (fun _ _ _ h => h) (Or.inr ⟨by kernel_rfl, rfl⟩) (by assumption) ?_
     simp only [Act.put, List.getElem_toArray, List.getElem_cons_succ, List.getElem_cons_zero, List.setIfInBounds_toArray, List.set_cons_zero, List.set_cons_succ]
     refine wpAnyH_take (i := 28) (v := undef) rfl (by kernel_rfl) (by kernel_rfl) (by kernel_rfl) (fun _ _ _ h => h) (Or.inr ⟨by kernel_rfl, rfl⟩) (by assumption) ?_
     simp only [Act.put, List.getElem_toArray, List.getElem_cons_succ, List.getElem_cons_zero, List.setIfInBounds_toArray, List.set_cons_zero, List.set_cons_succ]
     refine wpAnyH_take (i := 29) (v := undef) rfl (by kernel_rfl) (by kernel_rfl) (by kernel_rfl) (fun _ _ _ h => h) (Or.inr ⟨by kernel_rfl, rfl⟩) (by assumption) ?_
     simp only [Act.put, List.getElem_toArray, List.getElem_cons_succ, List.getElem_cons_zero, List.setIfInBounds_toArray, List.set_cons_zero, List.set_cons_succ]
     refine wpAnyH_take (i := 30) (v := undef) rfl (by kernel_rfl) (by kernel_rfl) (by kernel_rfl) (fun _ _ _ h => h) (Or.inr ⟨by kernel_rfl, rfl⟩) (by assumption) ?_
     simp only [Act.put, List.getElem_toArray, List.getElem_cons_succ, List.getElem_cons_zero, List.setIfInBounds_toArray, List.set_cons_zero, List.set_cons_succ]
     refine wpAnyH_take (i := 31) (v := ?_) rfl (by kernel_rfl) (by kernel_rfl) (by kernel_rfl) (fun _ _ _ h => h) (Or.inl ⟨by kernel_rfl, ?_⟩) (by assumption) ?_
     rotate_left
     ·(intro w hSw; (try dsimp only at hSw); (try obtain ⟨o0, o1, o2, o3, o4, o5, o6, o7, o8, o9⟩ := hSw); go_simp; try with_reducible rfl)
     try simp only [Act.put, List.setIfInBounds_toArray, List.set_cons_zero, List.set_cons_succ]
     refine wpAnyH_done (by kernel_rfl) ?_ _
     go_simp
     go_wp2_with fail
     go_meet
     exact ⟨rfl, Hb1y.out⟩
    | true =>
     cases ln with
     | false =>
      refine wpAnyH_take (i := 13) (v := ?_) rfl (by kernel_rfl) (by kernel_rfl) (by kernel_rfl) (fun _ _ _ h => h) (Or.inl ⟨by kernel_rfl, ?_⟩) (by assumption) ?_
      rotate_left
      ·(intro w hSw; (try dsimp only at hSw); (try obtain ⟨o0, o1, o2, o3, o4, o5, o6, o7, o8, o9⟩ := hSw); go_simp; try with_reducible rfl)
      try simp only [Act.put, List.setIfInBounds_toArray, List.set_cons_zero, List.set_cons_succ]
      refine wpAnyH_take (i := 14) (v := ?_) rfl (by kernel_rfl) (by kernel_rfl) (by kernel_rfl) (fun _ _ _ h => h) (Or.inl ⟨by kernel_rfl, ?_⟩) (by assumption) ?_
      rotate_left
      ·(intro w hSw; (try dsimp only at hSw); (try obtain ⟨o0, o1, o2, o3, o4, o5, o6, o7, o8, o9⟩ := hSw); go_simp; try with_reducible rfl)
      try simp only [Act.put, List.setIfInBounds_toArray, List.set_cons_zero, List.set_cons_succ]
      refine wpAnyH_take (i := 15) (v := ?_) rfl (by kernel_rfl) (by kernel_rfl) (by kernel_rfl) (fun _ _ _ h => h) (Or.inl ⟨by kernel_rfl, ?_⟩) (by assumption) ?_
      rotate_left
      ·(intro w hSw; (try dsimp only at hSw); (try obtain ⟨o0, o1, o2, o3, o4, o5, o6, o7, o8, o9⟩ := hSw); go_simp; try with_reducible rfl)
      try simp only [Act.put, List.setIfInBounds_toArray, List.set_cons_zero, List.set_cons_succ]
      refine wpAnyH_take (i := 16) (v := ?_) rfl (by kernel_rfl) (by kernel_rfl) (by kernel_rfl) (fun _ _ _ h => h) (Or.inl ⟨by kernel_rfl, ?_⟩) (by assumption) ?_
      rotate_left
      ·(intro w hSw; (try dsimp only at hSw); (try obtain ⟨o0, o1, o2, o3, o4, o5, o6, o7, o8, o9⟩ := hSw); go_simp; try with_reducible rfl)
      try simp only [Act.put, List.setIfInBounds_toArray, List.set_cons_zero, List.set_cons_succ]
      refine wpAnyH_take (i := 17) (v := undef) rfl (by kernel_rfl) (by kernel_rfl) (by kernel_rfl) (fun _ _ _ h => h) (Or.inr ⟨by kernel_rfl, rfl⟩) (by assumption) ?_
      simp only [Act.put, List.getElem_toArray, List.getElem_cons_succ, List.getElem_cons_zero, List.setIfInBounds_toArray, List.set_cons_zero, List.set_cons_succ]
      refine wpAnyH_take (i := 18) (v := undef) rfl (by kernel_rfl) (by kernel_rfl) (by kernel_rfl) (fun _ _ _ h => h) (Or.inr ⟨by kernel_rfl, rfl⟩) (by assumption) ?_
      simp only [Act.put, List.getElem_toArray, List.getElem_cons_succ, List.getElem_cons_zero, List.setIfInBounds_toArray, List.set_cons_zero, List.set_cons_succ]
      refine wpAnyH_take (i := 19) (v := undef) rfl (by kernel_rfl) (by kernel_rfl) (by kernel_rfl) (fun _ _ _ h => h) (Or.inr ⟨by kernel_rfl, rfl⟩) (by assumption) ?_
      simp only [Act.put, List.getElem_toArray, List.getElem_cons_succ, List.getElem_cons_zero, List.setIfInBounds_toArray, List.set_cons_zero, List.set_cons_succ]
      refine wpAnyH_take (i := 20) (v := undef) rfl (by kernel_rfl) (by kernel_rfl) (by kernel_rfl) (fun _ _ _ h => h) (Or.inr ⟨by kernel_rfl, rfl⟩) (by assumption) ?_
      simp only [Act.put, List.getElem_toArray, List.getElem_cons_succ, List.getElem_cons_zero, List.setIfInBounds_toArray, List.set_cons_zero, List.set_cons_succ]
      refine wpAnyH_take (i := 21) (v := undef) rfl (by kernel_rfl) (by kernel_rfl) (by kernel_rfl) (fun _ _ _ h => h) (Or.inr ⟨by kernel_rfl, rfl⟩) (by assumption) ?_
      simp only [Act.put, List.getElem_toArray, List.getElem_cons_succ, List.getElem_cons_zero, List.setIfInBounds_toArray, List.set_cons_zero, List.set_cons_succ]
      refine wpAnyH_take (i := 22) (v := undef) rfl (by kernel_rfl) (by kernel_rfl) (by kernel_rfl) (fun _ _ _ h => h) (Or.inr ⟨by kernel_rfl, rfl⟩) (by assumption) ?_
      simp only [Act.put, List.getElem_toArray, List.getElem_cons_succ, List.getElem_cons_zero, List.setIfInBounds_toArray, List.set_cons_zero, List.set_cons_succ]
      refine wpAnyH_take (i := 23) (v := undef) rfl (by kernel_rfl) (by kernel_rfl) (by kernel_rfl) (fun _ _ _ h => h) (Or.inr ⟨by kernel_rfl, rfl⟩) (by assumption) ?_
      simp only [Act.put, List.getElem_toArray, List.getElem_cons_succ, List.getElem_cons_zero, List.setIfInBounds_toArray, List.set_cons_zero, List.set_cons_succ]
      refine wpAnyH_take (i := 24) (v := undef) rfl (by kernel_rfl) (by kernel_rfl) (by kernel_rfl) (fun _ _ _ h => h) (Or.inr ⟨by kernel_rfl, rfl⟩) (by assumption) ?_
      simp only [Act.put, List.getElem_toArray, List.getElem_cons_succ, List.getElem_cons_zero, List.setIfInBounds_toArray, List.set_cons_zero, List.set_cons_succ]
      refine wpAnyH_take (i := 25) (v := undef) rfl (by kernel_rfl) (by kernel_rfl) (by kernel_rfl) (fun _ _ _ h => h) (Or.inr ⟨by kernel_rfl, rfl⟩) (by assumption) ?_
      simp only [Act.put, List.getElem_toArray, List.getElem_cons_succ, List.getElem_cons_zero, List.setIfInBounds_toArray, List.set_cons_zero, List.set_cons_succ]
      refine wpAnyH_take (i := 26) (v := undef) rfl (by kernel_rfl) (by kernel_rfl) (by kernel_rfl) (fun _ _ _ h => h) (Or.inr ⟨by kernel_rfl, rfl⟩) (by assumption) ?_
      simp only [Act.put, List.getElem_toArray, List.getElem_cons_succ, List.getElem_cons_zero, List.setIfInBounds_toArray, List.set_cons_zero, List.set_cons_succ]
      refine wpAnyH_take (i := 27) (v := undef) rfl (by kernel_rfl) (by kernel_rfl) (by kernel_rfl) (fun _ _ _ h => h) (Or.inr ⟨by kernel_rfl, rfl⟩) (by assumption) ?_
      simp only [Act.put, List.getElem_toArray, List.getElem_cons_succ, List.getElem_cons_zero, List.setIfInBounds_toArray, List.set_cons_zero, List.set_cons_succ]
      refine wpAnyH_take (i := 28) (v := undef) rfl (by kernel_rfl) (by kernel_rfl) (by kernel_rfl) (fun _ _ _ h => h) (Or.inr ⟨by kernel_rfl, rfl⟩) (by assumption) ?_
      simp only [Act.put, List.getElem_toArray, List.getElem_cons_succ, List.getElem_cons_zero, List.setIfInBounds_toArray, List.set_cons_zero, List.set_cons_succ]
      refine wpAnyH_take (i := 29) (v := undef) rfl (by kernel_rfl) (by kernel_rfl) (by kernel_rfl) (fun _ _ _ h => h) (Or.inr ⟨by kernel_rfl, rfl⟩) (by assumption) ?_
      simp only [Act.put, List.getElem_toArray, List.getElem_cons_succ, List.getElem_cons_zero, List.setIfInBounds_toArray, List.set_cons_zero, List.set_cons_succ]
      refine wpAnyH_take (i := 30) (v := ?_) rfl (by kernel_rfl) (by kernel_rfl) (by kernel_rfl) (fun _ _ _ h => h) (Or.inl ⟨by kernel_rfl, ?_⟩) (by assumption) ?_
      rotate_left
      ·(intro w hSw; (try dsimp only at hSw); (try obtain ⟨o0, o1, o2, o3, o4, o5, o6, o7, o8, o9⟩ := hSw); go_simp; try with_reducible rfl)
      try simp only [Act.put, List.setIfInBounds_toArray, List.set_cons_zero, List.set_cons_succ]
      refine wpAnyH_take (i := 31) (v := ?_) rfl (by kernel_rfl) (by kernel_rfl) (by kernel_rfl) (fun _ _ _ h => h) (Or.inl ⟨by kernel_rfl, ?_⟩) (by assumption) ?_
      rotate_left
      ·(intro w hSw; (try dsimp only at hSw); (try obtain ⟨o0, o1, o2, o3, o4, o5, o6, o7, o8, o9⟩ := hSw); go_simp; try with_reducible rfl)
      try simp only [Act.put, List.setIfInBounds_toArray, List.set_cons_zero, List.set_cons_succ]
      refine wpAnyH_done (by kernel_rfl) ?_ _
      go_simp
      go_wp2_with fail
      go_meet
      exact ⟨rfl, Hb1y.out⟩
     | true =>
      refine wpAnyH_take (i := 13) (v := ?_) rfl (by kernel_rfl) (by kernel_rfl) (by kernel_rfl) (fun _ _ _ h => h) (Or.inl ⟨by kernel_rfl, ?_⟩) (by assumption) ?_
      rotate_left
      ·(intro w hSw; (try dsimp only at hSw); (try obtain ⟨o0, o1, o2, o3, o4, o5, o6, o7, o8, o9⟩ := hSw); go_simp; try with_reducible rfl)
      try simp only [Act.put, List.setIfInBounds_toArray, List.set_cons_zero, List.set_cons_succ]
      refine wpAnyH_take (i := 14) (v := ?_) rfl (by kernel_rfl) (by kernel_rfl) (by kernel_rfl) (fun _ _ _ h => h) (Or.inl ⟨by kernel_rfl, ?_⟩) (by assumption) ?_
      rotate_left
      ·(intro w hSw; (try dsimp only at hSw); (try obtain ⟨o0, o1, o2, o3, o4, o5, o6, o7, o8, o9⟩ := hSw); go_simp; try with_reducible rfl)
      try simp only [Act.put, List.setIfInBounds_toArray, List.set_cons_zero, List.set_cons_succ]
      refine wpAnyH_take (i := 15) (v := ?_) rfl (by kernel_rfl) (by kernel_rfl) (by kernel_rfl) (fun _ _ _ h => h) (Or.inl ⟨by kernel_rfl, ?_⟩) (by assumption) ?_
      rotate_left
      ·(intro w hSw; (try dsimp only at hSw); (try obtain ⟨o0, o1, o2, o3, o4, o5, o6, o7, o8, o9⟩ := hSw); go_simp; try with_reducible rfl)
      try simp only [Act.put, List.setIfInBounds_toArray, List.set_cons_zero, List.set_cons_succ]
      refine wpAnyH_take (i := 16) (v := ?_) rfl (by kernel_rfl) (by kernel_rfl) (by kernel_rfl) (fun _ _ _ h => h) (Or.inl ⟨by kernel_rfl, ?_⟩) (by assumption) ?_
      rotate_left
      ·(intro w hSw; (try dsimp only at hSw); (try obtain ⟨o0, o1, o2, o3, o4, o5, o6, o7, o8, o9⟩ := hSw); go_simp; try with_reducible rfl)
      try simp only [Act.put, List.setIfInBounds_toArray, List.set_cons_zero, List.set_cons_succ]
      refine wpAnyH_take (i := 17) (v := ?_) rfl (by kernel_rfl) (by kernel_rfl) (by kernel_rfl) (fun _ _ _ h => h) (Or.inl ⟨by kernel_rfl, ?_⟩) (by assumption) ?_
      rotate_left
      ·(intro w hSw; (try dsimp only at hSw); (try obtain ⟨o0, o1, o2, o3, o4, o5, o6, o7, o8, o9⟩ := hSw); go_simp; try with_reducible rfl)
      try simp only [Act.put, List.setIfInBounds_toArray, List.set_cons_zero, List.set_cons_succ]
      refine wpAnyH_take (i := 18) (v := ?_) rfl (by kernel_rfl) (by kernel_rfl) (by kernel_rfl) (fun _ _ _ h => h) (Or.inl ⟨by kernel_rfl, ?_⟩) (by assumption) ?_
      rotate_left
      ·(intro w hSw; (try dsimp only at hSw); (try obtain ⟨o0, o1, o2, o3, o4, o5, o6, o7, o8, o9⟩ := hSw); go_simp; try with_reducible rfl)
      try simp only [Act.put, List.setIfInBounds_toArray, List.set_cons_zero, List.set_cons_succ]
      refine wpAnyH_take (i := 19) (v := ?_) rfl (by kernel_rfl) (by kernel_rfl) (by kernel_rfl) (fun _ _ _ h => h) (Or.inl ⟨by kernel_rfl, ?_⟩) (by assumption) ?_
      rotate_left
      ·(intro w hSw; (try dsimp only at hSw); (try obtain ⟨o0, o1, o2, o3, o4, o5, o6, o7, o8, o9⟩ := hSw); go_simp; try with_reducible rfl)
      try simp only [Act.put, List.setIfInBounds_toArray, List.set_cons_zero, List.set_cons_succ]
      refine wpAnyH_take (i := 20) (v := ?_) rfl (by kernel_rfl) (by kernel_rfl) (by kernel_rfl) (fun _ _ _ h => h) (Or.inl ⟨by kernel_rfl, ?_⟩) (by assumption) ?_
      rotate_left
      ·(intro w hSw; (try dsimp only at hSw); (try obtain ⟨o0, o1, o2, o3, o4, o5, o6, o7, o8, o9⟩ := hSw); go_simp; try with_reducible rfl)
      try simp only [Act.put, List.setIfInBounds_toArray, List.set_cons_zero, List.set_cons_succ]
      refine wpAnyH_take (i := 21) (v := ?_) rfl (by kernel_rfl) (by kernel_rfl) (by kernel_rfl) (fun _ _ _ h => h) (Or.inl ⟨by kernel_rfl, ?_⟩) (by assumption) ?_
      rotate_left
      ·(intro w hSw; (try dsimp only at hSw); (try obtain ⟨o0, o1, o2, o3, o4, o5, o6, o7, o8, o9⟩ := hSw); go_simp; try with_reducible rfl)
      try simp only [Act.put, List.setIfInBounds_toArray, List.set_cons_zero, List.set_cons_succ]
      refine wpAnyH_take (i := 22) (v := ?_) rfl (by kernel_rfl) (by kernel_rfl) (by kernel_rfl) (fun _ _ _ h => h) (Or.inl ⟨by kernel_rfl, ?_⟩) (by assumption) ?_
      rotate_left
      ·(intro w hSw; (try dsimp only at hSw); (try obtain ⟨o0, o1, o2, o3, o4, o5, o6, o7, o8, o9⟩ := hSw); go_simp; try with_reducible rfl)
      try simp only [Act.put, List.setIfInBounds_toArray, List.set_cons_zero, List.set_cons_succ]
      refine wpAnyH_take (i := 23) (v := ?_) rfl (by kernel_rfl) (by kernel_rfl) (by kernel_rfl) (fun _ _ _ h => h) (Or.inl ⟨by kernel_rfl, ?_⟩) (by assumption) ?_
      rotate_left
      ·(intro w hSw; (try dsimp only at hSw); (try obtain ⟨o0, o1, o2, o3, o4, o5, o6, o7, o8, o9⟩ := hSw); go_simp; try with_reducible rfl)
      try simp only [Act.put, List.setIfInBounds_toArray, List.set_cons_zero, List.set_cons_succ]
      refine wpAnyH_take (i := 24) (v := ?_) rfl (by kernel_rfl) (by kernel_rfl) (by kernel_rfl) (fun _ _ _ h => h) (Or.inl ⟨by kernel_rfl, ?_⟩) (by assumption) ?_
      rotate_left
      ·(intro w hSw; (try dsimp only at hSw); (try obtain ⟨o0, o1, o2, o3, o4, o5, o6, o7, o8, o9⟩ := hSw); go_simp; try with_reducible rfl)
      try simp only [Act.put, List.setIfInBounds_toArray, List.set_cons_zero, List.set_cons_succ]
      refine wpAnyH_take (i := 25) (v := ?_) rfl (by kernel_rfl) (by kernel_rfl) (by kernel_rfl) (fun _ _ _ h => h) (Or.inl ⟨by kernel_rfl, ?_⟩) (by assumption) ?_
      rotate_left
      ·(intro w hSw; (try dsimp only at hSw); (try obtain ⟨o0, o1, o2, o3, o4, o5, o6, o7, o8, o9⟩ := hSw); go_simp; try with_reducible rfl)
      try simp only [Act.put, List.setIfInBounds_toArray, List.set_cons_zero, List.set_cons_succ]
      refine wpAnyH_take (i := 26) (v := ?_) rfl (by kernel_rfl) (by kernel_rfl) (by kernel_rfl) (fun _ _ _ h => h) (Or.inl ⟨by kernel_rfl, ?_⟩) (by assumption) ?_
      rotate_left
      ·(intro w hSw; (try dsimp only at hSw); (try obtain ⟨o0, o1, o2, o3, o4, o5, o6, o7, o8, o9⟩ := hSw); go_simp; try with_reducible rfl)
      try simp only [Act.put, List.setIfInBounds_toArray, List.set_cons_zero, List.set_cons_succ]
      refine wpAnyH_take (i := 27) (v := ?_) rfl (by kernel_rfl) (by kernel_rfl) (by kernel_rfl) (fun _ _ _ h => h) (Or.inl ⟨by kernel_rfl, ?_⟩) (by assumption) ?_
      rotate_left
      ·(intro w hSw; (try dsimp only at hSw); (try obtain ⟨o0, o1, o2, o3, o4, o5, o6, o7, o8, o9⟩ := hSw); go_simp; try with_reducible rfl)
      try simp only [Act.put, List.setIfInBounds_toArray, List.set_cons_zero, List.set_cons_succ]
      refine wpAnyH_take (i := 28) (v := ?_) rfl (by kernel_rfl) (by kernel_rfl) (by kernel_rfl) (fun _ _ _ h => h) (Or.inl ⟨by kernel_rfl, ?_⟩) (by assumption) ?_
      rotate_left
      ·(intro w hSw; (try dsimp only at hSw); (try obtain ⟨o0, o1, o2, o3, o4, o5, o6, o7, o8, o9⟩ := hSw); go_simp; try with_reducible rfl)
      try simp only [Act.put, List.setIfInBounds_toArray, List.set_cons_zero, List.set_cons_succ]
      refine wpAnyH_take (i := 29) (v := ?_) rfl (by kernel_rfl) (by kernel_rfl) (by kernel_rfl) (fun _ _ _ h => h) (Or.inl ⟨by kernel_rfl, ?_⟩) (by assumption) ?_
      rotate_left
      ·(intro w hSw; (try dsimp only at hSw); (try obtain ⟨o0, o1, o2, o3, o4, o5, o6, o7, o8, o9⟩ := hSw); go_simp; try with_reducible rfl)
      try simp only [Act.put, List.setIfInBounds_toArray, List.set_cons_zero, List.set_cons_succ]
      refine wpAnyH_take (i := 30) (v := ?_) rfl (by kernel_rfl) (by kernel_rfl) (by kernel_rfl) (fun _ _ _ h => h) (Or.inl ⟨by kernel_rfl, ?_⟩) (by assumption) ?_
      rotate_left
      ·(intro w hSw; (try dsimp only at hSw); (try obtain ⟨o0, o1, o2, o3, o4, o5, o6, o7, o8, o9⟩ := hSw); go_simp; try with_reducible rfl)
      try simp only [Act.put, List.setIfInBounds_toArray, List.set_cons_zero, List.set_cons_succ]
      refine wpAnyH_take (i := 31) (v := ?_) rfl (by kernel_rfl) (by kernel_rfl) (by kernel_rfl) (fun _ _ _ h => h) (Or.inl ⟨by kernel_rfl, ?_⟩) (by assumption) ?_
      rotate_left
      ·(intro w hSw; (try dsimp only at hSw); (try obtain ⟨o0, o1, o2, o3, o4, o5, o6, o7, o8, o9⟩ := hSw); go_simp; try with_reducible rfl)
      try simp only [Act.put, List.setIfInBounds_toArray, List.set_cons_zero, List.set_cons_succ]
      refine wpAnyH_done (by kernel_rfl) ?_ _
      go_simp
      go_wp2_with fail
      go_meet
      exact ⟨rfl, Hb1y.out⟩
   case rest =>
    obtain ⟨rfl, hbc⟩ := hcut
    cases hq : (bs && (!ln || bl)) with
    | false =>
     have hf := Hbd.out hq
     obtain ⟨Hbc, Hf, Hq⟩ := hd3 hbc hf hq; clear hbc hf hq
     go_wp2_with fail
     go_ret
     exact ⟨ret_bool Hf.out.symm, Hb1.out.trans (Hbc.out.mono Hb1.out.size)⟩
    | true =>
     have hnx2 := Hnx.out hq
     obtain ⟨Hbc, Hnx2, Hq⟩ := hd3 hbc hnx2 hq; clear hbc hnx2 hq
     go_wp2_with fail
     go_roundw
     case rel => exact ⟨k + 1, by omega, by go_num, Hnx2.out, Hbc.out⟩
     case measure => simp [RowKit.intOf]; omega
  ·obtain rfl : n = k := by omega
   have hf : r = true := by
    rw [Hr.out]
    exact sameRq_yes (by rw [← Hn.out, ← Hn2.out, Hne.out]) (fun j h1 h2 => hno j h1 h2 (by have := Hn.out; omega))
   obtain ⟨Hno, Hf⟩ := hd2 hno hf; clear hno hf
   go_wp2_with fail
   go_ret
   exact ⟨ret_bool Hf.out.symm, Hb1.out.trans (hbq.mono Hb1.out.size)⟩
end Go.Proofs.YteailgjiifdgcaaGreatDoor

/- The walks of cooperlaw08.fixed and cooperlaw08.RequestParses: the law. Condition: the library's variables as they were laid. -/
namespace Go.Proofs.YteailgjiifdgcaaGreatDoor
open Go.Shelf Go.RowKit Go.Lib VerN VarM
attribute [local go_sem ↓] Go.wp_at_zero Go.wp_at_succ

set_option maxRecDepth 10000 in
set_option maxHeartbeats 4000000 in
theorem fixed08_any {w : World} (hD : Doors w) : Calls Tryz.prog 27 #[] w fun e w' => e = .returned (.bool true) ∧ Below w.heap.size w w' := by
 have hP := parse_any fx8T (by decide) hD
 obtain ⟨s, hs, hn⟩ := fx8_req
 rw [hs] at hP
 unfold ReqPost at hP
 unfold fx8T at hP
 clear hs
 obtain ⟨HP, HD⟩ := hd2 hP hD; clear hP hD
 go_enter Tryz.func27, Tryz.ntmps27
 go_wp2_with fail
 refine HP.out.mono ?_
 rintro e w1 ⟨v, rfl, hrt, hb1⟩
 obtain ⟨a, cap, rfl, -, hat⟩ := roots_open hrt
 obtain ⟨b, off, b1, n1, c1, b2, n2, c2, rfl, d0, -, -, d3, -, -⟩ := hat 0 _ rfl
 rw [Nat.zero_mul, Nat.add_zero] at d0 d3
 obtain ⟨tx, htx⟩ : ∃ t, t = s.1 := ⟨_, rfl⟩
 simp only [← htx] at d0
 have hte : (tx.toList == [97]) = true := by
  rw [htx, hn, Lib.toList_data]
  rfl
 obtain ⟨g, hg⟩ : ∃ g, g = w1.heap.size := ⟨_, rfl⟩
 obtain ⟨w2, hw2⟩ : ∃ W, W = (w1.alloc (.cells #[.slice (some ⟨b, off, none⟩) 1 cap] 38)).alloc (.cells #[.int .i64 0, .int .i64 0] 40) := ⟨_, rfl⟩
 have hb2 : Below w1.heap.size w1 w2 := by rw [hw2]; exact (below_alloc1 _ _).alloc (by simp) _
 have p0 : RqBox g (.slice (some ⟨b, off, none⟩) 1 cap) w2 := by rw [hw2, hg]; exact heap_below (below_alloc1 _ _) (heap_new_at rfl)
 obtain ⟨x0, -⟩ := rq_cells p0
 have e0 := cell_later hb2 d0
 have e3 := cell_later hb2 d3
 have hbw := hb1.trans (hb2.mono hb1.size)
 clear d0 d3 hat
 obtain ⟨Hrt, Hb1, Hb2, Hp0, Hbw, Htx, Hn⟩ := hd7 hrt hb1 hb2 p0 hbw htx hn; clear hrt hb1 hb2 p0 hbw htx hn
 go_upto_region 2 with (fail)
 rw [← hw2, ← hg]
 clear hw2 hg
 go_wp2_with fail
 go_ret
 exact ⟨rfl, Hbw.out⟩
end Go.Proofs.YteailgjiifdgcaaGreatDoor

/- Plain: the lines of two texts together are the lines of both, where both have lines of two words at least, the first one of four bytes. Condition: at most 6000 bytes each. -/
namespace Go.Proofs.YteailgjiifdgcaaGreatDoor.LexM

theorem rgo_mono {t : Bs} {room : Bool} : ∀ (r : Bs) (s : RS) (i : Nat), s.out.length ≤ (rgo t room s i r).1.length
 | [], s, i => Nat.le_refl _
 | c :: r, s, i => by
  unfold rgo
  split
  ·refine Nat.le_trans ?_ (rgo_mono r _ (i + 1))
   unfold rnext
   dsimp only
   split <;> simp
  ·exact Nat.le_refl _
theorem rgo_room {t : Bs} {r1 r2 : Bool} : ∀ (r : Bs) (s : RS) (i : Nat), (rgo t r1 s i r).2.2 = 0 → (r2 = true ∨ (rgo t r1 s i r).1.length = s.out.length) → rgo t r2 s i r = rgo t r1 s i r
 | [], s, i, _, _ => rfl
 | c :: r, s, i, he, h => by
  by_cases h1 : rerr t r1 s i c = 0
  ·have e1 : rgo t r1 s i (c :: r) = rgo t r1 (rnext t s i c) (i + 1) r := by show (if _ then _ else _) = _; rw [if_pos h1]
   rw [e1] at he h ⊢
   cases hk : rskip t s i c with
   | true =>
    have h2 : rerr t r2 s i c = 0 := by
     unfold rerr at h1 ⊢
     rw [hk] at h1 ⊢
     exact h1
    have hn : (rnext t s i c).out = s.out := by unfold rnext; rw [if_pos hk]
    have e2 : rgo t r2 s i (c :: r) = rgo t r2 (rnext t s i c) (i + 1) r := by show (if _ then _ else _) = _; rw [if_pos h2]
    rw [e2]
    exact rgo_room r _ _ he (by rw [hn]; exact h)
   | false =>
    have hn : (rnext t s i c).out.length = s.out.length + 1 := by unfold rnext; rw [if_neg (by rw [hk]; simp)]; simp
    have hm := rgo_mono (t := t) (room := r1) r (rnext t s i c) (i + 1)
    rcases h with h | h
    ·have h2 : rerr t r2 s i c = 0 := by
      unfold rerr at h1 ⊢
      rw [hk] at h1 ⊢
      rw [h]
      split at h1
      ·cases h1
      ·rename_i hf
       rw [if_neg hf]
       simp only [Bool.false_eq_true, if_false] at h1 ⊢
       split at h1
       ·cases h1
       ·rename_i hg
        rw [if_neg (by simp at hg ⊢; exact hg.1)]
     have e2 : rgo t r2 s i (c :: r) = rgo t r2 (rnext t s i c) (i + 1) r := by show (if _ then _ else _) = _; rw [if_pos h2]
     rw [e2]
     exact rgo_room r _ _ he (.inl h)
    ·omega
  ·have e1 : rgo t r1 s i (c :: r) = (s.out, (i : Int) + 1, rerr t r1 s i c) := by show (if _ then _ else _) = _; rw [if_neg h1]
   rw [e1] at he
   exact absurd he h1
theorem rline_room {t : Bs} {r1 r2 : Bool} (he : (rline t r1).2.2 = 0) (h : r2 = true ∨ (rline t r1).1 = []) : rline t r2 = rline t r1 :=
 rgo_room t _ 0 he (h.imp_right fun e => by show (rline t r1).1.length = 0; rw [e]; rfl)
structure Places (t : Bs) (i : Nat) (out : List Wd) : Prop where
 at_ : ∀ x ∈ out, ∃ j : Nat, x.1 = (j : Int) + 1 ∧ j < i ∧ x.2 = wordAt t j
 row : out.Pairwise fun x y => ∃ j k : Nat, x.1 = (j : Int) + 1 ∧ y.1 = (k : Int) + 1 ∧ j < k ∧ part (t.getD (k - 1) 0) = false
theorem rgo_places {t : Bs} {room : Bool} : ∀ (r : Bs) (s : RS) (i : Nat), t.drop i = r → Places t i s.out → ∃ n, Places t n (rgo t room s i r).1
 | [], s, i, _, h => ⟨i, h⟩
 | c :: r, s, i, hd, h => by
  obtain ⟨hg, hd2, hi⟩ := getD_of_drop hd
  unfold rgo
  split
  ·refine rgo_places r _ (i + 1) hd2 ?_
   unfold rnext
   dsimp only
   split
   ·exact ⟨fun x hx => by obtain ⟨j, h1, h2, h3⟩ := h.at_ x hx; exact ⟨j, h1, by omega, h3⟩, h.row⟩
   ·rename_i hk
    unfold rskip at hk
    simp only [Bool.or_eq_true, not_or, Bool.not_eq_true', Bool.not_eq_false, Bool.and_eq_true, decide_eq_true_eq, not_and, Bool.not_eq_true] at hk
    refine ⟨fun x hx => ?_, ?_⟩
    ·rcases List.mem_append.1 hx with hx | hx
     ·obtain ⟨j, h1, h2, h3⟩ := h.at_ x hx
      exact ⟨j, h1, by omega, h3⟩
     ·rw [List.mem_singleton] at hx
      subst hx
      exact ⟨i, rfl, by omega, rfl⟩
    ·rw [List.pairwise_append]
     refine ⟨h.row, List.pairwise_singleton _ _, fun x hx y hy => ?_⟩
     rw [List.mem_singleton] at hy
     subst hy
     obtain ⟨j, h1, h2, h3⟩ := h.at_ x hx
     exact ⟨j, i, h1, rfl, h2, hk.2 (by omega)⟩
  ·exact ⟨i, h⟩
theorem takeWhile_at (p : UInt8 → Bool) : ∀ (l : Bs) (k : Nat), k < (l.takeWhile p).length → p (l.getD k 0) = true
 | [], k, h => by simp at h
 | c :: r, k, h => by
  rw [List.takeWhile_cons] at h
  split at h
  ·rename_i hc
   cases k with
   | zero => simpa using hc
   | succ k =>
    simp at h
    simpa using takeWhile_at p r k (by omega)
  ·simp at h
theorem line_long {t : Bs} {room : Bool} {x y : Wd} {r : List Wd} (h : (rline t room).1 = x :: y :: r) : x.2.length + 2 ≤ t.length := by
 obtain ⟨n, hp⟩ := rgo_places (t := t) (room := room) t ⟨false, []⟩ 0 rfl ⟨fun x hx => by simp at hx, List.Pairwise.nil⟩
 have hg := rline_good t room
 rw [show (rgo t room ⟨false, []⟩ 0 t).1 = (rline t room).1 from rfl, h] at hp
 rw [h] at hg
 obtain ⟨j, hj1, _, hj2⟩ := hp.at_ x (by simp)
 have h1 := hp.row
 rw [List.pairwise_cons] at h1
 obtain ⟨j', k, e1, e2, hjk, hk⟩ := h1.1 y (by simp)
 have hjj : j' = j := by omega
 subst hjj
 have h3 := (hg.1 y (by simp)).2.1
 apply Nat.le_of_not_lt
 intro hlt
 have h4 : k - 1 - j' < x.2.length := by omega
 rw [hj2] at h4
 have h5 := takeWhile_at part (t.drop j') (k - 1 - j') h4
 have e : (t.drop j').getD (k - 1 - j') 0 = t.getD (k - 1) 0 := by
  simp only [List.getD_eq_getElem?_getD, List.getElem?_drop]
  rw [show j' + (k - 1 - j') = k - 1 by omega]
 rw [e, hk] at h5
 cases h5
def Two (l : List Wd) : Prop := ∃ x y r, l = x :: y :: r ∧ 4 ≤ x.2.length
theorem addLn_map (out : List Ln) (n : Int) (ws : List Wd) : (addLn out n ws).map (·.2) = out.map (·.2) ++ (if ws = [] then [] else [ws]) := by
 unfold addLn
 split <;> simp
theorem rlines_mono : ∀ (r : Bs) (n : Int) (cur : Bs) (out : List Ln), (rlines n cur out r).e = 0 → ∃ more, (rlines n cur out r).lines = out ++ more
 | [], n, cur, out, h => by
  unfold rlines at h ⊢
  dsimp only at h ⊢
  split
  ·unfold addLn
   split
   ·exact ⟨[], by simp⟩
   ·exact ⟨_, rfl⟩
  ·rename_i hk
   rw [if_neg hk] at h
   exact absurd h hk
 | c :: r, n, cur, out, h => by
  unfold rlines at h ⊢
  split
  ·rename_i hc
   rw [if_pos hc] at h
   dsimp only at h ⊢
   split
   ·rename_i hk
    rw [if_pos hk] at h
    obtain ⟨more, hm⟩ := rlines_mono r _ _ _ h
    rw [hm]
    unfold addLn
    split
    ·exact ⟨more, rfl⟩
    ·exact ⟨_, List.append_assoc _ _ _⟩
   ·rename_i hk
    rw [if_neg hk] at h
    exact absurd h hk
  ·rename_i hc
   rw [if_neg hc] at h
   exact rlines_mono r _ _ _ h
theorem rlines_bytes : ∀ (r : Bs) (n : Int) (cur : Bs) (out : List Ln), (rlines n cur out r).e = 0 → (∀ l ∈ (rlines n cur out r).lines, Two l.2) → 7 * (rlines n cur out r).lines.length ≤ 7 * out.length + cur.length + r.length + 1
 | [], n, cur, out, h, h2 => by
  unfold rlines at h h2 ⊢
  dsimp only at h h2 ⊢
  split
  ·rename_i hk
   rw [if_pos hk] at h2
   unfold addLn at h2 ⊢
   split
   ·show 7 * out.length ≤ 7 * out.length + cur.length + 0 + 1; omega
   ·rename_i hw
    rw [if_neg hw] at h2
    obtain ⟨x, y, r, e, h4⟩ := h2 (n, (rline cur (decide (out.length < 2000))).1) (by simp)
    have := line_long e
    simp
    omega
  ·rename_i hk
   rw [if_neg hk] at h
   exact absurd h hk
 | c :: r, n, cur, out, h, h2 => by
  unfold rlines at h h2 ⊢
  split
  ·rename_i hc
   rw [if_pos hc] at h h2
   dsimp only at h h2 ⊢
   split
   ·rename_i hk
    rw [if_pos hk] at h h2
    have h3 := rlines_bytes r _ _ _ h h2
    obtain ⟨more, hm⟩ := rlines_mono r _ _ _ h
    rw [hm] at h2
    unfold addLn at h3 hm h2
    split at h3
    ·simp at h3 ⊢
     unfold addLn
     rename_i hw
     rw [if_pos hw]
     omega
    ·rename_i hw
     rw [if_neg hw] at h2
     obtain ⟨x, y, r', e, h4⟩ := h2 (n, (rline cur (decide (out.length < 2000))).1) (by simp)
     have := line_long e
     unfold addLn
     rw [if_neg hw]
     simp at h3 ⊢
     omega
   ·rename_i hk
    rw [if_neg hk] at h
    exact absurd h hk
  ·rename_i hc
   rw [if_neg hc] at h h2
   have := rlines_bytes r _ _ _ h h2
   simp at this ⊢
   omega
theorem rlines_app (b : Bs) : ∀ (a : Bs) (n : Int) (cur : Bs) (out : List Ln), (rlines n cur out a).e = 0 → ∃ m, rlines n cur out (a ++ 10 :: b) = rlines m [] (rlines n cur out a).lines b
 | [], n, cur, out, h => by
  rw [List.nil_append]
  unfold rlines at h
  dsimp only at h
  have hk : (rline cur (decide (out.length < 2000))).2.2 = 0 := by
   apply Classical.byContradiction
   intro hk
   rw [if_neg hk] at h
   exact hk h
  refine ⟨n + 1, ?_⟩
  conv => lhs; unfold rlines
  rw [if_pos (by decide)]
  dsimp only
  rw [if_pos hk]
  congr 1
  unfold rlines
  dsimp only
  rw [if_pos hk]
 | c :: a, n, cur, out, h => by
  rw [List.cons_append]
  by_cases hc : c.toNat = 10
  ·have e1 : ∀ t, rlines n cur out (c :: t) = if (rline cur (decide (out.length < 2000))).2.2 = 0 then rlines (n + 1) [] (addLn out n (rline cur (decide (out.length < 2000))).1) t else ⟨[], n, (rline cur (decide (out.length < 2000))).2.1, (rline cur (decide (out.length < 2000))).2.2⟩ := fun t => by
    show (if _ then _ else _) = _
    rw [if_pos hc]
   rw [e1] at h ⊢
   rw [e1]
   by_cases hk : (rline cur (decide (out.length < 2000))).2.2 = 0
   ·rw [if_pos hk] at h ⊢
    rw [if_pos hk]
    exact rlines_app b a _ _ _ h
   ·rw [if_neg hk] at h
    exact absurd h hk
  ·have e1 : ∀ t, rlines n cur out (c :: t) = rlines n (cur ++ [c]) out t := fun t => by
    show (if _ then _ else _) = _
    rw [if_neg hc]
   rw [e1] at h ⊢
   rw [e1]
   exact rlines_app b a _ _ _ h
theorem rlines_more (o : List (List Wd)) : ∀ (r : Bs) (n m : Int) (cur : Bs) (out out' : List Ln), (rlines n cur out r).e = 0 → out'.map (·.2) = o ++ out.map (·.2) → o.length + (rlines n cur out r).lines.length ≤ 2000 →
  (rlines m cur out' r).e = 0 ∧ (rlines m cur out' r).lines.map (·.2) = o ++ (rlines n cur out r).lines.map (·.2) := by
 have one : ∀ (n m : Int) (cur : Bs) (out out' : List Ln), (rline cur (decide (out.length < 2000))).2.2 = 0 → out'.map (·.2) = o ++ out.map (·.2) → o.length + (addLn out n (rline cur (decide (out.length < 2000))).1).length ≤ 2000 →
   rline cur (decide (out'.length < 2000)) = rline cur (decide (out.length < 2000)) ∧ (addLn out' m (rline cur (decide (out.length < 2000))).1).map (·.2) = o ++ (addLn out n (rline cur (decide (out.length < 2000))).1).map (·.2) := by
  intro n m cur out out' he ho hl
  have hl2 : out'.length = o.length + out.length := by have := congrArg List.length ho; simpa using this
  refine ⟨rline_room he ?_, ?_⟩
  ·by_cases hw : (rline cur (decide (out.length < 2000))).1 = []
   ·exact .inr hw
   ·left
    unfold addLn at hl
    rw [if_neg hw] at hl
    simp at hl
    exact decide_eq_true (by omega)
  ·rw [addLn_map, addLn_map, ho, List.append_assoc]
 intro r
 induction r with
 | nil =>
  intro n m cur out out' h ho hl
  have hk : (rline cur (decide (out.length < 2000))).2.2 = 0 := by
   apply Classical.byContradiction
   intro hk
   unfold rlines at h
   dsimp only at h
   rw [if_neg hk] at h
   exact hk h
  have e1 : ∀ n, rlines n cur out [] = ⟨addLn out n (rline cur (decide (out.length < 2000))).1, 0, 0, 0⟩ := fun n => by
   unfold rlines
   dsimp only
   rw [if_pos hk]
  rw [e1] at hl ⊢
  obtain ⟨q1, q2⟩ := one n m cur out out' hk ho hl
  unfold rlines
  dsimp only
  rw [q1, if_pos hk]
  exact ⟨rfl, q2⟩
 | cons c r ih =>
  intro n m cur out out' h ho hl
  by_cases hc : c.toNat = 10
  ·have e1 : ∀ (n : Int) (out : List Ln), rlines n cur out (c :: r) = if (rline cur (decide (out.length < 2000))).2.2 = 0 then rlines (n + 1) [] (addLn out n (rline cur (decide (out.length < 2000))).1) r else ⟨[], n, (rline cur (decide (out.length < 2000))).2.1, (rline cur (decide (out.length < 2000))).2.2⟩ := fun n out => by
    show (if _ then _ else _) = _
    rw [if_pos hc]
   rw [e1] at h hl
   have hk : (rline cur (decide (out.length < 2000))).2.2 = 0 := by
    apply Classical.byContradiction
    intro hk
    rw [if_neg hk] at h
    exact hk h
   rw [if_pos hk] at h hl
   obtain ⟨more, hm⟩ := rlines_mono r _ _ _ h
   obtain ⟨q1, q2⟩ := one n m cur out out' hk ho (by rw [hm] at hl; simp at hl; omega)
   rw [e1, e1, if_pos hk, q1, if_pos hk]
   exact ih _ _ _ _ _ h q2 hl
  ·have e1 : ∀ (n : Int) (out : List Ln), rlines n cur out (c :: r) = rlines n (cur ++ [c]) out r := fun n out => by
    show (if _ then _ else _) = _
    rw [if_neg hc]
   rw [e1] at h hl
   rw [e1, e1]
   exact ih _ _ _ _ _ h ho hl
theorem doc_join {a b : Bs} (ha : a.length ≤ 6000) (hb : b.length ≤ 6000) (ea : (docLines a).e = 0) (eb : (docLines b).e = 0) (ta : ∀ l ∈ (docLines a).lines, Two l.2) (tb : ∀ l ∈ (docLines b).lines, Two l.2) :
  (docLines (a ++ 10 :: b)).e = 0 ∧ (docLines (a ++ 10 :: b)).lines.map (·.2) = (docLines a).lines.map (·.2) ++ (docLines b).lines.map (·.2) := by
 have e1 : ∀ t : Bs, t.length ≤ 65536 → docLines t = rlines 1 [] [] t := fun t ht => by unfold docLines; rw [if_neg (by omega)]
 rw [e1 a (by omega)] at ea ta ⊢
 rw [e1 b (by omega)] at eb tb ⊢
 rw [e1 (a ++ 10 :: b) (by simp; omega)]
 obtain ⟨m, hm⟩ := rlines_app b a _ _ _ ea
 rw [hm]
 have na := rlines_bytes a 1 [] [] ea ta
 have nb := rlines_bytes b 1 [] [] eb tb
 simp at na nb
 exact rlines_more ((rlines 1 [] [] a).lines.map (·.2)) b 1 m [] [] (rlines 1 [] [] a).lines eb (by simp) (by simp; omega)
end Go.Proofs.YteailgjiifdgcaaGreatDoor.LexM

/- Plain: what words tell, as texts alone: settings, a wish, a condition; and the words of what was told. No condition. -/
namespace Go.Proofs.YteailgjiifdgcaaGreatDoor
open Go.Lib VerN VarM
open LexM (Wd Ln)

def wtx (x : Wd) : ByteArray := ⟨x.2.toArray⟩
def texts (ws : List Wd) (i : Nat) : List ByteArray := (ws.drop i).map wtx
theorem name_none : nameB ⟨#[]⟩ = false := by
 unfold nameB
 rw [show (cutB 64 (⟨#[]⟩ : ByteArray)) = (⟨#[]⟩, ⟨#[]⟩, false) from by kernel_rfl]
 rfl
theorem cut_parts (c : UInt8) (s : ByteArray) : (∃ k : Nat, indexByte s.data.toList c = k ∧ k < s.data.toList.length ∧ s.data.toList[k]? = some c ∧ hasB c s = true ∧ cutB c s = (⟨(s.data.toList.take k).toArray⟩, ⟨(s.data.toList.drop (k + 1)).toArray⟩, true)) ∨
  (hasB c s = false ∧ cutB c s = (s, ⟨#[]⟩, false)) := by
 obtain ⟨l, hl⟩ : ∃ l, l = s.data.toList := ⟨_, rfl⟩
 have hs : s = ⟨l.toArray⟩ := Txt.ext (by rw [hl])
 unfold hasB cutB cut
 rw [← hl, index_one]
 have hge := indexByte_ge l c
 by_cases h : 0 ≤ indexByte l c
 ·left
  obtain ⟨k, hk⟩ : ∃ k : Nat, indexByte l c = k := ⟨(indexByte l c).toNat, by omega⟩
  have h1 := (indexByte_some hk).1
  refine ⟨k, hk, (List.getElem?_eq_some_iff.1 h1).1, h1, decide_eq_true h, ?_⟩
  rw [if_pos h, hk]
  rfl
 ·right
  refine ⟨decide_eq_false h, ?_⟩
  rw [if_neg h, hs]
theorem cut_none {c : UInt8} {s : ByteArray} (h : (cutB c s).2.2 = false) : (cutB c s).1 = s := by
 rcases cut_parts c s with ⟨k, _, _, _, _, e⟩ | ⟨_, e⟩
 ·rw [e] at h
  cases h
 ·rw [e]
def Stop (r : List ByteArray) : Prop := ∀ x, r.head? = some x → hasB 61 x = false
end Go.Proofs.YteailgjiifdgcaaGreatDoor

/- Plain: the roots of two texts together. No condition. -/
namespace Go.Proofs.YteailgjiifdgcaaGreatDoor
open Go.Lib VerN VarM
open LexM (Wd Ln)

noncomputable def rootO (l : Ln) : Option Spc3 := (rootW l).1
theorem rootO_words {l k : Ln} (h : l.2 = k.2) : rootO l = rootO k := by
 obtain ⟨a, ws⟩ := l
 obtain ⟨b, us⟩ := k
 have h : ws = us := h
 subst h
 rfl
theorem reqGo_cons (l : Ln) (r : List Ln) (out : List (Spc3 × Int)) : (∃ s, rootO l = some s ∧ reqGo (l :: r) out = reqGo r (out ++ [(s, l.1)])) ∨ (rootO l = none ∧ (reqGo (l :: r) out).e = 2 ∧ (reqGo (l :: r) out).roots = []) := by
 have e : reqGo (l :: r) out = (match rootW l with | (some s, _) => reqGo r (out ++ [(s, l.1)]) | (none, c) => ⟨[], l.1, c, 2⟩) := rfl
 unfold rootO
 rcases hr : rootW l with ⟨_ | s, c⟩
 ·right
  rw [hr] at e
  rw [e]
  exact ⟨rfl, rfl, rfl⟩
 ·left
  rw [hr] at e
  exact ⟨s, rfl, e⟩
theorem reqGo_ok : ∀ (L : List Ln) (out : List (Spc3 × Int)), (reqGo L out).e = 0 → L.map rootO = ((L.map rootO).filterMap id).map some := by
 intro L
 induction L with
 | nil => intro out _; rfl
 | cons l r ih =>
  intro out h
  rcases reqGo_cons l r out with ⟨s, h1, h2⟩ | ⟨_, h2, _⟩
  ·rw [h2] at h
   have := ih _ h
   rw [List.map_cons, h1, List.filterMap_cons]
   simp only [id, List.map_cons]
   rw [← this]
  ·rw [h2] at h
   cases h
theorem reqGo_roots : ∀ (L : List Ln) (rs : List Spc3) (out : List (Spc3 × Int)), L.map rootO = rs.map some → (reqGo L out).e = 0 ∧ (reqGo L out).roots.map (·.1) = out.map (·.1) ++ rs ∧ (reqGo L out).at1 = 0 ∧ (reqGo L out).at2 = 0
 | [], rs, out, h => by
  have : rs = [] := by cases rs with
   | nil => rfl
   | cons _ _ => simp at h
  subst this
  exact ⟨rfl, by simp [reqGo], rfl, rfl⟩
 | l :: r, rs, out, h => by
  cases rs with
  | nil => simp at h
  | cons s rs =>
   simp only [List.map_cons, List.cons.injEq] at h
   rcases reqGo_cons l r out with ⟨s', h1, h2⟩ | ⟨h1, _, _⟩
   ·rw [h.1] at h1
    cases h1
    rw [h2]
    have := reqGo_roots r rs (out ++ [(s, l.1)]) h.2
    simpa using this
   ·rw [h.1] at h1
    cases h1
theorem rootO_two {l : Ln} {s : Spc3} (h : rootO l = some s) : LexM.Two l.2 := by
 unfold rootO rootW at h
 by_cases h1 : peekB l.2 0 = rootT
 ·rw [if_pos h1] at h
  obtain ⟨n, ws⟩ := l
  cases ws with
  | nil => exact absurd (show peekB [] 0 = rootT from h1) (by decide)
  | cons x ws =>
   cases ws with
   | nil =>
    have e : wishW (([x] : List Wd).drop 1) 0 = (none, 0) := by
     unfold wishW
     rw [peek_none (by simp), if_neg (by rw [name_none]; simp)]
    rw [show ((n, [x]) : Ln).2 = [x] from rfl, e] at h
    cases h
   | cons y ws =>
    refine ⟨x, y, ws, rfl, ?_⟩
    rw [peek_some (by simp)] at h1
    have h2 := congrArg (fun s : ByteArray => s.data.toList.length) h1
    have h3 : x.2.length = 4 := h2
    omega
 ·rw [if_neg h1] at h
  cases h
theorem reqOf_ok {t : List UInt8} (h : (reqOf t).e = 0) : (LexM.docLines t).e = 0 ∧ ∃ rs, (LexM.docLines t).lines.map rootO = rs.map some ∧ (reqOf t).roots.map (·.1) = rs := by
 unfold reqOf at h ⊢
 by_cases he : (LexM.docLines t).e = 0
 ·rw [if_pos he] at h ⊢
  have h1 := reqGo_ok _ _ h
  refine ⟨he, _, h1, ?_⟩
  have := (reqGo_roots _ _ [] h1).2.1
  simpa using this
 ·rw [if_neg he] at h
  exact absurd h he
theorem reqOf_join {a b : List UInt8} (ha : a.length ≤ 6000) (hb : b.length ≤ 6000) (ea : (reqOf a).e = 0) (eb : (reqOf b).e = 0) : (reqOf (a ++ 10 :: b)).e = 0 ∧ (reqOf (a ++ 10 :: b)).roots.map (·.1) = (reqOf a).roots.map (·.1) ++ (reqOf b).roots.map (·.1) := by
 obtain ⟨ka, ra, ma, sa⟩ := reqOf_ok ea
 obtain ⟨kb, rb, mb, sb⟩ := reqOf_ok eb
 have two : ∀ (L : List Ln) (rs : List Spc3), L.map rootO = rs.map some → ∀ l ∈ L, LexM.Two l.2 := fun L rs h l hl => by
  have : rootO l ∈ L.map rootO := List.mem_map.2 ⟨l, hl, rfl⟩
  rw [h] at this
  obtain ⟨s, _, hs⟩ := List.mem_map.1 this
  exact rootO_two hs.symm
 obtain ⟨k1, k2⟩ := LexM.doc_join ha hb ka kb (two _ _ ma) (two _ _ mb)
 have hm : (LexM.docLines (a ++ 10 :: b)).lines.map rootO = (ra ++ rb).map some := by
  have e : ∀ L : List Ln, L.map rootO = (L.map (·.2)).map fun ws => rootO (0, ws) := fun L => by
   rw [List.map_map]
   exact List.map_congr_left fun l _ => rootO_words rfl
  rw [e, k2, List.map_append, ← e, ← e, ma, mb, List.map_append]
 have h := reqGo_roots _ _ [] hm
 unfold reqOf
 rw [if_pos k1]
 refine ⟨h.1, ?_⟩
 rw [h.2.1]
 unfold reqOf at sa sb
 rw [if_pos ka] at sa ⊢
 rw [if_pos kb] at sb ⊢
 rw [sa, sb]
 rfl
end Go.Proofs.YteailgjiifdgcaaGreatDoor
