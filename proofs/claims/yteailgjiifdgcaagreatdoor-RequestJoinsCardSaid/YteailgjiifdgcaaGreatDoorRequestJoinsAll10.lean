/- Walks and plain facts. Texts merged: RequestJoins. Condition: none beyond what each says. -/
import Derived.Test.YteailgjiifdgcaaGreatDoorRequestJoinsAll9
set_option linter.unusedVariables false
set_option linter.unusedSimpArgs false
/- The walk of cooperlaw08.RequestJoins: the law. Condition: the library's variables as they were laid. -/
namespace Go.Proofs.YteailgjiifdgcaaGreatDoor
theorem hzRequestJoins {p : Prop} (h : p) : Go.RowKit.Hid p := h
theorem hzRequestJoins2 {p0 p1 : Prop} (hp0 : p0) (hp1 : p1) : Go.RowKit.Hid p0 ∧ Go.RowKit.Hid p1 := ⟨hp0, hp1⟩
theorem hzRequestJoins3 {p0 p1 p2 : Prop} (hp0 : p0) (hp1 : p1) (hp2 : p2) : Go.RowKit.Hid p0 ∧ Go.RowKit.Hid p1 ∧ Go.RowKit.Hid p2 := ⟨hp0, hp1, hp2⟩
theorem hzRequestJoins4 {p0 p1 p2 p3 : Prop} (hp0 : p0) (hp1 : p1) (hp2 : p2) (hp3 : p3) : Go.RowKit.Hid p0 ∧ Go.RowKit.Hid p1 ∧ Go.RowKit.Hid p2 ∧ Go.RowKit.Hid p3 := ⟨hp0, hp1, hp2, hp3⟩
theorem hzRequestJoins5 {p0 p1 p2 p3 p4 : Prop} (hp0 : p0) (hp1 : p1) (hp2 : p2) (hp3 : p3) (hp4 : p4) : Go.RowKit.Hid p0 ∧ Go.RowKit.Hid p1 ∧ Go.RowKit.Hid p2 ∧ Go.RowKit.Hid p3 ∧ Go.RowKit.Hid p4 := ⟨hp0, hp1, hp2, hp3, hp4⟩
theorem hzRequestJoins6 {p0 p1 p2 p3 p4 p5 : Prop} (hp0 : p0) (hp1 : p1) (hp2 : p2) (hp3 : p3) (hp4 : p4) (hp5 : p5) : Go.RowKit.Hid p0 ∧ Go.RowKit.Hid p1 ∧ Go.RowKit.Hid p2 ∧ Go.RowKit.Hid p3 ∧ Go.RowKit.Hid p4 ∧ Go.RowKit.Hid p5 := ⟨hp0, hp1, hp2, hp3, hp4, hp5⟩
theorem hzRequestJoins7 {p0 p1 p2 p3 p4 p5 p6 : Prop} (hp0 : p0) (hp1 : p1) (hp2 : p2) (hp3 : p3) (hp4 : p4) (hp5 : p5) (hp6 : p6) : Go.RowKit.Hid p0 ∧ Go.RowKit.Hid p1 ∧ Go.RowKit.Hid p2 ∧ Go.RowKit.Hid p3 ∧ Go.RowKit.Hid p4 ∧ Go.RowKit.Hid p5 ∧ Go.RowKit.Hid p6 := ⟨hp0, hp1, hp2, hp3, hp4, hp5, hp6⟩
theorem hzRequestJoins9 {p0 p1 p2 p3 p4 p5 p6 p7 p8 : Prop} (hp0 : p0) (hp1 : p1) (hp2 : p2) (hp3 : p3) (hp4 : p4) (hp5 : p5) (hp6 : p6) (hp7 : p7) (hp8 : p8) : Go.RowKit.Hid p0 ∧ Go.RowKit.Hid p1 ∧ Go.RowKit.Hid p2 ∧ Go.RowKit.Hid p3 ∧ Go.RowKit.Hid p4 ∧ Go.RowKit.Hid p5 ∧ Go.RowKit.Hid p6 ∧ Go.RowKit.Hid p7 ∧ Go.RowKit.Hid p8 := ⟨hp0, hp1, hp2, hp3, hp4, hp5, hp6, hp7, hp8⟩
theorem hzRequestJoins11 {p0 p1 p2 p3 p4 p5 p6 p7 p8 p9 p10 : Prop} (hp0 : p0) (hp1 : p1) (hp2 : p2) (hp3 : p3) (hp4 : p4) (hp5 : p5) (hp6 : p6) (hp7 : p7) (hp8 : p8) (hp9 : p9) (hp10 : p10) : Go.RowKit.Hid p0 ∧ Go.RowKit.Hid p1 ∧ Go.RowKit.Hid p2 ∧ Go.RowKit.Hid p3 ∧ Go.RowKit.Hid p4 ∧ Go.RowKit.Hid p5 ∧ Go.RowKit.Hid p6 ∧ Go.RowKit.Hid p7 ∧ Go.RowKit.Hid p8 ∧ Go.RowKit.Hid p9 ∧ Go.RowKit.Hid p10 := ⟨hp0, hp1, hp2, hp3, hp4, hp5, hp6, hp7, hp8, hp9, hp10⟩
theorem hzRequestJoins12 {p0 p1 p2 p3 p4 p5 p6 p7 p8 p9 p10 p11 : Prop} (hp0 : p0) (hp1 : p1) (hp2 : p2) (hp3 : p3) (hp4 : p4) (hp5 : p5) (hp6 : p6) (hp7 : p7) (hp8 : p8) (hp9 : p9) (hp10 : p10) (hp11 : p11) : Go.RowKit.Hid p0 ∧ Go.RowKit.Hid p1 ∧ Go.RowKit.Hid p2 ∧ Go.RowKit.Hid p3 ∧ Go.RowKit.Hid p4 ∧ Go.RowKit.Hid p5 ∧ Go.RowKit.Hid p6 ∧ Go.RowKit.Hid p7 ∧ Go.RowKit.Hid p8 ∧ Go.RowKit.Hid p9 ∧ Go.RowKit.Hid p10 ∧ Go.RowKit.Hid p11 := ⟨hp0, hp1, hp2, hp3, hp4, hp5, hp6, hp7, hp8, hp9, hp10, hp11⟩
theorem hzRequestJoins14 {p0 p1 p2 p3 p4 p5 p6 p7 p8 p9 p10 p11 p12 p13 : Prop} (hp0 : p0) (hp1 : p1) (hp2 : p2) (hp3 : p3) (hp4 : p4) (hp5 : p5) (hp6 : p6) (hp7 : p7) (hp8 : p8) (hp9 : p9) (hp10 : p10) (hp11 : p11) (hp12 : p12) (hp13 : p13) : Go.RowKit.Hid p0 ∧ Go.RowKit.Hid p1 ∧ Go.RowKit.Hid p2 ∧ Go.RowKit.Hid p3 ∧ Go.RowKit.Hid p4 ∧ Go.RowKit.Hid p5 ∧ Go.RowKit.Hid p6 ∧ Go.RowKit.Hid p7 ∧ Go.RowKit.Hid p8 ∧ Go.RowKit.Hid p9 ∧ Go.RowKit.Hid p10 ∧ Go.RowKit.Hid p11 ∧ Go.RowKit.Hid p12 ∧ Go.RowKit.Hid p13 := ⟨hp0, hp1, hp2, hp3, hp4, hp5, hp6, hp7, hp8, hp9, hp10, hp11, hp12, hp13⟩
theorem hzRequestJoins16 {p0 p1 p2 p3 p4 p5 p6 p7 p8 p9 p10 p11 p12 p13 p14 p15 : Prop} (hp0 : p0) (hp1 : p1) (hp2 : p2) (hp3 : p3) (hp4 : p4) (hp5 : p5) (hp6 : p6) (hp7 : p7) (hp8 : p8) (hp9 : p9) (hp10 : p10) (hp11 : p11) (hp12 : p12) (hp13 : p13) (hp14 : p14) (hp15 : p15) : Go.RowKit.Hid p0 ∧ Go.RowKit.Hid p1 ∧ Go.RowKit.Hid p2 ∧ Go.RowKit.Hid p3 ∧ Go.RowKit.Hid p4 ∧ Go.RowKit.Hid p5 ∧ Go.RowKit.Hid p6 ∧ Go.RowKit.Hid p7 ∧ Go.RowKit.Hid p8 ∧ Go.RowKit.Hid p9 ∧ Go.RowKit.Hid p10 ∧ Go.RowKit.Hid p11 ∧ Go.RowKit.Hid p12 ∧ Go.RowKit.Hid p13 ∧ Go.RowKit.Hid p14 ∧ Go.RowKit.Hid p15 := ⟨hp0, hp1, hp2, hp3, hp4, hp5, hp6, hp7, hp8, hp9, hp10, hp11, hp12, hp13, hp14, hp15⟩
open Go.Shelf Go.RowKit Go.Lib VerN VarM
attribute [local go_sem ↓] Go.wp_at_zero Go.wp_at_succ

theorem sameRq_words {l m : List Rt} (h : l.map (·.1) = m.map (·.1)) : sameRq false l m = true := by
 have hl : l.length = m.length := by have := congrArg List.length h; simpa using this
 refine sameRq_yes hl fun j h1 h2 => ?_
 have e : l[j].1 = m[j].1 := by
  have := congrArg (fun t : List Spc3 => t[j]?) h
  simpa [List.getElem?_eq_getElem h1, List.getElem?_eq_getElem h2] using this
 unfold eqRt
 rw [e]
 simp
theorem root_one {W : World} {cs : List Value} {x : Rt} (h : RRoot W cs x) : cs.length = 4 ∧ ∀ u ∈ cs, u.oneCell' = true := by
 obtain ⟨v1, v2, rfl, h1, h2⟩ := h
 obtain ⟨a1, c1, rfl⟩ := sps_shape h1
 obtain ⟨a2, c2, rfl⟩ := sets_shape h2
 exact ⟨rfl, by simp [Value.oneCell']⟩
theorem roots_cells {W : World} {a : Option Addr} {n c : Nat} {l : List Rt} (h : RRoots W [.slice a n c] l) : ∃ css : List (List Value), css.length = l.length ∧ n = l.length ∧ (∀ cs ∈ css, cs.length = 4) ∧ css.flatten.length = n * 4 ∧ (∀ (j : Nat) u, css.flatten[j]? = some u → ∃ b off, a = some ⟨b, off, none⟩ ∧ W.cell? ⟨b, off + j, none⟩ = some u) ∧ (∀ u ∈ css.flatten, u.oneCell' = true) ∧ ∀ (i : Nat) cs x, css[i]? = some cs → l[i]? = some x → RRoot W cs x := by
 obtain ⟨css, hc⟩ := slice_cells (by decide) h
 have hn : n = l.length := by
  obtain ⟨a', cap, hv, _⟩ := h
  simp only [List.cons.injEq, and_true, Value.slice.injEq] at hv
  exact hv.2.1
 have hel : ∀ cs ∈ css, ∃ x, RRoot W cs x := fun cs hcs => by
  obtain ⟨i, hi, e⟩ := List.getElem_of_mem hcs
  exact ⟨l[i]'(by rw [← hc.len]; exact hi), hc.rd i cs _ (by rw [← e]; exact List.getElem?_eq_getElem hi) (List.getElem?_eq_getElem (by rw [← hc.len]; exact hi))⟩
 refine ⟨css, hc.len, hn, hc.sz, ?_, hc.at', fun u hu => ?_, hc.rd⟩
 ·rw [flat_len' hc.sz, hc.len, hn]
 ·obtain ⟨cs, hcs, hu⟩ := List.mem_flatten.1 hu
  obtain ⟨x, hx⟩ := hel cs hcs
  exact (root_one hx).2 u hu
theorem roots_both {W : World} {B : Nat} {v : Value} {l m : List Rt} {css dss : List (List Value)} (h1 : css.length = l.length) (h2 : dss.length = m.length) (k1 : ∀ cs ∈ css, cs.length = 4) (k2 : ∀ cs ∈ dss, cs.length = 4) (ho : W.ownsRow B 101 4 v (l.length + m.length) (css.flatten ++ dss.flatten))
  (r1 : ∀ (i : Nat) cs x, css[i]? = some cs → l[i]? = some x → RRoot W cs x) (r2 : ∀ (i : Nat) cs x, dss[i]? = some cs → m[i]? = some x → RRoot W cs x) : RRoots W [v] (l ++ m) := by
 refine slice_of_cells (B := B) (e := 101) (css := css ++ dss) (by decide) (by simp [h1, h2]) (fun cs hcs => ?_) (by rw [List.length_append, List.flatten_append]; exact ho) fun i cs x e1 e2 => ?_
 ·rcases List.mem_append.1 hcs with h | h
  ·exact k1 cs h
  ·exact k2 cs h
 ·by_cases hi : i < css.length
  ·rw [List.getElem?_append_left hi] at e1
   rw [List.getElem?_append_left (by rw [← h1]; exact hi)] at e2
   exact r1 i cs x e1 e2
  ·rw [List.getElem?_append_right (by omega)] at e1
   rw [List.getElem?_append_right (by rw [← h1]; omega), ← h1] at e2
   exact r2 _ cs x e1 e2
theorem reqGo_len : ∀ (L : List LexM.Ln) (out : List Rt), (reqGo L out).roots.length ≤ out.length + L.length
 | [], out => Nat.le_add_right _ _
 | l :: r, out => by
  rcases reqGo_cons l r out with ⟨s, _, h⟩ | ⟨_, _, h⟩
  ·rw [h]
   have := reqGo_len r (out ++ [(s, l.1)])
   simp at this ⊢
   omega
  ·rw [h]
   exact Nat.zero_le _
theorem reqOf_len (t : List UInt8) : (reqOf t).roots.length ≤ t.length + 1 := by
 unfold reqOf
 split
 ·have h1 := reqGo_len (LexM.docLines t).lines []
  have h2 := (LexM.doc_good t).2
  simp at h1
  omega
 ·exact Nat.zero_le _
theorem join_data (a b : ByteArray) : (a ++ ⟨#[10]⟩ ++ b).data.toList = a.data.toList ++ 10 :: b.data.toList := by
 rw [Go.Joins.data_append, Go.Joins.data_append, List.append_assoc]
 rfl
set_option maxRecDepth 10000 in
set_option maxHeartbeats 16000000 in
theorem requestJoins_true (a b : ByteArray) {w : World} (hD : Doors w) (hza : a.size ≤ 9223372036854775807) (hzb : b.size ≤ 9223372036854775807) : Calls Tryz.prog 6 #[.string a, .string b] w fun e w' => e = .returned (.bool true) ∧ Below w.heap.size w w' := by
 have hF := fun (W : World) (k : Below w.heap.size w W) => fixed08_any (hD.below k)
 by_cases hba : 6000 < a.size
 ·have k1 : decide ((6000 : Int) < (a.size : Int)) = true := decide_eq_true (by omega)
  obtain ⟨HF, HD⟩ := hzRequestJoins2 hF hD; clear hF hD
  go_enter Tryz.func6, Tryz.ntmps6
  go_wp2_with fail
  refine (HF.out _ (Below.refl _ _)).mono ?_
  rintro e w1 ⟨rfl, hb1⟩
  have Hb1 := hzRequestJoins hb1; clear hb1
  go_wp2_with fail
  go_ret
  exact ⟨rfl, Hb1.out⟩
 have k1 : decide ((6000 : Int) < (a.size : Int)) = false := decide_eq_false (by omega)
 by_cases hbb : 6000 < b.size
 ·have k2 : decide ((6000 : Int) < (b.size : Int)) = true := decide_eq_true (by omega)
  obtain ⟨HF, HD⟩ := hzRequestJoins2 hF hD; clear hF hD
  go_enter Tryz.func6, Tryz.ntmps6
  go_wp2_with fail
  refine (HF.out _ (Below.refl _ _)).mono ?_
  rintro e w1 ⟨rfl, hb1⟩
  have Hb1 := hzRequestJoins hb1; clear hb1
  go_wp2_with fail
  go_ret
  exact ⟨rfl, Hb1.out⟩
 have k2 : decide ((6000 : Int) < (b.size : Int)) = false := decide_eq_false (by omega)
 have hA := parse_any a (by omega) hD
 have hB := fun (W : World) (k : Below w.heap.size w W) => parse_any b (by omega) (hD.below k)
 have hsz : (a ++ ⟨#[10]⟩ ++ b).size ≤ 140737488351232 := by
  rw [← Txt.len, join_data, List.length_append, List.length_cons, Txt.len, Txt.len]
  omega
 have hC := fun (W : World) (k : Below w.heap.size w W) => parse_any (a ++ ⟨#[10]⟩ ++ b) hsz (hD.below k)
 have hjoin := reqOf_join (a := a.data.toList) (b := b.data.toList) (by rw [Txt.len]; omega) (by rw [Txt.len]; omega)
 rw [← join_data] at hjoin
 have hxn := reqOf_len a.data.toList
 have hyn := reqOf_len b.data.toList
 rw [Txt.len] at hxn hyn
 obtain ⟨ra, hra⟩ : ∃ r, r = reqOf a.data.toList := ⟨_, rfl⟩
 obtain ⟨rb, hrb⟩ : ∃ r, r = reqOf b.data.toList := ⟨_, rfl⟩
 obtain ⟨rc, hrc⟩ : ∃ r, r = reqOf (a ++ ⟨#[10]⟩ ++ b).data.toList := ⟨_, rfl⟩
 rw [← hra] at hA hjoin hxn
 simp only [← hrb] at hB hjoin hyn
 simp only [← hrc] at hC hjoin
 unfold ReqPost at hA hB hC
 obtain ⟨xs, hxs⟩ : ∃ z, z = ra.roots := ⟨_, rfl⟩
 obtain ⟨ys, hys⟩ : ∃ z, z = rb.roots := ⟨_, rfl⟩
 obtain ⟨zs, hzs⟩ : ∃ z, z = rc.roots := ⟨_, rfl⟩
 obtain ⟨ea, hea⟩ : ∃ z, z = ra.e := ⟨_, rfl⟩
 obtain ⟨eb, heb⟩ : ∃ z, z = rb.e := ⟨_, rfl⟩
 obtain ⟨ec, hec⟩ : ∃ z, z = rc.e := ⟨_, rfl⟩
 obtain ⟨a1, ha1⟩ : ∃ z, z = ra.at1 := ⟨_, rfl⟩
 obtain ⟨a2, ha2⟩ : ∃ z, z = ra.at2 := ⟨_, rfl⟩
 obtain ⟨b1, hb1⟩ : ∃ z, z = rb.at1 := ⟨_, rfl⟩
 obtain ⟨b2, hb2⟩ : ∃ z, z = rb.at2 := ⟨_, rfl⟩
 obtain ⟨c1, hc1⟩ : ∃ z, z = rc.at1 := ⟨_, rfl⟩
 obtain ⟨c2, hc2⟩ : ∃ z, z = rc.at2 := ⟨_, rfl⟩
 rw [← hxs] at hxn
 rw [← hys] at hyn
 have hxn : xs.length ≤ 6001 := by omega
 have hyn : ys.length ≤ 6001 := by omega
 rw [← hxs, ← hea] at hjoin
 rw [← hys, ← heb] at hjoin
 rw [← hzs, ← hec] at hjoin
 simp only [← ha1, ← ha2, ← hxs, ← hea] at hA
 simp only [← hb1, ← hb2, ← hys, ← heb] at hB
 simp only [← hc1, ← hc2, ← hzs, ← hec] at hC
 clear hxs hys hzs hea heb hec ha1 ha2 hb1 hb2 hc1 hc2 hra hrb hrc
 obtain ⟨tc, htc⟩ : ∃ t, t = a ++ ⟨#[10]⟩ ++ b := ⟨_, rfl⟩
 rw [← htc] at hC
 obtain ⟨HF, HD, HA, HB, HC, Hjoin, Hsz, Hza, Hzb, Hxn, Hyn⟩ := hzRequestJoins11 hF hD hA hB hC hjoin hsz hza hzb hxn hyn; clear hF hD hA hB hC hjoin hsz hza hzb hxn hyn
 go_enter Tryz.func6, Tryz.ntmps6
 go_wp2_with fail
 refine HA.out.mono ?_
 rintro e w1 ⟨v, rfl, hrx, hb1⟩
 obtain ⟨xa, xc, rfl, hxz, -⟩ := roots_open hrx
 obtain ⟨n, hn⟩ : ∃ n, n = xs.length := ⟨_, rfl⟩
 rw [← hn] at hrx hxz ⊢
 obtain ⟨g, hg⟩ : ∃ g, g = w1.heap.size := ⟨_, rfl⟩
 obtain ⟨w2, hw2⟩ : ∃ W, W = (w1.alloc (.cells #[.slice xa n xc] 38)).alloc (.cells #[.int .i64 a1, .int .i64 a2] 40) := ⟨_, rfl⟩
 have hb12 : Below w1.heap.size w1 w2 := by rw [hw2]; exact (below_alloc1 _ _).alloc (by simp) _
 have p0 : RqBox g (.slice xa n xc) w2 := by rw [hw2, hg]; exact heap_below (below_alloc1 _ _) (heap_new_at rfl)
 have hrx2 := stays_slice stays_root _ _ _ _ hrx hb12
 have hbw2 := hb1.trans (hb12.mono hb1.size)
 have hB2 := HB.out _ hbw2
 obtain ⟨Hrx, Hb1, Hb12, Hp0, Hrx2, Hbw2, HB2, Hn, Hxz⟩ := hzRequestJoins9 hrx hb1 hb12 p0 hrx2 hbw2 hB2 hn hxz; clear hrx hb1 hb12 p0 hrx2 hbw2 hB2 hn hxz
 go_upto_region 4 with (fail)
 rw [← hw2, ← hg]
 clear hw2 hg
 go_wp2_with fail
 refine HB2.out.mono ?_
 rintro e w3 ⟨v, rfl, hry, hb3⟩
 obtain ⟨ya, yc, rfl, hyz, -⟩ := roots_open hry
 obtain ⟨m, hm⟩ : ∃ n, n = ys.length := ⟨_, rfl⟩
 rw [← hm] at hry hyz ⊢
 obtain ⟨q, hq⟩ : ∃ g, g = w3.heap.size := ⟨_, rfl⟩
 obtain ⟨w4, hw4⟩ : ∃ W, W = (w3.alloc (.cells #[.slice ya m yc] 38)).alloc (.cells #[.int .i64 b1, .int .i64 b2] 40) := ⟨_, rfl⟩
 have hb34 : Below w3.heap.size w3 w4 := by rw [hw4]; exact (below_alloc1 _ _).alloc (by simp) _
 have p1 : RqBox q (.slice ya m yc) w4 := by rw [hw4, hq]; exact heap_below (below_alloc1 _ _) (heap_new_at rfl)
 have hb24 := hb3.trans (hb34.mono hb3.size)
 have p0' := heap_below hb24 Hp0.out
 have hrx4 := stays_slice stays_root _ _ _ _ Hrx2.out hb24
 have hry4 := stays_slice stays_root _ _ _ _ hry hb34
 have hbw4 := Hbw2.out.trans (hb24.mono Hbw2.out.size)
 have hC4 := HC.out _ hbw4
 obtain ⟨Hry, Hb3, Hb34, Hp1, Hb24, Hp0', Hrx4, Hry4, Hbw4, HC4, Hm, Hyz⟩ := hzRequestJoins12 hry hb3 hb34 p1 hb24 p0' hrx4 hry4 hbw4 hC4 hm hyz; clear hry hb3 hb34 p1 hb24 p0' hrx4 hry4 hbw4 hC4 hm hyz
 go_upto_region 5 with (fail)
 rw [← hw4, ← hq]
 clear hw4 hq
 by_cases h1 : ea = 0
 case neg =>
  have k3 : (ea != 0) = true := by simpa using h1
  have H1 := hzRequestJoins h1; clear h1
  go_wp2_with fail
  refine (HF.out _ Hbw4.out).mono ?_
  rintro e w5 ⟨rfl, hb5⟩
  have hbz := Hbw4.out.trans (hb5.mono Hbw4.out.size)
  obtain ⟨Hb5, Hbz⟩ := hzRequestJoins2 hb5 hbz; clear hb5 hbz
  go_wp2_with fail
  go_ret
  exact ⟨rfl, Hbz.out⟩
 have k3 : (ea != 0) = false := by rw [h1]; rfl
 by_cases h2 : eb = 0
 case neg =>
  have k4 : (eb != 0) = true := by simpa using h2
  obtain ⟨H1, H2⟩ := hzRequestJoins2 h1 h2; clear h1 h2
  go_wp2_with fail
  refine (HF.out _ Hbw4.out).mono ?_
  rintro e w5 ⟨rfl, hb5⟩
  have hbz := Hbw4.out.trans (hb5.mono Hbw4.out.size)
  obtain ⟨Hb5, Hbz⟩ := hzRequestJoins2 hb5 hbz; clear hb5 hbz
  go_wp2_with fail
  go_ret
  exact ⟨rfl, Hbz.out⟩
 have k4 : (eb != 0) = false := by rw [h2]; rfl
 obtain ⟨hec, hroots⟩ := Hjoin.out h1 h2
 rw [← List.map_append] at hroots
 have hsame := sameRq_words hroots
 obtain ⟨H1, H2, Hec, Hroots, Hsame⟩ := hzRequestJoins5 h1 h2 hec hroots hsame; clear h1 h2 hec hroots hsame
 go_wp2_with fail
 rw [← htc]
 clear htc
 refine HC4.out.mono ?_
 rintro e w5 ⟨v, rfl, hrz, hb5⟩
 obtain ⟨za, zc, rfl, hzz, -⟩ := roots_open hrz
 obtain ⟨p, hp⟩ : ∃ n, n = zs.length := ⟨_, rfl⟩
 rw [← hp] at hrz hzz ⊢
 obtain ⟨h, hh⟩ : ∃ g, g = w5.heap.size := ⟨_, rfl⟩
 obtain ⟨w6, hw6⟩ : ∃ W, W = (w5.alloc (.cells #[.slice za p zc] 38)).alloc (.cells #[.int .i64 c1, .int .i64 c2] 40) := ⟨_, rfl⟩
 have hb56 : Below w5.heap.size w5 w6 := by rw [hw6]; exact (below_alloc1 _ _).alloc (by simp) _
 have p2 : RqBox h (.slice za p zc) w6 := by rw [hw6, hh]; exact heap_below (below_alloc1 _ _) (heap_new_at rfl)
 have hb46 := hb5.trans (hb56.mono hb5.size)
 have p0'' := heap_below hb46 Hp0'.out
 have p1' := heap_below hb46 Hp1.out
 have hrx6 := stays_slice stays_root _ _ _ _ Hrx4.out hb46
 have hry6 := stays_slice stays_root _ _ _ _ Hry4.out hb46
 have hrz6 := stays_slice stays_root _ _ _ _ hrz hb56
 have hbw6 := Hbw4.out.trans (hb46.mono Hbw4.out.size)
 have hcells : ∀ W, Below w6.heap.size w6 W → W.cell? ⟨g, 0, none⟩ = some (.slice xa n xc) ∧ W.cell? ⟨q, 0, none⟩ = some (.slice ya m yc) ∧ W.cell? ⟨h, 0, none⟩ = some (.slice za p zc) := fun W hW =>
  ⟨(rq_cells (heap_below hW p0'')).1, (rq_cells (heap_below hW p1')).1, (rq_cells (heap_below hW p2)).1⟩
 have k5 : (ec == 0) = true := by rw [Hec.out]; rfl
 obtain ⟨css, hc1, hc2, hc3, hc4, hc5, hc6, hc7⟩ := roots_cells hrx6
 obtain ⟨dss, hd1, hd2, hd3, hd4, hd5, hd6, hd7⟩ := roots_cells hry6
 have hlit : ∀ W : World, (W.alloc (.cells #[] 101)).ownsRow W.heap.size 101 4 (.slice (some ⟨W.heap.size, 0, none⟩) 0 0) 0 [] := fun W => World.ownsRow_lit (base := W.heap.size) (e := 101) (size := 4) W #[] 0 (Nat.le_refl _) (by decide) rfl
 have hbn : (0 + n) * 72 ≤ 140737488355328 := by have := Hxn.out; have := Hn.out; omega
 have hbm : (0 + n + m) * 72 ≤ 140737488355328 := by have := Hxn.out; have := Hyn.out; have := Hn.out; have := Hm.out; omega
 have hbn2 : 0 + n ≤ maxLen := by unfold maxLen; omega
 have hbm2 : 0 + n + m ≤ maxLen := by unfold maxLen; omega
 have hcx : ∀ W, Below w6.heap.size w6 W → ∀ j u, css.flatten[j]? = some u → ∃ b off, xa = some ⟨b, off, none⟩ ∧ W.cell? ⟨b, off + j, none⟩ = some u := fun W hW j u hu => by
  obtain ⟨b, off, e1, e2⟩ := hc5 j u hu
  exact ⟨b, off, e1, cell_later hW e2⟩
 have hcy : ∀ W, Below w6.heap.size w6 W → ∀ j u, dss.flatten[j]? = some u → ∃ b off, ya = some ⟨b, off, none⟩ ∧ W.cell? ⟨b, off + j, none⟩ = some u := fun W hW j u hu => by
  obtain ⟨b, off, e1, e2⟩ := hd5 j u hu
  exact ⟨b, off, e1, cell_later hW e2⟩
 obtain ⟨N, hN⟩ : ∃ N, N = 0 + n + m := ⟨_, rfl⟩
 have hSm : ∀ (W : World) (v : Value) (B : Nat), Below w6.heap.size w6 W → W.ownsRow B 101 4 v N (css.flatten ++ dss.flatten) → Calls Tryz.prog 30 #[.agg #[.slice za p zc], .agg #[v], .bool false] W fun e w' => e = .returned (.bool true) ∧ Below W.heap.size W w' := fun W v B hW ho => by
  have hboth : RRoots W [v] (xs ++ ys) := roots_both hc1 hd1 hc3 hd3 (by rw [← Hn.out, ← Hm.out, ← Nat.zero_add n, ← hN]; exact ho) (fun i cs x e1 e2 => stays_root _ _ _ _ (hc7 i cs x e1 e2) hW) (fun i cs x e1 e2 => stays_root _ _ _ _ (hd7 i cs x e1 e2) hW)
  have h := same08_any (stays_slice stays_root _ _ _ _ hrz6 hW) hboth false
  rw [Hsame.out] at h
  exact h
 obtain ⟨Hc1, Hc2, Hc3, Hc4, Hc5, Hc6, Hc7, Hd1, Hd2, Hd3, Hd4, Hd5, Hd6, Hd7, Hlit, Hbn⟩ := hzRequestJoins16 hc1 hc2 hc3 hc4 hc5 hc6 hc7 hd1 hd2 hd3 hd4 hd5 hd6 hd7 hlit hbn; obtain ⟨Hbm, Hbn2, Hbm2, Hcx, Hcy, HSm, HN⟩ := hzRequestJoins7 hbm hbn2 hbm2 hcx hcy hSm hN; clear hc1 hc2 hc3 hc4 hc5 hc6 hc7 hd1 hd2 hd3 hd4 hd5 hd6 hd7 hlit hbn hbm hbn2 hbm2 hcx hcy hSm hN
 clear k3 k4 k1 k2
 obtain ⟨Hrz, Hzz, Hb5, Hb56, Hp2, Hb46, Hp0'', Hp1', Hrx6, Hry6, Hrz6, Hbw6, Hcells, Hp⟩ := hzRequestJoins14 hrz hzz hb5 hb56 p2 hb46 p0'' p1' hrx6 hry6 hrz6 hbw6 hcells hp; clear hrz hzz hb5 hb56 p2 hb46 p0'' p1' hrx6 hry6 hrz6 hbw6 hcells hp
 go_upto_region 8 with (fail)
 rw [← hw6, ← hh]
 clear hw6 hh
 have hS0 := Hcells.out w6 (Below.refl _ _)
 have hbd : Below w6.heap.size w6 w6.drew := (Below.refl _ _).drew
 refine wp_region_held_drew (S := fun W => W.cell? ⟨g, 0, none⟩ = some (.slice xa n xc) ∧ W.cell? ⟨q, 0, none⟩ = some (.slice ya m yc) ∧ W.cell? ⟨h, 0, none⟩ = some (.slice za p zc)) (by kernel_rfl) (by exact hS0) (fun hHeld => ?_)
 generalize w6.drew = wd at hbd ⊢
 have hbwd := Hbw6.out.trans (hbd.mono Hbw6.out.size)
 obtain ⟨Hbd, Hbwd⟩ := hzRequestJoins2 hbd hbwd; clear hbd hbwd
 refine wpAnyH_ready (rs := [0]) (by kernel_rfl) (by simp) ?_
 refine AllReadyH.cons rfl (fun K hK => ?_) AllReadyH.nil
 go_simp
 refine (HF.out _ Hbwd.out).mono ?_
 rintro e w7 ⟨rfl, hb7⟩
 have hb67 := Hbd.out.trans (hb7.mono Hbd.out.size)
 have hbw7 := Hbwd.out.trans (hb7.mono Hbwd.out.size)
 have hS7 := Hcells.out w7 hb67
 obtain ⟨Hb7, Hb67, Hbw7⟩ := hzRequestJoins3 hb7 hb67 hbw7; clear hb7 hb67 hbw7
 go_wp2_with fail
 refine hK.out _ _ (by exact hS7) (fun hHeld => ?_)
 clear hK K
 try simp only [Act.put, List.setIfInBounds_toArray, List.set_cons_zero, List.set_cons_succ]
 refine wpAnyH_take (i := 1) (v := ?_) rfl (by kernel_rfl) (by kernel_rfl) (by kernel_rfl) (fun _ _ _ h => h) (Or.inl ⟨by kernel_rfl, ?_⟩) (by assumption) ?_
 rotate_left
 ·(intro w hSw; (try dsimp only at hSw); (try obtain ⟨o0, o1, o2⟩ := hSw); go_simp; try with_reducible rfl)
 try simp only [Act.put, List.setIfInBounds_toArray, List.set_cons_zero, List.set_cons_succ]
 refine wpAnyH_take (i := 2) (v := ?_) rfl (by kernel_rfl) (by kernel_rfl) (by kernel_rfl) (fun _ _ _ h => h) (Or.inl ⟨by kernel_rfl, ?_⟩) (by assumption) ?_
 rotate_left
 ·(intro w hSw; (try dsimp only at hSw); (try obtain ⟨o0, o1, o2⟩ := hSw); go_simp; try with_reducible rfl)
 try simp only [Act.put, List.setIfInBounds_toArray, List.set_cons_zero, List.set_cons_succ]
 refine wpAnyH_take (i := 3) (v := ?_) rfl (by kernel_rfl) (by kernel_rfl) (by kernel_rfl) (fun _ _ _ h => h) (Or.inl ⟨by kernel_rfl, ?_⟩) (by assumption) ?_
 rotate_left
 ·(intro w hSw; (try dsimp only at hSw); (try obtain ⟨o0, o1, o2⟩ := hSw); go_simp; try with_reducible rfl)
 try simp only [Act.put, List.setIfInBounds_toArray, List.set_cons_zero, List.set_cons_succ]
 refine wpAnyH_take (i := 4) (v := ?_) rfl (by kernel_rfl) (by kernel_rfl) (by kernel_rfl) (fun _ _ _ h => h) (Or.inl ⟨by kernel_rfl, ?_⟩) (by assumption) ?_
 rotate_left
 ·(intro w hSw; (try dsimp only at hSw); (try obtain ⟨o0, o1, o2⟩ := hSw); go_simp; try with_reducible rfl)
 try simp only [Act.put, List.setIfInBounds_toArray, List.set_cons_zero, List.set_cons_succ]
 refine wpAnyH_take (i := 5) (v := ?_) rfl (by kernel_rfl) (by kernel_rfl) (by kernel_rfl) (fun _ _ _ h => h) (Or.inl ⟨by kernel_rfl, ?_⟩) (by assumption) ?_
 rotate_left
 ·(intro w hSw; (try dsimp only at hSw); (try obtain ⟨o0, o1, o2⟩ := hSw); go_simp; try with_reducible rfl)
 try simp only [Act.put, List.setIfInBounds_toArray, List.set_cons_zero, List.set_cons_succ]
 refine wpAnyH_take (i := 6) (v := ?_) rfl (by kernel_rfl) (by kernel_rfl) (by kernel_rfl) (fun _ _ _ h => h) (Or.inl ⟨by kernel_rfl, ?_⟩) (by assumption) ?_
 rotate_left
 ·(intro w hSw; (try dsimp only at hSw); (try obtain ⟨o0, o1, o2⟩ := hSw); go_simp; try with_reducible rfl)
 try simp only [Act.put, List.setIfInBounds_toArray, List.set_cons_zero, List.set_cons_succ]
 refine wpAnyH_take (i := 8) (v := ?_) rfl (by kernel_rfl) (by kernel_rfl) (by kernel_rfl) (fun _ _ _ h => h) (Or.inl ⟨by kernel_rfl, ?_⟩) (by assumption) ?_
 rotate_left
 ·(intro w hSw; (try dsimp only at hSw); (try obtain ⟨o0, o1, o2⟩ := hSw); go_simp; try with_reducible rfl)
 try simp only [Act.put, List.setIfInBounds_toArray, List.set_cons_zero, List.set_cons_succ]
 refine wpAnyH_take (i := 9) (v := ?_) rfl (by kernel_rfl) (by kernel_rfl) (by kernel_rfl) (fun _ _ _ h => h) (Or.inl ⟨by kernel_rfl, ?_⟩) (by assumption) ?_
 rotate_left
 ·(intro w hSw; (try dsimp only at hSw); (try obtain ⟨o0, o1, o2⟩ := hSw); go_simp; try with_reducible rfl)
 try simp only [Act.put, List.setIfInBounds_toArray, List.set_cons_zero, List.set_cons_succ]
 refine wpAnyH_take (i := 11) (v := ?_) rfl (by kernel_rfl) (by kernel_rfl) (by kernel_rfl) (fun _ _ _ h => h) (Or.inl ⟨by kernel_rfl, ?_⟩) (by assumption) ?_
 rotate_left
 ·(intro w hSw; (try dsimp only at hSw); (try obtain ⟨o0, o1, o2⟩ := hSw); go_simp; try with_reducible rfl)
 try simp only [Act.put, List.setIfInBounds_toArray, List.set_cons_zero, List.set_cons_succ]
 refine wpAnyH_take (i := 12) (v := ?_) rfl (by kernel_rfl) (by kernel_rfl) (by kernel_rfl) (fun _ _ _ h => h) (Or.inl ⟨by kernel_rfl, ?_⟩) (by assumption) ?_
 rotate_left
 ·(intro w hSw; (try dsimp only at hSw); (try obtain ⟨o0, o1, o2⟩ := hSw); go_simp; try with_reducible rfl)
 try simp only [Act.put, List.setIfInBounds_toArray, List.set_cons_zero, List.set_cons_succ]
 refine wpAnyH_ready (rs := [7]) (by kernel_rfl) (by simp) ?_
 refine AllReadyH.cons rfl (fun K hK => ?_) AllReadyH.nil
 go_simp
 refine hK.out _ _ (by exact Hcells.out _ (Hb67.out.trans ((below_alloc1 _ _).mono Hb67.out.size))) (fun hHeld => ?_)
 clear hK K
 try simp only [Act.put, List.setIfInBounds_toArray, List.set_cons_zero, List.set_cons_succ]
 refine wpAnyH_ready (rs := [10]) (by kernel_rfl) (by simp) ?_
 refine AllReadyH.cons rfl (fun K hK => ?_) AllReadyH.nil
 refine wp_append_from elem_root (.tmp 58) (.tmp 60) rfl w7.heap.size (.slice (some ⟨w7.heap.size, 0, none⟩) 0 0) 0 [] rfl (Hlit.out w7) xa n xc css.flatten rfl Hc4.out (Hcx.out _ (Hb67.out.trans ((below_alloc1 _ _).mono Hb67.out.size))) Hc6.out Hbn.out Hbn2.out (by simp) ?_
 intro v9 w9 hown9 hg9 _
 have hb79 : Below w7.heap.size w7 w9 := bel_own (below_alloc1 _ _) (Hlit.out w7) (Nat.le_refl _) hg9 (by simp)
 have hb69 := Hb67.out.trans (hb79.mono Hb67.out.size)
 have hown9 : w9.ownsRow w7.heap.size 101 4 v9 (0 + n) css.flatten := hown9
 obtain ⟨Hown9, Hg9, Hb79, Hb69⟩ := hzRequestJoins4 hown9 hg9 hb79 hb69; clear hown9 hg9 hb79 hb69
 refine hK.out _ _ (by exact Hcells.out _ Hb69.out) (fun hHeld => ?_)
 clear hK K
 try simp only [Act.put, List.setIfInBounds_toArray, List.set_cons_zero, List.set_cons_succ]
 refine wpAnyH_ready (rs := [13]) (by kernel_rfl) (by simp) ?_
 refine AllReadyH.cons rfl (fun K hK => ?_) AllReadyH.nil
 refine wp_append_from elem_root (.tmp 61) (.tmp 63) rfl w7.heap.size v9 (0 + n) css.flatten rfl Hown9.out ya m yc dss.flatten rfl Hd4.out (Hcy.out _ Hb69.out) Hd6.out Hbm.out Hbm2.out Hb79.out.size ?_
 intro v10 w10 hown10 hg10 _
 rw [← HN.out] at hown10
 obtain ⟨a10, e10, rfl⟩ := own_shape hown10
 have hb710 : Below w7.heap.size w7 w10 := bel_own Hb79.out Hown9.out (Nat.le_refl _) hg10 Hb79.out.size
 have hb610 := Hb67.out.trans (hb710.mono Hb67.out.size)
 have hbw10 := Hbw7.out.trans (hb710.mono Hbw7.out.size)
 have hSm10 := HSm.out w10 (.slice a10 N e10) _ hb610 hown10
 obtain ⟨Hown10, Hg10, Hb710, Hb610, Hbw10, HSm10⟩ := hzRequestJoins6 hown10 hg10 hb710 hb610 hbw10 hSm10; clear hown10 hg10 hb710 hb610 hbw10 hSm10
 refine hK.out _ _ (by exact Hcells.out _ Hb610.out) (fun hHeld => ?_)
 clear hK K
 try simp only [Act.put, List.setIfInBounds_toArray, List.set_cons_zero, List.set_cons_succ]
 refine wpAnyH_take (i := 14) (v := ?_) rfl (by kernel_rfl) (by kernel_rfl) (by kernel_rfl) (fun _ _ _ h => h) (Or.inl ⟨by kernel_rfl, ?_⟩) (by assumption) ?_
 rotate_left
 ·(intro w hSw; (try dsimp only at hSw); (try obtain ⟨o0, o1, o2⟩ := hSw); go_simp; try with_reducible rfl)
 try simp only [Act.put, List.setIfInBounds_toArray, List.set_cons_zero, List.set_cons_succ]
 refine wpAnyH_ready (rs := [15]) (by kernel_rfl) (by simp) ?_
 refine AllReadyH.cons rfl (fun K hK => ?_) AllReadyH.nil
 go_simp
 refine HSm10.out.mono ?_
 rintro e w11 ⟨rfl, hb11⟩
 have hb611 := Hb610.out.trans (hb11.mono Hb610.out.size)
 have hS11 := Hcells.out _ hb611
 have hbw11 := Hbw10.out.trans (hb11.mono Hbw10.out.size)
 obtain ⟨Hb11, Hb611, Hbw11⟩ := hzRequestJoins3 hb11 hb611 hbw11; clear hb11 hb611 hbw11
 go_wp2_with fail
 refine hK.out _ _ (by exact hS11) (fun hHeld => ?_)
 clear hK K
 try simp only [Act.put, List.setIfInBounds_toArray, List.set_cons_zero, List.set_cons_succ]
 refine wpAnyH_take (i := 16) (v := ?_) rfl (by kernel_rfl) (by kernel_rfl) (by kernel_rfl) (fun _ _ _ h => h) (Or.inl ⟨by kernel_rfl, ?_⟩) (by assumption) ?_
 rotate_left
 ·(intro w hSw; (try dsimp only at hSw); (try obtain ⟨o0, o1, o2⟩ := hSw); go_simp; try with_reducible rfl)
 try simp only [Act.put, List.setIfInBounds_toArray, List.set_cons_zero, List.set_cons_succ]
 refine wpAnyH_take (i := 17) (v := ?_) rfl (by kernel_rfl) (by kernel_rfl) (by kernel_rfl) (fun _ _ _ h => h) (Or.inl ⟨by kernel_rfl, ?_⟩) (by assumption) ?_
 rotate_left
 ·(intro w hSw; (try dsimp only at hSw); (try obtain ⟨o0, o1, o2⟩ := hSw); go_simp; try with_reducible rfl)
 try simp only [Act.put, List.setIfInBounds_toArray, List.set_cons_zero, List.set_cons_succ]
 refine wpAnyH_done (by kernel_rfl) ?_ _
 go_simp
 go_wp2_with fail
 go_ret
 exact ⟨rfl, Hbw11.out⟩
end Go.Proofs.YteailgjiifdgcaaGreatDoor
