/- Walks and plain facts. Texts merged: RqE, RqF, RqG, RqH, LexW, LexB, LexT, LexL, Cells. Condition: none beyond what each says. -/
import Derived.Recover
import Derived.Laws.Pointers
import Derived.Laws.BytesArg
import Derived.Test.YteailgjiifdgcaaGreatDoorRequestJoinsAll7
set_option linter.unusedVariables false
set_option linter.unusedSimpArgs false
/- The walks of caught, one and Wish: what a reader throws is told. Condition: the library's variables as they were laid; at most a thousand words of at most 70000 bytes. -/
namespace Go.Proofs.YteailgjiifdgcaaGreatDoor
open Go.Shelf Go.RowKit Go.Lib VerN VarM
open LexM (Wd)
attribute [local go_sem ↓] Go.wp_at_zero Go.wp_at_succ

abbrev thrownV (c : Int) : Value := .iface 206 (.agg #[.int .i64 c])
theorem run_assert_wrong (v : Value) (w : World) : (Instr.typeAssert (.iface 206 v) 20 206 true).run Tryz.prog w = .ok (.tuple #[v, .bool true]) w := by
 have u := Tryz.underlying206
 unfold Instr.typeAssert
 simp [Sem.run_bind, Sem.run_pure, u, go_sem]
set_option maxRecDepth 10000 in
set_option maxHeartbeats 1000000 in
theorem caught1_no (g : Nat) (w : World) : CallsD Tryz.prog 150 #[.pointer (some ⟨g, 0, none⟩)] .returning w fun e u' w' => e = .returned (.tuple #[]) ∧ u' = .returning ∧ w' = w := by
 refine callsD_of_wpS Tryz.func150 rfl fun c₀ cs hu => ?_
 apply wpS_seq
 apply wpS_region
 simp [wpOpsS, go_sem, recoverD, hu, Tryz.ntmps150, Exit.thenS]
 have Hu := hd hu; clear hu
 simp only [Array.replicate_succ, Array.replicate_zero, List.push_toArray, List.append_toArray, List.nil_append, List.cons_append, List.setIfInBounds_toArray, List.set_cons_zero, List.set_cons_succ]
 refine wpS_of_wp ?_
 generalize hQ : (fun (e : Exit) (a' : Act) (w' : World) => _) = Q
 have HQ := hd hQ; clear hQ
 go_wp2_with fail
 rw [← HQ.out]
 cases c₀
 have hu := Hu.out
 simp_all [bodyPostS, results, Tryz.results150]
set_option maxRecDepth 10000 in
set_option maxHeartbeats 1000000 in
theorem caught1_yes (g : Nat) (c x : Int) (w : World) (hg : w.heap[g]? = some (.cells #[.int .i64 x] 3 (0, 0))) :
  CallsD Tryz.prog 150 #[.pointer (some ⟨g, 0, none⟩)] (.panicking [{ v := thrownV c, recovered := false }]) w fun e u' w' =>
   e = .returned (.tuple #[]) ∧ u' = .panicking [{ v := thrownV c, recovered := true }] ∧ w' = (w.alloc (.cells #[.int .i64 c] 206)).setCell ⟨g, 0, none⟩ (.int .i64 c) := by
 refine callsD_of_wpS Tryz.func150 rfl fun c₀ cs hu => ?_
 apply wpS_seq
 apply wpS_region
 simp [wpOpsS, go_sem, recoverD, hu, Tryz.ntmps150, Exit.thenS]
 have ra := run_assert_wrong (.agg #[.int .i64 c])
 have q0 := cells_at hg 0
 have q1 := frozen_at hg 0
 have q2 := heap_below (below_alloc1 w (.cells #[.int .i64 c] 206)) hg
 have q3 := cells_at q2 0
 have q4 := frozen_at q2 0
 have Hu := hd hu; clear hu
 simp only [Array.replicate_succ, Array.replicate_zero, List.push_toArray, List.append_toArray, List.nil_append, List.cons_append, List.setIfInBounds_toArray, List.set_cons_zero, List.set_cons_succ]
 refine wpS_of_wp ?_
 generalize hQ : (fun (e : Exit) (a' : Act) (w' : World) => _) = Q
 have HQ := hd hQ; clear hQ
 go_wp2_with fail
 rw [← HQ.out]
 cases c₀
 have hu := Hu.out
 clear ra q0 q1 q2 q3 q4 hg
 simp_all [bodyPostS, results, Tryz.results150]
set_option maxRecDepth 10000 in
set_option maxHeartbeats 1000000 in
theorem caught_any {w : World} {f : FuncId} {caps : Array Value} (eg : ∀ args w, (callFunc f args).run Tryz.prog w = .ok (.enter f args) w) {A : World → Prop} {B : Int → World → Prop}
  (h : Calls Tryz.prog f caps (w.alloc (.cells #[.int .i64 0] 3)) fun e w' => ((e = .returned (.tuple #[]) ∧ A w') ∨ ∃ c, e = thrown c ∧ B c w') ∧ w'.heap[w.heap.size]? = some (.cells #[.int .i64 0] 3 (0, 0))) :
  Calls Tryz.prog 91 #[.func (.func f) #[] caps] w fun e w' => (∃ w1, A w1 ∧ e = .returned (.int .i64 0) ∧ w' = w1.setCell ⟨w.heap.size, 0, none⟩ (.int .i64 0)) ∨ (∃ c w1, B c w1 ∧ e = .returned (.int .i64 c) ∧ w' = (w1.alloc (.cells #[.int .i64 c] 206)).setCell ⟨w.heap.size, 0, none⟩ (.int .i64 c)) := by
 have hmf : ∀ (fn : Fn) (first cap : Array Value) (w : World), (Instr.makeFunc fn first cap).run Tryz.prog w = .ok (.func fn first cap) w := fun _ _ _ _ => rfl
 have Hh := hd h; clear h
 go_enter_defers Tryz.func91, Tryz.ntmps91
 go_wp2_with fail
 refine Hh.out.mono ?_
 rintro e w1 ⟨⟨rfl, hA⟩ | ⟨c, rfl, hB⟩, hbx⟩
 ·have q0 := cells_at hbx 0
  have q1 := frozen_at hbx 0
  simp only [List.getElem?_toArray, List.getElem?_cons_zero] at q0
  obtain ⟨HA, Hbx⟩ := hd2 hA hbx; clear hA hbx
  go_wp2_with fail
  refine leaves_cons (f := 150) (args := #[.pointer (some ⟨w.heap.size, 0, none⟩)]) (by simp) (by simp [go_sem]) ?_
  refine (caught1_no _ _).mono ?_
  rintro e u' w'' ⟨rfl, rfl, rfl⟩
  have q2 := cells_at (heap_setCell_same w1 w.heap.size 0 _ _ (.int .i64 0) Hbx.out) 0
  have q2 : (w1.setCell ⟨w.heap.size, 0, none⟩ (.int .i64 0)).cell? ⟨w.heap.size, 0, none⟩ = some (.int .i64 0) := q2
  simp [Leaves, settle, results, Tryz.results91, go_sem, q2]
  exact .inl ⟨_, HA.out, rfl⟩
 ·have HB := hd hB; clear hB
  go_wp2_with fail
  refine leaves_cons (f := 150) (args := #[.pointer (some ⟨w.heap.size, 0, none⟩)]) (by simp) (by simp [go_sem]) ?_
  refine (caught1_yes _ c 0 _ hbx).mono ?_
  rintro e u' w'' ⟨rfl, rfl, rfl⟩
  have q2 := cells_at (heap_setCell_same _ w.heap.size 0 _ _ (.int .i64 c) (heap_below (below_alloc1 w1 (.cells #[.int .i64 c] 206)) hbx)) 0
  have q2 : ((w1.alloc (.cells #[.int .i64 c] 206)).setCell ⟨w.heap.size, 0, none⟩ (.int .i64 c)).cell? ⟨w.heap.size, 0, none⟩ = some (.int .i64 c) := q2
  simp [Leaves, settle, results, Tryz.results91, go_sem, q2]
  exact .inr ⟨_, _, HB.out, rfl, rfl⟩
end Go.Proofs.YteailgjiifdgcaaGreatDoor

/- The walks of one$1, one and recipe.Wish: the wish that words begin with. Condition: the library's variables as they were laid; at most a thousand words of at most 70000 bytes, at places from one on. -/
namespace Go.Proofs.YteailgjiifdgcaaGreatDoor
open Go.Shelf Go.RowKit Go.Lib VerN VarM
open LexM (Wd)
attribute [local go_sem ↓] Go.wp_at_zero Go.wp_at_succ

def TakenA (r sb : Nat) (a : Option Addr) (n c : Nat) (fin : Int) (ws : List Wd) (w w' : World) : Prop :=
 ∃ s j b1 n1 c1 b2 n2 c2, wishW ws 0 = (some s, j) ∧ SpcBox sb (.string s.1) (.slice b1 n1 c1) (.slice b2 n2 c2) w' ∧ RSpsT w' (.slice b1 n1 c1) s.2.1 ∧ RSetsT w' (.slice b2 n2 c2) s.2.2 ∧ RBox r (.slice a n c) j fin w' ∧ Frm (fun k => k = r ∨ k = sb) w w'
def TakenB (r sb : Nat) (fin : Int) (ws : List Wd) (w : World) (col : Int) (w' : World) : Prop :=
 ∃ j, wishW ws 0 = (none, j) ∧ col = colAt ws fin j ∧ Frm (fun k => k = r ∨ k = sb) w w'
abbrev fWish : Value := .func (.func 132) #[] #[]
set_option maxRecDepth 10000 in
set_option maxHeartbeats 4000000 in
theorem one1_any {w0 w : World} {r tb rb sb cb : Nat} {a : Option Addr} {n c : Nat} {fin : Int} {ws : List Wd} (C : RdC w0 r a n c fin ws) (S : RdS w0 r a n c fin 0 w)
  (ht : w.heap[tb]? = some (.cells #[fWish] 187 (0, 0))) (hr : w.heap[rb]? = some (.cells #[rp r] 135 (0, 0))) (hs : SpcBox sb (.string ⟨#[]⟩) (.slice none 0 0) (.slice none 0 0) w)
  (hc : w.heap[cb]? = some (.cells #[.int .i64 0] 3 (0, 0))) (n1 : cb ≠ r) (n2 : cb ≠ sb) (n3 : r ≠ sb) :
  Calls Tryz.prog 180 #[.pointer (some ⟨tb, 0, none⟩), .pointer (some ⟨rb, 0, none⟩), .pointer (some ⟨sb, 0, none⟩)] w fun e w' => ((e = .returned (.tuple #[]) ∧ TakenA r sb a n c fin ws w w') ∨ ∃ col, e = thrown col ∧ TakenB r sb fin ws w col w') ∧ w'.heap[cb]? = some (.cells #[.int .i64 0] 3 (0, 0)) := by
 have t0 := cells_at ht 0
 have r0 := cells_at hr 0
 simp only [List.getElem?_toArray, List.getElem?_cons_zero] at t0 r0
 have hW := wish_any C S (by omega)
 obtain ⟨HC, HS, Ht, Hr, Hs, Hc, HW⟩ := hd7 C S ht hr hs hc hW; clear C S ht hr hs hc hW
 go_enter Tryz.func180, Tryz.ntmps180
 go_wp2_with fail
 refine HW.out.mono ?_
 rintro e w1 ⟨⟨s, j, v1, v2, hw, rfl, hv1, hv2, hbx⟩ | ⟨j, hw, rfl⟩, hfr⟩
 ·obtain ⟨b1, c1, rfl⟩ := sps_shape hv1.1
  obtain ⟨b2, c2, rfl⟩ := sets_shape hv2.1
  obtain ⟨z1, hz1⟩ : ∃ z, z = s.2.1.length := ⟨_, rfl⟩
  obtain ⟨z2, hz2⟩ : ∃ z, z = s.2.2.length := ⟨_, rfl⟩
  rw [← hz1] at hv1 ⊢
  rw [← hz2] at hv2 ⊢
  have hs1 := frm_keep hfr Hs.out (by omega)
  have hc1 := frm_keep hfr Hc.out n1
  obtain ⟨_, _, _, f0, f1, f2⟩ := spc_cells hs1
  obtain ⟨Hw, Hv1, Hv2, Hbx, Hfr, Hs1, Hc1, Hz1, Hz2⟩ := hd9 hw hv1 hv2 hbx hfr hs1 hc1 hz1 hz2; clear hw hv1 hv2 hbx hfr hs1 hc1 hz1 hz2
  go_wp2_with fail
  go_end0
  obtain ⟨W8, hW8⟩ : ∃ W, W = ((w1.setCell ⟨sb, 0, none⟩ (.string s.1)).setCell ⟨sb, 1, none⟩ (.slice b1 z1 c1)).setCell ⟨sb, 2, none⟩ (.slice b2 z2 c2) := ⟨_, rfl⟩
  rw [← hW8]
  have hT8 : Frm (fun k => k = r ∨ k = sb) w1 W8 := by
   rw [hW8]
   exact (((Frm.refl _ w1).setCell (p := ⟨sb, 0, none⟩) (.inr (.inr rfl)) _).setCell (p := ⟨sb, 1, none⟩) (.inr (.inr rfl)) _).setCell (p := ⟨sb, 2, none⟩) (.inr (.inr rfl)) _
  have k0 := heap_setCell_same _ sb 0 _ _ (.string s.1) Hs1.out
  have k1 := heap_setCell_same _ sb 1 _ _ (.slice b1 z1 c1) k0
  have k2 := heap_setCell_same _ sb 2 _ _ (.slice b2 z2 c2) k1
  have hno : No2 w1 (fun k => k = r ∨ k = sb) := by
   rintro k (rfl | rfl)
   ·exact no2_of Hbx.out (by decide) (by decide)
   ·exact no2_of Hs1.out (by decide) (by decide)
  have hcb : W8.heap[cb]? = some (.cells #[.int .i64 0] 3 (0, 0)) := frm_keep hT8 Hc1.out (by rintro (h | h); exact n1 h; exact n2 h)
  refine ⟨.inl ⟨rfl, s, j, b1, z1, c1, b2, z2, c2, Hw.out, by rw [hW8]; exact k2, sps_other Hv1.out hT8 hno, sets_other Hv2.out hT8 hno, ?_, ?_⟩, hcb⟩
  ·rw [hW8]; exact heap_other (heap_other (heap_other Hbx.out n3) n3) n3
  ·exact Frm.trans (T := fun k => k = r ∨ k = sb) (Hfr.out.mono (fun _ _ h => .inl h)) hT8 (fun _ _ h => h)
 ·have hc1 := frm_keep hfr Hc.out n1
  obtain ⟨Hw, Hfr, Hc1⟩ := hd3 hw hfr hc1; clear hw hfr hc1
  go_wp2_with fail
  exact ⟨rfl, .inr ⟨_, rfl, j, Hw.out, rfl, Hfr.out.mono (fun _ _ h => .inl h)⟩, Hc1.out⟩
theorem results_row2 {P : Program} {fn : Func} {p u v : Tmp} {ty t : TypeId} (h : fn.results = #[.cell p ty, .tmp u, .tmp v]) {tmps : Array Value} {w : World} {g : Nat} {cs : Array Value} {d : TypeDesc} {x y : Value}
  (hp : tmps.getD p undef = .pointer (some ⟨g, 0, none⟩)) (hx : tmps.getD u undef = x) (hy : tmps.getD v undef = y) (hg : w.heap[g]? = some (.cells cs t (0, 0)))
  (hu : P.underlying ty = some d) (hd : (match d with | .struct _ | .array _ _ => true | _ => false) = true) (hi : (P.info? ty).map (·.size) = some cs.size) :
  (results fn tmps).run P w = .ok (.tuple #[.agg cs, x, y]) w := by
 have hl := run_loadVar_row w g t ty cs (0, 0) d hg hu hd hi
 have hp' : tmps[p]?.getD undef = .pointer (some ⟨g, 0, none⟩) := by simpa using hp
 have hx' : tmps[u]?.getD undef = x := by simpa using hx
 have hy' : tmps[v]?.getD undef = y := by simpa using hy
 simp only [results, h]
 simp [Sem.run_bind, Result.andThen, asAddr, hp', hx', hy', hl]
def WishesPost (fin : Int) (ws : List Wd) (w : World) (e : Ending) (w' : World) : Prop :=
 ((∃ s j b1 n1 c1 b2 n2 c2, wishW ws 0 = (some s, j) ∧ e = .returned (.tuple #[.agg #[.string s.1, .slice b1 n1 c1, .slice b2 n2 c2], .int .i64 j, .int .i64 0]) ∧ RSpsT w' (.slice b1 n1 c1) s.2.1 ∧ RSetsT w' (.slice b2 n2 c2) s.2.2) ∨
  (∃ j, wishW ws 0 = (none, j) ∧ e = .returned (.tuple #[.agg #[.string ⟨#[]⟩, .slice none 0 0, .slice none 0 0], .int .i64 0, .int .i64 (colAt ws fin j)]))) ∧ Below w.heap.size w w'
set_option maxRecDepth 10000 in
set_option maxHeartbeats 4000000 in
theorem recipeOne_any {w : World} {a : Option Addr} {n c : Nat} {fin : Int} {ws : List Wd} (hws : RWds w [.slice a n c] ws) (hD : Doors w) (hn : n ≤ 1000) (hz : ∀ x ∈ ws, x.2.length ≤ 70000) (hcol : ∀ j, colAt ws fin j ≠ 0) : Calls Tryz.prog 130 #[.slice a n c, .int .i64 fin, fWish] w (WishesPost fin ws w) := by
 obtain ⟨h, hh⟩ : ∃ h, h = w.heap.size := ⟨_, rfl⟩
 obtain ⟨W5, hW5⟩ : ∃ W, W = (((((w.alloc (.cells #[fWish] 187)).alloc (.cells #[.string ⟨#[]⟩, .slice none 0 0, .slice none 0 0] 51)).alloc (.cells #[.slice a n c, .int .i64 0, .int .i64 fin] 137)).alloc (.cells #[rp (h + 1 + 1)] 135)).alloc (.cells #[.string ⟨#[]⟩, .slice none 0 0, .slice none 0 0] 51)) := ⟨_, rfl⟩
 have hs5 : W5.heap.size = h + 5 := by rw [hW5, hh]; simp
 have k1 : ∀ {w' : World} {o : Obj} {k : Nat} {o' : Obj}, w'.heap[k]? = some o → (w'.alloc o').heap[k]? = some o := fun h => heap_below (below_alloc1 _ _) h
 have hb5 : Below w.heap.size w W5 := by rw [hW5]; exact ((((Below.refl _ w).alloc (Nat.le_refl _) _).alloc (by simp) _).alloc (by simp; omega) _).alloc (by simp; omega) _ |>.alloc (by simp; omega) _
 have q0 : W5.heap[h]? = some (.cells #[fWish] 187 (0, 0)) := by rw [hW5, hh]; exact k1 (k1 (k1 (k1 (heap_new_at rfl))))
 have q1 : SpcBox (h + 1) (.string ⟨#[]⟩) (.slice none 0 0) (.slice none 0 0) W5 := by rw [hW5, hh]; exact k1 (k1 (k1 (heap_new_at (by simp))))
 have q2 : RBox (h + 1 + 1) (.slice a n c) 0 fin W5 := by rw [hW5, hh]; exact k1 (k1 (heap_new_at (by simp)))
 have q3 : W5.heap[h + 1 + 1 + 1]? = some (.cells #[rp (h + 1 + 1)] 135 (0, 0)) := by rw [hW5, hh]; exact k1 (heap_new_at (by simp))
 have q4 : SpcBox (h + 1 + 1 + 1 + 1) (.string ⟨#[]⟩) (.slice none 0 0) (.slice none 0 0) W5 := by rw [hW5, hh]; exact heap_new_at (by simp)
 have hC : RdC w (h + 1 + 1) a n c fin ws := ⟨hws, hD, by omega, hn, hz⟩
 have hS : RdS w (h + 1 + 1) a n c fin 0 (W5.alloc (.cells #[.int .i64 0] 3)) := ⟨k1 q2, hb5.alloc hb5.size _⟩
 have hO := one1_any (tb := h) (rb := h + 1 + 1 + 1) (sb := h + 1 + 1 + 1 + 1) (cb := W5.heap.size) hC hS (k1 q0) (k1 q3) (k1 q4) (heap_alloc_new W5 _) (by omega) (by omega) (by omega)
 have hCa := caught_any (enters_of Tryz.func180 (by kernel_rfl) rfl) (caps := #[.pointer (some ⟨h, 0, none⟩), .pointer (some ⟨h + 1 + 1 + 1, 0, none⟩), .pointer (some ⟨h + 1 + 1 + 1 + 1, 0, none⟩)]) hO
 have q1' := k1 (o' := .cells #[.int .i64 0] 3) q1
 have q3' := k1 (o' := .cells #[.int .i64 0] 3) q3
 clear q0 q1 q2 q3 q4 hO k1
 have hb6 : Below w.heap.size w (W5.alloc (.cells #[.int .i64 0] 3)) := hb5.alloc hb5.size _
 obtain ⟨Hws, HD, Hz, Hcol, Hb5, HC, HS, HCa, Hq1', Hq3', Hb6⟩ := hd11 hws hD hz hcol hb5 hC hS hCa q1' q3' hb6; clear hws hD hz hcol hb5 hC hS hCa q1' q3' hb6
 go_enter Tryz.func130, Tryz.ntmps130
 go_upto_region 3 with (fail)
 rw [← hh, ← hW5]
 clear hW5
 have hle : w.heap.size ≤ h := Nat.le_of_eq hh.symm
 clear hh
 go_wp2_with fail
 refine HCa.out.mono ?_
 rintro e w2 (⟨w1, ⟨s, j, b1, n1, c1, b2, n2, c2, hw, hsb, hv1, hv2, hbx, hfr⟩, rfl, rfl⟩ | ⟨col, w1, ⟨j, hw, hcl, hfr⟩, rfl, rfl⟩)
 ·have hz6 := hfr.size
  simp only [World.size_alloc] at hz6
  have hcb : w1.heap[W5.heap.size]? = some (.cells #[.int .i64 0] 3 (0, 0)) := frm_keep hfr (heap_alloc_new W5 _) (by omega)
  have hq1 := frm_keep hfr Hq1'.out (by omega)
  have hq3 := frm_keep hfr Hq3'.out (by omega)
  obtain ⟨W2, hW2⟩ : ∃ W, W = w1.setCell ⟨W5.heap.size, 0, none⟩ (.int .i64 0) := ⟨_, rfl⟩
  rw [← hW2]
  have x1 : SpcBox (h + 1) (.string ⟨#[]⟩) (.slice none 0 0) (.slice none 0 0) W2 := by rw [hW2]; exact heap_other hq1 (by omega)
  have x3 : W2.heap[h + 1 + 1 + 1]? = some (.cells #[rp (h + 1 + 1)] 135 (0, 0)) := by rw [hW2]; exact heap_other hq3 (by omega)
  have x2 : RBox (h + 1 + 1) (.slice a n c) j fin W2 := by rw [hW2]; exact heap_other hbx (by omega)
  have x4 : SpcBox (h + 1 + 1 + 1 + 1) (.string s.1) (.slice b1 n1 c1) (.slice b2 n2 c2) W2 := by rw [hW2]; exact heap_other hsb (by omega)
  have y3 := cells_at x3 0
  simp only [List.getElem?_toArray, List.getElem?_cons_zero] at y3
  obtain ⟨_, y2, _, _⟩ := rbox_cells x2
  obtain ⟨z0, z1, z2, _, _, _⟩ := spc_cells x4
  obtain ⟨_, _, _, f0, f1, f2⟩ := spc_cells x1
  obtain ⟨Hw, Hsb, Hv1, Hv2, Hbx, Hfr, Hcb, Hq1, Hq3, Hx1, Hx2, Hx3, Hx4, HW2, Hz6⟩ := hd15 hw hsb hv1 hv2 hbx hfr hcb hq1 hq3 x1 x2 x3 x4 hW2 hz6; clear hw hsb hv1 hv2 hbx hfr hcb hq1 hq3 x1 x2 x3 x4 hW2 hz6
  go_wp2_with fail
  go_region
  go_wp2_with fail
  obtain ⟨W8, hW8⟩ : ∃ W, W = (((W2.setCell ⟨h + 1, 0, none⟩ (.string s.1)).setCell ⟨h + 1, 1, none⟩ (.slice b1 n1 c1)).setCell ⟨h + 1, 2, none⟩ (.slice b2 n2 c2)).drew := ⟨_, rfl⟩
  rw [← hW8]
  have hT8 : Frm (fun k => k = W5.heap.size ∨ k = h + 1) w1 W8 := by
   rw [hW8, HW2.out]
   exact (((((Frm.refl _ w1).setCell (p := ⟨W5.heap.size, 0, none⟩) (.inr (.inl rfl)) _).setCell (p := ⟨h + 1, 0, none⟩) (.inr (.inr rfl)) _).setCell (p := ⟨h + 1, 1, none⟩) (.inr (.inr rfl)) _).setCell (p := ⟨h + 1, 2, none⟩) (.inr (.inr rfl)) _).drew
  have k0 := heap_setCell_same _ (h + 1) 0 _ _ (.string s.1) Hx1.out
  have k1 := heap_setCell_same _ (h + 1) 1 _ _ (.slice b1 n1 c1) k0
  have k2 := heap_setCell_same _ (h + 1) 2 _ _ (.slice b2 n2 c2) k1
  have k3 : W8.heap[h + 1]? = some (.cells #[.string s.1, .slice b1 n1 c1, .slice b2 n2 c2] 51 (0, 0)) := by rw [hW8]; exact k2
  have hno : No2 w1 (fun k => k = W5.heap.size ∨ k = h + 1) := by
   rintro k (rfl | rfl)
   ·exact no2_of Hcb.out (by decide) (by decide)
   ·exact no2_of Hq1.out (by decide) (by decide)
  have hb8 : Below w.heap.size w W8 := by
   have b1 : Below h (W5.alloc (.cells #[.int .i64 0] 3)) w1 := Hfr.out.below (by simp; omega) (by rintro k (rfl | rfl) <;> omega)
   have b2 : Below h w1 W8 := hT8.below (by have := Hz6.out; omega) (by rintro k (rfl | rfl) <;> omega)
   exact Hb6.out.trans ((b1.trans b2).mono hle)
  refine bodyPost_ret (results_row2 rfl rfl rfl rfl k3 Tryz.underlying51 rfl (by kernel_rfl)) rfl ?_
  exact ⟨.inl ⟨s, j, b1, n1, c1, b2, n2, c2, Hw.out, rfl, sps_other Hv1.out hT8 hno, sets_other Hv2.out hT8 hno⟩, hb8⟩
 ·have hz6 := hfr.size
  simp only [World.size_alloc] at hz6
  have hne : (col != 0) = true := by rw [hcl]; simpa using Hcol.out j
  have hq1 := frm_keep hfr Hq1'.out (by omega)
  obtain ⟨W2, hW2⟩ : ∃ W, W = (w1.alloc (.cells #[.int .i64 col] 206)).setCell ⟨W5.heap.size, 0, none⟩ (.int .i64 col) := ⟨_, rfl⟩
  rw [← hW2]
  have x1 : SpcBox (h + 1) (.string ⟨#[]⟩) (.slice none 0 0) (.slice none 0 0) W2 := by rw [hW2]; exact heap_other (heap_below (below_alloc1 _ _) hq1) (by omega)
  obtain ⟨_, _, _, f0, f1, f2⟩ := spc_cells x1
  have hb2 : Below w.heap.size w W2 := by
   have b1 : Below h (W5.alloc (.cells #[.int .i64 0] 3)) w1 := hfr.below (by simp; omega) (by rintro k (rfl | rfl) <;> omega)
   have b2 : Below h w1 W2 := by rw [hW2]; exact ((below_alloc1 _ _).mono (by omega)).setCell (p := ⟨W5.heap.size, 0, none⟩) (by show h ≤ W5.heap.size; omega) _
   exact Hb6.out.trans ((b1.trans b2).mono hle)
  obtain ⟨Hw, Hcl, Hfr, Hq1, Hx1, HW2, Hz6, Hb2⟩ := hd8 hw hcl hfr hq1 x1 hW2 hz6 hb2; clear hw hcl hfr hq1 x1 hW2 hz6 hb2
  go_wp2_with fail
  have k0 := heap_setCell_same _ (h + 1) 0 _ _ (.string ⟨#[]⟩) Hx1.out
  have k1 := heap_setCell_same _ (h + 1) 1 _ _ (.slice none 0 0) k0
  have k2 := heap_setCell_same _ (h + 1) 2 _ _ (.slice none 0 0) k1
  have hb8 := ((Hb2.out.setCell (p := ⟨h + 1, 0, none⟩) (by show w.heap.size ≤ h + 1; omega) (.string ⟨#[]⟩)).setCell (p := ⟨h + 1, 1, none⟩) (by show w.heap.size ≤ h + 1; omega) (.slice none 0 0)).setCell (p := ⟨h + 1, 2, none⟩) (by show w.heap.size ≤ h + 1; omega) (.slice none 0 0)
  refine bodyPost_ret (results_row2 rfl rfl rfl rfl k2 Tryz.underlying51 rfl (by kernel_rfl)) rfl ?_
  refine ⟨.inr ⟨j, Hw.out, by rw [← Hcl.out]; rfl⟩, hb8⟩
set_option maxRecDepth 10000 in
theorem recipeWish_any {w : World} {a : Option Addr} {n c : Nat} {fin : Int} {ws : List Wd} (hws : RWds w [.slice a n c] ws) (hD : Doors w) (hn : n ≤ 1000) (hz : ∀ x ∈ ws, x.2.length ≤ 70000) (hcol : ∀ j, colAt ws fin j ≠ 0) : Calls Tryz.prog 76 #[.slice a n c, .int .i64 fin] w (WishesPost fin ws w) := by
 obtain ⟨g, hg⟩ : ∃ g, g = w.heap.size := ⟨_, rfl⟩
 obtain ⟨W1, hW1⟩ : ∃ W, W = w.alloc (.cells #[.string ⟨#[]⟩, .slice none 0 0, .slice none 0 0] 51) := ⟨_, rfl⟩
 have hb1 : Below w.heap.size w W1 := by rw [hW1]; exact below_alloc1 _ _
 have hbx : SpcBox g (.string ⟨#[]⟩) (.slice none 0 0) (.slice none 0 0) W1 := by rw [hW1, hg]; exact heap_alloc_new _ _
 have hO := recipeOne_any (stays_slice stays_wd _ _ _ _ hws hb1) (hD.below hb1) hn hz hcol
 have hle : w.heap.size ≤ g := Nat.le_of_eq hg.symm
 obtain ⟨Hws, HD, Hz, Hcol, HO, Hb1, Hbx⟩ := hd7 hws hD hz hcol hO hb1 hbx; clear hws hD hz hcol hO hb1 hbx
 go_enter Tryz.func76, Tryz.ntmps76
 go_upto_region 1 with (fail)
 rw [← hW1, ← hg]
 clear hW1 hg
 go_wp2_with fail
 refine HO.out.mono ?_
 rintro e w2 ⟨⟨s, j, b1, n1, c1, b2, n2, c2, hw, rfl, hv1, hv2⟩ | ⟨j, hw, rfl⟩, hb⟩
 ·have x1 := heap_below hb Hbx.out
  have hb2 := Hb1.out.trans (hb.mono Hb1.out.size)
  obtain ⟨_, _, _, f0, f1, f2⟩ := spc_cells x1
  obtain ⟨Hw, Hv1, Hv2, Hb, Hx1, Hb2⟩ := hd6 hw hv1 hv2 hb x1 hb2; clear hw hv1 hv2 hb x1 hb2
  go_wp2_with fail
  have k0 := heap_setCell_same _ g 0 _ _ (.string s.1) Hx1.out
  have k1 := heap_setCell_same _ g 1 _ _ (.slice b1 n1 c1) k0
  have k2 := heap_setCell_same _ g 2 _ _ (.slice b2 n2 c2) k1
  have hT : Frm (fun k => k = g) w2 (((w2.setCell ⟨g, 0, none⟩ (.string s.1)).setCell ⟨g, 1, none⟩ (.slice b1 n1 c1)).setCell ⟨g, 2, none⟩ (.slice b2 n2 c2)) := frm_cell (frm_cell (frm_cell (Frm.refl _ _) 0 _) 1 _) 2 _
  have hno : No2 w2 (fun k => k = g) := by
   rintro k rfl
   exact no2_of Hx1.out (by decide) (by decide)
  have hb8 := ((Hb2.out.setCell (p := ⟨g, 0, none⟩) hle (.string s.1)).setCell (p := ⟨g, 1, none⟩) hle (.slice b1 n1 c1)).setCell (p := ⟨g, 2, none⟩) hle (.slice b2 n2 c2)
  refine bodyPost_ret (results_row2 rfl rfl rfl rfl k2 Tryz.underlying51 rfl (by kernel_rfl)) rfl ?_
  exact ⟨.inl ⟨s, j, b1, n1, c1, b2, n2, c2, Hw.out, rfl, sps_other Hv1.out hT hno, sets_other Hv2.out hT hno⟩, hb8⟩
 ·have x1 := heap_below hb Hbx.out
  have hb2 := Hb1.out.trans (hb.mono Hb1.out.size)
  obtain ⟨_, _, _, f0, f1, f2⟩ := spc_cells x1
  obtain ⟨col, hcl⟩ : ∃ x, x = colAt ws fin j := ⟨_, rfl⟩
  rw [← hcl]
  obtain ⟨Hw, Hcl, Hb, Hx1, Hb2⟩ := hd5 hw hcl hb x1 hb2; clear hw hcl hb x1 hb2
  go_wp2_with fail
  have k0 := heap_setCell_same _ g 0 _ _ (.string ⟨#[]⟩) Hx1.out
  have k1 := heap_setCell_same _ g 1 _ _ (.slice none 0 0) k0
  have k2 := heap_setCell_same _ g 2 _ _ (.slice none 0 0) k1
  have hb8 := ((Hb2.out.setCell (p := ⟨g, 0, none⟩) hle (.string ⟨#[]⟩)).setCell (p := ⟨g, 1, none⟩) hle (.slice none 0 0)).setCell (p := ⟨g, 2, none⟩) hle (.slice none 0 0)
  refine bodyPost_ret (results_row2 rfl rfl rfl rfl k2 Tryz.underlying51 rfl (by kernel_rfl)) rfl ?_
  exact ⟨.inr ⟨j, Hw.out, by rw [← Hcl.out]; rfl⟩, hb8⟩
end Go.Proofs.YteailgjiifdgcaaGreatDoor

/- Plain: what the lines of a text are like: words that are there, at places from one on. No condition. -/
namespace Go.Proofs.YteailgjiifdgcaaGreatDoor.LexM

def GoodW (N : Nat) (x : Wd) : Prop := 1 ≤ x.1 ∧ x.1 ≤ (N : Int) ∧ x.2 ≠ [] ∧ x.2.length ≤ N
def GoodL (N : Nat) (l : Ln) : Prop := 1 ≤ l.1 ∧ l.2 ≠ [] ∧ l.2.length ≤ 40 ∧ ∀ x ∈ l.2, GoodW N x
theorem GoodW.mono {N M : Nat} (h : N ≤ M) {x : Wd} (g : GoodW N x) : GoodW M x := ⟨g.1, by have := g.2.1; omega, g.2.2.1, Nat.le_trans g.2.2.2 h⟩
theorem rerr_room {t : Bs} {room : Bool} {s : RS} {i : Nat} {c : UInt8} (h : rerr t room s i c = 0) (hk : rskip t s i c = false) : s.out.length ≠ 40 := by
 intro e
 unfold rerr at h
 rw [hk] at h
 split at h
 ·cases h
 ·simp [e] at h
theorem rgo_good {t : Bs} {room : Bool} : ∀ (r : Bs) (s : RS) (i : Nat), t.drop i = r → s.out.length ≤ 40 → (∀ x ∈ s.out, GoodW t.length x) → (∀ x ∈ (rgo t room s i r).1, GoodW t.length x) ∧ (rgo t room s i r).1.length ≤ 40
 | [], s, i, _, hl, h => ⟨h, hl⟩
 | c :: r, s, i, hd, hl, h => by
  obtain ⟨hg, hd2, hi⟩ := getD_of_drop hd
  unfold rgo
  by_cases he : rerr t room s i c = 0
  ·rw [if_pos he]
   refine rgo_good r _ (i + 1) hd2 ?_ ?_
   ·unfold rnext
    dsimp only
    split
    ·exact hl
    ·rename_i hk
     have := rerr_room he (by simpa using hk)
     rw [List.length_append, List.length_singleton]
     omega
   ·intro x hx
    unfold rnext at hx
    dsimp only at hx
    split at hx
    ·exact h x hx
    ·rename_i hk
     rcases List.mem_append.1 hx with hx | hx
     ·exact h x hx
     ·rw [List.mem_singleton] at hx
      subst hx
      have hp : part c = true := by
       unfold rskip at hk
       simp only [Bool.or_eq_true, not_or, Bool.not_eq_true', Bool.not_eq_false] at hk
       exact hk.1.2
      refine ⟨by show (1 : Int) ≤ (i : Int) + 1; omega, by show (i : Int) + 1 ≤ (t.length : Int); omega, ?_, ?_⟩
      ·show wordAt t i ≠ []
       rw [wordAt_of hd hp]
       simp
      ·show (wordAt t i).length ≤ t.length
       unfold wordAt
       refine Nat.le_trans (List.takeWhile_sublist _).length_le ?_
       rw [List.length_drop]
       omega
  ·rw [if_neg he]
   exact ⟨h, hl⟩
theorem rline_good (t : Bs) (room : Bool) : (∀ x ∈ (rline t room).1, GoodW t.length x) ∧ (rline t room).1.length ≤ 40 := rgo_good t _ 0 rfl (Nat.zero_le _) (fun x hx => by simp at hx)
theorem addLn_good {N : Nat} {out : List Ln} {n : Int} {ws : List Wd} (h : ∀ l ∈ out, GoodL N l) (hn : 1 ≤ n) (h40 : ws.length ≤ 40) (hw : ∀ x ∈ ws, GoodW N x) : ∀ l ∈ addLn out n ws, GoodL N l := by
 unfold addLn
 split
 ·exact h
 ·rename_i h0
  intro l hl
  rcases List.mem_append.1 hl with hl | hl
  ·exact h l hl
  ·rw [List.mem_singleton] at hl
   subst hl
   exact ⟨hn, h0, h40, hw⟩
theorem addLn_len (out : List Ln) (n : Int) (ws : List Wd) : (addLn out n ws).length ≤ out.length + 1 := by
 unfold addLn
 split <;> simp
theorem rlines_good {N : Nat} : ∀ (r : Bs) (n : Int) (cur : Bs) (out : List Ln), 1 ≤ n → cur.length + r.length ≤ N → (∀ l ∈ out, GoodL N l) → (∀ l ∈ (rlines n cur out r).lines, GoodL N l) ∧ (rlines n cur out r).lines.length ≤ out.length + r.length + 1
 | [], n, cur, out, hn, hN, h => by
  have hg := rline_good cur (decide (out.length < 2000))
  simp only [List.length_nil] at hN
  unfold rlines
  dsimp only
  split
  ·exact ⟨addLn_good h hn hg.2 (fun x hx => (hg.1 x hx).mono (by omega)), by have := addLn_len out n (rline cur (decide (out.length < 2000))).1; simp; omega⟩
  ·exact ⟨fun l hl => by simp at hl, by simp⟩
 | c :: r, n, cur, out, hn, hN, h => by
  have hg := rline_good cur (decide (out.length < 2000))
  simp only [List.length_cons] at hN ⊢
  unfold rlines
  split
  ·dsimp only
   split
   ·have := rlines_good r (n + 1) [] (addLn out n (rline cur (decide (out.length < 2000))).1) (by omega) (by simp; omega) (addLn_good h hn hg.2 (fun x hx => (hg.1 x hx).mono (by omega)))
    have h2 := addLn_len out n (rline cur (decide (out.length < 2000))).1
    exact ⟨this.1, by omega⟩
   ·exact ⟨fun l hl => by simp at hl, by simp⟩
  ·have := rlines_good r n (cur ++ [c]) out hn (by simp; omega) h
   exact ⟨this.1, by omega⟩
theorem doc_good (t : Bs) : (∀ l ∈ (docLines t).lines, GoodL t.length l) ∧ (docLines t).lines.length ≤ t.length + 1 := by
 unfold docLines
 split
 ·exact ⟨fun l hl => by simp at hl, by simp⟩
 ·have := rlines_good (N := t.length) t 1 [] [] (by omega) (by simp) (fun l hl => by simp at hl)
  simpa using this
theorem doc_good7 (t : Bs) : (∀ l ∈ (docLines t).lines, GoodL 70000 l) ∧ (docLines t).lines.length ≤ 70001 := by
 by_cases h : 65536 < t.length
 ·unfold docLines
  rw [if_pos h]
  exact ⟨fun l hl => by simp at hl, by simp⟩
 ·have h1 := doc_good t
  exact ⟨fun l hl => by obtain ⟨k1, k2, k3, k4⟩ := h1.1 l hl; exact ⟨k1, k2, k3, fun x hx => (k4 x hx).mono (by omega)⟩, by omega⟩
end Go.Proofs.YteailgjiifdgcaaGreatDoor.LexM

/- The walk of request.one: the root of a line. Condition: the library's variables as they were laid; a line as lexed, of words of at most 70000 bytes. -/
namespace Go.Proofs.YteailgjiifdgcaaGreatDoor
open Go.Shelf Go.RowKit Go.Lib VerN VarM
open LexM (Wd Ln GoodL)
attribute [local go_sem ↓] Go.wp_at_zero Go.wp_at_succ

abbrev zeroRoot : Value := .agg #[.string ⟨#[]⟩, .slice none 0 0, .slice none 0 0, .int .i64 0]
abbrev RootBox (k : Nat) (x y z u : Value) (W : World) : Prop := W.heap[k]? = some (.cells #[x, y, z, u] 101 (0, 0))
theorem root_cells {k : Nat} {x y z u : Value} {W : World} (h : RootBox k x y z u W) : (W.cell? ⟨k, 0, none⟩ = some x ∧ W.cell? ⟨k, 1, none⟩ = some y ∧ W.cell? ⟨k, 2, none⟩ = some z ∧ W.cell? ⟨k, 3, none⟩ = some u) ∧ W.frozen? ⟨k, 0, none⟩ = false ∧ W.frozen? ⟨k, 1, none⟩ = false ∧ W.frozen? ⟨k, 2, none⟩ = false ∧ W.frozen? ⟨k, 3, none⟩ = false :=
 ⟨⟨cells_at h 0, cells_at h 1, cells_at h 2, cells_at h 3⟩, frozen_at h 0, frozen_at h 1, frozen_at h 2, frozen_at h 3⟩
theorem results_row1 {P : Program} {fn : Func} {p u : Tmp} {ty t : TypeId} (h : fn.results = #[.cell p ty, .tmp u]) {tmps : Array Value} {w : World} {g : Nat} {cs : Array Value} {d : TypeDesc} {x : Value}
  (hp : tmps.getD p undef = .pointer (some ⟨g, 0, none⟩)) (hx : tmps.getD u undef = x) (hg : w.heap[g]? = some (.cells cs t (0, 0)))
  (hu : P.underlying ty = some d) (hd : (match d with | .struct _ | .array _ _ => true | _ => false) = true) (hi : (P.info? ty).map (·.size) = some cs.size) :
  (results fn tmps).run P w = .ok (.tuple #[.agg cs, x]) w := by
 have hl := run_loadVar_row w g t ty cs (0, 0) d hg hu hd hi
 have hp' : tmps[p]?.getD undef = .pointer (some ⟨g, 0, none⟩) := by simpa using hp
 have hx' : tmps[u]?.getD undef = x := by simpa using hx
 simp only [results, h]
 simp [Sem.run_bind, Result.andThen, asAddr, hp', hx', hl]
theorem wds_drop {w : World} {b off n c : Nat} {ws : List Wd} (h : RWds w [.slice (some ⟨b, off, none⟩) n c] ws) : RWds w [.slice (some ⟨b, off + 2, none⟩) (n - 1) (c - 1)] (ws.drop 1) := by
 obtain ⟨a', cap, hv, hcap, hmax, hel⟩ := h
 simp only [List.cons.injEq, and_true, Value.slice.injEq] at hv
 obtain ⟨rfl, hn, rfl⟩ := hv
 refine ⟨_, c - 1, by rw [List.length_drop, hn], by rw [List.length_drop]; omega, by omega, fun i x hi => ?_⟩
 rw [List.getElem?_drop] at hi
 obtain ⟨b', off', ecs, h1, h2, h3, h4⟩ := hel (1 + i) x hi
 injection h1 with h1
 injection h1 with e1 e2
 subst e1 e2
 refine ⟨b, off + 2, ecs, rfl, h2, fun j u hu => ?_, h4⟩
 have := h3 j u hu
 rw [show off + (1 + i) * 2 + j = off + 2 + i * 2 + j by omega] at this
 exact this
def RootPost (l : Ln) (w : World) (e : Ending) (w' : World) : Prop :=
 ((∃ s col b1 n1 c1 b2 n2 c2, rootW l = (some s, col) ∧ e = .returned (.tuple #[.agg #[.string s.1, .slice b1 n1 c1, .slice b2 n2 c2, .int .i64 l.1], .int .i64 0]) ∧ RSpsT w' (.slice b1 n1 c1) s.2.1 ∧ RSetsT w' (.slice b2 n2 c2) s.2.2) ∨
  (∃ col, rootW l = (none, col) ∧ col ≠ 0 ∧ e = .returned (.tuple #[zeroRoot, .int .i64 col]))) ∧ Below w.heap.size w w'
theorem last_some {ws : List Wd} {n : Nat} (hn : n = ws.length) (h0 : 0 < n) : ∃ x, ws[n - 1]? = some x ∧ ws.getLast? = some x := by
 subst hn
 have h : ws.length - 1 < ws.length := by omega
 exact ⟨ws[ws.length - 1], List.getElem?_eq_getElem h, by rw [List.getLast?_eq_getElem?, List.getElem?_eq_getElem h]⟩
set_option maxRecDepth 10000 in
set_option maxHeartbeats 8000000 in
theorem requestOne_any {w : World} {a : Option Addr} {n c : Nat} {l : Ln} (hws : RWds w [.slice a n c] l.2) (hD : Doors w) (hl : GoodL 70000 l) : Calls Tryz.prog 71 #[.agg #[.int .i64 l.1, .slice a n c]] w (RootPost l w) := by
 obtain ⟨ln, ws⟩ := l
 obtain ⟨hl1, hne, h40, hgood⟩ := hl
 simp only at hws hl1 hne h40 hgood ⊢
 obtain ⟨hn, hz, hat⟩ := wds_at hws
 have hn0 : 0 < n := by
  rw [hn]
  cases ws with
  | nil => exact absurd rfl hne
  | cons x r => simp
 obtain ⟨x, hx, hx2⟩ := last_some hn hn0
 obtain ⟨b, off, rfl, d0, d1, _⟩ := hat (n - 1) x hx
 obtain ⟨y, hy⟩ : ∃ y, ws[0]? = some y := ⟨ws[0], List.getElem?_eq_getElem _⟩
 obtain ⟨_, _, e, f0, f1, _⟩ := hat 0 y hy
 injection e with e
 injection e with e1 e2
 subst e1 e2
 simp only [Nat.zero_mul, Nat.add_zero] at f0 f1
 have hgx := hgood x (List.mem_of_getElem? hx)
 have hgy := hgood y (List.mem_of_getElem? hy)
 obtain ⟨xc, hxc⟩ : ∃ z, z = x.1 := ⟨_, rfl⟩
 obtain ⟨xt, hxt⟩ : ∃ z : ByteArray, z = ⟨x.2.toArray⟩ := ⟨_, rfl⟩
 obtain ⟨yc, hyc⟩ : ∃ z, z = y.1 := ⟨_, rfl⟩
 obtain ⟨yt, hyt⟩ : ∃ z : ByteArray, z = ⟨y.2.toArray⟩ := ⟨_, rfl⟩
 rw [← hxc] at d0
 rw [← hxt] at d1
 rw [← hyc] at f0
 rw [← hyt] at f1
 have hxc1 : 1 ≤ xc ∧ xc ≤ 70000 := by rw [hxc]; exact ⟨hgx.1, hgx.2.1⟩
 have hyc1 : 1 ≤ yc ∧ yc ≤ 70000 := by rw [hyc]; exact ⟨hgy.1, hgy.2.1⟩
 have hxz : xt.size ≤ 70000 := by rw [hxt]; show x.2.toArray.size ≤ _; rw [List.size_toArray]; exact hgx.2.2.2
 have hpk : peekB ws 0 = yt := by unfold peekB; rw [hy, hyt]
 have hcl0 : colAt ws (lineEnd (ln, ws)) 0 = yc := by unfold colAt; rw [hy, hyc]
 have hfin : lineEnd (ln, ws) = xc + xt.size := by unfold lineEnd; simp only [hx2]; rw [hxc, hxt]; show x.1 + (x.2.length : Int) = x.1 + ((x.2.toArray.size : Nat) : Int); rw [List.size_toArray]
 have hcol : ∀ j, colAt (ws.drop 1) (lineEnd (ln, ws)) j ≠ 0 := fun j => by
  unfold colAt
  cases hj : (ws.drop 1)[j]? with
  | none => simp only; omega
  | some z =>
   simp only
   have := (hgood z (List.mem_of_mem_drop (List.mem_of_getElem? hj))).1
   omega
 have hrest := fun (W : World) (k : Below w.heap.size w W) (ad : Option Addr) (nn cp : Nat) (h : RWds W [.slice ad nn cp] (ws.drop 1)) (hnn : nn ≤ 1000) => recipeWish_any (w := W) (fin := lineEnd (ln, ws)) h (hD.below k) hnn (fun z hz => (hgood z (List.mem_of_mem_drop hz)).2.2.2) hcol
 rw [hfin] at hrest hcol
 have heq := Txt.eq_dec yt rootT
 have k1 : ((n : Int) - 1) = ((n - 1 : Nat) : Int) := by omega
 have k2 : (0 : Int) ≤ ((n - 1 : Nat) : Int) := by omega
 have k3 : ((n - 1 : Nat) : Int) < (n : Int) := by omega
 have k4 : (0 : Int) < (n : Int) := by omega
 have hbw : b < w.heap.size := World.block_lt_of_cell? w _ d0
 obtain ⟨g, hg⟩ : ∃ g, g = w.heap.size := ⟨_, rfl⟩
 obtain ⟨W2, hW2⟩ : ∃ W, W = (w.alloc (.cells #[.int .i64 ln, .slice (some ⟨b, off, none⟩) n c] 62)).alloc (.cells #[.string ⟨#[]⟩, .slice none 0 0, .slice none 0 0, .int .i64 0] 101) := ⟨_, rfl⟩
 have hb2 : Below w.heap.size w W2 := by rw [hW2]; exact (below_alloc1 _ _).alloc (by simp) _
 have p0 : W2.heap[g]? = some (.cells #[.int .i64 ln, .slice (some ⟨b, off, none⟩) n c] 62 (0, 0)) := by rw [hW2, hg]; exact heap_below (below_alloc1 _ _) (heap_new_at rfl)
 have p1 : RootBox (g + 1) (.string ⟨#[]⟩) (.slice none 0 0) (.slice none 0 0) (.int .i64 0) W2 := by rw [hW2, hg]; exact heap_new_at (by simp)
 have hs2 : W2.heap.size = g + 2 := by rw [hW2, hg]; simp
 replace d0 := cell_later hb2 d0
 replace d1 := cell_later hb2 d1
 have l0 := cells_at p0 0
 have l1 := cells_at p0 1
 simp only [List.getElem?_toArray, List.getElem?_cons_zero, List.getElem?_cons_succ] at l0 l1
 have hwg : w.heap.size ≤ g := Nat.le_of_eq hg.symm
 have hne1 : ¬ b = g + 1 := by omega
 have hne2 : ¬ g + 1 = b := by omega
 obtain ⟨m, hm⟩ : ∃ m, m = n - 1 := ⟨_, rfl⟩
 rw [← hm] at d0 d1 k1 k2 k3
 obtain ⟨W3, hW3⟩ : ∃ W, W = W2.alloc (.cells #[.int .i64 xc, .string xt] 64) := ⟨_, rfl⟩
 have hb23 : Below W2.heap.size W2 W3 := by rw [hW3]; exact below_alloc1 _ _
 have hb3 := hb2.trans (hb23.mono hb2.size)
 have r0 := heap_below hb23 p0
 have r1 := heap_below hb23 p1
 have r2 : W3.heap[g + 2]? = some (.cells #[.int .i64 xc, .string xt] 64 (0, 0)) := by rw [hW3, ← hs2]; exact heap_alloc_new _ _
 have hs3 : W3.heap.size = g + 3 := by rw [hW3]; simp [hs2]
 have f0 := cell_later hb3 f0
 have f1 := cell_later hb3 f1
 have m0 := cells_at r0 0
 have m1 := cells_at r0 1
 simp only [List.getElem?_toArray, List.getElem?_cons_zero, List.getElem?_cons_succ] at m0 m1
 obtain ⟨_, z0, z1, z2, z3⟩ := root_cells r1
 obtain ⟨Hws, HD, Hat, Hne, Hgood, Hx, Hx2, Hy, Hgx, Hgy, Hxc, Hxt, Hyc, Hyt, Hpk, Hcl0⟩ := hd16 hws hD hat hne hgood hx hx2 hy hgx hgy hxc hxt hyc hyt hpk hcl0; obtain ⟨Hfin, Hrest, Hcol, Hn, Hl1, Hb2, Hp0, Hp1, Hm, Hb23, Hb3, Hr0, Hr1, Hr2, Hs3⟩ := hd15 hfin hrest hcol hn hl1 hb2 p0 p1 hm hb23 hb3 r0 r1 r2 hs3; clear hws hD hat hne hgood hx hx2 hy hgx hgy hxc hxt hyc hyt hpk hcl0 hfin hrest hcol hn hl1 hb2 p0 p1 hm hb23 hb3 r0 r1 r2 hs3
 have hrt : rootT.toList = [114, 111, 111, 116] := by rw [Lib.toList_data]; rfl
 rw [hrt] at heq
 clear hrt
 have hcap : n ≤ c := by
  obtain ⟨_, _, hv, hc, _⟩ := Hws.out
  simp only [List.cons.injEq, and_true, Value.slice.injEq] at hv
  omega
 by_cases hroot : yt = rootT
 ·have k5 : (yt.toList == [114, 111, 111, 116]) = true := by rw [heq, decide_eq_true hroot]
  clear heq
  by_cases hc1 : c = 1
  ·subst hc1
   have hrd : RWds w [.slice (some ⟨b, off, none⟩) 0 0] (ws.drop 1) := by
    have e : ws.drop 1 = [] := List.drop_eq_nil_of_le (by rw [← Hn.out]; omega)
    rw [e]
    exact ⟨_, 0, rfl, Nat.le_refl _, Nat.zero_le _, fun i x hi => by simp at hi⟩
   have hR := Hrest.out W3 Hb3.out _ _ _ (stays_slice stays_wd _ _ _ _ hrd Hb3.out) (by omega)
   have Hrd := hd hrd; clear hrd
   obtain ⟨Hroot, HR⟩ := hd2 hroot hR; clear hroot hR
   go_enter Tryz.func71, Tryz.ntmps71
   go_upto_region 1 with (fail)
   rw [← hW2, ← hg]
   clear hW2 hg
   go_upto_region 2 with (fail)
   rw [← hW3]
   clear hW3 hs2 l0 l1 d0 d1
   have q2 := cells_at Hr2.out 0
   have q3 := cells_at Hr2.out 1
   simp only [List.getElem?_toArray, List.getElem?_cons_zero, List.getElem?_cons_succ] at q2 q3
   go_wp2_with fail
   refine HR.out.mono ?_
   rintro e w4 ⟨⟨s, j, b1, n1, c1, b2, n2, c2, hw, rfl, hv1, hv2⟩ | ⟨j, hw, rfl⟩, hb4⟩
   ·obtain ⟨w5, hw5⟩ : ∃ W, W = w4.alloc (.cells #[.string s.1, .slice b1 n1 c1, .slice b2 n2 c2] 51) := ⟨_, rfl⟩
    have hb45 : Below w4.heap.size w4 w5 := by rw [hw5]; exact below_alloc1 _ _
    have hb35 := hb4.trans (hb45.mono hb4.size)
    have hb5 := Hb3.out.trans (hb35.mono Hb3.out.size)
    have y1 := heap_below hb35 Hr1.out
    have y0 := heap_below hb35 Hr0.out
    have y4 : SpcBox w4.heap.size (.string s.1) (.slice b1 n1 c1) (.slice b2 n2 c2) w5 := by rw [hw5]; exact heap_alloc_new _ _
    obtain ⟨u0, u1, u2, _, _, _⟩ := spc_cells y4
    have t0 := cells_at y0 0
    simp only [List.getElem?_toArray, List.getElem?_cons_zero, List.getElem?_cons_succ] at t0
    obtain ⟨_, z0, z1, z2, z3⟩ := root_cells y1
    have hv1' := spsT_below hv1 hb45
    have hv2' := setsT_below hv2 hb45
    have hbg : (b = w4.heap.size) = False := by rw [eq_iff_iff, iff_false]; have := hb4.size; have := Hs3.out; omega
    have hj : ¬ j < n - 1 := by omega
    ·have k6 : decide ((j : Int) < 0) = false := decide_eq_false (by omega)
     obtain ⟨Hw, Hv1, Hv2, Hb4, Hb45, Hb35, Hb5, Hy0, Hy1, Hy4, Hv1', Hv2', Hj⟩ := hd13 hw hv1 hv2 hb4 hb45 hb35 hb5 y0 y1 y4 hv1' hv2' hj; clear hw hv1 hv2 hb4 hb45 hb35 hb5 y0 y1 y4 hv1' hv2' hj
     go_upto_region 6 with (fail)
     rw [← hw5]
     clear hw5
     go_wp2_with fail
     have x0 := heap_setCell_same _ (g + 1) 0 _ _ (.string s.1) Hy1.out
     have x1 := heap_setCell_same _ (g + 1) 1 _ _ (.slice b1 n1 c1) x0
     have x2 := heap_setCell_same _ (g + 1) 2 _ _ (.slice b2 n2 c2) x1
     have x3 := heap_setCell_same _ (g + 1) 3 _ _ (.int .i64 ln) x2
     have hb8 := (((Hb5.out.setCell (p := ⟨g + 1, 0, none⟩) (by show w.heap.size ≤ g + 1; omega) (.string s.1)).setCell (p := ⟨g + 1, 1, none⟩) (by show w.heap.size ≤ g + 1; omega) (.slice b1 n1 c1)).setCell (p := ⟨g + 1, 2, none⟩) (by show w.heap.size ≤ g + 1; omega) (.slice b2 n2 c2)).setCell (p := ⟨g + 1, 3, none⟩) (by show w.heap.size ≤ g + 1; omega) (.int .i64 ln)
     have hT : Frm (fun k => k = g + 1) w5 ((((w5.setCell ⟨g + 1, 0, none⟩ (.string s.1)).setCell ⟨g + 1, 1, none⟩ (.slice b1 n1 c1)).setCell ⟨g + 1, 2, none⟩ (.slice b2 n2 c2)).setCell ⟨g + 1, 3, none⟩ (.int .i64 ln)) := frm_cell (frm_cell (frm_cell (frm_cell (Frm.refl _ _) 0 _) 1 _) 2 _) 3 _
     have hno : No2 w5 (fun k => k = g + 1) := by
      rintro k rfl
      exact no2_of Hy1.out (by decide) (by decide)
     refine bodyPost_ret (results_row1 (g := g + 1) rfl rfl rfl x3 Tryz.underlying101 rfl (by kernel_rfl)) rfl ?_
     refine ⟨.inl ⟨s, 0, b1, n1, c1, b2, n2, c2, ?_, rfl, sps_other Hv1'.out hT hno, sets_other Hv2'.out hT hno⟩, hb8⟩
     unfold rootW
     rw [if_pos (by rw [Hpk.out]; exact Hroot.out), Hw.out]
     simp only
     rw [if_neg (by rw [← Hn.out]; exact Hj.out)]
   ·obtain ⟨w5, hw5⟩ : ∃ W, W = w4.alloc (.cells #[.string ⟨#[]⟩, .slice none 0 0, .slice none 0 0] 51) := ⟨_, rfl⟩
    have hb45 : Below w4.heap.size w4 w5 := by rw [hw5]; exact below_alloc1 _ _
    have hb35 := hb4.trans (hb45.mono hb4.size)
    have hb5 := Hb3.out.trans (hb35.mono Hb3.out.size)
    have y1 := heap_below hb35 Hr1.out
    obtain ⟨_, z0, z1, z2, z3⟩ := root_cells y1
    obtain ⟨cc, hcc⟩ : ∃ z, z = colAt (ws.drop 1) (xc + xt.size) j := ⟨_, rfl⟩
    rw [← hcc]
    have hcn : cc ≠ 0 := by rw [hcc]; exact Hcol.out j
    have k6 : (cc != 0) = true := by simpa using hcn
    obtain ⟨Hw, Hb4, Hb45, Hb35, Hb5, Hy1, Hcc, Hcn⟩ := hd8 hw hb4 hb45 hb35 hb5 y1 hcc hcn; clear hw hb4 hb45 hb35 hb5 y1 hcc hcn
    go_upto_region 6 with (fail)
    rw [← hw5]
    clear hw5
    go_wp2_with fail
    have x0 := heap_setCell_same _ (g + 1) 0 _ _ (.string ⟨#[]⟩) Hy1.out
    have x1 := heap_setCell_same _ (g + 1) 1 _ _ (.slice none 0 0) x0
    have x2 := heap_setCell_same _ (g + 1) 2 _ _ (.slice none 0 0) x1
    have x3 := heap_setCell_same _ (g + 1) 3 _ _ (.int .i64 0) x2
    have hb8 := (((Hb5.out.setCell (p := ⟨g + 1, 0, none⟩) (by show w.heap.size ≤ g + 1; omega) (.string ⟨#[]⟩)).setCell (p := ⟨g + 1, 1, none⟩) (by show w.heap.size ≤ g + 1; omega) (.slice none 0 0)).setCell (p := ⟨g + 1, 2, none⟩) (by show w.heap.size ≤ g + 1; omega) (.slice none 0 0)).setCell (p := ⟨g + 1, 3, none⟩) (by show w.heap.size ≤ g + 1; omega) (.int .i64 0)
    refine bodyPost_ret (results_row1 (g := g + 1) rfl rfl rfl x3 Tryz.underlying101 rfl (by kernel_rfl)) rfl ?_
    refine ⟨.inr ⟨cc, ?_, Hcn.out, rfl⟩, hb8⟩
    unfold rootW
    rw [if_pos (by rw [Hpk.out]; exact Hroot.out), Hw.out]
    simp only
    rw [Hfin.out, Hcc.out]
  ·have hrd := wds_drop Hws.out
   have hR := Hrest.out W3 Hb3.out _ _ _ (stays_slice stays_wd _ _ _ _ hrd Hb3.out) (by have := Hn.out; omega)
   have Hrd := hd hrd; clear hrd
   obtain ⟨Hroot, HR⟩ := hd2 hroot hR; clear hroot hR
   go_enter Tryz.func71, Tryz.ntmps71
   go_upto_region 1 with (fail)
   rw [← hW2, ← hg]
   clear hW2 hg
   go_upto_region 2 with (fail)
   rw [← hW3]
   clear hW3 hs2 l0 l1 d0 d1
   have q2 := cells_at Hr2.out 0
   have q3 := cells_at Hr2.out 1
   simp only [List.getElem?_toArray, List.getElem?_cons_zero, List.getElem?_cons_succ] at q2 q3
   go_wp2_with fail
   refine HR.out.mono ?_
   rintro e w4 ⟨⟨s, j, b1, n1, c1, b2, n2, c2, hw, rfl, hv1, hv2⟩ | ⟨j, hw, rfl⟩, hb4⟩
   ·obtain ⟨w5, hw5⟩ : ∃ W, W = w4.alloc (.cells #[.string s.1, .slice b1 n1 c1, .slice b2 n2 c2] 51) := ⟨_, rfl⟩
    have hb45 : Below w4.heap.size w4 w5 := by rw [hw5]; exact below_alloc1 _ _
    have hb35 := hb4.trans (hb45.mono hb4.size)
    have hb5 := Hb3.out.trans (hb35.mono Hb3.out.size)
    have y1 := heap_below hb35 Hr1.out
    have y0 := heap_below hb35 Hr0.out
    have y4 : SpcBox w4.heap.size (.string s.1) (.slice b1 n1 c1) (.slice b2 n2 c2) w5 := by rw [hw5]; exact heap_alloc_new _ _
    obtain ⟨u0, u1, u2, _, _, _⟩ := spc_cells y4
    have t0 := cells_at y0 0
    simp only [List.getElem?_toArray, List.getElem?_cons_zero, List.getElem?_cons_succ] at t0
    obtain ⟨_, z0, z1, z2, z3⟩ := root_cells y1
    have hv1' := spsT_below hv1 hb45
    have hv2' := setsT_below hv2 hb45
    have hbg : (b = w4.heap.size) = False := by rw [eq_iff_iff, iff_false]; have := hb4.size; have := Hs3.out; omega
    by_cases hj : j < n - 1
    ·have hjl : j < (ws.drop 1).length := by rw [List.length_drop, ← Hn.out]; exact hj
     have e0 := (wds_at (stays_slice stays_wd _ _ _ _ Hrd.out hb5)).2.2 j _ (List.getElem?_eq_getElem hjl)
     obtain ⟨b', off', e1, g0, _, _⟩ := e0
     injection e1 with e1
     injection e1 with e2 e3
     subst e2 e3
     obtain ⟨cc, hcc⟩ : ∃ z, z = (ws.drop 1)[j].1 := ⟨_, rfl⟩
     rw [← hcc] at g0
     have hccc : colAt (ws.drop 1) (xc + xt.size) j = cc := by rw [col_some hjl, hcc]
     have k6 : decide ((j : Int) < ((n - 1 : Nat) : Int)) = true := decide_eq_true (by omega)
     have k7 : (0 : Int) ≤ (j : Int) := by omega
     have k8 : (j : Int) < ((n - 1 : Nat) : Int) := by omega
     obtain ⟨Hw, Hv1, Hv2, Hb4, Hb45, Hb35, Hb5, Hy0, Hy1, Hy4, Hv1', Hv2', Hcc, Hccc, Hj⟩ := hd15 hw hv1 hv2 hb4 hb45 hb35 hb5 y0 y1 y4 hv1' hv2' hcc hccc hj; clear hw hv1 hv2 hb4 hb45 hb35 hb5 y0 y1 y4 hv1' hv2' hcc hccc hj
     go_upto_region 6 with (fail)
     rw [← hw5]
     clear hw5
     go_wp2_with fail
     go_region
     go_wp2_with fail
     have x0 := heap_setCell_same _ (g + 1) 0 _ _ (.string ⟨#[]⟩) Hy1.out
     have x1 := heap_setCell_same _ (g + 1) 1 _ _ (.slice none 0 0) x0
     have x2 := heap_setCell_same _ (g + 1) 2 _ _ (.slice none 0 0) x1
     have x3 := heap_setCell_same _ (g + 1) 3 _ _ (.int .i64 0) x2
     have hb8 := (((Hb5.out.setCell (p := ⟨g + 1, 0, none⟩) (by show w.heap.size ≤ g + 1; omega) (.string ⟨#[]⟩)).setCell (p := ⟨g + 1, 1, none⟩) (by show w.heap.size ≤ g + 1; omega) (.slice none 0 0)).setCell (p := ⟨g + 1, 2, none⟩) (by show w.heap.size ≤ g + 1; omega) (.slice none 0 0)).setCell (p := ⟨g + 1, 3, none⟩) (by show w.heap.size ≤ g + 1; omega) (.int .i64 0)
     refine bodyPost_ret (results_row1 (g := g + 1) rfl rfl rfl x3 Tryz.underlying101 rfl (by kernel_rfl)) rfl ?_
     refine ⟨.inr ⟨cc, ?_, by rw [← Hccc.out]; exact Hcol.out j, rfl⟩, Below.drew hb8⟩
     unfold rootW
     rw [if_pos (by rw [Hpk.out]; exact Hroot.out), Hw.out]
     simp only
     rw [if_pos (by rw [← Hn.out]; exact Hj.out), Hfin.out, Hccc.out]
    ·have k6 : decide ((j : Int) < ((n - 1 : Nat) : Int)) = false := decide_eq_false (by omega)
     obtain ⟨Hw, Hv1, Hv2, Hb4, Hb45, Hb35, Hb5, Hy0, Hy1, Hy4, Hv1', Hv2', Hj⟩ := hd13 hw hv1 hv2 hb4 hb45 hb35 hb5 y0 y1 y4 hv1' hv2' hj; clear hw hv1 hv2 hb4 hb45 hb35 hb5 y0 y1 y4 hv1' hv2' hj
     go_upto_region 6 with (fail)
     rw [← hw5]
     clear hw5
     go_wp2_with fail
     have x0 := heap_setCell_same _ (g + 1) 0 _ _ (.string s.1) Hy1.out
     have x1 := heap_setCell_same _ (g + 1) 1 _ _ (.slice b1 n1 c1) x0
     have x2 := heap_setCell_same _ (g + 1) 2 _ _ (.slice b2 n2 c2) x1
     have x3 := heap_setCell_same _ (g + 1) 3 _ _ (.int .i64 ln) x2
     have hb8 := (((Hb5.out.setCell (p := ⟨g + 1, 0, none⟩) (by show w.heap.size ≤ g + 1; omega) (.string s.1)).setCell (p := ⟨g + 1, 1, none⟩) (by show w.heap.size ≤ g + 1; omega) (.slice b1 n1 c1)).setCell (p := ⟨g + 1, 2, none⟩) (by show w.heap.size ≤ g + 1; omega) (.slice b2 n2 c2)).setCell (p := ⟨g + 1, 3, none⟩) (by show w.heap.size ≤ g + 1; omega) (.int .i64 ln)
     have hT : Frm (fun k => k = g + 1) w5 ((((w5.setCell ⟨g + 1, 0, none⟩ (.string s.1)).setCell ⟨g + 1, 1, none⟩ (.slice b1 n1 c1)).setCell ⟨g + 1, 2, none⟩ (.slice b2 n2 c2)).setCell ⟨g + 1, 3, none⟩ (.int .i64 ln)) := frm_cell (frm_cell (frm_cell (frm_cell (Frm.refl _ _) 0 _) 1 _) 2 _) 3 _
     have hno : No2 w5 (fun k => k = g + 1) := by
      rintro k rfl
      exact no2_of Hy1.out (by decide) (by decide)
     refine bodyPost_ret (results_row1 (g := g + 1) rfl rfl rfl x3 Tryz.underlying101 rfl (by kernel_rfl)) rfl ?_
     refine ⟨.inl ⟨s, 0, b1, n1, c1, b2, n2, c2, ?_, rfl, sps_other Hv1'.out hT hno, sets_other Hv2'.out hT hno⟩, hb8⟩
     unfold rootW
     rw [if_pos (by rw [Hpk.out]; exact Hroot.out), Hw.out]
     simp only
     rw [if_neg (by rw [← Hn.out]; exact Hj.out)]
   ·obtain ⟨w5, hw5⟩ : ∃ W, W = w4.alloc (.cells #[.string ⟨#[]⟩, .slice none 0 0, .slice none 0 0] 51) := ⟨_, rfl⟩
    have hb45 : Below w4.heap.size w4 w5 := by rw [hw5]; exact below_alloc1 _ _
    have hb35 := hb4.trans (hb45.mono hb4.size)
    have hb5 := Hb3.out.trans (hb35.mono Hb3.out.size)
    have y1 := heap_below hb35 Hr1.out
    obtain ⟨_, z0, z1, z2, z3⟩ := root_cells y1
    obtain ⟨cc, hcc⟩ : ∃ z, z = colAt (ws.drop 1) (xc + xt.size) j := ⟨_, rfl⟩
    rw [← hcc]
    have hcn : cc ≠ 0 := by rw [hcc]; exact Hcol.out j
    have k6 : (cc != 0) = true := by simpa using hcn
    obtain ⟨Hw, Hb4, Hb45, Hb35, Hb5, Hy1, Hcc, Hcn⟩ := hd8 hw hb4 hb45 hb35 hb5 y1 hcc hcn; clear hw hb4 hb45 hb35 hb5 y1 hcc hcn
    go_upto_region 6 with (fail)
    rw [← hw5]
    clear hw5
    go_wp2_with fail
    have x0 := heap_setCell_same _ (g + 1) 0 _ _ (.string ⟨#[]⟩) Hy1.out
    have x1 := heap_setCell_same _ (g + 1) 1 _ _ (.slice none 0 0) x0
    have x2 := heap_setCell_same _ (g + 1) 2 _ _ (.slice none 0 0) x1
    have x3 := heap_setCell_same _ (g + 1) 3 _ _ (.int .i64 0) x2
    have hb8 := (((Hb5.out.setCell (p := ⟨g + 1, 0, none⟩) (by show w.heap.size ≤ g + 1; omega) (.string ⟨#[]⟩)).setCell (p := ⟨g + 1, 1, none⟩) (by show w.heap.size ≤ g + 1; omega) (.slice none 0 0)).setCell (p := ⟨g + 1, 2, none⟩) (by show w.heap.size ≤ g + 1; omega) (.slice none 0 0)).setCell (p := ⟨g + 1, 3, none⟩) (by show w.heap.size ≤ g + 1; omega) (.int .i64 0)
    refine bodyPost_ret (results_row1 (g := g + 1) rfl rfl rfl x3 Tryz.underlying101 rfl (by kernel_rfl)) rfl ?_
    refine ⟨.inr ⟨cc, ?_, Hcn.out, rfl⟩, hb8⟩
    unfold rootW
    rw [if_pos (by rw [Hpk.out]; exact Hroot.out), Hw.out]
    simp only
    rw [Hfin.out, Hcc.out]
 ·have k5 : (yt.toList == [114, 111, 111, 116]) = false := by rw [heq, decide_eq_false hroot]
  clear heq
  have Hroot := hd hroot; clear hroot
  go_enter Tryz.func71, Tryz.ntmps71
  go_upto_region 1 with (fail)
  rw [← hW2, ← hg]
  clear hW2 hg
  go_upto_region 2 with (fail)
  rw [← hW3]
  clear hW3 hs2 l0 l1 d0 d1
  go_wp2_with fail
  go_region
  go_wp2_with fail
  have x0 := heap_setCell_same _ (g + 1) 0 _ _ (.string ⟨#[]⟩) Hr1.out
  have x1 := heap_setCell_same _ (g + 1) 1 _ _ (.slice none 0 0) x0
  have x2 := heap_setCell_same _ (g + 1) 2 _ _ (.slice none 0 0) x1
  have x3 := heap_setCell_same _ (g + 1) 3 _ _ (.int .i64 0) x2
  have hb8 := (((Hb3.out.setCell (p := ⟨g + 1, 0, none⟩) (by show w.heap.size ≤ g + 1; omega) (.string ⟨#[]⟩)).setCell (p := ⟨g + 1, 1, none⟩) (by show w.heap.size ≤ g + 1; omega) (.slice none 0 0)).setCell (p := ⟨g + 1, 2, none⟩) (by show w.heap.size ≤ g + 1; omega) (.slice none 0 0)).setCell (p := ⟨g + 1, 3, none⟩) (by show w.heap.size ≤ g + 1; omega) (.int .i64 0)
  refine bodyPost_ret (results_row1 (g := g + 1) rfl rfl rfl x3 Tryz.underlying101 rfl (by kernel_rfl)) rfl ?_
  refine ⟨.inr ⟨yc, ?_, by omega, rfl⟩, Below.drew hb8⟩
  unfold rootW
  rw [if_neg (by rw [Hpk.out]; exact Hroot.out), Hcl0.out]
end Go.Proofs.YteailgjiifdgcaaGreatDoor

/- The walks of the lexer: ends, breaks, begins, takes. Condition: nothing is great. -/
namespace Go.Proofs.YteailgjiifdgcaaGreatDoor
open Go.RowKit
open LexM (Bs Wd Ln St)

theorem ofNat_toNat (c : UInt8) : UInt8.ofNat ((c.toNat : Int)).toNat = c := by simp
theorem strOf (s : Bs) : strOfNums (s.map fun c => ((c.toNat : Int))) = ⟨s.toArray⟩ := by
 unfold strOfNums
 congr 2
 rw [List.map_map]
 conv => rhs; rw [← List.map_id s]
 apply List.map_congr_left
 intro c _
 simp
theorem conv_bytes {w : World} {B : Nat} {v : Value} {s : Bs} (h : w.ownsRow B 5 1 v s.length (byVals s)) (hs : s ≠ []) : (convert 142 9 v).run Tryz.prog w = .ok (bv s) w := by
 have hpos := List.length_pos_iff.2 hs
 obtain ⟨g, cap, rfl, _, _, hn, hm, hc⟩ := ownsRow_some h hpos
 have := run_convert_bytes_arg (P := Tryz.prog) (w := w) 142 5 Tryz.underlying142 Tryz.underlying5 g 0 s.length cap (s.map fun c => ((c.toNat : Int))) (by simp) (fun i hi => by
  have h1 : (byVals s)[i]? = some (.int .u8 (s[i].toNat : Int)) := by simp [byVals, hi]
  rw [Nat.zero_add, hc i _ h1]
  simp [List.getD, hi]) 9 Tryz.underlying9
 rw [this, strOf]

theorem LexSt.setEnds {w0 w : World} {x : Nat} {s : St} {wv sv ov : Value} {rv : List Value} (h : LexSt w0 x s wv sv ov rv w) :
  LexSt w0 x { s with frm := 0, word := [] } (.slice none 0 0) sv ov rv ((w.setCell ⟨x, 2, none⟩ (.int .i64 0)).setCell ⟨x, 4, none⟩ (.slice none 0 0)) := by
 have f1 : Frm (fun k => k = x) w (w.setCell ⟨x, 2, none⟩ (.int .i64 0)) := Frm.setCell (S := fun k => k = x) (Frm.refl _ _) (p := ⟨x, 2, none⟩) (.inr rfl) _
 have f2 := Frm.setCell f1 (p := ⟨x, 4, none⟩) (.inr rfl) (.slice none 0 0)
 refine h.to f2 ?_ (.inr ⟨rfl, rfl⟩) (.inl ⟨rfl, rfl⟩) rfl
 have h1 := heap_setCell_same w x 2 _ _ (.int .i64 0) h.cells
 rw [heap_setCell_same _ x 4 _ _ (.slice none 0 0) h1]
 rfl

abbrev lexp (x : Nat) : Value := .pointer (some ⟨x, 0, none⟩)
def LexDone (w0 : World) (x : Nat) (s : St) (e : Ending) (w' : World) : Prop := e = .returned (.tuple #[]) ∧ ∃ wv sv ov rv, LexSt w0 x s wv sv ov rv w'

theorem lexdone {w0 w : World} {x : Nat} {s s' : St} {wv sv ov : Value} {rv : List Value} (h : LexSt w0 x s' wv sv ov rv w) (e : s' = s) : LexDone w0 x s (.returned (.tuple #[])) w := ⟨rfl, wv, sv, ov, rv, e ▸ h⟩

set_option maxHeartbeats 1000000 in
theorem ends_some {w0 w : World} {x : Nat} {s : St} {wv sv ov : Value} {rv : List Value} (h : LexSt w0 x s wv sv ov rv w) {m : Nat} (hm : m ≤ 1000000) (hs : Small s m) (hf : 0 < s.frm) :
  Calls Tryz.prog 176 #[lexp x] w (LexDone w0 x (LexM.ends s)) := by
 have hne := hs.begun hf
 have hwl := hs.words
 have hB := h.bel.size
 have hcv : (convert 142 9 wv).run Tryz.prog w.drew = .ok (bv s.word) w.drew := conv_bytes (w := w.drew) h.word hne
 have hnx := apart_block h.words h.cells (by decide)
 have c2 := cells_at h.cells 2
 have c4 := cells_at h.cells 4
 have c5 := cells_at h.cells 5
 simp only [lexCells, List.getElem?_toArray, List.getElem?_cons_succ, List.getElem?_cons_zero] at c2 c4 c5
 have a5 : ∀ o : Obj, (w.alloc o).cell? ⟨x, 5, none⟩ = some sv := fun o => ((Frm.refl _ w).alloc o).keep c5
 have hwd : (w.drew).ownsRow w0.heap.size 64 2 sv s.words.length (s.words.flatMap wdCells) := h.words
 have hBd : w0.heap.size ≤ w.drew.heap.size := hB
 obtain ⟨Hh, Hwd, Hnx, Hs⟩ := hd4 h hwd hnx hs; clear h hwd hnx hs
 go_enter Tryz.func176, Tryz.ntmps176
 go_wp2_with fail
 go_region_law (refine step_append_some elem_word (w := w.drew) rfl (.tmp 11) (.tmp 22) rfl w0.heap.size sv s.words.length (s.words.flatMap wdCells) rfl Hwd.out 1 (by decide) #[.int .i64 s.frm, bv s.word] rfl rfl (by simp [Value.oneCell', bv]) (by omega) (by unfold maxLen; omega) hBd ?_; intro g8 c8 w8 hown8 hg8 hm8; have hc8 := heap_to Hh.out.cells ((Frm.drew (Frm.refl _ w)).grown hg8 (S := fun k => sv.ownBlock = some k) (fun k hk => .inr hk)) Hnx.out; have d5 := cells_at hc8 5; have e5 := frozen_at hc8 5; simp only [lexCells, List.getElem?_toArray, List.getElem?_cons_succ, List.getElem?_cons_zero] at d5)
 all_goals
  have hP := Hh.out.pushWord (s.frm, s.word) hown8 (grown_drew hg8) (fun k hk => hm8 k hk)
  obtain ⟨w9, hw9⟩ : ∃ w9, w9 = w8.setCell ⟨x, 5, none⟩ (.slice (some ⟨g8, 0, none⟩) (s.words.length + 1) c8) := ⟨_, rfl⟩
  rw [← hw9] at hP ⊢
  have z2 := frozen_at hP.cells 2
  have z4 := frozen_at hP.cells 4
  have y2 := cells_at hP.cells 2
  have y4 := cells_at hP.cells 4
  simp only [lexCells, List.getElem?_toArray, List.getElem?_cons_succ, List.getElem?_cons_zero] at y2 y4
  have hL := hP.setEnds
  obtain ⟨HP, HL⟩ := hd2 hP hL; clear hP hL
  clear hown8 hg8 hm8 hc8 d5 e5 hw9 c2 c4 c5 a5 hcv
  go_wp2_with fail
  go_end0
  exact lexdone HL.out (by unfold LexM.ends; rw [if_pos hf])

set_option maxHeartbeats 400000 in
theorem ends_none {w0 w : World} {x : Nat} {s : St} {wv sv ov : Value} {rv : List Value} (h : LexSt w0 x s wv sv ov rv w) (hf : ¬ 0 < s.frm) :
  Calls Tryz.prog 176 #[lexp x] w (LexDone w0 x (LexM.ends s)) := by
 have z2 := frozen_at h.cells 2
 have z4 := frozen_at h.cells 4
 have y2 := cells_at h.cells 2
 have y4 := cells_at h.cells 4
 simp only [lexCells, List.getElem?_toArray, List.getElem?_cons_succ, List.getElem?_cons_zero] at y2 y4
 have hL := h.setEnds
 obtain ⟨Hh, HL⟩ := hd2 h hL; clear h hL
 go_enter Tryz.func176, Tryz.ntmps176
 go_wp2_with fail
 go_end0
 exact lexdone HL.out (by unfold LexM.ends; rw [if_neg (by omega)])
theorem ends_any {w0 w : World} {x : Nat} {s : St} {wv sv ov : Value} {rv : List Value} (h : LexSt w0 x s wv sv ov rv w) {m : Nat} (hm : m ≤ 1000000) (hs : Small s m) :
  Calls Tryz.prog 176 #[lexp x] w (LexDone w0 x (LexM.ends s)) := by
 by_cases hf : 0 < s.frm
 ·exact ends_some h hm hs hf
 ·exact ends_none h hf
end Go.Proofs.YteailgjiifdgcaaGreatDoor

/- The walks of the lexer: breaks. Condition: nothing is great. -/
namespace Go.Proofs.YteailgjiifdgcaaGreatDoor
open Go.RowKit
open LexM (Bs Wd Ln St)

theorem ends_len (s : St) (m : Nat) (h : s.words.length ≤ m) : (LexM.ends s).words.length ≤ m + 1 := by
 unfold LexM.ends
 dsimp only
 split <;> (try simp) <;> omega
set_option maxHeartbeats 1000000 in
theorem breaks_some {w0 w : World} {x : Nat} {s : St} {wv sv ov : Value} {rv : List Value} (h : LexSt w0 x s wv sv ov rv w) {m : Nat} (hm : m ≤ 1000000) (hs : Small s m) (hw : (LexM.ends s).words ≠ []) :
  Calls Tryz.prog 127 #[lexp x] w (LexDone w0 x (LexM.breaks s)) := by
 have HE := Lib.hid (ends_any h hm hs)
 have hso := hs.out
 have hsl := hs.line
 have hlen := ends_len s m hs.words
 have hpos := List.length_pos_iff.2 hw
 obtain ⟨Hh, Hs, Hw⟩ := hd3 h hs hw; clear h hs hw
 go_enter Tryz.func127, Tryz.ntmps127
 go_wp2_with fail
 refine HE.out.mono ?_
 rintro e w1 ⟨rfl, wv1, sv1, ov1, rv1, h1⟩
 have hB := h1.bel.size
 have hnx := apart_block h1.out h1.cells (by decide)
 obtain ⟨sa, sc, rfl⟩ := own_shape h1.words
 have c0 := cells_at h1.cells 0
 have c5 := cells_at h1.cells 5
 have c6 := cells_at h1.cells 6
 simp only [lexCells, LexM.ends, List.getElem?_toArray, List.getElem?_cons_succ, List.getElem?_cons_zero] at c0 c5 c6
 obtain ⟨ws, hws⟩ : ∃ ws, ws = (LexM.ends s).words := ⟨_, rfl⟩
 have c5' : w1.cell? ⟨x, 5, none⟩ = some (.slice sa ws.length sc) := by rw [hws]; exact c5
 rw [← hws] at hpos hlen
 have a6 : ∀ o : Obj, (w1.alloc o).cell? ⟨x, 6, none⟩ = some ov1 := fun o => ((Frm.refl _ w1).alloc o).keep c6
 have hwd : (w1.drew).ownsRow w0.heap.size 62 2 ov1 s.out.length (lnCells s.out rv1) := h1.out
 have hBd : w0.heap.size ≤ w1.drew.heap.size := hB
 obtain ⟨H1, Hwd, Hnx, Hws⟩ := hd4 h1 hwd hnx hws; clear h1 hwd hnx hws
 clear c5
 go_wp2_with fail
 go_region_law (refine step_append_some elem_line (w := w1.drew) rfl (.tmp 14) (.tmp 24) rfl w0.heap.size ov1 s.out.length (lnCells s.out rv1) rfl Hwd.out 1 (by decide) #[.int .i64 s.line, .slice sa ws.length sc] rfl rfl (by simp [Value.oneCell']) (by omega) (by unfold maxLen; omega) hBd ?_; intro g8 c8 w8 hown8 hg8 hm8; have hc8 := heap_to H1.out.cells ((Frm.drew (Frm.refl _ w1)).grown hg8 (S := fun k => ov1.ownBlock = some k) (fun k hk => .inr hk)) Hnx.out; have d6 := cells_at hc8 6; have e6 := frozen_at hc8 6; simp only [lexCells, LexM.ends, List.getElem?_toArray, List.getElem?_cons_succ, List.getElem?_cons_zero] at d6)
 all_goals
  have d0 := cells_at hc8 0
  have d1 := cells_at hc8 1
  have d3 := cells_at hc8 3
  have d5 := cells_at hc8 5
  have e0 := frozen_at hc8 0
  have e1 := frozen_at hc8 1
  have e3 := frozen_at hc8 3
  have e5 := frozen_at hc8 5
  simp only [lexCells, LexM.ends, List.getElem?_toArray, List.getElem?_cons_succ, List.getElem?_cons_zero] at d0 d1 d3 d5
  have hcells := hc8
  have hl1 : -9223372036854775808 ≤ s.line + 1 ∧ s.line + 1 ≤ 9223372036854775807 := by omega
  obtain ⟨Hown8, Hg8, Hcells⟩ := hd3 hown8 hg8 hcells; clear hown8 hg8 hcells
  clear hm8 hc8 c0 c5' c6 a6
  go_wp2_with fail
  go_end0
  have hS : LexM.breaks s = { (LexM.ends s) with out := s.out ++ [(s.line, (LexM.ends s).words)], words := [], off := false, line := s.line + 1, col := 0 } := by
   unfold LexM.breaks
   rw [if_neg Hw.out]
  refine lexdone (H1.out.pushLine (s' := LexM.breaks s) (by have := Hown8.out; rw [Hws.out] at this; exact this) (grown_drew Hg8.out) ?_ ?_ ?_ ?_ ?_) rfl
  ·exact frm_cell (frm_cell (frm_cell (frm_cell (frm_cell (Frm.refl _ w8) 6 _) 5 _) 3 _) 0 _) 1 _
  ·rw [hS]
   have k0 := heap_setCell_same _ x 6 _ _ (.slice (some ⟨g8, 0, none⟩) (s.out.length + 1) c8) Hcells.out
   have k1 := heap_setCell_same _ x 5 _ _ (.slice none 0 0) k0
   have k2 := heap_setCell_same _ x 3 _ _ (.bool false) k1
   have k3 := heap_setCell_same _ x 0 _ _ (.int .i64 (s.line + 1)) k2
   have k4 := heap_setCell_same _ x 1 _ _ (.int .i64 0) k3
   rw [k4]
   rfl
  ·rw [hS]
  ·rw [hS]
  ·rw [hS]; rfl

set_option maxHeartbeats 1000000 in
theorem breaks_none {w0 w : World} {x : Nat} {s : St} {wv sv ov : Value} {rv : List Value} (h : LexSt w0 x s wv sv ov rv w) {m : Nat} (hm : m ≤ 1000000) (hs : Small s m) (hw : (LexM.ends s).words = []) :
  Calls Tryz.prog 127 #[lexp x] w (LexDone w0 x (LexM.breaks s)) := by
 have HE := Lib.hid (ends_any h hm hs)
 have hsl := hs.line
 obtain ⟨Hh, Hs, Hw⟩ := hd3 h hs hw; clear h hs hw
 go_enter Tryz.func127, Tryz.ntmps127
 go_wp2_with fail
 refine HE.out.mono ?_
 rintro e w1 ⟨rfl, wv1, sv1, ov1, rv1, h1⟩
 obtain ⟨sa, sc, rfl⟩ := own_shape h1.words
 have hcells := h1.cells
 rw [Hw.out] at hcells
 have d0 := cells_at hcells 0
 have d1 := cells_at hcells 1
 have d3 := cells_at hcells 3
 have d5 := cells_at hcells 5
 have e0 := frozen_at hcells 0
 have e1 := frozen_at hcells 1
 have e3 := frozen_at hcells 3
 have e5 := frozen_at hcells 5
 simp only [lexCells, LexM.ends, List.getElem?_toArray, List.getElem?_cons_succ, List.getElem?_cons_zero, List.length_nil] at d0 d1 d3 d5
 have hl1 : -9223372036854775808 ≤ s.line + 1 ∧ s.line + 1 ≤ 9223372036854775807 := by omega
 obtain ⟨H1, Hcells⟩ := hd2 h1 hcells; clear h1 hcells
 go_wp2_with fail
 go_end0
 have hS : LexM.breaks s = { (LexM.ends s) with out := s.out, words := [], off := false, line := s.line + 1, col := 0 } := by
  unfold LexM.breaks
  rw [if_pos Hw.out]
 refine lexdone (H1.out.to (s' := LexM.breaks s) (wv' := wv1) (sv' := .slice none 0 0) ?_ ?_ (.inl ⟨rfl, ?_⟩) (.inr ⟨rfl, ?_⟩) ?_) rfl
 ·exact frm_cell (frm_cell (frm_cell (frm_cell (Frm.refl _ w1) 5 _) 3 _) 0 _) 1 _
 ·rw [hS]
  have k1 := heap_setCell_same _ x 5 _ _ (.slice none 0 0) Hcells.out
  have k2 := heap_setCell_same _ x 3 _ _ (.bool false) k1
  have k3 := heap_setCell_same _ x 0 _ _ (.int .i64 (s.line + 1)) k2
  have k4 := heap_setCell_same _ x 1 _ _ (.int .i64 0) k3
  rw [k4]
  rfl
 ·rw [hS]
 ·rw [hS]
 ·rw [hS]; rfl
theorem breaks_any {w0 w : World} {x : Nat} {s : St} {wv sv ov : Value} {rv : List Value} (h : LexSt w0 x s wv sv ov rv w) {m : Nat} (hm : m ≤ 1000000) (hs : Small s m) :
  Calls Tryz.prog 127 #[lexp x] w (LexDone w0 x (LexM.breaks s)) := by
 by_cases hw : (LexM.ends s).words = []
 ·exact breaks_none h hm hs hw
 ·exact breaks_some h hm hs hw
end Go.Proofs.YteailgjiifdgcaaGreatDoor

/- The walks of the lexer: begins, takes. Condition: nothing is great. -/
namespace Go.Proofs.YteailgjiifdgcaaGreatDoor
open Go.RowKit
open LexM (Bs Wd Ln St)

def LexTold (w0 : World) (x : Nat) (s : St) (v : Value) (e : Ending) (w' : World) : Prop := e = .returned v ∧ ∃ wv sv ov rv, LexSt w0 x s wv sv ov rv w'
theorem lextold {w0 w : World} {x : Nat} {s s' : St} {wv sv ov v v' : Value} {rv : List Value} (h : LexSt w0 x s' wv sv ov rv w) (e : s' = s) (hv : v' = v) : LexTold w0 x s v (.returned v') w := ⟨by rw [hv], wv, sv, ov, rv, e ▸ h⟩
theorem LexSt.scal {w0 w : World} {x : Nat} {s : St} {wv sv ov : Value} {rv : List Value} (h : LexSt w0 x s wv sv ov rv w) (i : Nat) (u : Value) (s' : St) (hc : ((lexCells s wv sv ov).setIfInBounds i u) = lexCells s' wv sv ov) (h1 : s'.word = s.word) (h2 : s'.words = s.words) (h3 : s'.out = s.out) :
  LexSt w0 x s' wv sv ov rv (w.setCell ⟨x, i, none⟩ u) := by
 refine h.to (Frm.setCell (S := fun k => k = x) (Frm.refl _ _) (p := ⟨x, i, none⟩) (.inr rfl) _) ?_ (.inl ⟨rfl, h1⟩) (.inl ⟨rfl, h2⟩) h3
 rw [heap_setCell_same w x i _ _ u h.cells, hc]

set_option maxHeartbeats 1000000 in
theorem begins_any {w0 w : World} {x : Nat} {s : St} {wv sv ov : Value} {rv : List Value} (h : LexSt w0 x s wv sv ov rv w) (hf : ¬ 0 < s.frm) :
  Calls Tryz.prog 177 #[lexp x] w (LexTold w0 x { s with frm := s.col } (.bool (LexM.mayBegin s))) := by
 obtain ⟨sa, sc, rfl⟩ := own_shape h.words
 obtain ⟨oa, oc, rfl⟩ := own_shape h.out
 have d1 := cells_at h.cells 1
 have d2 := cells_at h.cells 2
 have d5 := cells_at h.cells 5
 have d6 := cells_at h.cells 6
 have e2 := frozen_at h.cells 2
 simp only [lexCells, List.getElem?_toArray, List.getElem?_cons_succ, List.getElem?_cons_zero] at d1 d2 d5 d6
 have hL := h.scal 2 (.int .i64 s.col) { s with frm := s.col } rfl rfl rfl rfl
 obtain ⟨Hh, HL⟩ := hd2 h hL; clear h hL
 by_cases h1 : s.words.length < 40
 ·by_cases h2 : 0 < s.words.length
  ·have hb : LexM.mayBegin s = true := by unfold LexM.mayBegin; simp [h1, h2]
   have Hb := hd hb; clear hb
   go_enter Tryz.func177, Tryz.ntmps177
   go_wp2_with fail
   go_ret
   exact lextold HL.out rfl (by rw [Hb.out]; rfl)
  ·by_cases h3 : s.out.length < 2000
   ·have hb : LexM.mayBegin s = true := by unfold LexM.mayBegin; simp [h1, h3]
    have Hb := hd hb; clear hb
    go_enter Tryz.func177, Tryz.ntmps177
    go_wp2_with fail
    go_ret
    exact lextold HL.out rfl (by rw [Hb.out]; exact congrArg Value.bool (decide_eq_true (by omega)))
   ·have hb : LexM.mayBegin s = false := by unfold LexM.mayBegin; simp [h2, h3]
    have Hb := hd hb; clear hb
    go_enter Tryz.func177, Tryz.ntmps177
    go_wp2_with fail
    go_ret
    exact lextold HL.out rfl (by rw [Hb.out]; exact congrArg Value.bool (decide_eq_false (by omega)))
 ·have hb : LexM.mayBegin s = false := by unfold LexM.mayBegin; simp [h1]
  have Hb := hd hb; clear hb
  go_enter Tryz.func177, Tryz.ntmps177
  go_wp2_with fail
  go_ret
  exact lextold HL.out rfl (by rw [Hb.out]; rfl)
set_option maxHeartbeats 400000 in
theorem begins_on {w0 w : World} {x : Nat} {s : St} {wv sv ov : Value} {rv : List Value} (h : LexSt w0 x s wv sv ov rv w) (hf : 0 < s.frm) :
  Calls Tryz.prog 177 #[lexp x] w (LexTold w0 x s (.bool true)) := by
 have d2 := cells_at h.cells 2
 simp only [lexCells, List.getElem?_toArray, List.getElem?_cons_succ, List.getElem?_cons_zero] at d2
 have Hh := hd h; clear h
 go_enter Tryz.func177, Tryz.ntmps177
 go_wp2_with fail
 go_ret
 exact lextold Hh.out rfl rfl

theorem small_on {s : St} {m : Nat} (h : Small s m) : Small (LexM.onward s) (m + 1) := by
 obtain ⟨a, b, c, d, e, f, g⟩ := h
 refine ⟨?_, ?_, ?_, ?_, ?_, ?_, g⟩ <;> simp only [LexM.onward] <;> omega
theorem LexSt.on {w0 w : World} {x : Nat} {s : St} {wv sv ov : Value} {rv : List Value} (h : LexSt w0 x s wv sv ov rv w) : LexSt w0 x (LexM.onward s) wv sv ov rv (w.setCell ⟨x, 1, none⟩ (.int .i64 (s.col + 1))) :=
 h.scal 1 (.int .i64 (s.col + 1)) (LexM.onward s) rfl rfl rfl rfl

def TakePost (w0 : World) (x : Nat) (s : St) (c : UInt8) : Ending → World → Prop := LexTold w0 x (LexM.takes s c).1 (.int .i64 (LexM.takes s c).2)

set_option maxHeartbeats 2000000 in
theorem takes_any {w0 w : World} {x : Nat} {s : St} {wv sv ov : Value} {rv : List Value} (h : LexSt w0 x s wv sv ov rv w) {m : Nat} (hm : m < 1000000) (hs : Small s m) (c : UInt8) :
  Calls Tryz.prog 126 #[lexp x, .int .u8 c.toNat] w (TakePost w0 x s c) := by
 have hcol := hs.col
 have hcl : c.toNat < 256 := c.toNat_lt
 have d1 := cells_at h.cells 1
 have e1 := frozen_at h.cells 1
 have h2 := h.on
 have hs2 := small_on hs
 obtain ⟨n, hn⟩ : ∃ n, n = c.toNat := ⟨_, rfl⟩
 rw [← hn] at hcl ⊢
 simp only [lexCells, List.getElem?_toArray, List.getElem?_cons_succ, List.getElem?_cons_zero] at d1
 obtain ⟨Hh, H2, Hs, Hs2, Hn⟩ := hd5 h h2 hs hs2 hn; clear h h2 hs hs2 hn
 by_cases h10 : n = 10
 ·have ht : LexM.takes s c = (LexM.breaks (LexM.onward s), 0) := by unfold LexM.takes; rw [if_pos (by rw [← Hn.out]; exact h10)]
  have b10 : ((n : Int) == 10) = true := by rw [beq_iff_eq]; omega
  have HB := Lib.hid (breaks_any H2.out (by omega) Hs2.out)
  unfold TakePost
  rw [ht]
  obtain ⟨Ht, H10⟩ := hd2 ht h10; clear ht h10
  go_enter Tryz.func126, Tryz.ntmps126
  go_wp2_with fail
  refine HB.out.mono ?_
  rintro e w1 ⟨rfl, wv1, sv1, ov1, rv1, h1⟩
  have H1 := hd h1; clear h1
  go_wp2_with fail
  go_ret
  exact lextold H1.out rfl rfl
 ·have c10 : ¬ c.toNat = 10 := by rw [← Hn.out]; exact h10
  have b10 : ((n : Int) == 10) = false := by rw [beq_eq_false_iff_ne]; omega
  by_cases hA : n < 32 ∨ 126 < n
  ·have ht : LexM.takes s c = (LexM.onward s, 3) := by unfold LexM.takes; rw [if_neg c10, if_pos (by rw [← Hn.out]; exact hA)]
   unfold TakePost
   rw [ht]
   clear ht h10 c10
   by_cases h32 : n < 32
   ·clear hA
    go_enter Tryz.func126, Tryz.ntmps126
    go_wp2_with fail
    go_ret
    exact lextold H2.out rfl rfl
   ·have h126 : 126 < n := by omega
    clear hA
    go_enter Tryz.func126, Tryz.ntmps126
    go_wp2_with fail
    go_ret
    exact lextold H2.out rfl rfl
  ·have hlo : 32 ≤ n := by omega
   have hhi : n ≤ 126 := by omega
   have cA : ¬ (c.toNat < 32 ∨ 126 < c.toNat) := by rw [← Hn.out]; exact hA
   have d3 := cells_at Hh.out.cells 3
   simp only [lexCells, List.getElem?_toArray, List.getElem?_cons_succ, List.getElem?_cons_zero] at d3
   obtain ⟨off, hoff⟩ : ∃ off, off = s.off := ⟨_, rfl⟩
   rw [← hoff] at d3
   clear hA h10
   cases off
   ·have coff : ¬ s.off = true := by rw [← hoff]; simp
    clear hoff
    by_cases h35 : n = 35
    ·have ht : LexM.takes s c = ({ LexM.ends (LexM.onward s) with off := true }, 0) := by unfold LexM.takes; rw [if_neg c10, if_neg cA, if_neg coff, if_pos (by rw [← Hn.out]; exact h35)]
     have b35 : ((n : Int) == 35) = true := by rw [beq_iff_eq]; omega
     have HE := Lib.hid (ends_any H2.out (by omega) Hs2.out)
     unfold TakePost
     rw [ht]
     clear ht c10 cA coff h35
     go_enter Tryz.func126, Tryz.ntmps126
     go_wp2_with fail
     refine HE.out.mono ?_
     rintro e w1 ⟨rfl, wv1, sv1, ov1, rv1, h1⟩
     have e3 := cells_at h1.cells 3
     have f3 := frozen_at h1.cells 3
     simp only [lexCells, List.getElem?_toArray, List.getElem?_cons_succ, List.getElem?_cons_zero] at e3
     have hX := h1.scal 3 (.bool true) { LexM.ends (LexM.onward s) with off := true } rfl rfl rfl rfl
     obtain ⟨H1, HX⟩ := hd2 h1 hX; clear h1 hX
     go_wp2_with fail
     go_ret
     exact lextold HX.out rfl rfl
    ·have c35 : ¬ c.toNat = 35 := by rw [← Hn.out]; exact h35
     have b35 : ((n : Int) == 35) = false := by rw [beq_eq_false_iff_ne]; omega
     by_cases h32 : n = 32
     ·have ht : LexM.takes s c = (LexM.ends (LexM.onward s), 0) := by unfold LexM.takes; rw [if_neg c10, if_neg cA, if_neg coff, if_neg c35, if_pos (by rw [← Hn.out]; exact h32)]
      have b32 : ((n : Int) == 32) = true := by rw [beq_iff_eq]; omega
      have HE := Lib.hid (ends_any H2.out (by omega) Hs2.out)
      unfold TakePost
      rw [ht]
      clear ht c10 cA coff h35 c35 h32
      go_enter Tryz.func126, Tryz.ntmps126
      go_wp2_with fail
      refine HE.out.mono ?_
      rintro e w1 ⟨rfl, wv1, sv1, ov1, rv1, h1⟩
      have H1 := hd h1; clear h1
      go_wp2_with fail
      go_ret
      exact lextold H1.out rfl rfl
     ·have c32 : ¬ c.toNat = 32 := by rw [← Hn.out]; exact h32
      have b32 : ((n : Int) == 32) = false := by rw [beq_eq_false_iff_ne]; omega
      by_cases hfr : 0 < s.frm
      ·have ht : LexM.takes s c = ({ LexM.onward s with word := s.word ++ [c] }, 0) := by unfold LexM.takes; rw [if_neg c10, if_neg cA, if_neg coff, if_neg c35, if_neg c32, if_pos hfr]
       have HE := Lib.hid (begins_on H2.out (show 0 < (LexM.onward s).frm from hfr))
       have Ht := hd ht; clear ht
       clear c10 cA coff h35 c35 h32 c32 hfr
       go_enter Tryz.func126, Tryz.ntmps126
       go_wp2_with fail
       refine HE.out.mono ?_
       rintro e w1 ⟨rfl, wv1, sv1, ov1, rv1, h1⟩
       have e4 := cells_at h1.cells 4
       simp only [lexCells, List.getElem?_toArray, List.getElem?_cons_succ, List.getElem?_cons_zero] at e4
       have hB1 := h1.bel.size
       have hx1 := apart_block h1.word h1.cells (by decide)
       have how := h1.word
       have hwl : s.word.length ≤ m := Hs.out.word
       obtain ⟨H1, Hx1, How⟩ := hd3 h1 hx1 how; clear h1 hx1 how
       go_wp2_with (at_builtin; refine wpList_append_some elem_byte (w := w1) rfl (.tmp 16) (.tmp 18) rfl w0.heap.size wv1 s.word.length (byVals s.word) rfl How.out 1 (by decide) #[.int .u8 n] rfl rfl (by simp [Value.oneCell']) (by omega) (by unfold maxLen; omega) hB1 ?_)
       intro g8 c8 w8 hown8 hg8 hm8
       have hc8 := heap_to H1.out.cells ((Frm.refl _ w1).grown hg8 (S := fun k => wv1.ownBlock = some k) (fun k hk => .inr hk)) Hx1.out
       have k4 := cells_at hc8 4
       have f4 := frozen_at hc8 4
       simp only [lexCells, List.getElem?_toArray, List.getElem?_cons_succ, List.getElem?_cons_zero] at k4
       have hP := H1.out.pushByte c (by rw [← Hn.out]; exact hown8) hg8
       have HP := hd hP; clear hP
       clear hown8 hg8 hm8 hc8
       go_wp2_with fail
       go_ret
       exact lextold HP.out (by rw [Ht.out]; rfl) (by rw [Ht.out]; rfl)
      ·have HE := Lib.hid (begins_any H2.out (show ¬ 0 < (LexM.onward s).frm from hfr))
       by_cases hmb : LexM.mayBegin s = true
       ·have ht : LexM.takes s c = ({ LexM.onward s with frm := s.col + 1, word := s.word ++ [c] }, 0) := by unfold LexM.takes; rw [if_neg c10, if_neg cA, if_neg coff, if_neg c35, if_neg c32, if_neg hfr, if_pos hmb]
        have hmb2 : LexM.mayBegin (LexM.onward s) = true := hmb
        rw [hmb2] at HE
        have Ht := hd ht; clear ht
        clear c10 cA coff h35 c35 h32 c32 hfr hmb hmb2
        go_enter Tryz.func126, Tryz.ntmps126
        go_wp2_with fail
        refine HE.out.mono ?_
        rintro e w1 ⟨rfl, wv1, sv1, ov1, rv1, h1⟩
        have e4 := cells_at h1.cells 4
        simp only [lexCells, List.getElem?_toArray, List.getElem?_cons_succ, List.getElem?_cons_zero] at e4
        have hB1 := h1.bel.size
        have hx1 := apart_block h1.word h1.cells (by decide)
        have how := h1.word
        have hwl : s.word.length ≤ m := Hs.out.word
        obtain ⟨H1, Hx1, How⟩ := hd3 h1 hx1 how; clear h1 hx1 how
        go_wp2_with (at_builtin; refine wpList_append_some elem_byte (w := w1) rfl (.tmp 16) (.tmp 18) rfl w0.heap.size wv1 s.word.length (byVals s.word) rfl How.out 1 (by decide) #[.int .u8 n] rfl rfl (by simp [Value.oneCell']) (by omega) (by unfold maxLen; omega) hB1 ?_)
        intro g8 c8 w8 hown8 hg8 hm8
        have hc8 := heap_to H1.out.cells ((Frm.refl _ w1).grown hg8 (S := fun k => wv1.ownBlock = some k) (fun k hk => .inr hk)) Hx1.out
        have k4 := cells_at hc8 4
        have f4 := frozen_at hc8 4
        simp only [lexCells, List.getElem?_toArray, List.getElem?_cons_succ, List.getElem?_cons_zero] at k4
        have hP := H1.out.pushByte c (by rw [← Hn.out]; exact hown8) hg8
        have HP := hd hP; clear hP
        clear hown8 hg8 hm8 hc8
        go_wp2_with fail
        go_ret
        exact lextold HP.out (by rw [Ht.out]; rfl) (by rw [Ht.out]; rfl)
       ·have ht : LexM.takes s c = ({ LexM.onward s with frm := s.col + 1 }, 4) := by unfold LexM.takes; rw [if_neg c10, if_neg cA, if_neg coff, if_neg c35, if_neg c32, if_neg hfr, if_neg hmb]
        have hmb2 : LexM.mayBegin (LexM.onward s) = false := (by simpa using hmb : LexM.mayBegin s = false)
        rw [hmb2] at HE
        have Ht := hd ht; clear ht
        clear c10 cA coff h35 c35 h32 c32 hfr hmb hmb2
        go_enter Tryz.func126, Tryz.ntmps126
        go_wp2_with fail
        refine HE.out.mono ?_
        rintro e w1 ⟨rfl, wv1, sv1, ov1, rv1, h1⟩
        have H1 := hd h1; clear h1
        go_wp2_with fail
        go_ret
        exact lextold H1.out (by rw [Ht.out]; rfl) (by rw [Ht.out]; rfl)
   ·have coff : s.off = true := hoff.symm
    have ht : LexM.takes s c = (LexM.onward s, 0) := by unfold LexM.takes; rw [if_neg c10, if_neg cA, if_pos coff]
    unfold TakePost
    rw [ht]
    clear ht c10 cA coff hoff
    go_enter Tryz.func126, Tryz.ntmps126
    go_wp2_with fail
    go_ret
    exact lextold H2.out rfl rfl
end Go.Proofs.YteailgjiifdgcaaGreatDoor

/- The walk of lex.Lines: a text's lines, or the place and the error. No condition. -/
namespace Go.Proofs.YteailgjiifdgcaaGreatDoor
open Go.RowKit
open LexM (Bs Wd Ln St)

theorem small0 : Small LexM.st0 0 := ⟨by decide, by decide, by decide, by decide, by decide, by decide, by decide⟩
theorem ends_small {s : St} {m : Nat} (h : Small s m) : Small (LexM.ends s) (m + 1) := by
 obtain ⟨a, b, c, d, e, f, g⟩ := h
 refine ⟨?_, ?_, ?_, ?_, ?_, ?_, ?_⟩ <;> unfold LexM.ends <;> dsimp only
 ·omega
 ·omega
 ·omega
 ·simp
 ·split <;> (try simp) <;> omega
 ·omega
 ·intro h; exact absurd h (by decide)
theorem breaks_small {s : St} {m : Nat} (h : Small s m) : Small (LexM.breaks s) (m + 1) := by
 obtain ⟨a, b, c, d, e, f, g⟩ := h
 refine ⟨?_, ?_, ?_, ?_, ?_, ?_, ?_⟩ <;> unfold LexM.breaks LexM.ends <;> dsimp only
 ·omega
 ·omega
 ·omega
 ·simp
 ·simp
 ·(repeat' split) <;> (try simp) <;> omega
 ·intro h; exact absurd h (by decide)
theorem Small.mono {s : St} {m k : Nat} (h : Small s m) (hk : m ≤ k) : Small s k := by
 obtain ⟨a, b, c, d, e, f, g⟩ := h
 exact ⟨by omega, by omega, by omega, by omega, by omega, by omega, g⟩
theorem takes_small {s : St} {m : Nat} (h : Small s m) (c : UInt8) (h0 : (LexM.takes s c).2 = 0) : Small (LexM.takes s c).1 (m + 2) := by
 have h1 := small_on h
 unfold LexM.takes at h0 ⊢
 split
 ·exact breaks_small h1
 ·rename_i c10
  rw [if_neg c10] at h0
  split
  ·rename_i cA; rw [if_pos cA] at h0; cases h0
  ·rename_i cA
   rw [if_neg cA] at h0
   split
   ·exact h1.mono (by omega)
   ·rename_i co
    rw [if_neg co] at h0
    split
    ·obtain ⟨a, b, c, d, e, f, g⟩ := ends_small h1
     exact ⟨a, b, c, d, e, f, g⟩
    ·rename_i c35
     rw [if_neg c35] at h0
     split
     ·exact ends_small h1
     ·rename_i c32
      rw [if_neg c32] at h0
      have hw := h.word
      have hc := h.col
      obtain ⟨a, b, c, d, e, f, g⟩ := h1
      split
      ·exact ⟨by dsimp only; omega, by dsimp only; omega, by dsimp only; omega, by simp; omega, by dsimp only; omega, by dsimp only; omega, fun _ => by simp⟩
      ·rename_i cf
       rw [if_neg cf] at h0
       split
       ·refine ⟨by dsimp only; omega, by dsimp only; omega, by dsimp only; omega, by simp; omega, by dsimp only; omega, by dsimp only; omega, fun _ => by simp⟩
       ·rename_i cm
        rw [if_neg cm] at h0
        cases h0
theorem run_small (t : Bs) : ∀ (s : St) (m : Nat), Small s m → (LexM.run s t).2 = 0 → Small (LexM.run s t).1 (m + 2 * t.length) := by
 induction t with
 | nil => intro s m h _; exact h
 | cons c r ih =>
  intro s m h h0
  by_cases hz : (LexM.takes s c).2 = 0
  ·rw [LexM.run_ok hz] at h0 ⊢
   have := ih _ _ (takes_small h c hz) h0
   rw [List.length_cons]
   exact this.mono (by omega)
  ·rw [LexM.run_bad hz] at h0; exact absurd h0 hz
theorem run_snoc_ok (t : Bs) (c : UInt8) (s : St) (h : (LexM.run s t).2 = 0) : LexM.run s (t ++ [c]) = if (LexM.takes (LexM.run s t).1 c).2 = 0 then ((LexM.takes (LexM.run s t).1 c).1, 0) else LexM.takes (LexM.run s t).1 c := by
 rw [LexM.run_append, if_pos h]
 by_cases hz : (LexM.takes (LexM.run s t).1 c).2 = 0
 ·rw [LexM.run_ok hz, if_pos hz]; rfl
 ·rw [LexM.run_bad hz, if_neg hz]
theorem run_stop (t r : Bs) (s : St) (h : (LexM.run s t).2 ≠ 0) : LexM.run s (t ++ r) = LexM.run s t := by rw [LexM.run_append, if_neg h]

def WdOk (m : Nat) (x : Wd) : Prop := 0 ≤ x.1 ∧ x.1 ≤ m ∧ x.2.length ≤ m
def LnOk (m : Nat) (x : Ln) : Prop := 0 ≤ x.1 ∧ x.1 ≤ m + 1 ∧ ∀ wd ∈ x.2, WdOk m wd
structure Fine (s : St) (m : Nat) : Prop where
 words : ∀ wd ∈ s.words, WdOk m wd
 out : ∀ ln ∈ s.out, LnOk m ln
theorem WdOk.mono {m k : Nat} {x : Wd} (h : WdOk m x) (hk : m ≤ k) : WdOk k x := by obtain ⟨a, b, c⟩ := h; exact ⟨a, by omega, by omega⟩
theorem LnOk.mono {m k : Nat} {x : Ln} (h : LnOk m x) (hk : m ≤ k) : LnOk k x := by obtain ⟨a, b, c⟩ := h; exact ⟨a, by omega, fun wd hw => (c wd hw).mono hk⟩
theorem Fine.mono {s : St} {m k : Nat} (h : Fine s m) (hk : m ≤ k) : Fine s k := ⟨fun wd hw => (h.words wd hw).mono hk, fun ln hl => (h.out ln hl).mono hk⟩
theorem ends_fine {s : St} {m : Nat} (hs : Small s m) (h : Fine s m) : Fine (LexM.ends s) m := by
 refine ⟨?_, h.out⟩
 unfold LexM.ends
 dsimp only
 split
 ·intro wd hw
  rcases List.mem_append.1 hw with hw | hw
  ·exact h.words wd hw
  ·simp at hw
   subst hw
   exact ⟨hs.frm.1, hs.frm.2, hs.word⟩
 ·exact h.words
theorem breaks_fine {s : St} {m : Nat} (hs : Small s m) (h : Fine s m) : Fine (LexM.breaks s) m := by
 have h1 := ends_fine hs h
 unfold LexM.breaks
 refine ⟨by simp, ?_⟩
 dsimp only
 split
 ·exact h.out
 ·intro ln hl
  rcases List.mem_append.1 hl with hl | hl
  ·exact h.out ln hl
  ·simp at hl
   subst hl
   exact ⟨hs.line.1, hs.line.2, h1.words⟩
theorem takes_fine {s : St} {m : Nat} (hs : Small s m) (h : Fine s m) (c : UInt8) : Fine (LexM.takes s c).1 (m + 2) := by
 have h1 := small_on hs
 have h2 : Fine (LexM.onward s) (m + 1) := ⟨(h.mono (Nat.le_succ m)).words, (h.mono (Nat.le_succ m)).out⟩
 have h3 := (ends_fine h1 h2).mono (Nat.le_succ _)
 have h4 := h2.mono (Nat.le_succ (m + 1))
 unfold LexM.takes
 split
 ·exact (breaks_fine h1 h2).mono (Nat.le_succ _)
 ·split
  ·exact h4
  ·split
   ·exact h4
   ·split
    ·exact ⟨h3.words, h3.out⟩
    ·split
     ·exact h3
     ·split
      ·exact ⟨h4.words, h4.out⟩
      ·split
       ·exact ⟨h4.words, h4.out⟩
       ·exact ⟨h4.words, h4.out⟩
theorem run_fine (t : Bs) : ∀ (s : St) (m : Nat), Small s m → Fine s m → (LexM.run s t).2 = 0 → Fine (LexM.run s t).1 (m + 2 * t.length) := by
 induction t with
 | nil => intro s m _ h _; exact h
 | cons c r ih =>
  intro s m hs h h0
  by_cases hz : (LexM.takes s c).2 = 0
  ·rw [LexM.run_ok hz] at h0 ⊢
   have := ih _ _ (takes_small hs c hz) (takes_fine hs h c) h0
   rw [List.length_cons]
   exact this.mono (by omega)
  ·rw [LexM.run_bad hz] at h0; exact absurd h0 hz
theorem wf_small {n : Int} (h0 : 0 ≤ n) (h1 : n ≤ 9223372036854775807) : (Lit.int .i64 n).wf = true := by
 simp [Lit.wf, IntKind.min, IntKind.max, IntKind.signed, IntKind.bits]
 omega
theorem rword {w : World} {m : Nat} (hm : m ≤ 10000000) {x : Wd} (h : WdOk m x) : RWd w (wdCells x) x := by
 obtain ⟨a, b, c⟩ := h
 exact ⟨rfl, wf_small a (by omega), by unfold maxLen; omega⟩
theorem LexSt.reads {w0 w w' : World} {x : Nat} {s : St} {wv sv ov : Value} {rv : List Value} (h : LexSt w0 x s wv sv ov rv w) (hfr : Frm (fun k => k < w0.heap.size) w w') {m : Nat} (hm : m ≤ 10000000) (hf : Fine s m) : RLns w' [ov] s.out := by
 have hz : (lnCells s.out rv) = (s.out.zip rv).flatMap fun x => [.int .i64 x.1.1, x.2] := rfl
 have hlen : (s.out.zip rv).length = s.out.length := by simp [h.rlen]
 have h1 := hfr.owns h.out (fun k hk e => by have := (h.out.lt k hk).1; omega)
 rw [hz] at h1
 have h2 : RSlice 2 (fun w cs (y : Ln × Value) => RLn w cs y.1) w' [ov] (s.out.zip rv) := by
  refine rslice_of_owns (B := w0.heap.size) (e := 62) (fun x : Ln × Value => [.int .i64 x.1.1, x.2]) _ (fun _ _ => rfl) ?_ (by rw [hlen]; exact h1)
  intro y hy
  obtain ⟨i, hi, rfl⟩ := List.mem_iff_getElem.1 hy
  have hi1 : i < s.out.length := by omega
  have hi2 : i < rv.length := by rw [h.rlen]; exact hi1
  rw [List.getElem_zip]
  obtain ⟨r0, _⟩ := h.rows i s.out[i] rv[i] (List.getElem?_eq_getElem hi1) (List.getElem?_eq_getElem hi2)
  have r1 := hfr.owns r0 (fun k hk e => by have := (r0.lt k hk).1; omega)
  obtain ⟨a, b, c⟩ := hf.out _ (List.getElem_mem hi1)
  refine ⟨rv[i], rfl, rslice_of_owns wdCells RWd (fun _ _ => rfl) (fun wd hw => rword hm (c wd hw)) r1, wf_small (n := s.out[i].1) a (by omega)⟩
 obtain ⟨a, cap, hv, g1, g2, g3⟩ := h2
 rw [hlen] at hv g1
 refine ⟨a, cap, hv, g1, g2, fun i ln hi => ?_⟩
 have hi1 := (List.getElem?_eq_some_iff.1 hi).1
 have hi2 : i < rv.length := by rw [h.rlen]; exact hi1
 have hzi : (s.out.zip rv)[i]? = some (ln, rv[i]) := by
  rw [List.getElem?_zip_eq_some]
  exact ⟨hi, List.getElem?_eq_getElem hi2⟩
 exact g3 i _ hzi

def LinesPost (w : World) (r : LexM.Res) (e : Ending) (w' : World) : Prop := ∃ v, e = .returned (.tuple #[v, .agg #[.int .i64 r.at1, .int .i64 r.at2], .int .i64 r.e]) ∧ RLns w' [v] r.lines ∧ Below w.heap.size w w'

set_option maxHeartbeats 1000000 in
theorem lexLines_long (s : ByteArray) (hs : s.size ≤ 140737488351232) (w : World) (h : 65536 < s.size) : Calls Tryz.prog 70 #[.string s] w (LinesPost w (LexM.lines s.data.toList)) := by
 have hr : LexM.lines s.data.toList = ⟨[], 0, 0, 4⟩ := by unfold LexM.lines; rw [if_pos]; rw [Array.length_toList]; exact h
 rw [hr]
 clear hr
 go_enter Tryz.func70, Tryz.ntmps70
 go_wp2_with fail
 refine bodyPost_ret (v := .tuple #[.slice none 0 0, .agg #[.int .i64 0, .int .i64 0], .int .i64 4]) (by simp [results, Tryz.results70, go_sem]) rfl ⟨_, rfl, ⟨none, 0, rfl, Nat.le_refl _, Nat.zero_le _, fun i x hi => by simp at hi⟩, ?_⟩
 exact (Below.refl _ _).alloc (Nat.le_refl _) _

theorem LexSt.start (w1 : World) : LexSt w1 w1.heap.size LexM.st0 (.slice none 0 0) (.slice none 0 0) (.slice none 0 0) [] (w1.alloc (.cells (lexCells LexM.st0 (.slice none 0 0) (.slice none 0 0) (.slice none 0 0)) 182)) :=
 ⟨heap_alloc_new w1 _, World.ownsRow_nil _ _ _ _, World.ownsRow_nil _ _ _ _, World.ownsRow_nil _ _ _ _, rfl, fun i ln v hi => by simp [LexM.st0] at hi, (Below.refl _ _).alloc (Nat.le_refl _) _, Nat.le_refl _⟩
def LexGone (w1 : World) (x : Nat) (t : Bs) (k : Nat) (w : World) : Prop := (LexM.run LexM.st0 (t.take k)).2 = 0 ∧ ∃ wv sv ov rv, LexSt w1 x (LexM.run LexM.st0 (t.take k)).1 wv sv ov rv w

theorem byte_at (s : ByteArray) (k : Nat) (h : k < s.size) : s.data.toList.take (k + 1) = s.data.toList.take k ++ [s[k]] := by
 rw [List.take_add_one, List.getElem?_eq_getElem (by rw [Array.length_toList]; exact h)]
 rfl
set_option maxHeartbeats 2000000 in
theorem lexLines_short (s : ByteArray) (w : World) (h : s.size ≤ 65536) : Calls Tryz.prog 70 #[.string s] w (LinesPost w (LexM.lines s.data.toList)) := by
 have hlen : s.data.toList.length = s.size := by rw [Array.length_toList]; rfl
 have hr : LexM.lines s.data.toList = LexM.close (LexM.run LexM.st0 s.data.toList) := by unfold LexM.lines; rw [if_neg]; omega
 rw [hr]
 clear hr
 obtain ⟨t, ht⟩ : ∃ t, t = s.data.toList := ⟨_, rfl⟩
 rw [← ht] at hlen ⊢
 have h0 := LexSt.start (w.alloc (.cells #[.int .i64 0, .int .i64 0] 40))
 simp only [World.size_alloc] at h0
 have hg0 : LexGone (w.alloc (.cells #[.int .i64 0, .int .i64 0] 40)) (w.heap.size + 1) t 0 ((w.alloc (.cells #[.int .i64 0, .int .i64 0] 40)).alloc (.cells (lexCells LexM.st0 (.slice none 0 0) (.slice none 0 0) (.slice none 0 0)) 182)) := ⟨rfl, _, _, _, _, h0⟩
 obtain ⟨Ht, Hlen, Hg0⟩ := hd3 ht hlen hg0; clear ht hlen hg0
 clear h0
 go_enter Tryz.func70, Tryz.ntmps70
 go_wp2_with fail
 obtain ⟨w2, hw2⟩ : ∃ w2, w2 = ((w.alloc (.cells #[.int .i64 0, .int .i64 0] 40)).alloc (.cells (lexCells LexM.st0 (.slice none 0 0) (.slice none 0 0) (.slice none 0 0)) 182)) := ⟨_, rfl⟩
 rw [← hw2] at Hg0
 have hw3 := hw2
 simp only [lexCells, LexM.st0] at hw3
 rw [← hw3]
 clear hw2 hw3
 go_loopw [16] (fun i wr => ∃ k : Nat, k ≤ s.size ∧ i = .int .i64 k ∧ LexGone (w.alloc (.cells #[.int .i64 0, .int .i64 0] 40)) (w.heap.size + 1) t k wr) (fun i _ => s.size - (intOf i).toNat)
 case atStart => exact ⟨0, Nat.zero_le _, rfl, Hg0.out⟩
 case round =>
  obtain ⟨k, hk, rfl, hg⟩ := hrel
  obtain ⟨hz, wv, sv, ov, rv, hL⟩ := hg
  have hS := run_small (t.take k) LexM.st0 0 small0 hz
  have htl : (t.take k).length ≤ k := List.length_take_le _ _
  obtain ⟨st, hst⟩ : ∃ st, st = (LexM.run LexM.st0 (t.take k)).1 := ⟨_, rfl⟩
  rw [← hst] at hL hS
  by_cases hlt : k < s.size
  ·have hsn := byte_at s k hlt
   obtain ⟨Hz, HL, HS, Hst, Hsn⟩ := hd5 hz hL hS hst hsn; clear hz hL hS hst hsn
   go_wp2_with fail
   refine (takes_any HL.out (by omega) HS.out s[k]).mono ?_
   rintro e w3 ⟨rfl, wv3, sv3, ov3, rv3, h3⟩
   obtain ⟨er, her⟩ : ∃ er, er = (LexM.takes st s[k]).2 := ⟨_, rfl⟩
   have htk : LexM.run LexM.st0 (t.take (k + 1)) = if (LexM.takes st s[k]).2 = 0 then ((LexM.takes st s[k]).1, 0) else LexM.takes st s[k] := by
    rw [Ht.out, Hsn.out, ← Ht.out, run_snoc_ok _ _ _ Hz.out, ← Hst.out]
   rw [← her] at htk ⊢
   by_cases he : er = 0
   ·have hb : (er != 0) = false := by rw [he]; rfl
    rw [if_pos he] at htk
    have hg : LexGone (w.alloc (.cells #[.int .i64 0, .int .i64 0] 40)) (w.heap.size + 1) t (k + 1) w3 := ⟨by rw [htk], wv3, sv3, ov3, rv3, by rw [htk]; exact h3⟩
    obtain ⟨Hg, Htk, Her, He⟩ := hd4 hg htk her he; clear hg htk her he
    clear h3
    go_wp2_with fail
    go_roundw
    case rel => exact ⟨k + 1, by omega, by go_num, Hg.out⟩
    case measure => simp [intOf]; omega
   ·have hb : (er != 0) = true := by rw [bne_iff_ne]; exact he
    rw [if_neg he] at htk
    have hsplit : t = t.take (k + 1) ++ t.drop (k + 1) := (List.take_append_drop _ _).symm
    have hrun : LexM.run LexM.st0 t = LexM.takes st s[k] := by
     rw [hsplit, run_stop _ _ _ (by rw [htk]; rw [← her]; exact he), htk]
    have hcl : LexM.close (LexM.run LexM.st0 t) = ⟨[], (LexM.takes st s[k]).1.line, (LexM.takes st s[k]).1.col, er⟩ := by
     rw [hrun]; unfold LexM.close; rw [← her, if_neg he]
    have x0 := cells_at h3.cells 0
    have x1 := cells_at h3.cells 1
    simp only [lexCells, List.getElem?_toArray, List.getElem?_cons_succ, List.getElem?_cons_zero] at x0 x1
    obtain ⟨l3, hl3⟩ : ∃ l3, l3 = (LexM.takes st s[k]).1.line := ⟨_, rfl⟩
    obtain ⟨c3, hc3⟩ : ∃ c3, c3 = (LexM.takes st s[k]).1.col := ⟨_, rfl⟩
    rw [← hl3] at x0 hcl
    rw [← hc3] at x1 hcl
    have hblk : w3.heap[w.heap.size]? = some (.cells #[.int .i64 0, .int .i64 0] 40 (0, 0)) := by
     rw [h3.bel.block _ (by simp)]; exact heap_alloc_new w _
    have z0 := cells_at hblk 0
    have z1 := cells_at hblk 1
    have y0 := frozen_at hblk 0
    have y1 := frozen_at hblk 1
    simp only [List.getElem?_toArray, List.getElem?_cons_succ, List.getElem?_cons_zero] at z0 z1
    have hbel := h3.bel
    obtain ⟨Hbel, Htk, Her, He, Hrun, Hcl, Hsplit, Hl3, Hc3, H3⟩ := hd10 hbel htk her he hrun hcl hsplit hl3 hc3 h3; clear hbel htk her he hrun hcl hsplit hl3 hc3 h3
    clear hblk
    go_wp2_with fail
    go_region
    all_goals
     go_wp2_with fail
     refine bodyPost_ret (v := .tuple #[.slice none 0 0, .agg #[.int .i64 l3, .int .i64 c3], .int .i64 er]) (by simp [results, Tryz.results70, go_sem, z0, z1]) rfl ?_
     rw [Hcl.out]
     refine ⟨_, rfl, ⟨none, 0, rfl, Nat.le_refl _, Nat.zero_le _, fun i x hi => by simp at hi⟩, ?_⟩
     exact ((((Below.refl _ _).alloc (Nat.le_refl _) _).trans (Hbel.out.mono (by simp))).setCell (Nat.le_refl _) _).setCell (Nat.le_refl _) _ |>.drew
  ·obtain rfl : k = s.size := by omega
   have htake : t.take s.size = t := List.take_of_length_le (by have := Hlen.out; omega)
   have hF := run_fine (t.take s.size) LexM.st0 0 small0 ⟨by simp [LexM.st0], by simp [LexM.st0]⟩ hz
   rw [← hst] at hF
   have hcl : LexM.close (LexM.run LexM.st0 t) = ⟨(LexM.breaks st).out, 0, 0, 0⟩ := by
    rw [htake] at hz hst
    unfold LexM.close; rw [if_pos hz, ← hst]
   have hF2 := breaks_fine hS hF
   obtain ⟨Hz, HL, HS, Hst, Htake, Hcl, HF, HF2⟩ := hd8 hz hL hS hst htake hcl hF hF2; clear hz hL hS hst htake hcl hF hF2
   go_wp2_with fail
   refine (breaks_any HL.out (by omega) HS.out).mono ?_
   rintro e w3 ⟨rfl, wv3, sv3, ov3, rv3, h3⟩
   have x6 := cells_at h3.cells 6
   simp only [lexCells, List.getElem?_toArray, List.getElem?_cons_succ, List.getElem?_cons_zero] at x6
   have hblk : w3.heap[w.heap.size]? = some (.cells #[.int .i64 0, .int .i64 0] 40 (0, 0)) := by
    rw [h3.bel.block _ (by simp)]; exact heap_alloc_new w _
   have z0 := cells_at hblk 0
   have z1 := cells_at hblk 1
   have y0 := frozen_at hblk 0
   have y1 := frozen_at hblk 1
   simp only [List.getElem?_toArray, List.getElem?_cons_succ, List.getElem?_cons_zero] at z0 z1
   have hRd := h3.reads (w' := (w3.setCell ⟨w.heap.size, 0, none⟩ (.int .i64 0)).setCell ⟨w.heap.size, 1, none⟩ (.int .i64 0)) (Frm.setCell (Frm.setCell (Frm.refl _ _) (p := ⟨w.heap.size, 0, none⟩) (.inr (by simp)) _) (p := ⟨w.heap.size, 1, none⟩) (.inr (by simp)) _) (by omega) HF2.out
   have hbel := h3.bel
   obtain ⟨Hbel, HRd, H3⟩ := hd3 hbel hRd h3; clear hbel hRd h3
   clear hblk
   go_wp2_with fail
   refine bodyPost_ret (v := .tuple #[ov3, .agg #[.int .i64 0, .int .i64 0], .int .i64 0]) (by simp [results, Tryz.results70, go_sem, z0, z1]) rfl ?_
   rw [Hcl.out]
   refine ⟨_, rfl, ?_, ?_⟩
   ·exact HRd.out
   ·exact (((((Below.refl _ _).alloc (Nat.le_refl _) _).trans (Hbel.out.mono (by simp))).setCell (Nat.le_refl _) _).setCell (Nat.le_refl _) _)

theorem lexLines_any (s : ByteArray) (hs : s.size ≤ 140737488351232) (w : World) : Calls Tryz.prog 70 #[.string s] w (LinesPost w (LexM.lines s.data.toList)) := by
 by_cases h : 65536 < s.size
 ·exact lexLines_long s hs w h
 ·exact lexLines_short s w (by omega)
end Go.Proofs.YteailgjiifdgcaaGreatDoor

/- A slice's elements as lists of cells, and a row of such lists read as a slice. No condition. -/
namespace Go.Proofs.YteailgjiifdgcaaGreatDoor
open Go.RowKit

theorem flat_len' {k : Nat} : ∀ {css : List (List Value)}, (∀ cs ∈ css, cs.length = k) → css.flatten.length = css.length * k
 | [], _ => by simp
 | c :: css, h => by
  rw [List.flatten_cons, List.length_append, flat_len' (fun x hx => h x (by simp [hx])), h c (by simp), List.length_cons, Nat.succ_mul]; omega
theorem flat_get' {k : Nat} : ∀ {css : List (List Value)}, (∀ cs ∈ css, cs.length = k) → ∀ (i : Nat) (h : i < css.length) (j : Nat), j < k → css.flatten[i * k + j]? = css[i][j]?
 | [], _, i, h, _, _ => by simp at h
 | c :: css, hk, 0, _, j, hj => by
  rw [List.flatten_cons, Nat.zero_mul, Nat.zero_add, List.getElem?_append_left (by rw [hk c (by simp)]; exact hj)]; rfl
 | c :: css, hk, i + 1, h, j, hj => by
  have hc := hk c (by simp)
  rw [List.flatten_cons, List.getElem?_append_right (by rw [hc, Nat.succ_mul]; omega), hc, show (i + 1) * k + j - k = i * k + j by rw [Nat.succ_mul]; omega]
  rw [flat_get' (fun x hx => hk x (by simp [hx])) i (by simpa using h) j hj]; rfl
structure Cells {α : Type} (R : Rd α) (sz : Nat) (w : World) (a : Option Addr) (css : List (List Value)) (l : List α) : Prop where
 len : css.length = l.length
 sz : ∀ cs ∈ css, cs.length = sz
 rd : ∀ (i : Nat) cs x, css[i]? = some cs → l[i]? = some x → R w cs x
 at' : ∀ (j : Nat) u, css.flatten[j]? = some u → ∃ b off, a = some ⟨b, off, none⟩ ∧ w.cell? ⟨b, off + j, none⟩ = some u
theorem slice_cells {α : Type} {sz : Nat} {R : Rd α} {w : World} {a : Option Addr} {n cap : Nat} {l : List α} (hsz : 0 < sz) (h : RSlice sz R w [.slice a n cap] l) : ∃ css, Cells R sz w a css l := by
 obtain ⟨a', cap', hv, hcap, hmax, hel⟩ := h
 simp only [List.cons.injEq, and_true, Value.slice.injEq] at hv
 obtain ⟨rfl, rfl, rfl⟩ := hv
 have hex : ∀ i : Fin l.length, ∃ ecs : List Value, ecs.length = sz ∧ (∀ (j : Nat) u, ecs[j]? = some u → ∃ b off, a = some ⟨b, off, none⟩ ∧ w.cell? ⟨b, off + (i.1 * sz + j), none⟩ = some u) ∧ R w ecs l[i.1] := fun i => by
  obtain ⟨b, off, ecs, h1, h2, h3, h4⟩ := hel i.1 _ (List.getElem?_eq_getElem i.2)
  exact ⟨ecs, h2, fun j u hu => ⟨b, off, h1, by rw [← Nat.add_assoc]; exact h3 j u hu⟩, h4⟩
 have hk : ∀ cs ∈ List.ofFn fun i => Classical.choose (hex i), cs.length = sz := fun cs hcs => by
  obtain ⟨i, rfl⟩ := List.mem_ofFn.1 hcs
  exact (Classical.choose_spec (hex i)).1
 refine ⟨List.ofFn fun i => Classical.choose (hex i), by simp, hk, fun i cs x hcs hx => ?_, fun t u hu => ?_⟩
 ·have hi := (List.getElem?_eq_some_iff.1 hx).1
  have hlx := (List.getElem?_eq_some_iff.1 hx).2
  rw [List.getElem?_eq_getElem (by simpa using hi), List.getElem_ofFn] at hcs
  cases hcs
  have := (Classical.choose_spec (hex ⟨i, hi⟩)).2.2
  rw [← hlx]; exact this
 ·have ht := (List.getElem?_eq_some_iff.1 hu).1
  rw [flat_len' hk, List.length_ofFn] at ht
  have hq : t / sz < l.length := Nat.div_lt_of_lt_mul (by rw [Nat.mul_comm]; exact ht)
  have hr : t % sz < sz := Nat.mod_lt _ hsz
  have et : t / sz * sz + t % sz = t := by rw [Nat.mul_comm]; exact Nat.div_add_mod t sz
  have e1 := flat_get' hk (t / sz) (by simpa using hq) (t % sz) hr
  rw [et, hu, List.getElem_ofFn] at e1
  obtain ⟨b, off, h1, h2⟩ := (Classical.choose_spec (hex ⟨t / sz, hq⟩)).2.1 (t % sz) u e1.symm
  exact ⟨b, off, h1, by simpa [et] using h2⟩
theorem slice_of_cells {α : Type} {sz : Nat} {R : Rd α} {w : World} {B : Nat} {e : TypeId} {v : Value} {css : List (List Value)} {l : List α} (hsz : 0 < sz) (hlen : css.length = l.length) (hk : ∀ cs ∈ css, cs.length = sz) (h : w.ownsRow B e sz v l.length css.flatten) (hr : ∀ (i : Nat) cs x, css[i]? = some cs → l[i]? = some x → R w cs x) : RSlice sz R w [v] l := by
 obtain ⟨a, cap, rfl, h1, h2, h3⟩ := Sl.of_owns h
 refine ⟨a, cap, rfl, h1, h2, fun i x hi => ?_⟩
 have hil := (List.getElem?_eq_some_iff.1 hi).1
 have hic : i < css.length := by omega
 have hcl := hk _ (List.getElem_mem hic)
 have hc : ∀ c, c < sz → ∀ u, css[i][c]? = some u → ∃ b off, a = some ⟨b, off, none⟩ ∧ w.cell? ⟨b, off + (i * sz + c), none⟩ = some u := fun c hc u hu => h3 (i * sz + c) u (by rw [flat_get' hk i hic c hc]; exact hu)
 obtain ⟨b, off, ha, _⟩ := hc 0 hsz (css[i][0]'(by omega)) (List.getElem?_eq_getElem (by omega))
 refine ⟨b, off, css[i], ha, hcl, fun j u hu => ?_, hr i _ x (List.getElem?_eq_getElem hic) hi⟩
 have hj := (List.getElem?_eq_some_iff.1 hu).1
 obtain ⟨b', off', ha', h5⟩ := hc j (by omega) u hu
 rw [ha] at ha'
 cases ha'
 rw [Nat.add_assoc]; exact h5
end Go.Proofs.YteailgjiifdgcaaGreatDoor
