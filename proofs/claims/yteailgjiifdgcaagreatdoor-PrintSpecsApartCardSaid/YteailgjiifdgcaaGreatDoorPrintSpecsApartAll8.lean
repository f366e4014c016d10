/- Walks and plain facts. Texts merged: RqC, SpsV, RqB, RqD, SetSame, SmS, ShrE, PnE, PnA, PnB, RqG, PnM, RqE. Condition: none beyond what each says. -/
import Derived.Recover
import Derived.Laws.Pointers
import Derived.Test.YteailgjiifdgcaaGreatDoorPrintSpecsApartAll7
set_option linter.unusedVariables false
set_option linter.unusedSimpArgs false
/- The walk of the reader's settings. Condition: the library's variables as they were laid; at most a thousand words of at most 70000 bytes. -/
namespace Go.Proofs.YteailgjiifdgcaaGreatDoor
open Go.Shelf Go.RowKit Go.Lib VerN
open LexM (Wd)
attribute [local go_sem ↓] Go.wp_at_zero Go.wp_at_succ

structure RdC (w0 : World) (r : Nat) (a : Option Addr) (n c : Nat) (fin : Int) (ws : List Wd) : Prop where
 words : RWds w0 [.slice a n c] ws
 doors : Doors w0
 low : w0.heap.size ≤ r
 n1000 : n ≤ 1000
 sz : ∀ x ∈ ws, x.2.length ≤ 70000
structure RdS (w0 : World) (r : Nat) (a : Option Addr) (n c : Nat) (fin : Int) (i : Nat) (W : World) : Prop where
 box : RBox r (.slice a n c) i fin W
 bel : Below w0.heap.size w0 W
section
variable {w0 W W' : World} {r : Nat} {a : Option Addr} {n c : Nat} {fin : Int} {ws : List Wd} {i : Nat}
theorem RdC.len (C : RdC w0 r a n c fin ws) : n = ws.length := (wds_at C.words).1
theorem RdC.wds (C : RdC w0 r a n c fin ws) (S : RdS w0 r a n c fin i W) : RWds W [.slice a n c] ws := stays_slice stays_wd _ _ _ _ C.words S.bel
theorem RdS.to (S : RdS w0 r a n c fin i W) (h : Below W.heap.size W W') : RdS w0 r a n c fin i W' := ⟨heap_below h S.box, S.bel.trans (h.mono S.bel.size)⟩
theorem RdS.drewN (S : RdS w0 r a n c fin i W) (q : Nat) : RdS w0 r a n c fin i (W.drewN q) := S.to (bel_drewN (Below.refl _ _) q)
theorem RdC.dr (C : RdC w0 r a n c fin ws) (S : RdS w0 r a n c fin i W) : Doors W := C.doors.below S.bel
theorem RdC.peek (C : RdC w0 r a n c fin ws) (S : RdS w0 r a n c fin i W) : Calls Tryz.prog 151 #[rp r] W fun e w' => e = .returned (.string (peekB ws i)) ∧ ∃ q, w' = W.drewN q := peek_any S.box (C.wds S)
theorem RdC.more (_ : RdC w0 r a n c fin ws) (S : RdS w0 r a n c fin i W) : Calls Tryz.prog 159 #[rp r] W fun e w' => e = .returned (.bool (decide (i < n))) ∧ ∃ q, w' = W.drewN q := more_any S.box
theorem RdC.want (C : RdC w0 r a n c fin ws) (S : RdS w0 r a n c fin i W) : Calls Tryz.prog 158 #[rp r, .bool false] W fun e w' => e = thrown (colAt ws fin i) ∧ ∃ q, w' = W.drewN q := want_no S.box (C.wds S)
theorem RdC.peek_size (C : RdC w0 r a n c fin ws) (i : Nat) : (peekB ws i).size ≤ 70000 := by
 by_cases h : i < ws.length
 ·rw [peek_some h]
  show (ws[i].2.toArray).size ≤ _
  rw [List.size_toArray]
  exact C.sz _ (List.getElem_mem h)
 ·rw [peek_none (by omega)]
  decide
theorem RdS.on (S : RdS w0 r a n c fin i W) (hlow : w0.heap.size ≤ r) : RdS w0 r a n c fin (i + 1) (W.setCell ⟨r, 1, none⟩ (.int .i64 ((i : Int) + 1))) :=
 ⟨heap_setCell_same _ r 1 _ _ _ S.box, S.bel.setCell (p := ⟨r, 1, none⟩) hlow _⟩
end
theorem cutB_size (c : UInt8) (s : ByteArray) : (cutB c s).1.size ≤ s.size ∧ (cutB c s).2.1.size ≤ s.size := by
 have e : ∀ l : List UInt8, (⟨l.toArray⟩ : ByteArray).size = l.length := fun l => rfl
 have h1 : (cut s.data.toList [c]).1.length ≤ s.size ∧ (cut s.data.toList [c]).2.1.length ≤ s.size := by
  rw [← Txt.len]
  unfold cut
  split
  ·exact ⟨by simp; omega, by simp⟩
  ·exact ⟨by simp, by simp⟩
 unfold cutB
 exact ⟨by rw [e]; exact h1.1, by rw [e]; exact h1.2⟩
def atOf (r : Nat) (W : World) : Nat := match W.cell? ⟨r, 1, none⟩ with
 | some u => (RowKit.intOf u).toNat
 | none => 0
theorem atOf_box {r : Nat} {v : Value} {i : Nat} {fin : Int} {W : World} (h : RBox r v i fin W) : atOf r W = i := by
 unfold atOf
 rw [(rbox_cells h).2.1]
 simp [RowKit.intOf]
theorem sets_snoc (out : List Setg) (x : Setg) : (out ++ [x]).flatMap setCells = out.flatMap setCells ++ [.string x.1, .string x.2] := by simp [setCells]
def SetsPost (r : Nat) (a : Option Addr) (n c : Nat) (fin : Int) (ws : List Wd) (i : Nat) (w : World) (e : Ending) (w' : World) : Prop :=
 ((∃ l j v, setsAt ws i [] = (some l, j) ∧ e = .returned v ∧ RSetsT w' v l ∧ RBox r (.slice a n c) j fin w') ∨ (∃ j, setsAt ws i [] = (none, j) ∧ e = thrown (colAt ws fin j))) ∧ Frm (fun k => k = r) w w'
structure StI (w0 : World) (r : Nat) (a : Option Addr) (n c : Nat) (fin : Int) (ws : List Wd) (i : Nat) (w : World) (k : Nat) (out : List Setg) (v : Value) (W : World) : Prop where
 st : RdS w0 r a n c fin (i + k) W
 row : W.ownsRow w.heap.size 109 2 v k (out.flatMap setCells)
 len : out.length = k
 same : setsAt ws i [] = setsAt ws (i + k) out
 frm : Frm (fun x => x = r) w W
 sz : ∀ x ∈ out, x.1.size ≤ 70000 ∧ x.2.size ≤ 70000
 k1000 : k ≤ 1000
theorem StI.reads {w0 : World} {r : Nat} {a : Option Addr} {n c : Nat} {fin : Int} {ws : List Wd} {i : Nat} {w : World} {k : Nat} {out : List Setg} {v : Value} {W : World} (h : StI w0 r a n c fin ws i w k out v W) : RSetsT W v out :=
 ⟨sets_reads (B := w.heap.size) (fun x hx => by have := h.sz x hx; unfold maxLen; omega) (by rw [h.len]; exact h.row), fun _ => typ_owns h.row⟩
theorem StI.to {w0 : World} {r : Nat} {a : Option Addr} {n c : Nat} {fin : Int} {ws : List Wd} {i : Nat} {w : World} {k : Nat} {out : List Setg} {v : Value} {W W' : World} (h : StI w0 r a n c fin ws i w k out v W) (hb : Below W.heap.size W W') : StI w0 r a n c fin ws i w k out v W' :=
 ⟨h.st.to hb, ownsRow_below h.row hb, h.len, h.same, h.frm.trans (Frm.of_below (S := fun _ => False) hb) (fun _ _ h => h.elim), h.sz, h.k1000⟩
theorem StI.push {w0 : World} {r : Nat} {a : Option Addr} {n c : Nat} {fin : Int} {ws : List Wd} {i : Nat} {w : World} {k : Nat} {out : List Setg} {v v9 : Value} {W w9 : World} (h : StI w0 r a n c fin ws i w k out v W) (hlow : w0.heap.size ≤ r) (hrw : r < w.heap.size) {x : Setg} (hx : x.1.size ≤ 70000 ∧ x.2.size ≤ 70000)
  (hg : W.grownBy w9 v.ownBlock) (ho : w9.ownsRow w.heap.size 109 2 v9 (k + 1) (out.flatMap setCells ++ [.string x.1, .string x.2])) :
  RdS w0 r a n c fin (i + k) w9 ∧ Frm (fun x => x = r) w w9 ∧ RSets w9 [v9] (out ++ [x]) ∧ (∀ y ∈ out ++ [x], y.1.size ≤ 70000 ∧ y.2.size ≤ 70000) := by
 have hne : ∀ j, v.ownBlock = some j → w.heap.size ≤ j := fun j e => (h.row.lt j e).1
 have hrW : r < W.heap.size := (Array.getElem?_eq_some_iff.1 h.st.box).1
 have hsz : ∀ y ∈ out ++ [x], y.1.size ≤ 70000 ∧ y.2.size ≤ 70000 := fun y hy => by
  rcases List.mem_append.1 hy with hy | hy
  ·exact h.sz y hy
  ·rw [List.mem_singleton] at hy; rw [hy]; exact hx
 refine ⟨⟨(hg.block r hrW (fun e => by have := hne r e.symm; omega)).trans h.st.box, bel_own h.st.bel h.row (by omega) hg h.st.bel.size⟩, h.frm.grown hg (fun j e => .inl (hne j e)), ?_, hsz⟩
 refine sets_reads (B := w.heap.size) (fun y hy => by have := hsz y hy; unfold maxLen; omega) ?_
 rw [List.length_append, h.len, sets_snoc]
 exact ho
theorem StI.next {w0 : World} {r : Nat} {a : Option Addr} {n c : Nat} {fin : Int} {ws : List Wd} {i : Nat} {w : World} {k : Nat} {out : List Setg} {v9 : Value} {w10 : World} (hS : RdS w0 r a n c fin (i + k) w10) (hF : Frm (fun x => x = r) w w10) {x : Setg} (hsz : ∀ y ∈ out ++ [x], y.1.size ≤ 70000 ∧ y.2.size ≤ 70000) (hlen : out.length = k) (hlow : w0.heap.size ≤ r) (hrw : r < w.heap.size) (hk : k + 1 ≤ 1000)
  (ho : w10.ownsRow w.heap.size 109 2 v9 (k + 1) (out.flatMap setCells ++ [.string x.1, .string x.2])) (hs : setsAt ws i [] = setsAt ws (i + k + 1) (out ++ [x])) :
  StI w0 r a n c fin ws i w (k + 1) (out ++ [x]) v9 (w10.setCell ⟨r, 1, none⟩ (.int .i64 (((i + k : Nat) : Int) + 1))) :=
 ⟨hS.on hlow, by rw [sets_snoc]; exact own_set ho hrw 1 _, by rw [List.length_append, hlen]; rfl, hs, frm_cell hF 1 _, hsz, hk⟩
set_option maxRecDepth 10000 in
set_option maxHeartbeats 8000000 in
theorem settings_any {w0 w : World} {r : Nat} {a : Option Addr} {n c : Nat} {fin : Int} {ws : List Wd} {i : Nat} (C : RdC w0 r a n c fin ws) (S : RdS w0 r a n c fin i w) : Calls Tryz.prog 183 #[rp r] w (SetsPost r a n c fin ws i w) := by
 have hrw : r < w.heap.size := (Array.getElem?_eq_some_iff.1 S.box).1
 have hst : StI w0 r a n c fin ws i w 0 [] (.slice none 0 0) w := ⟨S, World.ownsRow_nil _ _ _ _, rfl, rfl, Frm.refl _ _, (fun x hx => by simp at hx), Nat.zero_le _⟩
 have hn1 := C.n1000
 obtain ⟨HC, HS, Hst⟩ := hd3 C S hst; clear C S hst
 go_enter Tryz.func183, Tryz.ntmps183
 go_wp2_with fail
 go_loopw [3] (fun v wr => ∃ (k : Nat) (out : List Setg), StI w0 r a n c fin ws i w k out v wr) (fun _ wr => n - atOf r wr)
 case atStart => exact ⟨0, [], Hst.out⟩
 case round =>
  obtain ⟨k, out, hI⟩ := hrel
  obtain ⟨a1, c1, rfl⟩ := own_shape hI.row
  have hP := HC.out.peek hI.st
  have hmeas : atOf r wr = i + k := atOf_box hI.st.box
  obtain ⟨s, hs⟩ : ∃ s, s = peekB ws (i + k) := ⟨_, rfl⟩
  have hsz : s.size ≤ 70000 := by rw [hs]; exact HC.out.peek_size _
  rw [← hs] at hP
  have hCo := fun (W : World) => Tryz.strings_Contains_one s 61 W
  obtain ⟨hb, hhb⟩ : ∃ b, b = hasB 61 s := ⟨_, rfl⟩
  rw [show decide (0 ≤ indexByte s.data.toList 61) = hb from hhb.symm] at hCo
  obtain ⟨wo, hwo⟩ : ∃ W, W = wr := ⟨_, rfl⟩
  rw [← hwo] at hI hP hmeas ⊢
  clear hwo wr
  obtain ⟨HI, HP, HCo, Hs, Hhb, Hmeas⟩ := hd6 hI hP hCo hs hhb hmeas; clear hI hP hCo hs hhb hmeas
  go_wp2_with fail
  refine HP.out.mono ?_
  rintro e w1 ⟨rfl, q1, rfl⟩
  have hI1 := HI.out.to (bel_drewN (Below.refl _ _) q1)
  generalize wo.drewN q1 = W1 at hI1 ⊢
  have HI1 := hd hI1; clear hI1
  go_wp2_with fail
  refine (HCo.out _).mono ?_
  rintro e w1 ⟨rfl, rfl⟩
  cases hb with
  | false =>
   go_wp2_with fail
   go_ret
   exact ⟨.inl ⟨out, i + k, _, by rw [HI1.out.same]; exact setsAt_end (by rw [← Hs.out]; exact Hhb.out.symm), rfl, HI1.out.reads, HI1.out.st.box⟩, HI1.out.frm⟩
  | true =>
   have hP2 := HC.out.peek HI1.out.st
   rw [← Hs.out] at hP2
   have HP2 := hd hP2; clear hP2
   go_wp2_with fail
   refine HP2.out.mono ?_
   rintro e w1 ⟨rfl, q2, rfl⟩
   have hI2 := HI1.out.to (bel_drewN (Below.refl _ _) q2)
   generalize w1.drewN q2 = W2 at hI2 ⊢
   obtain ⟨mx, hmx⟩ := (HC.out.dr hI2.st).max
   have hCut := Tryz.strings_Cut s ⟨#[61]⟩ mx W2 (by omega) hmx
   clear hmx
   obtain ⟨nm, hnm⟩ : ∃ x : ByteArray, x = ⟨(cut s.data.toList [61]).1.toArray⟩ := ⟨_, rfl⟩
   obtain ⟨vl, hvl⟩ : ∃ x : ByteArray, x = ⟨(cut s.data.toList [61]).2.1.toArray⟩ := ⟨_, rfl⟩
   obtain ⟨fl, hfl⟩ : ∃ x : Bool, x = (cut s.data.toList [61]).2.2 := ⟨_, rfl⟩
   simp only [← hnm, ← hvl, ← hfl] at hCut
   have hsg : setgB s = (nm, vl) := by unfold setgB cutB; rw [hnm, hvl]
   have hsgz : nm.size ≤ 70000 ∧ vl.size ≤ 70000 := by
    have := cutB_size 61 s
    have e1 : nm = (cutB 61 s).1 := hnm
    have e2 : vl = (cutB 61 s).2.1 := hvl
    rw [e1, e2]
    omega
   have hlt : i + k < n := by rw [HC.out.len]; exact has_lt (by rw [← Hs.out]; exact Hhb.out.symm)
   obtain ⟨HCut, HI2, Hnm, Hvl, Hfl, Hsg, Hsgz⟩ := hd7 hCut hI2 hnm hvl hfl hsg hsgz; clear hCut hI2 hnm hvl hfl hsg hsgz
   go_wp2_with fail
   refine HCut.out.mono ?_
   rintro e w1 ⟨rfl, q3, rfl⟩
   have hI3 := HI2.out.to (bel_drewN (Below.refl _ _) q3)
   generalize W2.drewN q3 = W3 at hI3 ⊢
   have hrow3 := hI3.row
   have hbW3 : w.heap.size ≤ W3.heap.size := hI3.frm.size
   have hk1 := hI3.k1000
   obtain ⟨N, hN⟩ : ∃ N, N = out.flatMap setCells := ⟨_, rfl⟩
   rw [← hN] at hrow3
   obtain ⟨HI3, Hrow3, HN⟩ := hd3 hI3 hrow3 hN; clear hI3 hrow3 hN
   go_wp2_with (at_builtin; (refine wpList_append_lit elem_set rfl (.tmp 18) (.tmp 22) rfl w.heap.size (.slice a1 k c1) k N rfl Hrow3.out 1 #[.string nm, .string vl] rfl rfl (by simp [Value.oneCell']) (by omega) (by unfold maxLen; omega) hbW3 ?_; intro v9 w9 hown9 hg9 hm9; obtain ⟨a9, c9, rfl⟩ := own_shape hown9; obtain ⟨Hown9, Hg9⟩ := hd2 hown9 hg9; clear hown9 hg9 hm9))
   have ho9 := Hown9.out
   rw [HN.out] at ho9
   obtain ⟨hS9, hF9, hR9, hZ9⟩ := HI3.out.push HC.out.low hrw (x := (nm, vl)) Hsgz.out Hg9.out ho9
   have hW := wish04_any hR9
   obtain ⟨b, hb⟩ : ∃ b, b = wishIs (out ++ [(nm, vl)]) := ⟨_, rfl⟩
   rw [← hb] at hW
   obtain ⟨Ho9, HS9, HF9, HR9, HZ9, HW, Hb⟩ := hd7 ho9 hS9 hF9 hR9 hZ9 hW hb; clear ho9 hS9 hF9 hR9 hZ9 hW hb
   refine HW.out.mono ?_
   rintro e w10 ⟨rfl, hb10⟩
   have hS10 := HS9.out.to hb10
   have hF10 := HF9.out.trans (Frm.of_below (S := fun _ => False) hb10) (fun _ _ h => h.elim)
   have ho10 := ownsRow_below Ho9.out hb10
   cases b with
   | false =>
    have hWn := HC.out.want hS10
    obtain ⟨HS10, HF10, Ho10, HWn, Hb10⟩ := hd5 hS10 hF10 ho10 hWn hb10; clear hS10 hF10 ho10 hWn hb10
    go_wp2_with fail
    refine HWn.out.mono ?_
    rintro e w11 ⟨rfl, q4, rfl⟩
    go_wp2_with fail
    refine ⟨rfl, .inr ⟨i + k, ?_, rfl⟩, HF10.out.drewN q4⟩
    rw [HI3.out.same]
    exact setsAt_no (by rw [← Hs.out]; exact Hhb.out.symm) (by rw [← Hs.out, Hsg.out]; exact Hb.out.symm)
   | true =>
    obtain ⟨m, hm⟩ : ∃ m, m = i + k := ⟨_, rfl⟩
    have hsm : setsAt ws i [] = setsAt ws (i + k + 1) (out ++ [(nm, vl)]) := by
     rw [HI3.out.same, setsAt_on (by rw [← Hs.out]; exact Hhb.out.symm) (by rw [← Hs.out, Hsg.out]; exact Hb.out.symm), ← Hs.out, Hsg.out]
    have hnx := StI.next hS10 hF10 HZ9.out HI3.out.len HC.out.low hrw (by omega) ho10 hsm
    rw [← hm] at hS10 hnx hlt
    obtain ⟨_, c1', _, c3'⟩ := rbox_cells hS10.box
    have hme := Hmeas.out
    rw [← hm] at hme
    obtain ⟨HS10, HF10, Ho10, Hb10, Hm, Hsm, Hnx⟩ := hd7 hS10 hF10 ho10 hb10 hm hsm hnx; clear hS10 hF10 ho10 hb10 hm hsm hnx
    go_wp2_with fail
    refine (want_yes w10 r).mono ?_
    rintro e w11 ⟨rfl, hw11⟩
    subst hw11
    go_wp2_with fail
    go_roundw
    case rel => exact ⟨k + 1, _, Hnx.out⟩
    case measure =>
     rw [atOf_box (i := m + 1) (fin := fin) (v := .slice a n c) ?_, hme]
     ·omega
     ·have := Hnx.out.st.box
      rw [show i + (k + 1) = m + 1 by rw [Hm.out]; rfl] at this
      exact this
end Go.Proofs.YteailgjiifdgcaaGreatDoor

/- The walk of cooperref03.Same. No condition. -/
namespace Go.Proofs.YteailgjiifdgcaaGreatDoor
open Go.RowKit Go.Shelf Go.Lib VerN

theorem spn_neqs (s t a b : ByteArray) (W : World) : (binOp .neq 34 (.agg #[.string s, .string t]) (.agg #[.string a, .string b])).run Tryz.prog W = .ok (.bool (!(decide (s = a) && decide (t = b)))) W := by
 have u9 := Tryz.underlying9
 have hS : Tryz.prog.underlying 34 = some (.struct (Tryz.prog.fieldsOf 34)) := by kernel_rfl
 have hp : Tryz.prog.stoodInHeld 34 = false := by kernel_rfl
 rw [run_neq_struct, show (10000 : Nat) = 9999 + 1 from rfl, run_equalIn_agg W 9999 34 _ _ hS hp]
 simp only [Program.fieldsOf, Tryz.underlying34]
 go_simp
 have e1 := Txt.eq_dec s a
 have e2 := Txt.eq_dec t b
 by_cases h1 : s = a <;> by_cases h2 : t = b <;> simp [h1, h2] at e1 e2 ⊢ <;> simp_all
set_option maxRecDepth 10000 in
set_option maxHeartbeats 1000000 in
theorem sameRefS_any {w : World} {v u : Value} {l m : List BSp} (h : RSps w [v] l) (hm : RSps w [u] m) : Calls Tryz.prog 18 #[v, u] w fun e w' => e = .returned (.bool (decide (l = m))) ∧ ∃ q, w' = w.drewN q := by
 obtain ⟨a, cap, rfl, hz, g⟩ := sps_open h
 obtain ⟨a2, cap2, rfl, hz2, g2⟩ := sps_open hm
 obtain ⟨n, hn⟩ : ∃ n, n = l.length := ⟨_, rfl⟩
 obtain ⟨n2, hn2⟩ : ∃ n, n = m.length := ⟨_, rfl⟩
 obtain ⟨r, hr⟩ : ∃ r, r = decide (l = m) := ⟨_, rfl⟩
 have q1 := fun s t a b => spn_neqs s t a b
 rw [← hr]
 rw [← hn] at hz h ⊢
 rw [← hn2] at hz2 hm ⊢
 obtain ⟨Hh, Hm, Hg, Hg2, Hn, Hn2, Hr, Hq1⟩ := hd8 h hm g g2 hn hn2 hr q1; clear h hm g g2 hn hn2 hr q1
 go_enter Tryz.func18, Tryz.ntmps18
 by_cases hne : n = n2
 case neg =>
  have k1 : ((n : Int) != (n2 : Int)) = true := by simp; omega
  have hf : r = false := by rw [Hr.out, decide_eq_false_iff_not]; intro e; exact hne (by rw [Hn.out, Hn2.out, e])
  obtain ⟨Hf, Hne⟩ := hd2 hf hne; clear hf hne
  go_wp2_with fail
  go_ret
  exact ⟨ret_bool Hf.out.symm, 0, rfl⟩
 have k1 : ((n : Int) != (n2 : Int)) = false := by simp; omega
 have Hne := hd hne; clear hne
 go_wp2_with fail
 clear k1
 go_loopw [13] (fun i wr => ∃ k : Nat, k ≤ n ∧ i = .int .i64 k ∧ (∀ j (h1 : j < l.length) (h2 : j < m.length), j < k → l[j] = m[j]) ∧ ∃ q, wr = w.drewN q) (fun i _ => n - (RowKit.intOf i).toNat)
 case atStart => exact ⟨0, Nat.zero_le _, rfl, fun _ _ _ h => by omega, 0, rfl⟩
 case round =>
  obtain ⟨k, hk, rfl, hno, q, rfl⟩ := hrel
  by_cases hlt : k < n
  ·have hkl : k < l.length := by have := Hn.out; omega
   have hkm : k < m.length := by have := Hn2.out; have := Hne.out; omega
   obtain ⟨b, off, rfl, d0, d1, _, _⟩ := Hg.out k _ (List.getElem?_eq_getElem hkl)
   obtain ⟨b2, off2, rfl, f0, f1, _, _⟩ := Hg2.out k _ (List.getElem?_eq_getElem hkm)
   have hnx : l[k] = m[k] → ∀ j (h1 : j < l.length) (h2 : j < m.length), j < k + 1 → l[j] = m[j] := fun h j h1 h2 hjk => by
    by_cases e : j = k
    ·subst e; exact h
    ·exact hno j h1 h2 (by omega)
   have hbd : l[k] ≠ m[k] → l ≠ m := fun h e => h (by subst e; rfl)
   obtain ⟨x, hx⟩ : ∃ x, x = l[k] := ⟨_, rfl⟩
   obtain ⟨y, hy⟩ : ∃ x, x = m[k] := ⟨_, rfl⟩
   rw [← hx] at d0 d1 hnx hbd
   rw [← hy] at f0 f1 hnx hbd
   have q2 := Hq1.out x.1 x.2 y.1 y.2
   have hxy : (decide (x.1 = y.1) && decide (x.2 = y.2)) = decide (x = y) := by
    rw [Bool.eq_iff_iff]
    simp [Prod.ext_iff]
   rw [hxy] at q2
   obtain ⟨s, hs⟩ : ∃ s, s = x.1 := ⟨_, rfl⟩
   obtain ⟨t, ht⟩ : ∃ s, s = x.2 := ⟨_, rfl⟩
   obtain ⟨s', hs'⟩ : ∃ s, s = y.1 := ⟨_, rfl⟩
   obtain ⟨t', ht'⟩ : ∃ s, s = y.2 := ⟨_, rfl⟩
   rw [← hs, ← ht, ← hs', ← ht'] at q2
   rw [← hs] at d0
   rw [← ht] at d1
   rw [← hs'] at f0
   rw [← ht'] at f1
   have k5 : (0 : Int) ≤ (k : Int) := by omega
   have k6 : (k : Int) < (n : Int) := by omega
   have k7 : (k : Int) < (n2 : Int) := by have := Hne.out; omega
   clear hxy
   by_cases e : x = y
   ·have hq := hnx e
    rw [decide_eq_true e] at q2
    simp only [Bool.not_true] at q2
    clear e
    obtain ⟨Hno, Hnx, Hbd, Hx, Hy, Hs, Ht, Hs', Ht', Hq⟩ := hd10 hno hnx hbd hx hy hs ht hs' ht' hq; clear hno hnx hbd hx hy hs ht hs' ht' hq
    go_wp2_with fail
    go_region
    go_wp2_with fail
    go_roundw
    case rel => exact ⟨k + 1, by omega, by go_num, Hq.out, _, rfl⟩
    case measure => simp [RowKit.intOf]; omega
   ·have hf : r = false := by rw [Hr.out, decide_eq_false_iff_not]; exact hbd e
    rw [decide_eq_false e] at q2
    simp only [Bool.not_false] at q2
    clear e
    obtain ⟨Hno, Hnx, Hbd, Hx, Hy, Hs, Ht, Hs', Ht', Hf⟩ := hd10 hno hnx hbd hx hy hs ht hs' ht' hf; clear hno hnx hbd hx hy hs ht hs' ht' hf
    go_wp2_with fail
    go_region
    go_wp2_with fail
    go_ret
    exact ⟨ret_bool Hf.out.symm, _, rfl⟩
  ·obtain rfl : n = k := by omega
   have hf : r = true := by
    rw [Hr.out, decide_eq_true_eq]
    exact List.ext_getElem (by rw [← Hn.out, ← Hn2.out, Hne.out]) (fun j h1 h2 => hno j h1 h2 (by have := Hn.out; omega))
   obtain ⟨Hno, Hf⟩ := hd2 hno hf; clear hno hf
   go_wp2_with fail
   go_ret
   exact ⟨ret_bool Hf.out.symm, _, rfl⟩
end Go.Proofs.YteailgjiifdgcaaGreatDoor

/- The walks of recipe.set and cooperref06.set: the set of a text behind an at sign. Condition: the library's variables as they were laid; a text of at most 70000 bytes. -/
namespace Go.Proofs.YteailgjiifdgcaaGreatDoor
open Go.Shelf Go.RowKit Go.Lib VerN
attribute [local go_sem ↓] Go.wp_at_zero Go.wp_at_succ

theorem sps_nil1 (w : World) : RSps w [.slice none 0 0] [] := ⟨_, 0, rfl, Nat.zero_le _, Nat.zero_le _, fun i x hi => by simp at hi⟩
theorem rdPost_to {t : ByteArray} {w w' : World} {e : Ending} (h : RdPost t w e w') : RefRdPost t w e w' := by
 obtain ⟨h, hb⟩ := h
 refine ⟨?_, hb⟩
 rcases h with ⟨v, rfl, ⟨h0, rfl⟩ | ⟨h0, h1, h2, h3⟩⟩ | ⟨rfl, h0, h1⟩
 ·exact .inl ⟨_, rfl, .inl h0, by unfold rdV; rw [if_pos h0]; exact spsT_nil (sps_nil1 _)⟩
 ·refine .inl ⟨_, rfl, .inr ⟨h1, h2⟩, ?_⟩
  unfold rdV
  rw [if_neg h0]
  obtain ⟨l, hl⟩ := rd_ok t h1
  rw [← hl] at h3 ⊢
  exact ⟨sps_reads (fun x hx => by have := smallB_tB l x hx; unfold maxLen; omega) h3, fun _ => typ_owns h3⟩
 ·refine .inr ⟨_, rfl, ?_, sps_nil1 _⟩
  rintro (h | ⟨k1, k2⟩)
  ·exact h0 h
  ·rcases h1 with ⟨p, hp, hk⟩ | h1
   ·rw [k1 p hp] at hk; cases hk
   ·obtain ⟨l, hl⟩ := rd_ok t k1
    exact h1 l hl (k2 l hl)
theorem spsRd_any (t : ByteArray) (ht : t.size ≤ 70000) {w : World} (hD : Doors w) : Calls Tryz.prog 16 #[.string t] w (RefRdPost t w) := (spsRead_any t ht hD).mono fun _ _ h => rdPost_to h
def SetPost (t : ByteArray) (w : World) (e : Ending) (w' : World) : Prop :=
 ∃ a n c, e = .returned (.tuple #[.slice a n c, .bool (setOk t)]) ∧ (setOk t = true → RSpsT w' (.slice a n c) (rdV t)) ∧ Below w.heap.size w w'
open Classical in
theorem setOk_yes {t : ByteArray} (h : Rd3 t) {x : BSp} {r : List BSp} (hr : rdV t = x :: r) (hx : (decide (x.1 = ⟨#[]⟩) && decide (x.2 = ⟨#[]⟩)) = false) : setOk t = true := by
 unfold setOk
 rw [decide_eq_true_eq]
 refine ⟨h, by rw [hr]; simp, by rw [hr]; rintro e; simp at e; rw [e] at hx; simp at hx⟩
open Classical in
theorem setOk_one {t : ByteArray} {x : BSp} {r : List BSp} (hr : rdV t = x :: r) (hx : (decide (x.1 = ⟨#[]⟩) && decide (x.2 = ⟨#[]⟩)) = true) : setOk t = false := by
 unfold setOk
 rw [decide_eq_false_iff_not]
 rintro ⟨_, _, h⟩
 rw [hr] at h
 simp only [Bool.and_eq_true, decide_eq_true_eq] at hx
 exact h (by rw [List.head?_cons]; exact congrArg some (Prod.ext hx.1 hx.2))
open Classical in
theorem setOk_nil {t : ByteArray} (hr : rdV t = []) : setOk t = false := by
 unfold setOk
 rw [decide_eq_false_iff_not]
 rintro ⟨_, h, _⟩
 exact h hr
open Classical in
theorem setOk_no {t : ByteArray} (h : ¬ Rd3 t) : setOk t = false := by
 unfold setOk
 rw [decide_eq_false_iff_not]
 exact fun k => h k.1
theorem bytes_e (x : ByteArray) : (x.toList == (⟨#[]⟩ : ByteArray).toList) = decide (x = ⟨#[]⟩) := Txt.eq_dec _ _
theorem toList_e : (⟨#[]⟩ : ByteArray).toList = [] := by rw [Lib.toList_data]
set_option maxRecDepth 10000 in
set_option maxHeartbeats 4000000 in
theorem set_any (t : ByteArray) (ht : t.size ≤ 70000) {w : World} (hD : Doors w) : Calls Tryz.prog 182 #[.string t] w (SetPost t w) := by
 have hR := spsRd_any t ht hD
 obtain ⟨HR, HD⟩ := hd2 hR hD; clear hR hD
 go_enter Tryz.func182, Tryz.ntmps182
 go_wp2_with fail
 refine HR.out.mono ?_
 rintro e w1 ⟨⟨v, rfl, hr, hv⟩ | ⟨v, rfl, hr, hv⟩, hb⟩
 ·obtain ⟨a, c, rfl⟩ := sps_shape hv.1
  have hat := sps_at hv.1
  obtain ⟨n, hn⟩ : ∃ n, n = (rdV t).length := ⟨_, rfl⟩
  rw [← hn] at hv ⊢
  match hL : rdV t with
  | [] =>
   have hf := setOk_nil hL
   rw [hL] at hn
   obtain rfl : n = 0 := hn
   clear hat hL
   obtain ⟨Hr, Hv, Hf, Hb⟩ := hd4 hr hv hf hb; clear hr hv hf hb
   go_wp2_with fail
   go_quiet (fail)
   go_wp2_with fail
   go_ret2
   exact ⟨_, _, _, by rw [Hf.out]; rfl, (fun k => by rw [Hf.out] at k; cases k), bel_drewN Hb.out _⟩
  | x :: rr =>
   obtain ⟨b, off, rfl, c0, c1⟩ := hat 0 x (by rw [hL]; rfl)
   simp only [Nat.zero_mul, Nat.add_zero] at c0 c1
   have hn1 : 0 < n := by rw [hn, hL]; simp
   have k1 : decide ((0 : Int) < (n : Int)) = true := decide_eq_true (by omega)
   have k2 : ((n : Int) == 0) = false := by rw [beq_eq_false_iff_ne]; omega
   have q1 := fun (W : World) => spn_neqs x.1 x.2 ⟨#[]⟩ ⟨#[]⟩ W
   obtain ⟨y, hy⟩ : ∃ y, y = x.1 := ⟨_, rfl⟩
   obtain ⟨z, hz⟩ : ∃ y, y = x.2 := ⟨_, rfl⟩
   have hyes := setOk_yes hr hL
   have hone := setOk_one hL
   rw [← hy, ← hz] at hyes hone q1
   rw [← hy] at c0
   rw [← hz] at c1
   have x1 := bytes_e y
   have x2 := bytes_e z
   rw [toList_e] at x1 x2
   have k5 : (0 : Int) < (n : Int) := by omega
   obtain ⟨p1, hp1⟩ : ∃ p, p = decide (y = ⟨#[]⟩) := ⟨_, rfl⟩
   obtain ⟨p2, hp2⟩ : ∃ p, p = decide (z = ⟨#[]⟩) := ⟨_, rfl⟩
   rw [← hp1] at x1
   rw [← hp2] at x2
   rw [← hp1, ← hp2] at hyes hone q1
   clear hat
   cases p1 with
   | false =>
    have hf := hyes rfl
    obtain ⟨Hr, Hv, Hf, Hb, HL, Hn, Hy, Hz, Hyes, Hone, Hp1, Hp2⟩ := hd12 hr hv hf hb hL hn hy hz hyes hone hp1 hp2; clear hr hv hf hb hL hn hy hz hyes hone hp1 hp2
    go_wp2_with fail
    go_quiet (fail)
    go_wp2_with fail
    go_ret2
    exact ⟨_, _, _, by rw [Hf.out]; rfl, (fun _ => spsT_below Hv.out (bel_drewN (Below.refl _ _) _)), bel_drewN Hb.out _⟩
   | true =>
    cases p2 with
    | false =>
     have hf := hyes rfl
     obtain ⟨Hr, Hv, Hf, Hb, HL, Hn, Hy, Hz, Hyes, Hone, Hp1, Hp2⟩ := hd12 hr hv hf hb hL hn hy hz hyes hone hp1 hp2; clear hr hv hf hb hL hn hy hz hyes hone hp1 hp2
     go_wp2_with fail
     go_quiet (fail)
     go_wp2_with fail
     go_ret2
     exact ⟨_, _, _, by rw [Hf.out]; rfl, (fun _ => spsT_below Hv.out (bel_drewN (Below.refl _ _) _)), bel_drewN Hb.out _⟩
    | true =>
     have hf := hone rfl
     obtain ⟨Hr, Hv, Hf, Hb, HL, Hn, Hy, Hz, Hyes, Hone, Hp1, Hp2⟩ := hd12 hr hv hf hb hL hn hy hz hyes hone hp1 hp2; clear hr hv hf hb hL hn hy hz hyes hone hp1 hp2
     go_wp2_with fail
     go_quiet (fail)
     go_wp2_with fail
     go_ret2
     exact ⟨_, _, _, by rw [Hf.out]; rfl, (fun k => by rw [Hf.out] at k; cases k), bel_drewN Hb.out _⟩
 ·have hf := setOk_no hr
  obtain ⟨a, c, rfl⟩ := sps_shape hv
  obtain ⟨Hr, Hv, Hf, Hb⟩ := hd4 hr hv hf hb; clear hr hv hf hb
  go_wp2_with fail
  go_quiet (fail)
  go_wp2_with fail
  go_ret2
  exact ⟨_, _, _, by rw [Hf.out]; rfl, (fun k => by rw [Hf.out] at k; cases k), bel_drewN Hb.out _⟩
end Go.Proofs.YteailgjiifdgcaaGreatDoor

/- The walk of the reader's wish. Condition: the library's variables as they were laid; at most a thousand words of at most 70000 bytes. -/
namespace Go.Proofs.YteailgjiifdgcaaGreatDoor
open Go.Shelf Go.RowKit Go.Lib VerN VarM
open LexM (Wd)
attribute [local go_sem ↓] Go.wp_at_zero Go.wp_at_succ

def WishPost (r : Nat) (a : Option Addr) (n c : Nat) (fin : Int) (ws : List Wd) (i : Nat) (w : World) (e : Ending) (w' : World) : Prop :=
 ((∃ s j v1 v2, wishW ws i = (some s, j) ∧ e = .returned (.agg #[.string s.1, v1, v2]) ∧ RSpsT w' v1 s.2.1 ∧ RSetsT w' v2 s.2.2 ∧ RBox r (.slice a n c) j fin w') ∨ (∃ j, wishW ws i = (none, j) ∧ e = thrown (colAt ws fin j))) ∧ Frm (fun k => k = r) w w'
abbrev SpcBox (k : Nat) (x y z : Value) (W : World) : Prop := W.heap[k]? = some (.cells #[x, y, z] 51 (0, 0))
theorem spc_cells {k : Nat} {x y z : Value} {W : World} (h : SpcBox k x y z W) : W.cell? ⟨k, 0, none⟩ = some x ∧ W.cell? ⟨k, 1, none⟩ = some y ∧ W.cell? ⟨k, 2, none⟩ = some z ∧ W.frozen? ⟨k, 0, none⟩ = false ∧ W.frozen? ⟨k, 1, none⟩ = false ∧ W.frozen? ⟨k, 2, none⟩ = false :=
 ⟨cells_at h 0, cells_at h 1, cells_at h 2, frozen_at h 0, frozen_at h 1, frozen_at h 2⟩
theorem frm_keep {S : Nat → Prop} {W W' : World} (hF : Frm S W W') {k : Nat} {o : Obj} (h : W.heap[k]? = some o) (hS : ¬ S k) : W'.heap[k]? = some o := heap_to h hF hS
theorem wish_no2 {W : World} {r g g1 : Nat} {v : Value} {i : Nat} {fin : Int} {x0 x1 : Value} {a0 a1 b0 b1 : Option Addr} {n0 n1 m0 m1 c0 c1 d0 d1 : Nat} (h : RBox r v i fin W) (h0 : SpcBox g x0 (.slice a0 n0 c0) (.slice b0 m0 d0) W) (h1 : SpcBox g1 x1 (.slice a1 n1 c1) (.slice b1 m1 d1) W) : No2 W (fun k => k = r ∨ k = g ∨ k = g1) := by
 rintro k (rfl | rfl | rfl)
 ·exact no2_of h (by decide) (by decide)
 ·exact no2_of h0 (by decide) (by decide)
 ·exact no2_of h1 (by decide) (by decide)
theorem wish_end {W7 W8 : World} {r g g1 : Nat} {v : Value} {i : Nat} {fin : Int} {x y z p q s u : Value} (h0 : SpcBox g x y z W7) (h : RBox r v i fin W7) (hr : r ≠ g) (hr1 : r ≠ g1) (hg : g ≠ g1) (hW : W8 = (((W7.setCell ⟨g1, 2, none⟩ u).setCell ⟨g, 0, none⟩ p).setCell ⟨g, 1, none⟩ q).setCell ⟨g, 2, none⟩ s) : SpcBox g p q s W8 ∧ RBox r v i fin W8 := by
 rw [hW]
 refine ⟨?_, heap_other (heap_other (heap_other (heap_other h hr1) hr) hr) hr⟩
 have k0 := heap_setCell_same _ g 0 _ _ p (heap_other (b := g1) (i := 2) (u := u) h0 hg)
 have k1 := heap_setCell_same _ g 1 _ _ q k0
 have k2 := heap_setCell_same _ g 2 _ _ s k1
 exact k2
structure WsI (w0 : World) (r : Nat) (a : Option Addr) (n c : Nat) (fin : Int) (i : Nat) (w : World) (W : World) : Prop where
 st : RdS w0 r a n c fin i W
 frm : Frm (fun k => k = r) w W
 g0 : SpcBox w.heap.size (.string ⟨#[]⟩) (.slice none 0 0) (.slice none 0 0) W
theorem WsI.to {w0 : World} {r : Nat} {a : Option Addr} {n c : Nat} {fin : Int} {i : Nat} {w W W' : World} (h : WsI w0 r a n c fin i w W) (hb : Below W.heap.size W W') : WsI w0 r a n c fin i w W' :=
 ⟨h.st.to hb, h.frm.trans (Frm.of_below (S := fun _ => False) hb) (fun _ _ h => h.elim), heap_below hb h.g0⟩
structure WsJ (w0 : World) (r : Nat) (a : Option Addr) (n c : Nat) (fin : Int) (i : Nat) (w : World) (g g1 : Nat) (nm : ByteArray) (va : Option Addr) (vn vc : Nat) (L : List BSp) (W : World) : Prop where
 st : RdS w0 r a n c fin i W
 frm : Frm (fun k => k = r) w W
 g0 : SpcBox g (.string ⟨#[]⟩) (.slice none 0 0) (.slice none 0 0) W
 g1 : SpcBox g1 (.string nm) (.slice va vn vc) (.slice none 0 0) W
 rd : RSpsT W (.slice va vn vc) L
theorem all_reads (W : World) : RSpsT (W.alloc (.cells #[.string ⟨#[]⟩, .string ⟨#[]⟩] 34)) (.slice (some ⟨W.heap.size, 0, none⟩) 1 1) allV := by
 refine ⟨?_, fun _ k hk => by cases hk; exact ⟨_, _, heap_alloc_new W _⟩⟩
 refine ⟨_, 1, rfl, Nat.le_refl _, by unfold maxLen; omega, fun i x hi => ?_⟩
 have h := heap_alloc_new W (.cells #[.string ⟨#[]⟩, .string ⟨#[]⟩] 34)
 match i, hi with
 | 0, hi =>
  simp [allV] at hi
  subst hi
  refine ⟨W.heap.size, 0, [.string ⟨#[]⟩, .string ⟨#[]⟩], rfl, rfl, fun j u hu => ?_, rfl, Nat.zero_le _, Nat.zero_le _⟩
  rw [Nat.zero_mul, Nat.add_zero, Nat.zero_add]
  match j, hu with
  | 0, hu => simp at hu; subst hu; exact cells_at h 0
  | 1, hu => simp at hu; subst hu; exact cells_at h 1
 | i + 1, hi => simp [allV] at hi
theorem wishW_no {ws : List Wd} {i : Nat} (h : nameB (peekB ws i) = false) : wishW ws i = (none, i) := by
 unfold wishW
 rw [if_neg (by rw [h]; simp)]
theorem wishW_yes {ws : List Wd} {i : Nat} {s nm : ByteArray} {L : List BSp} (h : nameB (peekB ws i) = true) (hs : s = peekB ws i) (hnm : nm = (cutB 64 s).1) (hL : L = spansB s) : (∀ l j, setsAt ws (i + 1) [] = (some l, j) → wishW ws i = (some (nm, L, l), j)) ∧ (∀ j, setsAt ws (i + 1) [] = (none, j) → wishW ws i = (none, j)) := by
 subst hs hnm hL
 constructor
 ·intro l j e
  unfold wishW
  rw [if_pos h, e]
  rfl
 ·intro j e
  unfold wishW
  rw [if_pos h, e]
  rfl
set_option maxRecDepth 10000 in
set_option maxHeartbeats 8000000 in
theorem wish_any {w0 w : World} {r : Nat} {a : Option Addr} {n c : Nat} {fin : Int} {ws : List Wd} {i : Nat} (C : RdC w0 r a n c fin ws) (S : RdS w0 r a n c fin i w) (hi : i ≤ 1000) : Calls Tryz.prog 132 #[rp r] w (WishPost r a n c fin ws i w) := by
 have hrw : r < w.heap.size := (Array.getElem?_eq_some_iff.1 S.box).1
 have hn1 := C.n1000
 obtain ⟨s, hs⟩ : ∃ s, s = peekB ws i := ⟨_, rfl⟩
 have hsz : s.size ≤ 70000 := by rw [hs]; exact C.peek_size _
 have hI0 : WsI w0 r a n c fin i w (w.alloc (.cells #[.string ⟨#[]⟩, .slice none 0 0, .slice none 0 0] 51)) := ⟨S.to (below_alloc1 w _), (Frm.refl _ _).alloc _, heap_alloc_new _ _⟩
 have hP := C.peek hI0.st
 rw [← hs] at hP
 obtain ⟨nm, hnm⟩ : ∃ x : ByteArray, x = ⟨(cut s.data.toList [64]).1.toArray⟩ := ⟨_, rfl⟩
 obtain ⟨tl, htl⟩ : ∃ x : ByteArray, x = ⟨(cut s.data.toList [64]).2.1.toArray⟩ := ⟨_, rfl⟩
 obtain ⟨fl, hfl⟩ : ∃ x : Bool, x = (cut s.data.toList [64]).2.2 := ⟨_, rfl⟩
 have hsgz : nm.size ≤ 70000 ∧ tl.size ≤ 70000 := by
  have := cutB_size 64 s
  have e1 : nm = (cutB 64 s).1 := hnm
  have e2 : tl = (cutB 64 s).2.1 := htl
  rw [e1, e2]
  omega
 have hnm2 : nm = (cutB 64 s).1 := hnm
 have hNm := fun (W : World) => name_any nm (by omega) W
 obtain ⟨nk, hnk⟩ : ∃ b, b = nameOf nm.data.toList := ⟨_, rfl⟩
 rw [← hnk] at hNm
 have hnb : nameB (peekB ws i) = (nk && (!fl || setOk tl)) := by
  rw [← hs]
  unfold nameB
  rw [hnk, hfl, htl, hnm]
  rfl
 have hsb : spansB s = if fl = true then rdV tl else allV := by
  unfold spansB
  rw [hfl, htl]
  rfl
 obtain ⟨HC, HS, HI0, HP, Hs, Hsgz, Hnm2, Hnk, Hnb, Hsb⟩ := hd10 C S hI0 hP hs hsgz hnm2 hnk hnb hsb; clear C S hI0 hP hs hsgz hnm2 hnk hnb hsb
 go_enter Tryz.func132, Tryz.ntmps132
 go_wp2_with fail
 refine HP.out.mono ?_
 rintro e w1 ⟨rfl, q1, rfl⟩
 have hI1 := HI0.out.to (bel_drewN (Below.refl _ _) q1)
 generalize (w.alloc (.cells #[.string ⟨#[]⟩, .slice none 0 0, .slice none 0 0] 51)).drewN q1 = w2 at hI1 ⊢
 obtain ⟨mx, hmx⟩ := (HC.out.dr hI1.st).max
 have hCut := Tryz.strings_Cut s ⟨#[64]⟩ mx w2 (by omega) hmx
 clear hmx
 simp only [← hnm, ← htl, ← hfl] at hCut
 obtain ⟨HCut, HI1, Hnm, Htl, Hfl⟩ := hd5 hCut hI1 hnm htl hfl; clear hCut hI1 hnm htl hfl
 go_wp2_with fail
 refine HCut.out.mono ?_
 rintro e w3 ⟨rfl, q2, rfl⟩
 have hI2 := HI1.out.to (bel_drewN (Below.refl _ _) q2)
 generalize w2.drewN q2 = w3 at hI2 ⊢
 have HI2 := hd hI2; clear hI2
 go_upto_region 3 with (fail)
 obtain ⟨g, hg⟩ : ∃ k, k = w.heap.size := ⟨_, rfl⟩
 obtain ⟨g1, hg1⟩ : ∃ k, k = w3.heap.size + 1 := ⟨_, rfl⟩
 obtain ⟨va, hva⟩ : ∃ k : Option Addr, k = some ⟨w3.heap.size, 0, none⟩ := ⟨_, rfl⟩
 obtain ⟨w4, hw4⟩ : ∃ W, W = ((w3.alloc (.cells #[.string ⟨#[]⟩, .string ⟨#[]⟩] 34)).alloc (.cells #[.string nm, .slice va 1 1, .slice none 0 0] 51)) := ⟨_, rfl⟩
 have hb34 : Below w3.heap.size w3 w4 := by rw [hw4]; exact (below_alloc1 _ _).alloc (by simp) _
 have hJ : WsJ w0 r a n c fin i w g g1 nm va 1 1 allV w4 := by
  refine ⟨HI2.out.st.to hb34, ?_, ?_, ?_, ?_⟩
  ·exact HI2.out.frm.trans (Frm.of_below (S := fun _ => False) hb34) (fun _ _ h => h.elim)
  ·rw [hg]; exact heap_below hb34 HI2.out.g0
  ·rw [hw4, hg1]; exact heap_new_at (by simp)
  ·rw [hw4, hva]; exact spsT_below (all_reads w3) (below_alloc1 _ _)
 have hrg : r < g := by rw [hg]; exact hrw
 have hgg : g < g1 := by rw [hg1, hg]; have := HI2.out.frm.size; omega
 have hwg : w.heap.size ≤ g := Nat.le_of_eq hg.symm
 rw [← hva, ← hw4, ← hg, ← hg1]
 clear hva hw4 hg hg1 hb34
 have HJ := hd hJ; clear hJ
 cases fl with
 | false =>
  cases nk with
  | false =>
   have hNo := wishW_no (ws := ws) (i := i) (by rw [Hnb.out]; rfl)
   have hIs := HJ.out.st
   have hIf := HJ.out.frm
   obtain ⟨HIs, HIf⟩ := hd2 hIs hIf; clear hIs hIf
   have hWn := HC.out.want HIs.out
   obtain ⟨HWn, HNo⟩ := hd2 hWn hNo; clear hWn hNo
   go_wp2_with fail
   refine (hNm _).mono ?_
   rintro e wN ⟨rfl, hwN⟩
   subst hwN
   go_wp2_with fail
   refine HWn.out.mono ?_
   rintro e w6 ⟨rfl, q5, rfl⟩
   go_wp2_with fail
   exact ⟨rfl, .inr ⟨i, HNo.out, rfl⟩, HIf.out.drewN q5⟩
  | true =>
   have hYe := wishW_yes (L := allV) (by rw [Hnb.out]; rfl) Hs.out Hnm2.out (by rw [Hsb.out]; rfl)
   have HI := HJ
   have hSt := settings_any HC.out (HI.out.st.on HC.out.low)
   obtain ⟨_, c1', _, c3'⟩ := rbox_cells HI.out.st.box
   obtain ⟨HSt, HYe⟩ := hd2 hSt hYe; clear hSt hYe
   go_wp2_with fail
   refine (hNm _).mono ?_
   rintro e wN ⟨rfl, hwN⟩
   subst hwN
   go_wp2_with fail
   refine (want_yes _ r).mono ?_
   rintro e w6 ⟨rfl, hw6⟩
   subst hw6
   go_wp2_with fail
   refine HSt.out.mono ?_
   rintro e w7 ⟨⟨l, j, v, hse, rfl, hv, hbx⟩ | ⟨j, hse, rfl⟩, hfr⟩
   ·obtain ⟨a3, c3, rfl⟩ := sets_shape hv.1
    have hfw := (frm_cell HI.out.frm 1 (.int .i64 ((i : Int) + 1))).trans hfr (fun _ _ h => h)
    obtain ⟨z, hz⟩ : ∃ n, n = l.length := ⟨_, rfl⟩
    rw [← hz] at hv ⊢
    have hk0 : SpcBox g (.string ⟨#[]⟩) (.slice none 0 0) (.slice none 0 0) w7 := frm_keep hfr (heap_other (b := r) (i := 1) HI.out.g0 (by omega)) (by omega)
    have hk1 : SpcBox g1 (.string nm) (.slice va 1 1) (.slice none 0 0) w7 := frm_keep hfr (heap_other (b := r) (i := 1) HI.out.g1 (by omega)) (by omega)
    obtain ⟨_, _, _, f00, f01, f02⟩ := spc_cells hk0
    obtain ⟨x10, x11, _, f10, f11, f12⟩ := spc_cells hk1
    have hvv := HI.out.rd
    obtain ⟨Hse, Hv, Hbx, Hfr, Hfw, Hk0, Hk1, Hvv, Hz⟩ := hd9 hse hv hbx hfr hfw hk0 hk1 hvv hz; clear hse hv hbx hfr hfw hk0 hk1 hvv hz
    go_wp2_with fail
    obtain ⟨W8, hW8⟩ : ∃ W, W = (((w7.setCell ⟨g1, 2, none⟩ (.slice a3 z c3)).setCell ⟨g, 0, none⟩ (.string nm)).setCell ⟨g, 1, none⟩ (.slice va 1 1)).setCell ⟨g, 2, none⟩ (.slice a3 z c3) := ⟨_, rfl⟩
    rw [← hW8]
    have hfin := wish_end (g1 := g1) Hk0.out (i := j) Hbx.out (by omega) (by omega) (by omega) hW8
    have hF8 : Frm (fun k => k = r) w W8 := by rw [hW8]; exact (((Hfw.out.setCell (p := ⟨g1, 2, none⟩) (.inl (show w.heap.size ≤ g1 by omega)) _).setCell (p := ⟨g, 0, none⟩) (.inl hwg) _).setCell (p := ⟨g, 1, none⟩) (.inl hwg) _).setCell (p := ⟨g, 2, none⟩) (.inl hwg) _
    have hT8 : Frm (fun k => k = r ∨ k = g ∨ k = g1) w7 W8 := by
     rw [hW8]
     exact ((((Frm.refl _ w7).setCell (p := ⟨g1, 2, none⟩) (.inr (.inr (.inr rfl))) _).setCell (p := ⟨g, 0, none⟩) (.inr (.inr (.inl rfl))) _).setCell (p := ⟨g, 1, none⟩) (.inr (.inr (.inl rfl))) _).setCell (p := ⟨g, 2, none⟩) (.inr (.inr (.inl rfl))) _
    refine bodyPost_ret (results_cell_row rfl _ _ _ _ _ _ _ rfl hfin.1 Tryz.underlying51 rfl (by kernel_rfl)) rfl ?_
    refine ⟨.inl ⟨(nm, allV, l), j, .slice va 1 1, .slice a3 z c3, HYe.out.1 _ _ Hse.out, rfl, ?_, ?_, hfin.2⟩, hF8⟩
    ·have h7 : Frm (fun k => k = r ∨ k = g ∨ k = g1) w6 w7 := (Frm.setCell (S := fun k => k = r ∨ k = g ∨ k = g1) (Frm.refl _ w6) (p := ⟨r, 1, none⟩) (.inr (.inl rfl)) _).trans (T := fun k => k = r) Hfr.out (fun _ _ h => .inl h)
     exact sps_other Hvv.out (h7.trans hT8 (fun _ _ h => h)) (wish_no2 HI.out.st.box HI.out.g0 HI.out.g1)
    ·exact sets_other Hv.out hT8 (wish_no2 Hbx.out Hk0.out Hk1.out)
   ·have hfw := (frm_cell HI.out.frm 1 (.int .i64 ((i : Int) + 1))).trans hfr (fun _ _ h => h)
    obtain ⟨Hse, Hfr, Hfw⟩ := hd3 hse hfr hfw; clear hse hfr hfw
    go_wp2_with fail
    exact ⟨rfl, .inr ⟨j, HYe.out.2 _ Hse.out, rfl⟩, Hfw.out⟩
 | true =>
  have hSet := set_any tl (by have := Hsgz.out; omega) (HC.out.dr HJ.out.st)
  obtain ⟨ok, hok⟩ : ∃ b, b = setOk tl := ⟨_, rfl⟩
  unfold SetPost at hSet
  rw [← hok] at hSet
  obtain ⟨HSet, Hok⟩ := hd2 hSet hok; clear hSet hok
  go_wp2_with fail
  refine HSet.out.mono ?_
  rintro e w5 ⟨a2, n2, c2, rfl, hrd, hb5⟩
  have hg15 := heap_below hb5 HJ.out.g1
  have hg05 := heap_below hb5 HJ.out.g0
  obtain ⟨_, _, _, _, fz1, _⟩ := spc_cells hg15
  have hst5 := HJ.out.st.to hb5
  have hfr5 := HJ.out.frm.trans (Frm.of_below (S := fun _ => False) hb5) (fun _ _ h => h.elim)
  obtain ⟨w6, hw6⟩ : ∃ W, W = w5.setCell ⟨g1, 1, none⟩ (.slice a2 n2 c2) := ⟨_, rfl⟩
  have hIs : RdS w0 r a n c fin i w6 := by rw [hw6]; exact ⟨heap_other hst5.box (by omega), hst5.bel.setCell (p := ⟨g1, 1, none⟩) (by have := HC.out.low; show w0.heap.size ≤ g1; omega) _⟩
  have hIf : Frm (fun k => k = r) w w6 := by rw [hw6]; exact hfr5.setCell (p := ⟨g1, 1, none⟩) (.inl (by show w.heap.size ≤ g1; omega)) _
  have hJ6 : ok = true → WsJ w0 r a n c fin i w g g1 nm a2 n2 c2 (rdV tl) w6 := fun k => by
   refine ⟨hIs, hIf, ?_, ?_, ?_⟩
   ·rw [hw6]; exact heap_other hg05 (by omega)
   ·rw [hw6]; exact heap_setCell_same _ g1 1 _ _ _ hg15
   ·rw [hw6]
    exact sps_other (hrd k) (Frm.setCell (S := fun k => k = g1) (Frm.refl _ _) (p := ⟨g1, 1, none⟩) (.inr rfl) _) (fun k hk => by rw [show k = g1 from hk]; exact no2_of hg15 (by decide) (by decide))
  obtain ⟨Hrd, Hb5, Hg15, Hg05, Hst5, Hfr5, HIs, HIf, HJ6⟩ := hd9 hrd hb5 hg15 hg05 hst5 hfr5 hIs hIf hJ6; clear hrd hb5 hg15 hg05 hst5 hfr5 hIs hIf hJ6
  cases nk with
  | false =>
   have hNo := wishW_no (ws := ws) (i := i) (by rw [Hnb.out]; rfl)
   go_upto_region 6 with (fail)
   rw [← hw6]
   clear hw6
   have hWn := HC.out.want HIs.out
   obtain ⟨HWn, HNo⟩ := hd2 hWn hNo; clear hWn hNo
   go_wp2_with fail
   refine (hNm _).mono ?_
   rintro e wN ⟨rfl, hwN⟩
   subst hwN
   go_wp2_with fail
   refine HWn.out.mono ?_
   rintro e w6 ⟨rfl, q5, rfl⟩
   go_wp2_with fail
   exact ⟨rfl, .inr ⟨i, HNo.out, rfl⟩, HIf.out.drewN q5⟩
  | true =>
   cases ok with
   | false =>
    have hNo := wishW_no (ws := ws) (i := i) (by rw [Hnb.out, ← Hok.out]; rfl)
    go_upto_region 6 with (fail)
    rw [← hw6]
    clear hw6
    have hWn := HC.out.want HIs.out
    obtain ⟨HWn, HNo⟩ := hd2 hWn hNo; clear hWn hNo
    go_wp2_with fail
    refine (hNm _).mono ?_
    rintro e wN ⟨rfl, hwN⟩
    subst hwN
    go_wp2_with fail
    refine HWn.out.mono ?_
    rintro e w6 ⟨rfl, q5, rfl⟩
    go_wp2_with fail
    exact ⟨rfl, .inr ⟨i, HNo.out, rfl⟩, HIf.out.drewN q5⟩
   | true =>
    have hYe := wishW_yes (L := rdV tl) (by rw [Hnb.out, ← Hok.out]; rfl) Hs.out Hnm2.out (by rw [Hsb.out]; rfl)
    have HI := Lib.hid (HJ6.out rfl)
    go_upto_region 6 with (fail)
    rw [← hw6]
    clear hw6
    have hSt := settings_any HC.out (HI.out.st.on HC.out.low)
    obtain ⟨_, c1', _, c3'⟩ := rbox_cells HI.out.st.box
    obtain ⟨HSt, HYe⟩ := hd2 hSt hYe; clear hSt hYe
    go_wp2_with fail
    refine (hNm _).mono ?_
    rintro e wN ⟨rfl, hwN⟩
    subst hwN
    go_wp2_with fail
    refine (want_yes _ r).mono ?_
    rintro e w6 ⟨rfl, hw6⟩
    subst hw6
    go_wp2_with fail
    refine HSt.out.mono ?_
    rintro e w7 ⟨⟨l, j, v, hse, rfl, hv, hbx⟩ | ⟨j, hse, rfl⟩, hfr⟩
    ·obtain ⟨a3, c3, rfl⟩ := sets_shape hv.1
     have hfw := (frm_cell HI.out.frm 1 (.int .i64 ((i : Int) + 1))).trans hfr (fun _ _ h => h)
     obtain ⟨z, hz⟩ : ∃ n, n = l.length := ⟨_, rfl⟩
     rw [← hz] at hv ⊢
     have hk0 : SpcBox g (.string ⟨#[]⟩) (.slice none 0 0) (.slice none 0 0) w7 := frm_keep hfr (heap_other (b := r) (i := 1) HI.out.g0 (by omega)) (by omega)
     have hk1 : SpcBox g1 (.string nm) (.slice a2 n2 c2) (.slice none 0 0) w7 := frm_keep hfr (heap_other (b := r) (i := 1) HI.out.g1 (by omega)) (by omega)
     obtain ⟨_, _, _, f00, f01, f02⟩ := spc_cells hk0
     obtain ⟨x10, x11, _, f10, f11, f12⟩ := spc_cells hk1
     have hvv := HI.out.rd
     obtain ⟨Hse, Hv, Hbx, Hfr, Hfw, Hk0, Hk1, Hvv, Hz⟩ := hd9 hse hv hbx hfr hfw hk0 hk1 hvv hz; clear hse hv hbx hfr hfw hk0 hk1 hvv hz
     go_wp2_with fail
     obtain ⟨W8, hW8⟩ : ∃ W, W = (((w7.setCell ⟨g1, 2, none⟩ (.slice a3 z c3)).setCell ⟨g, 0, none⟩ (.string nm)).setCell ⟨g, 1, none⟩ (.slice a2 n2 c2)).setCell ⟨g, 2, none⟩ (.slice a3 z c3) := ⟨_, rfl⟩
     rw [← hW8]
     have hfin := wish_end (g1 := g1) Hk0.out (i := j) Hbx.out (by omega) (by omega) (by omega) hW8
     have hF8 : Frm (fun k => k = r) w W8 := by rw [hW8]; exact (((Hfw.out.setCell (p := ⟨g1, 2, none⟩) (.inl (show w.heap.size ≤ g1 by omega)) _).setCell (p := ⟨g, 0, none⟩) (.inl hwg) _).setCell (p := ⟨g, 1, none⟩) (.inl hwg) _).setCell (p := ⟨g, 2, none⟩) (.inl hwg) _
     have hT8 : Frm (fun k => k = r ∨ k = g ∨ k = g1) w7 W8 := by
      rw [hW8]
      exact ((((Frm.refl _ w7).setCell (p := ⟨g1, 2, none⟩) (.inr (.inr (.inr rfl))) _).setCell (p := ⟨g, 0, none⟩) (.inr (.inr (.inl rfl))) _).setCell (p := ⟨g, 1, none⟩) (.inr (.inr (.inl rfl))) _).setCell (p := ⟨g, 2, none⟩) (.inr (.inr (.inl rfl))) _
     refine bodyPost_ret (results_cell_row rfl _ _ _ _ _ _ _ rfl hfin.1 Tryz.underlying51 rfl (by kernel_rfl)) rfl ?_
     refine ⟨.inl ⟨(nm, rdV tl, l), j, .slice a2 n2 c2, .slice a3 z c3, HYe.out.1 _ _ Hse.out, rfl, ?_, ?_, hfin.2⟩, hF8⟩
     ·have h7 : Frm (fun k => k = r ∨ k = g ∨ k = g1) w6 w7 := (Frm.setCell (S := fun k => k = r ∨ k = g ∨ k = g1) (Frm.refl _ w6) (p := ⟨r, 1, none⟩) (.inr (.inl rfl)) _).trans (T := fun k => k = r) Hfr.out (fun _ _ h => .inl h)
      exact sps_other Hvv.out (h7.trans hT8 (fun _ _ h => h)) (wish_no2 HI.out.st.box HI.out.g0 HI.out.g1)
     ·exact sets_other Hv.out hT8 (wish_no2 Hbx.out Hk0.out Hk1.out)
    ·have hfw := (frm_cell HI.out.frm 1 (.int .i64 ((i : Int) + 1))).trans hfr (fun _ _ h => h)
     obtain ⟨Hse, Hfr, Hfw⟩ := hd3 hse hfr hfw; clear hse hfr hfw
     go_wp2_with fail
     exact ⟨rfl, .inr ⟨j, HYe.out.2 _ Hse.out, rfl⟩, Hfw.out⟩
end Go.Proofs.YteailgjiifdgcaaGreatDoor

/- The walk of cooperref04.Same. No condition. -/
namespace Go.Proofs.YteailgjiifdgcaaGreatDoor
open Go.RowKit Go.Shelf
attribute [local go_sem ↓] Go.wp_at_zero Go.wp_at_succ

theorem set_neqs (s t a b : ByteArray) (W : World) : (binOp .neq 109 (.agg #[.string s, .string t]) (.agg #[.string a, .string b])).run Tryz.prog W = .ok (.bool (!(decide (s = a) && decide (t = b)))) W := by
 have u9 := Tryz.underlying9
 have hS : Tryz.prog.underlying 109 = some (.struct (Tryz.prog.fieldsOf 109)) := by kernel_rfl
 have hp : Tryz.prog.stoodInHeld 109 = false := by kernel_rfl
 rw [run_neq_struct, show (10000 : Nat) = 9999 + 1 from rfl, run_equalIn_agg W 9999 109 _ _ hS hp]
 simp only [Program.fieldsOf, Tryz.underlying109]
 go_simp
 have e1 := Txt.eq_dec s a
 have e2 := Txt.eq_dec t b
 by_cases h1 : s = a <;> by_cases h2 : t = b <;> simp [h1, h2] at e1 e2 ⊢ <;> simp_all
set_option maxRecDepth 10000 in
set_option maxHeartbeats 1000000 in
theorem sameRef_any {w : World} {v u : Value} {l m : List Setg} (h : RSets w [v] l) (hm : RSets w [u] m) : Calls Tryz.prog 80 #[v, u] w fun e w' => e = .returned (.bool (decide (l = m))) ∧ ∃ q, w' = w.drewN q := by
 obtain ⟨a, cap, rfl, hz, g⟩ := sets_open h
 obtain ⟨a2, cap2, rfl, hz2, g2⟩ := sets_open hm
 obtain ⟨n, hn⟩ : ∃ n, n = l.length := ⟨_, rfl⟩
 obtain ⟨n2, hn2⟩ : ∃ n, n = m.length := ⟨_, rfl⟩
 obtain ⟨r, hr⟩ : ∃ r, r = decide (l = m) := ⟨_, rfl⟩
 have q1 := fun s t a b => set_neqs s t a b
 rw [← hr]
 rw [← hn] at hz h ⊢
 rw [← hn2] at hz2 hm ⊢
 obtain ⟨Hh, Hm, Hg, Hg2, Hn, Hn2, Hr, Hq1⟩ := hd8 h hm g g2 hn hn2 hr q1; clear h hm g g2 hn hn2 hr q1
 go_enter Tryz.func80, Tryz.ntmps80
 by_cases hne : n = n2
 case neg =>
  have k1 : ((n : Int) != (n2 : Int)) = true := by simp; omega
  have hf : r = false := by rw [Hr.out, decide_eq_false_iff_not]; intro e; exact hne (by rw [Hn.out, Hn2.out, e])
  obtain ⟨Hf, Hne⟩ := hd2 hf hne; clear hf hne
  go_wp2_with fail
  go_ret
  exact ⟨ret_bool Hf.out.symm, 0, rfl⟩
 have k1 : ((n : Int) != (n2 : Int)) = false := by simp; omega
 have Hne := hd hne; clear hne
 go_wp2_with fail
 clear k1
 go_loopw [13] (fun i wr => ∃ k : Nat, k ≤ n ∧ i = .int .i64 k ∧ (∀ j (h1 : j < l.length) (h2 : j < m.length), j < k → l[j] = m[j]) ∧ ∃ q, wr = w.drewN q) (fun i _ => n - (intOf i).toNat)
 case atStart => exact ⟨0, Nat.zero_le _, rfl, fun _ _ _ h => by omega, 0, rfl⟩
 case round =>
  obtain ⟨k, hk, rfl, hno, q, rfl⟩ := hrel
  by_cases hlt : k < n
  ·have hkl : k < l.length := by have := Hn.out; omega
   have hkm : k < m.length := by have := Hn2.out; have := Hne.out; omega
   obtain ⟨b, off, rfl, d0, d1, _, _⟩ := Hg.out k _ (List.getElem?_eq_getElem hkl)
   obtain ⟨b2, off2, rfl, f0, f1, _, _⟩ := Hg2.out k _ (List.getElem?_eq_getElem hkm)
   have hnx : l[k] = m[k] → ∀ j (h1 : j < l.length) (h2 : j < m.length), j < k + 1 → l[j] = m[j] := fun h j h1 h2 hjk => by
    by_cases e : j = k
    ·subst e; exact h
    ·exact hno j h1 h2 (by omega)
   have hbd : l[k] ≠ m[k] → l ≠ m := fun h e => h (by subst e; rfl)
   obtain ⟨x, hx⟩ : ∃ x, x = l[k] := ⟨_, rfl⟩
   obtain ⟨y, hy⟩ : ∃ x, x = m[k] := ⟨_, rfl⟩
   rw [← hx] at d0 d1 hnx hbd
   rw [← hy] at f0 f1 hnx hbd
   have q2 := Hq1.out x.1 x.2 y.1 y.2
   have hxy : (decide (x.1 = y.1) && decide (x.2 = y.2)) = decide (x = y) := by
    rw [Bool.eq_iff_iff]
    simp [Prod.ext_iff]
   rw [hxy] at q2
   obtain ⟨s, hs⟩ : ∃ s, s = x.1 := ⟨_, rfl⟩
   obtain ⟨t, ht⟩ : ∃ s, s = x.2 := ⟨_, rfl⟩
   obtain ⟨s', hs'⟩ : ∃ s, s = y.1 := ⟨_, rfl⟩
   obtain ⟨t', ht'⟩ : ∃ s, s = y.2 := ⟨_, rfl⟩
   rw [← hs, ← ht, ← hs', ← ht'] at q2
   rw [← hs] at d0
   rw [← ht] at d1
   rw [← hs'] at f0
   rw [← ht'] at f1
   have k5 : (0 : Int) ≤ (k : Int) := by omega
   have k6 : (k : Int) < (n : Int) := by omega
   have k7 : (k : Int) < (n2 : Int) := by have := Hne.out; omega
   clear hxy
   by_cases e : x = y
   ·have hq := hnx e
    rw [decide_eq_true e] at q2
    simp only [Bool.not_true] at q2
    clear e
    obtain ⟨Hno, Hnx, Hbd, Hx, Hy, Hs, Ht, Hs', Ht', Hq⟩ := hd10 hno hnx hbd hx hy hs ht hs' ht' hq; clear hno hnx hbd hx hy hs ht hs' ht' hq
    go_wp2_with fail
    go_region
    go_wp2_with fail
    go_roundw
    case rel => exact ⟨k + 1, by omega, by go_num, Hq.out, _, rfl⟩
    case measure => simp [intOf]; omega
   ·have hf : r = false := by rw [Hr.out, decide_eq_false_iff_not]; exact hbd e
    rw [decide_eq_false e] at q2
    simp only [Bool.not_false] at q2
    clear e
    obtain ⟨Hno, Hnx, Hbd, Hx, Hy, Hs, Ht, Hs', Ht', Hf⟩ := hd10 hno hnx hbd hx hy hs ht hs' ht' hf; clear hno hnx hbd hx hy hs ht hs' ht' hf
    go_wp2_with fail
    go_region
    go_wp2_with fail
    go_ret
    exact ⟨ret_bool Hf.out.symm, _, rfl⟩
  ·obtain rfl : n = k := by omega
   have hf : r = true := by
    rw [Hr.out, decide_eq_true_eq]
    exact List.ext_getElem (by rw [← Hn.out, ← Hn2.out, Hne.out]) (fun j h1 h2 => hno j h1 h2 (by have := Hn.out; omega))
   obtain ⟨Hno, Hf⟩ := hd2 hno hf; clear hno hf
   go_wp2_with fail
   go_ret
   exact ⟨ret_bool Hf.out.symm, _, rfl⟩
end Go.Proofs.YteailgjiifdgcaaGreatDoor

/- The walk of cooperref06.SameSpec. No condition. -/
namespace Go.Proofs.YteailgjiifdgcaaGreatDoor
open Go.Shelf Go.RowKit Go.Lib VerN VarM
attribute [local go_sem ↓] Go.wp_at_zero Go.wp_at_succ

set_option maxRecDepth 10000 in
set_option maxHeartbeats 2000000 in
theorem sameSpec_any {w : World} {n m : ByteArray} {v1 v2 u1 u2 : Value} {l1 l2 : List BSp} {g1 g2 : List Setg} (h1 : RSps w [v1] l1) (h2 : RSets w [v2] g1) (h3 : RSps w [u1] l2) (h4 : RSets w [u2] g2) :
  Calls Tryz.prog 38 #[.agg #[.string n, v1, v2], .agg #[.string m, u1, u2]] w fun e w' => e = .returned (.bool (decide ((n, l1, g1) = (m, l2, g2)))) ∧ Below w.heap.size w w' := by
 obtain ⟨a1, c1, rfl, -, -⟩ := sps_open h1
 obtain ⟨a2, c2, rfl, -, -⟩ := sets_open h2
 obtain ⟨a3, c3, rfl, -, -⟩ := sps_open h3
 obtain ⟨a4, c4, rfl, -, -⟩ := sets_open h4
 obtain ⟨W1, hW1⟩ : ∃ W, W = (w.alloc (.cells #[.string n, .slice a1 l1.length c1, .slice a2 g1.length c2] 51)).alloc (.cells #[.string m, .slice a3 l2.length c3, .slice a4 g2.length c4] 51) := ⟨_, rfl⟩
 obtain ⟨g, hg⟩ : ∃ g, g = w.heap.size := ⟨_, rfl⟩
 have hb1 : Below w.heap.size w W1 := by rw [hW1]; exact (below_alloc1 _ _).alloc (by simp) _
 have p0 : SpcBox g (.string n) (.slice a1 l1.length c1) (.slice a2 g1.length c2) W1 := by rw [hW1, hg]; exact heap_below (below_alloc1 _ _) (heap_new_at rfl)
 have p1 : SpcBox (g + 1) (.string m) (.slice a3 l2.length c3) (.slice a4 g2.length c4) W1 := by rw [hW1, hg]; exact heap_new_at (by simp)
 have r1 := stays_slice stays_spn _ _ _ _ h1 hb1
 have r2 := stays_slice stays_set _ _ _ _ h2 hb1
 have r3 := stays_slice stays_spn _ _ _ _ h3 hb1
 have r4 := stays_slice stays_set _ _ _ _ h4 hb1
 obtain ⟨x0, x1, x2, -⟩ := spc_cells p0
 obtain ⟨y0, y1, y2, -⟩ := spc_cells p1
 obtain ⟨r, hr⟩ : ∃ r, r = decide ((n, l1, g1) = (m, l2, g2)) := ⟨_, rfl⟩
 have hS := sameRefS_any r1 r3
 have hT := fun (W : World) (k : Below W1.heap.size W1 W) => sameRef_any (stays_slice stays_set _ _ _ _ r2 k) (stays_slice stays_set _ _ _ _ r4 k)
 obtain ⟨n1, hn1⟩ : ∃ n, n = l1.length := ⟨_, rfl⟩
 obtain ⟨n2, hn2⟩ : ∃ n, n = g1.length := ⟨_, rfl⟩
 obtain ⟨n3, hn3⟩ : ∃ n, n = l2.length := ⟨_, rfl⟩
 obtain ⟨n4, hn4⟩ : ∃ n, n = g2.length := ⟨_, rfl⟩
 have hnm := Txt.eq_dec n m
 rw [← hr]
 rw [← hn1] at x1 hS hW1 ⊢
 rw [← hn2] at x2 hT hW1 ⊢
 rw [← hn3] at y1 hS hW1 ⊢
 rw [← hn4] at y2 hT hW1 ⊢
 obtain ⟨bs, hbs⟩ : ∃ b, b = decide (l1 = l2) := ⟨_, rfl⟩
 obtain ⟨bt, hbt⟩ : ∃ b, b = decide (g1 = g2) := ⟨_, rfl⟩
 obtain ⟨bn, hbn⟩ : ∃ b, b = decide (n = m) := ⟨_, rfl⟩
 rw [← hbs] at hS
 rw [← hbt] at hT
 rw [← hbn] at hnm
 have hrr : r = (bn && (bs && bt)) := by
  rw [hr, hbn, hbs, hbt, Bool.eq_iff_iff]
  simp [Prod.ext_iff]
 clear hr hbs hbt hbn
 obtain ⟨H1, H2, H3, H4, Hb1, Hp0, Hp1, Hr1, Hr2, Hr3, Hr4, Hn1, Hn2, Hn3, Hn4, HS⟩ := hd16 h1 h2 h3 h4 hb1 p0 p1 r1 r2 r3 r4 hn1 hn2 hn3 hn4 hS; obtain ⟨HT, Hrr⟩ := hd2 hT hrr; clear h1 h2 h3 h4 hb1 p0 p1 r1 r2 r3 r4 hn1 hn2 hn3 hn4 hS hT hrr
 go_enter Tryz.func38, Tryz.ntmps38
 go_upto_region 1 with (fail)
 rw [← hW1, ← hg]
 clear hW1 hg
 cases bn with
 | false =>
  go_wp2_with fail
  go_ret
  exact ⟨ret_bool (by rw [Hrr.out]; rfl), Hb1.out⟩
 | true =>
  cases bs with
  | false =>
   go_wp2_with fail
   refine HS.out.mono ?_
   rintro e w2 ⟨rfl, q, rfl⟩
   go_wp2_with fail
   go_ret
   exact ⟨ret_bool (by rw [Hrr.out]; rfl), bel_drewN Hb1.out q⟩
  | true =>
   go_wp2_with fail
   refine HS.out.mono ?_
   rintro e w2 ⟨rfl, q, rfl⟩
   have hbq : Below W1.heap.size W1 (W1.drewN q) := bel_drewN (Below.refl _ _) q
   have hT2 := HT.out _ hbq
   obtain ⟨x3, x4, x5, -⟩ := spc_cells (heap_below hbq Hp0.out)
   obtain ⟨y3, y4, y5, -⟩ := spc_cells (heap_below hbq Hp1.out)
   rw [← Hn2.out] at x5
   rw [← Hn4.out] at y5
   obtain ⟨HT2, Hbq⟩ := hd2 hT2 hbq; clear hT2 hbq
   go_wp2_with fail
   refine HT2.out.mono ?_
   rintro e w2 ⟨rfl, q2, rfl⟩
   go_wp2_with fail
   go_ret
   exact ⟨ret_bool (by rw [Hrr.out]; rfl), bel_drewN Hb1.out _⟩

end Go.Proofs.YteailgjiifdgcaaGreatDoor

/- The walk of slices.Equal at spans. No condition. -/
namespace Go.Proofs.YteailgjiifdgcaaGreatDoor
open Go.RowKit Go.Shelf Go.Lib VerN

set_option maxRecDepth 10000 in
set_option maxHeartbeats 1000000 in
theorem equalSpn_any {w : World} {v u : Value} {l m : List BSp} (h : RSps w [v] l) (hm : RSps w [u] m) : Calls Tryz.prog 69 #[v, u] w fun e w' => e = .returned (.bool (decide (l = m))) ∧ ∃ q, w' = w.drewN q := by
 obtain ⟨a, cap, rfl, hz, g⟩ := sps_open h
 obtain ⟨a2, cap2, rfl, hz2, g2⟩ := sps_open hm
 obtain ⟨n, hn⟩ : ∃ n, n = l.length := ⟨_, rfl⟩
 obtain ⟨n2, hn2⟩ : ∃ n, n = m.length := ⟨_, rfl⟩
 obtain ⟨r, hr⟩ : ∃ r, r = decide (l = m) := ⟨_, rfl⟩
 have q1 := fun s t a b => spn_neqs s t a b
 rw [← hr]
 rw [← hn] at hz h ⊢
 rw [← hn2] at hz2 hm ⊢
 obtain ⟨Hh, Hm, Hg, Hg2, Hn, Hn2, Hr, Hq1⟩ := hd8 h hm g g2 hn hn2 hr q1; clear h hm g g2 hn hn2 hr q1
 go_enter Tryz.func69, Tryz.ntmps69
 by_cases hne : n = n2
 case neg =>
  have k1 : ((n : Int) != (n2 : Int)) = true := by simp; omega
  have hf : r = false := by rw [Hr.out, decide_eq_false_iff_not]; intro e; exact hne (by rw [Hn.out, Hn2.out, e])
  obtain ⟨Hf, Hne⟩ := hd2 hf hne; clear hf hne
  go_wp2_with fail
  go_ret
  exact ⟨ret_bool Hf.out.symm, 0, rfl⟩
 have k1 : ((n : Int) != (n2 : Int)) = false := by simp; omega
 have Hne := hd hne; clear hne
 go_wp2_with fail
 clear k1
 go_loopw [13] (fun i wr => ∃ k : Nat, k ≤ n ∧ i = .int .i64 k ∧ (∀ j (h1 : j < l.length) (h2 : j < m.length), j < k → l[j] = m[j]) ∧ ∃ q, wr = w.drewN q) (fun i _ => n - (RowKit.intOf i).toNat)
 case atStart => exact ⟨0, Nat.zero_le _, rfl, fun _ _ _ h => by omega, 0, rfl⟩
 case round =>
  obtain ⟨k, hk, rfl, hno, q, rfl⟩ := hrel
  by_cases hlt : k < n
  ·have hkl : k < l.length := by have := Hn.out; omega
   have hkm : k < m.length := by have := Hn2.out; have := Hne.out; omega
   obtain ⟨b, off, rfl, d0, d1, _, _⟩ := Hg.out k _ (List.getElem?_eq_getElem hkl)
   obtain ⟨b2, off2, rfl, f0, f1, _, _⟩ := Hg2.out k _ (List.getElem?_eq_getElem hkm)
   have hnx : l[k] = m[k] → ∀ j (h1 : j < l.length) (h2 : j < m.length), j < k + 1 → l[j] = m[j] := fun h j h1 h2 hjk => by
    by_cases e : j = k
    ·subst e; exact h
    ·exact hno j h1 h2 (by omega)
   have hbd : l[k] ≠ m[k] → l ≠ m := fun h e => h (by subst e; rfl)
   obtain ⟨x, hx⟩ : ∃ x, x = l[k] := ⟨_, rfl⟩
   obtain ⟨y, hy⟩ : ∃ x, x = m[k] := ⟨_, rfl⟩
   rw [← hx] at d0 d1 hnx hbd
   rw [← hy] at f0 f1 hnx hbd
   have q2 := Hq1.out x.1 x.2 y.1 y.2
   have hxy : (decide (x.1 = y.1) && decide (x.2 = y.2)) = decide (x = y) := by
    rw [Bool.eq_iff_iff]
    simp [Prod.ext_iff]
   rw [hxy] at q2
   obtain ⟨s, hs⟩ : ∃ s, s = x.1 := ⟨_, rfl⟩
   obtain ⟨t, ht⟩ : ∃ s, s = x.2 := ⟨_, rfl⟩
   obtain ⟨s', hs'⟩ : ∃ s, s = y.1 := ⟨_, rfl⟩
   obtain ⟨t', ht'⟩ : ∃ s, s = y.2 := ⟨_, rfl⟩
   rw [← hs, ← ht, ← hs', ← ht'] at q2
   rw [← hs] at d0
   rw [← ht] at d1
   rw [← hs'] at f0
   rw [← ht'] at f1
   have k5 : (0 : Int) ≤ (k : Int) := by omega
   have k6 : (k : Int) < (n : Int) := by omega
   have k7 : (k : Int) < (n2 : Int) := by have := Hne.out; omega
   clear hxy
   by_cases e : x = y
   ·have hq := hnx e
    rw [decide_eq_true e] at q2
    simp only [Bool.not_true] at q2
    clear e
    obtain ⟨Hno, Hnx, Hbd, Hx, Hy, Hs, Ht, Hs', Ht', Hq⟩ := hd10 hno hnx hbd hx hy hs ht hs' ht' hq; clear hno hnx hbd hx hy hs ht hs' ht' hq
    go_wp2_with fail
    go_region
    go_wp2_with fail
    go_roundw
    case rel => exact ⟨k + 1, by omega, by go_num, Hq.out, _, rfl⟩
    case measure => simp [RowKit.intOf]; omega
   ·have hf : r = false := by rw [Hr.out, decide_eq_false_iff_not]; exact hbd e
    rw [decide_eq_false e] at q2
    simp only [Bool.not_false] at q2
    clear e
    obtain ⟨Hno, Hnx, Hbd, Hx, Hy, Hs, Ht, Hs', Ht', Hf⟩ := hd10 hno hnx hbd hx hy hs ht hs' ht' hf; clear hno hnx hbd hx hy hs ht hs' ht' hf
    go_wp2_with fail
    go_region
    go_wp2_with fail
    go_ret
    exact ⟨ret_bool Hf.out.symm, _, rfl⟩
  ·obtain rfl : n = k := by omega
   have hf : r = true := by
    rw [Hr.out, decide_eq_true_eq]
    exact List.ext_getElem (by rw [← Hn.out, ← Hn2.out, Hne.out]) (fun j h1 h2 => hno j h1 h2 (by have := Hn.out; omega))
   obtain ⟨Hno, Hf⟩ := hd2 hno hf; clear hno hf
   go_wp2_with fail
   go_ret
   exact ⟨ret_bool Hf.out.symm, _, rfl⟩
end Go.Proofs.YteailgjiifdgcaaGreatDoor

/- The walk of slices.Equal at settings. No condition. -/
namespace Go.Proofs.YteailgjiifdgcaaGreatDoor
open Go.RowKit Go.Shelf Go.Lib VerN

set_option maxRecDepth 10000 in
set_option maxHeartbeats 1000000 in
theorem equalSet_any {w : World} {v u : Value} {l m : List Setg} (h : RSets w [v] l) (hm : RSets w [u] m) : Calls Tryz.prog 81 #[v, u] w fun e w' => e = .returned (.bool (decide (l = m))) ∧ ∃ q, w' = w.drewN q := by
 obtain ⟨a, cap, rfl, hz, g⟩ := sets_open h
 obtain ⟨a2, cap2, rfl, hz2, g2⟩ := sets_open hm
 obtain ⟨n, hn⟩ : ∃ n, n = l.length := ⟨_, rfl⟩
 obtain ⟨n2, hn2⟩ : ∃ n, n = m.length := ⟨_, rfl⟩
 obtain ⟨r, hr⟩ : ∃ r, r = decide (l = m) := ⟨_, rfl⟩
 have q1 := fun s t a b => set_neqs s t a b
 rw [← hr]
 rw [← hn] at hz h ⊢
 rw [← hn2] at hz2 hm ⊢
 obtain ⟨Hh, Hm, Hg, Hg2, Hn, Hn2, Hr, Hq1⟩ := hd8 h hm g g2 hn hn2 hr q1; clear h hm g g2 hn hn2 hr q1
 go_enter Tryz.func81, Tryz.ntmps81
 by_cases hne : n = n2
 case neg =>
  have k1 : ((n : Int) != (n2 : Int)) = true := by simp; omega
  have hf : r = false := by rw [Hr.out, decide_eq_false_iff_not]; intro e; exact hne (by rw [Hn.out, Hn2.out, e])
  obtain ⟨Hf, Hne⟩ := hd2 hf hne; clear hf hne
  go_wp2_with fail
  go_ret
  exact ⟨ret_bool Hf.out.symm, 0, rfl⟩
 have k1 : ((n : Int) != (n2 : Int)) = false := by simp; omega
 have Hne := hd hne; clear hne
 go_wp2_with fail
 clear k1
 go_loopw [13] (fun i wr => ∃ k : Nat, k ≤ n ∧ i = .int .i64 k ∧ (∀ j (h1 : j < l.length) (h2 : j < m.length), j < k → l[j] = m[j]) ∧ ∃ q, wr = w.drewN q) (fun i _ => n - (RowKit.intOf i).toNat)
 case atStart => exact ⟨0, Nat.zero_le _, rfl, fun _ _ _ h => by omega, 0, rfl⟩
 case round =>
  obtain ⟨k, hk, rfl, hno, q, rfl⟩ := hrel
  by_cases hlt : k < n
  ·have hkl : k < l.length := by have := Hn.out; omega
   have hkm : k < m.length := by have := Hn2.out; have := Hne.out; omega
   obtain ⟨b, off, rfl, d0, d1, _, _⟩ := Hg.out k _ (List.getElem?_eq_getElem hkl)
   obtain ⟨b2, off2, rfl, f0, f1, _, _⟩ := Hg2.out k _ (List.getElem?_eq_getElem hkm)
   have hnx : l[k] = m[k] → ∀ j (h1 : j < l.length) (h2 : j < m.length), j < k + 1 → l[j] = m[j] := fun h j h1 h2 hjk => by
    by_cases e : j = k
    ·subst e; exact h
    ·exact hno j h1 h2 (by omega)
   have hbd : l[k] ≠ m[k] → l ≠ m := fun h e => h (by subst e; rfl)
   obtain ⟨x, hx⟩ : ∃ x, x = l[k] := ⟨_, rfl⟩
   obtain ⟨y, hy⟩ : ∃ x, x = m[k] := ⟨_, rfl⟩
   rw [← hx] at d0 d1 hnx hbd
   rw [← hy] at f0 f1 hnx hbd
   have q2 := Hq1.out x.1 x.2 y.1 y.2
   have hxy : (decide (x.1 = y.1) && decide (x.2 = y.2)) = decide (x = y) := by
    rw [Bool.eq_iff_iff]
    simp [Prod.ext_iff]
   rw [hxy] at q2
   obtain ⟨s, hs⟩ : ∃ s, s = x.1 := ⟨_, rfl⟩
   obtain ⟨t, ht⟩ : ∃ s, s = x.2 := ⟨_, rfl⟩
   obtain ⟨s', hs'⟩ : ∃ s, s = y.1 := ⟨_, rfl⟩
   obtain ⟨t', ht'⟩ : ∃ s, s = y.2 := ⟨_, rfl⟩
   rw [← hs, ← ht, ← hs', ← ht'] at q2
   rw [← hs] at d0
   rw [← ht] at d1
   rw [← hs'] at f0
   rw [← ht'] at f1
   have k5 : (0 : Int) ≤ (k : Int) := by omega
   have k6 : (k : Int) < (n : Int) := by omega
   have k7 : (k : Int) < (n2 : Int) := by have := Hne.out; omega
   clear hxy
   by_cases e : x = y
   ·have hq := hnx e
    rw [decide_eq_true e] at q2
    simp only [Bool.not_true] at q2
    clear e
    obtain ⟨Hno, Hnx, Hbd, Hx, Hy, Hs, Ht, Hs', Ht', Hq⟩ := hd10 hno hnx hbd hx hy hs ht hs' ht' hq; clear hno hnx hbd hx hy hs ht hs' ht' hq
    go_wp2_with fail
    go_region
    go_wp2_with fail
    go_roundw
    case rel => exact ⟨k + 1, by omega, by go_num, Hq.out, _, rfl⟩
    case measure => simp [RowKit.intOf]; omega
   ·have hf : r = false := by rw [Hr.out, decide_eq_false_iff_not]; exact hbd e
    rw [decide_eq_false e] at q2
    simp only [Bool.not_false] at q2
    clear e
    obtain ⟨Hno, Hnx, Hbd, Hx, Hy, Hs, Ht, Hs', Ht', Hf⟩ := hd10 hno hnx hbd hx hy hs ht hs' ht' hf; clear hno hnx hbd hx hy hs ht hs' ht' hf
    go_wp2_with fail
    go_region
    go_wp2_with fail
    go_ret
    exact ⟨ret_bool Hf.out.symm, _, rfl⟩
  ·obtain rfl : n = k := by omega
   have hf : r = true := by
    rw [Hr.out, decide_eq_true_eq]
    exact List.ext_getElem (by rw [← Hn.out, ← Hn2.out, Hne.out]) (fun j h1 h2 => hno j h1 h2 (by have := Hn.out; omega))
   obtain ⟨Hno, Hf⟩ := hd2 hno hf; clear hno hf
   go_wp2_with fail
   go_ret
   exact ⟨ret_bool Hf.out.symm, _, rfl⟩
end Go.Proofs.YteailgjiifdgcaaGreatDoor

/- The walks of print.all and print.SameSpec. No condition. -/
namespace Go.Proofs.YteailgjiifdgcaaGreatDoor
open Go.Shelf Go.RowKit Go.Lib VerN VarM
attribute [local go_sem ↓] Go.wp_at_zero Go.wp_at_succ

set_option maxRecDepth 10000 in
set_option maxHeartbeats 1000000 in
theorem printAll_any {w : World} {v : Value} {L : List BSp} (h : RSps w [v] L) : Calls Tryz.prog 178 #[v] w fun e w' => e = .returned (.bool (decide (L = allV))) ∧ w' = w := by
 obtain ⟨a, cap, rfl, hz, g⟩ := sps_open h
 obtain ⟨n, hn⟩ : ∃ n, n = L.length := ⟨_, rfl⟩
 obtain ⟨r, hr⟩ : ∃ r, r = decide (L = allV) := ⟨_, rfl⟩
 rw [← hr]
 rw [← hn] at hz h ⊢
 by_cases h1 : n = 1
 ·subst h1
  obtain ⟨x, hx⟩ : ∃ x, L = [x] := List.length_eq_one_iff.1 hn.symm
  obtain ⟨b, off, rfl, d0, d1, -, -⟩ := g 0 x (by rw [hx]; rfl)
  rw [Nat.zero_mul, Nat.add_zero] at d0 d1
  have q := fun (W : World) => spn_eqs x.1 x.2 ⟨#[]⟩ ⟨#[]⟩ W
  have hrr : (decide (x.1 = ⟨#[]⟩) && decide (x.2 = ⟨#[]⟩)) = r := by
   rw [hr, hx, Bool.eq_iff_iff]
   simp [allV, Prod.ext_iff]
  simp only [hrr] at q
  obtain ⟨s, hs⟩ : ∃ s, s = x.1 := ⟨_, rfl⟩
  obtain ⟨t, ht⟩ : ∃ s, s = x.2 := ⟨_, rfl⟩
  simp only [← hs, ← ht] at q
  rw [← hs] at d0
  rw [← ht] at d1
  clear hrr
  obtain ⟨Hh, Hg, Hn, Hr, Hx, Hs, Ht⟩ := hd7 h g hn hr hx hs ht; clear h g hn hr hx hs ht
  go_enter Tryz.func178, Tryz.ntmps178
  go_wp2_with fail
  go_ret
  exact ⟨rfl, rfl⟩
 ·have k1 : ((n : Int) == 1) = false := by rw [beq_eq_false_iff_ne]; omega
  have hf : r = false := by
   rw [hr, decide_eq_false_iff_not]
   rintro rfl
   exact h1 hn
  obtain ⟨Hh, Hg, Hn, Hr, Hf, H1⟩ := hd6 h g hn hr hf h1; clear h g hn hr hf h1
  go_enter Tryz.func178, Tryz.ntmps178
  go_wp2_with fail
  go_ret
  exact ⟨ret_bool Hf.out.symm, rfl⟩
set_option maxRecDepth 10000 in
set_option maxHeartbeats 2000000 in
theorem printSame_any {w : World} {n m : ByteArray} {v1 v2 u1 u2 : Value} {l1 l2 : List BSp} {g1 g2 : List Setg} (h1 : RSps w [v1] l1) (h2 : RSets w [v2] g1) (h3 : RSps w [u1] l2) (h4 : RSets w [u2] g2) :
  Calls Tryz.prog 39 #[.agg #[.string n, v1, v2], .agg #[.string m, u1, u2]] w fun e w' => e = .returned (.bool (decide ((n, l1, g1) = (m, l2, g2)))) ∧ Below w.heap.size w w' := by
 obtain ⟨a1, c1, rfl, -, -⟩ := sps_open h1
 obtain ⟨a2, c2, rfl, -, -⟩ := sets_open h2
 obtain ⟨a3, c3, rfl, -, -⟩ := sps_open h3
 obtain ⟨a4, c4, rfl, -, -⟩ := sets_open h4
 obtain ⟨W1, hW1⟩ : ∃ W, W = (w.alloc (.cells #[.string n, .slice a1 l1.length c1, .slice a2 g1.length c2] 51)).alloc (.cells #[.string m, .slice a3 l2.length c3, .slice a4 g2.length c4] 51) := ⟨_, rfl⟩
 obtain ⟨g, hg⟩ : ∃ g, g = w.heap.size := ⟨_, rfl⟩
 have hb1 : Below w.heap.size w W1 := by rw [hW1]; exact (below_alloc1 _ _).alloc (by simp) _
 have p0 : SpcBox g (.string n) (.slice a1 l1.length c1) (.slice a2 g1.length c2) W1 := by rw [hW1, hg]; exact heap_below (below_alloc1 _ _) (heap_new_at rfl)
 have p1 : SpcBox (g + 1) (.string m) (.slice a3 l2.length c3) (.slice a4 g2.length c4) W1 := by rw [hW1, hg]; exact heap_new_at (by simp)
 have r1 := stays_slice stays_spn _ _ _ _ h1 hb1
 have r2 := stays_slice stays_set _ _ _ _ h2 hb1
 have r3 := stays_slice stays_spn _ _ _ _ h3 hb1
 have r4 := stays_slice stays_set _ _ _ _ h4 hb1
 obtain ⟨x0, x1, x2, -⟩ := spc_cells p0
 obtain ⟨y0, y1, y2, -⟩ := spc_cells p1
 obtain ⟨r, hr⟩ : ∃ r, r = decide ((n, l1, g1) = (m, l2, g2)) := ⟨_, rfl⟩
 have hS := equalSpn_any r1 r3
 have hT := fun (W : World) (k : Below W1.heap.size W1 W) => equalSet_any (stays_slice stays_set _ _ _ _ r2 k) (stays_slice stays_set _ _ _ _ r4 k)
 obtain ⟨n1, hn1⟩ : ∃ n, n = l1.length := ⟨_, rfl⟩
 obtain ⟨n2, hn2⟩ : ∃ n, n = g1.length := ⟨_, rfl⟩
 obtain ⟨n3, hn3⟩ : ∃ n, n = l2.length := ⟨_, rfl⟩
 obtain ⟨n4, hn4⟩ : ∃ n, n = g2.length := ⟨_, rfl⟩
 have hnm := Txt.eq_dec n m
 rw [← hr]
 rw [← hn1] at x1 hS hW1 ⊢
 rw [← hn2] at x2 hT hW1 ⊢
 rw [← hn3] at y1 hS hW1 ⊢
 rw [← hn4] at y2 hT hW1 ⊢
 obtain ⟨bs, hbs⟩ : ∃ b, b = decide (l1 = l2) := ⟨_, rfl⟩
 obtain ⟨bt, hbt⟩ : ∃ b, b = decide (g1 = g2) := ⟨_, rfl⟩
 obtain ⟨bn, hbn⟩ : ∃ b, b = decide (n = m) := ⟨_, rfl⟩
 rw [← hbs] at hS
 rw [← hbt] at hT
 rw [← hbn] at hnm
 have hrr : r = (bn && (bs && bt)) := by
  rw [hr, hbn, hbs, hbt, Bool.eq_iff_iff]
  simp [Prod.ext_iff]
 clear hr hbs hbt hbn
 obtain ⟨H1, H2, H3, H4, Hb1, Hp0, Hp1, Hr1, Hr2, Hr3, Hr4, Hn1, Hn2, Hn3, Hn4, HS⟩ := hd16 h1 h2 h3 h4 hb1 p0 p1 r1 r2 r3 r4 hn1 hn2 hn3 hn4 hS; obtain ⟨HT, Hrr⟩ := hd2 hT hrr; clear h1 h2 h3 h4 hb1 p0 p1 r1 r2 r3 r4 hn1 hn2 hn3 hn4 hS hT hrr
 go_enter Tryz.func39, Tryz.ntmps39
 go_upto_region 1 with (fail)
 rw [← hW1, ← hg]
 clear hW1 hg
 cases bn with
 | false =>
  go_wp2_with fail
  go_ret
  exact ⟨ret_bool (by rw [Hrr.out]; rfl), Hb1.out⟩
 | true =>
  cases bs with
  | false =>
   go_wp2_with fail
   refine HS.out.mono ?_
   rintro e w2 ⟨rfl, q, rfl⟩
   go_wp2_with fail
   go_ret
   exact ⟨ret_bool (by rw [Hrr.out]; rfl), bel_drewN Hb1.out q⟩
  | true =>
   go_wp2_with fail
   refine HS.out.mono ?_
   rintro e w2 ⟨rfl, q, rfl⟩
   have hbq : Below W1.heap.size W1 (W1.drewN q) := bel_drewN (Below.refl _ _) q
   have hT2 := HT.out _ hbq
   obtain ⟨x3, x4, x5, -⟩ := spc_cells (heap_below hbq Hp0.out)
   obtain ⟨y3, y4, y5, -⟩ := spc_cells (heap_below hbq Hp1.out)
   rw [← Hn2.out] at x5
   rw [← Hn4.out] at y5
   obtain ⟨HT2, Hbq⟩ := hd2 hT2 hbq; clear hT2 hbq
   go_wp2_with fail
   refine HT2.out.mono ?_
   rintro e w2 ⟨rfl, q2, rfl⟩
   go_wp2_with fail
   go_ret
   exact ⟨ret_bool (by rw [Hrr.out]; rfl), bel_drewN Hb1.out _⟩
end Go.Proofs.YteailgjiifdgcaaGreatDoor

/- The walk of print.words. Condition: the library's variables as they were laid; at most a thousand settings, and as many spans of bounds of at most 9000 bytes. -/
namespace Go.Proofs.YteailgjiifdgcaaGreatDoor
open Go.Shelf Go.RowKit Go.Lib VerN VarM
attribute [local go_sem ↓] Go.wp_at_zero Go.wp_at_succ

theorem str_snoc (L : List ByteArray) (x : ByteArray) : (L ++ [x]).map Value.string = L.map Value.string ++ [.string x] := by simp
theorem sets_take {l : List Setg} {k : Nat} (h : k < l.length) : (l.take (k + 1)).map setT = (l.take k).map setT ++ [setT l[k]] := by rw [List.take_succ_eq_append_getElem h, List.map_append]; rfl
def WordsPost (s : Spc3) (w : World) (e : Ending) (w' : World) : Prop := ∃ a c, e = .returned (.slice a (specWs s).length c) ∧ RTs w' [.slice a (specWs s).length c] (specWs s) ∧ Below w.heap.size w w'
structure WdI (w : World) (sets : List Setg) (F0 : List ByteArray) (k : Nat) (v : Value) (W : World) : Prop where
 row : W.ownsRow w.heap.size 9 1 v (F0.length + k) ((F0 ++ (sets.take k).map setT).map Value.string)
 bel : Below w.heap.size w W
theorem word_size (s : Spc3) (h1 : s.1.size ≤ 9000) (h3 : ∀ x ∈ s.2.2, x.1.size ≤ 9000 ∧ x.2.size ≤ 9000) (h2 : (firstT s).size ≤ 9223372036854775807) : ∀ x ∈ specWs s, x.size ≤ maxLen := by
 have e : ∀ a b : ByteArray, (a ++ b).size = a.size + b.size := fun a b => by rw [← Txt.len, Go.Joins.data_append, List.length_append, Txt.len, Txt.len]
 have hs : ∀ x ∈ (if firstT s = noT then [] else [firstT s]) ++ s.2.2.map setT, x.size ≤ maxLen := fun x hx => by
  unfold maxLen
  rcases List.mem_append.1 hx with hx | hx
  ·split at hx
   ·simp at hx
   ·rw [List.mem_singleton] at hx
    rw [hx]
    exact h2
  ·obtain ⟨y, hy, rfl⟩ := List.mem_map.1 hx
   have := h3 y hy
   unfold setT
   rw [e, e]
   show y.1.size + 1 + y.2.size ≤ _
   omega
 intro x hx
 unfold specWs at hx
 by_cases hc : (if firstT s = noT then [] else [firstT s]) ++ s.2.2.map setT = []
 ·rw [if_pos hc, List.mem_singleton] at hx
  rw [hx]
  decide
 ·rw [if_neg hc] at hx
  exact hs x hx
theorem spT_size (l : List Tp) (hl : l.length ≤ 1000) : (spT (tB l)).size ≤ 20000000 := by
 rw [spT_tB]
 unfold spsText
 split
 ·decide
 ·split
  ·decide
  ·have hF := smallB_form l
   have hlen : (formB l).length ≤ 1000 := by have := form_len l; omega
   unfold joinF
   show (Lib.join (((formB l).map pieceB).map (·.data.toList)) [44]).length ≤ _
   have hb : ∀ x ∈ ((formB l).map pieceB).map (·.data.toList), x.length ≤ 18001 := by
    intro x hx
    obtain ⟨y, hy, rfl⟩ := List.mem_map.1 hx
    obtain ⟨z, hz, rfl⟩ := List.mem_map.1 hy
    rw [Txt.len]
    exact pieceB_size (hF z hz)
   have h1 := lens_le 18001 _ hb
   have h2 : (((formB l).map pieceB).map (·.data.toList)).length ≤ 1000 := by simpa using hlen
   obtain ⟨L, hL⟩ : ∃ L, L = ((formB l).map pieceB).map (·.data.toList) := ⟨_, rfl⟩
   rw [← hL] at h1 h2 ⊢
   cases L with
   | nil => simp [Lib.join_nil]
   | cons x r =>
    rw [Lib.join_length]
    simp only [List.length_cons, List.length_nil] at *
    omega
set_option maxRecDepth 10000 in
set_option maxHeartbeats 8000000 in
theorem printWords_any {w : World} {v1 v2 : Value} {nm : ByteArray} {l : List Tp} {sets : List Setg} (h1 : RSps w [v1] (tB l)) (h2 : RSets w [v2] sets) (hD : Doors w) (hl : l.length ≤ 1000) (hm : sets.length ≤ 1000) (hnz : nm.size ≤ 9000) (hsz : ∀ x ∈ sets, x.1.size ≤ 9000 ∧ x.2.size ≤ 9000) :
  Calls Tryz.prog 128 #[.agg #[.string nm, v1, v2]] w (WordsPost (nm, tB l, sets) w) := by
 obtain ⟨a1, c1, rfl, -, -⟩ := sps_open h1
 obtain ⟨a2, c2, rfl, hz2, hat⟩ := sets_open h2
 obtain ⟨n1, hn1⟩ : ∃ n, n = (tB l).length := ⟨_, rfl⟩
 obtain ⟨n2, hn2⟩ : ∃ n, n = sets.length := ⟨_, rfl⟩
 rw [← hn1] at h1 ⊢
 rw [← hn2] at h2 hz2 hm ⊢
 obtain ⟨W1, hW1⟩ : ∃ W, W = w.alloc (.cells #[.string nm, .slice a1 n1 c1, .slice a2 n2 c2] 51) := ⟨_, rfl⟩
 obtain ⟨g, hg⟩ : ∃ g, g = w.heap.size := ⟨_, rfl⟩
 have hb1 : Below w.heap.size w W1 := by rw [hW1]; exact below_alloc1 _ _
 have p0 : SpcBox g (.string nm) (.slice a1 n1 c1) (.slice a2 n2 c2) W1 := by rw [hW1, hg]; exact heap_alloc_new _ _
 obtain ⟨x0, x1, x2, -⟩ := spc_cells p0
 have r1 := stays_slice stays_spn _ _ _ _ h1 hb1
 have hA := printAll_any r1
 have hT := spsText_any r1 (by omega) (hD.below hb1)
 have hts := spT_size l hl
 have hst : firstT (nm, tB l, sets) = if tB l = allV then nm else nm ++ (⟨#[64]⟩ ++ spT (tB l)) := rfl
 rw [spT_tB] at hts hst
 obtain ⟨tx, htx⟩ : ∃ t, t = spsText l := ⟨_, rfl⟩
 rw [← htx] at hT hts hst
 have hws : specWs (nm, tB l, sets) = if (if firstT (nm, tB l, sets) = noT then [] else [firstT (nm, tB l, sets)]) ++ sets.map setT = [] then [starT] else (if firstT (nm, tB l, sets) = noT then [] else [firstT (nm, tB l, sets)]) ++ sets.map setT := rfl
 have hwz : (firstT (nm, tB l, sets)).size ≤ 9223372036854775807 → ∀ x ∈ specWs (nm, tB l, sets), x.size ≤ maxLen := word_size (nm, tB l, sets) hnz hsz
 obtain ⟨R, hR⟩ : ∃ R, R = specWs (nm, tB l, sets) := ⟨_, rfl⟩
 obtain ⟨fi, hfi⟩ : ∃ f, f = firstT (nm, tB l, sets) := ⟨_, rfl⟩
 rw [← hR] at hws hwz
 rw [← hfi] at hst hws hwz
 unfold WordsPost
 rw [← hR]
 obtain ⟨al, hal⟩ : ∃ b, b = decide (tB l = allV) := ⟨_, rfl⟩
 rw [← hal] at hA
 have hnd := Txt.no_dec nm
 have hsize : ∀ a b : ByteArray, (a ++ b).size = a.size + b.size := fun a b => by rw [← Txt.len, Go.Joins.data_append, List.length_append, Txt.len, Txt.len]
 obtain ⟨H1, H2, HD, Hl, Hb1, Hp0, Hr1, HA, HT, Hts, Hst, Hws, Hwz, HR, Hfi, Htx⟩ := hd16 h1 h2 hD hl hb1 p0 r1 hA hT hts hst hws hwz hR hfi htx; obtain ⟨Hal, Hn1, Hn2, Hat, Hsz, Hsize⟩ := hd6 hal hn1 hn2 hat hsz hsize; clear h1 h2 hD hl hb1 p0 r1 hA hT hts hst hws hwz hR hfi htx hal hn1 hn2 hat hsz hsize
 go_enter Tryz.func128, Tryz.ntmps128
 go_upto_region 1 with (fail)
 rw [← hW1, ← hg]
 clear hW1 hg
 cases al with
 | true =>
  have hfn : fi = nm := by rw [Hst.out, if_pos (of_decide_eq_true Hal.out.symm)]
  by_cases hne : nm.size = 0
  ·have k1 : nm.toList.isEmpty = true := by rw [hnd]; exact decide_eq_true hne
   have hF0' : (if fi = noT then [] else [fi]) = ([] : List ByteArray) := if_pos (by rw [hfn]; exact Txt.ext (List.eq_nil_of_length_eq_zero (by rw [Txt.len]; exact hne)))
   have hfz : fi.size ≤ 9223372036854775807 := by rw [hfn]; omega
   obtain ⟨F0, hFe⟩ : ∃ F : List ByteArray, F = [] := ⟨_, rfl⟩
   have hF0 : (if fi = noT then [] else [fi]) = F0 := by rw [hFe]; exact hF0'
   clear hF0'
   have hF1 : F0.length ≤ 1 := by rw [hFe]; exact Nat.zero_le _
   have hI : WdI w sets F0 0 (.slice none 0 0) W1 := ⟨by rw [hFe]; exact World.ownsRow_nil _ _ _ _, Hb1.out⟩
   clear hnd
   obtain ⟨Hfn, Hne, HF0, Hfz, HFe, HF1, HI⟩ := hd7 hfn hne hF0 hfz hFe hF1 hI; clear hfn hne hF0 hfz hFe hF1 hI
   go_wp2_with fail
   refine HA.out.mono ?_
   rintro e wz ⟨rfl, hwz'⟩
   subst hwz'
   go_upto_region 7 with (fail)
   have Hp := Lib.hid Hp0.out
   obtain ⟨y0, y1, y2, -⟩ := spc_cells Hp.out
   clear x0 x1 x2 k1
   go_wp2_with fail
   go_loopw [4, 28] (fun v i wr => ∃ k : Nat, k ≤ n2 ∧ i = .int .i64 k ∧ WdI w sets F0 k v wr) (fun _ i _ => n2 - (RowKit.intOf i).toNat)
   case atStart => exact ⟨0, Nat.zero_le _, rfl, HI.out⟩
   case round =>
    obtain ⟨k, hk, rfl, hI⟩ := hrel
    obtain ⟨z, hz⟩ : ∃ z, z = F0.length + k := ⟨_, rfl⟩
    have hrow := hI.row
    rw [← hz] at hrow
    obtain ⟨ra, rc, rfl⟩ := own_shape hrow
    have hzs : z ≤ 1001 := by have := HF1.out; omega
    by_cases hlt : k < n2
    ·have hkl : k < sets.length := by have := Hn2.out; omega
     obtain ⟨x, hx⟩ : ∃ x, x = sets[k] := ⟨_, rfl⟩
     obtain ⟨b, off, rfl, d0, d1, hs1, hs2⟩ := Hat.out k x (by rw [hx]; exact List.getElem?_eq_getElem hkl)
     have e0 := cell_later hI.bel d0
     have e1 := cell_later hI.bel d1
     have hnext := sets_take hkl
     rw [← hx] at hnext
     have hset : setT x = x.1 ++ ⟨#[61]⟩ ++ x.2 := rfl
     obtain ⟨s, hs⟩ : ∃ s, s = x.1 := ⟨_, rfl⟩
     obtain ⟨t, ht⟩ : ∃ s, s = x.2 := ⟨_, rfl⟩
     rw [← hs, ← ht] at hset
     have hxz := Hsz.out x (by rw [hx]; exact List.getElem_mem hkl)
     rw [← hs, ← ht] at hxz
     obtain ⟨hss, htt⟩ := hxz
     rw [← hs] at e0
     rw [← ht] at e1
     obtain ⟨sb, hsb⟩ : ∃ z, z = wr.heap.size := ⟨_, rfl⟩
     obtain ⟨w5, hw5⟩ : ∃ W, W = wr.alloc (.cells #[.string s, .string t] 109) := ⟨_, rfl⟩
     have hba : Below wr.heap.size wr w5 := by rw [hw5]; exact below_alloc1 _ _
     have p6 : w5.heap[sb]? = some (.cells #[.string s, .string t] 109 (0, 0)) := by rw [hw5, hsb]; exact heap_alloc_new _ _
     have f0 := cells_at p6 0
     have f1 := cells_at p6 1
     simp only [List.getElem?_toArray, List.getElem?_cons_zero, List.getElem?_cons_succ] at f0 f1
     have hrow5 := ownsRow_below hrow hba
     have hbel5 := hI.bel.trans (hba.mono hI.bel.size)
     have hbw5 := hbel5.size
     obtain ⟨N, hN⟩ : ∃ N, N = (F0 ++ (sets.take k).map setT).map Value.string := ⟨_, rfl⟩
     rw [← hN] at hrow5
     have k5 : (0 : Int) ≤ (k : Int) := by omega
     have k6 : (k : Int) < (n2 : Int) := by omega
     clear d0 d1 hs1 hs2
     obtain ⟨HI, Hz, Hrow, Hx, Hs, Ht, Hnext, Hset, Hba, Hrow5, Hbel5, Hbw5, HN, Hp6⟩ := hd14 hI hz hrow hx hs ht hnext hset hba hrow5 hbel5 hbw5 hN p6; clear hI hz hrow hx hs ht hnext hset hba hrow5 hbel5 hbw5 hN p6
     go_upto_region 10 with (fail)
     rw [← hw5, ← hsb]
     clear hw5 hsb e0 e1
     go_wp2_with (at_builtin; (refine wpList_append_lit elem_txts rfl (.tmp 32) (.tmp 39) rfl w.heap.size (.slice ra z rc) z N rfl Hrow5.out 1 _ rfl rfl (by simp [Value.oneCell']) (by omega) (by unfold maxLen; omega) Hbw5.out ?_; intro v9 w9 hown9 hg9 hm9; obtain ⟨a9, c9, rfl⟩ := own_shape hown9; have hb9 := (bel_own Hbel5.out Hrow5.out (Nat.le_refl _) hg9 Hbw5.out : Below w.heap.size w w9); obtain ⟨Hown9, Hb9⟩ := hd2 hown9 hb9; clear hown9 hg9 hm9 hb9))
     go_roundw
     case rel =>
      refine ⟨k + 1, by omega, by go_num, ⟨?_, Hb9.out⟩⟩
      rw [Hnext.out, ← List.append_assoc, str_snoc, ← HN.out, ← Nat.add_assoc, ← Hz.out, Hset.out]
      exact Hown9.out
     case measure => (simp [RowKit.intOf]) <;> omega
    ·obtain rfl : k = n2 := by omega
     have htk : (sets.take k).map setT = sets.map setT := by rw [List.take_of_length_le (Nat.le_of_eq Hn2.out.symm)]
     have hws2 := Hws.out
     rw [HF0.out] at hws2
     rw [htk] at hrow
     have hlen : (F0 ++ sets.map setT).length = z := by rw [List.length_append, List.length_map, hz, Hn2.out]
     have hRz := Hwz.out Hfz.out
     by_cases hz0 : z = 0
     ·subst hz0
      have hL : F0 ++ sets.map setT = [] := List.eq_nil_of_length_eq_zero hlen
      rw [if_pos hL] at hws2
      have hlit : (wr.alloc (.cells #[.string ⟨#[42]⟩] 9)).ownsRow wr.heap.size 9 1 (.slice (some ⟨wr.heap.size, 0, none⟩) 1 1) 1 [.string ⟨#[42]⟩] := World.ownsRow_lit (base := wr.heap.size) (e := 9) (size := 1) wr #[.string ⟨#[42]⟩] 1 (Nat.le_refl _) (by decide) rfl
      have hbz : Below w.heap.size w (wr.alloc (.cells #[.string ⟨#[42]⟩] 9)) := hI.bel.alloc hI.bel.size _
      obtain ⟨HI, Hz, Hrow, Htk, Hws2, Hlen, HRz, HL, Hlit, Hbz⟩ := hd10 hI hz hrow htk hws2 hlen hRz hL hlit hbz; clear hI hz hrow htk hws2 hlen hRz hL hlit hbz
      go_wp2_with fail
      go_ret
      have hfin : R = [starT] := Hws2.out
      refine ⟨some ⟨wr.heap.size, 0, none⟩, 1, by rw [hfin]; rfl, ?_, Hbz.out⟩
      rw [hfin]
      exact own_texts (l := [starT]) Hlit.out (fun x hx => by rw [List.mem_singleton] at hx; rw [hx]; decide)
     ·have k7 : ((z : Int) == 0) = false := by rw [beq_eq_false_iff_ne]; omega
      have hL : F0 ++ sets.map setT ≠ [] := fun e => by rw [e] at hlen; exact hz0 hlen.symm
      rw [if_neg hL] at hws2
      rw [← hws2] at hrow hlen
      have hI2 := hI
      obtain ⟨HI, HI2, Hz, Hrow, Htk, Hws2, Hlen, HRz, HL, Hz0⟩ := hd10 hI hI2 hz hrow htk hws2 hlen hRz hL hz0; clear hI hI2 hz hrow htk hws2 hlen hRz hL hz0
      go_wp2_with fail
      go_ret
      refine ⟨ra, rc, by rw [Hlen.out]; rfl, ?_, HI2.out.bel⟩
      rw [Hlen.out]
      exact own_texts Hrow.out HRz.out
  ·have k1 : nm.toList.isEmpty = false := by rw [hnd]; exact decide_eq_false hne
   have hF0' : (if fi = noT then [] else [fi]) = [nm] := by rw [hfn]; exact if_neg (by intro e; rw [e] at hne; exact hne rfl)
   have hfz : fi.size ≤ 9223372036854775807 := by rw [hfn]; omega
   obtain ⟨F0, hFe⟩ : ∃ F : List ByteArray, F = [nm] := ⟨_, rfl⟩
   have hF0 : (if fi = noT then [] else [fi]) = F0 := by rw [hFe]; exact hF0'
   clear hF0'
   have hF1 : F0.length ≤ 1 := by rw [hFe]; exact Nat.le_refl _
   have hbs := Hb1.out.size
   have hnil : W1.ownsRow w.heap.size 9 1 (.slice none 0 0) 0 [] := World.ownsRow_nil _ _ _ _
   clear hnd
   obtain ⟨Hfn, Hne, HF0, Hfz, Hnil, HFe, HF1⟩ := hd7 hfn hne hF0 hfz hnil hFe hF1; clear hfn hne hF0 hfz hnil hFe hF1
   go_wp2_with fail
   refine HA.out.mono ?_
   rintro e wz ⟨rfl, hwz'⟩
   subst hwz'
   go_wp2_with (at_builtin; (refine wpList_append_lit elem_txts rfl (.tmp 21) (.tmp 23) rfl w.heap.size (.slice none 0 0) 0 [] rfl Hnil.out 1 #[.string nm] rfl rfl (by simp [Value.oneCell']) (by omega) (by unfold maxLen; omega) hbs ?_; intro v9 w9 hown9 hg9 hm9; obtain ⟨a9, c9, rfl⟩ := own_shape hown9; have hb9 := (bel_own Hb1.out Hnil.out (Nat.le_refl _) hg9 hbs : Below w.heap.size w w9); have Hp := Lib.hid ((hg9.block g (Array.getElem?_eq_some_iff.1 Hp0.out).1 (by simp [Value.ownBlock])).trans Hp0.out : SpcBox g (.string nm) (.slice a1 n1 c1) (.slice a2 n2 c2) w9); have HI := Lib.hid (⟨by rw [HFe.out]; exact hown9, hb9⟩ : WdI w sets F0 0 (.slice a9 1 c9) w9); obtain ⟨y0, y1, y2, -⟩ := spc_cells Hp.out; clear hown9 hg9 hm9 hb9))
   clear x0 x1 x2 k1
   go_loopw [4, 28] (fun v i wr => ∃ k : Nat, k ≤ n2 ∧ i = .int .i64 k ∧ WdI w sets F0 k v wr) (fun _ i _ => n2 - (RowKit.intOf i).toNat)
   case atStart => exact ⟨0, Nat.zero_le _, rfl, HI.out⟩
   case round =>
    obtain ⟨k, hk, rfl, hI⟩ := hrel
    obtain ⟨z, hz⟩ : ∃ z, z = F0.length + k := ⟨_, rfl⟩
    have hrow := hI.row
    rw [← hz] at hrow
    obtain ⟨ra, rc, rfl⟩ := own_shape hrow
    have hzs : z ≤ 1001 := by have := HF1.out; omega
    by_cases hlt : k < n2
    ·have hkl : k < sets.length := by have := Hn2.out; omega
     obtain ⟨x, hx⟩ : ∃ x, x = sets[k] := ⟨_, rfl⟩
     obtain ⟨b, off, rfl, d0, d1, hs1, hs2⟩ := Hat.out k x (by rw [hx]; exact List.getElem?_eq_getElem hkl)
     have e0 := cell_later hI.bel d0
     have e1 := cell_later hI.bel d1
     have hnext := sets_take hkl
     rw [← hx] at hnext
     have hset : setT x = x.1 ++ ⟨#[61]⟩ ++ x.2 := rfl
     obtain ⟨s, hs⟩ : ∃ s, s = x.1 := ⟨_, rfl⟩
     obtain ⟨t, ht⟩ : ∃ s, s = x.2 := ⟨_, rfl⟩
     rw [← hs, ← ht] at hset
     have hxz := Hsz.out x (by rw [hx]; exact List.getElem_mem hkl)
     rw [← hs, ← ht] at hxz
     obtain ⟨hss, htt⟩ := hxz
     rw [← hs] at e0
     rw [← ht] at e1
     obtain ⟨sb, hsb⟩ : ∃ z, z = wr.heap.size := ⟨_, rfl⟩
     obtain ⟨w5, hw5⟩ : ∃ W, W = wr.alloc (.cells #[.string s, .string t] 109) := ⟨_, rfl⟩
     have hba : Below wr.heap.size wr w5 := by rw [hw5]; exact below_alloc1 _ _
     have p6 : w5.heap[sb]? = some (.cells #[.string s, .string t] 109 (0, 0)) := by rw [hw5, hsb]; exact heap_alloc_new _ _
     have f0 := cells_at p6 0
     have f1 := cells_at p6 1
     simp only [List.getElem?_toArray, List.getElem?_cons_zero, List.getElem?_cons_succ] at f0 f1
     have hrow5 := ownsRow_below hrow hba
     have hbel5 := hI.bel.trans (hba.mono hI.bel.size)
     have hbw5 := hbel5.size
     obtain ⟨N, hN⟩ : ∃ N, N = (F0 ++ (sets.take k).map setT).map Value.string := ⟨_, rfl⟩
     rw [← hN] at hrow5
     have k5 : (0 : Int) ≤ (k : Int) := by omega
     have k6 : (k : Int) < (n2 : Int) := by omega
     clear d0 d1 hs1 hs2
     obtain ⟨HI, Hz, Hrow, Hx, Hs, Ht, Hnext, Hset, Hba, Hrow5, Hbel5, Hbw5, HN, Hp6⟩ := hd14 hI hz hrow hx hs ht hnext hset hba hrow5 hbel5 hbw5 hN p6; clear hI hz hrow hx hs ht hnext hset hba hrow5 hbel5 hbw5 hN p6
     go_upto_region 10 with (fail)
     rw [← hw5, ← hsb]
     clear hw5 hsb e0 e1
     go_wp2_with (at_builtin; (refine wpList_append_lit elem_txts rfl (.tmp 32) (.tmp 39) rfl w.heap.size (.slice ra z rc) z N rfl Hrow5.out 1 _ rfl rfl (by simp [Value.oneCell']) (by omega) (by unfold maxLen; omega) Hbw5.out ?_; intro v9 w9 hown9 hg9 hm9; obtain ⟨a9, c9, rfl⟩ := own_shape hown9; have hb9 := (bel_own Hbel5.out Hrow5.out (Nat.le_refl _) hg9 Hbw5.out : Below w.heap.size w w9); obtain ⟨Hown9, Hb9⟩ := hd2 hown9 hb9; clear hown9 hg9 hm9 hb9))
     go_roundw
     case rel =>
      refine ⟨k + 1, by omega, by go_num, ⟨?_, Hb9.out⟩⟩
      rw [Hnext.out, ← List.append_assoc, str_snoc, ← HN.out, ← Nat.add_assoc, ← Hz.out, Hset.out]
      exact Hown9.out
     case measure => (simp [RowKit.intOf]) <;> omega
    ·obtain rfl : k = n2 := by omega
     have htk : (sets.take k).map setT = sets.map setT := by rw [List.take_of_length_le (Nat.le_of_eq Hn2.out.symm)]
     have hws2 := Hws.out
     rw [HF0.out] at hws2
     rw [htk] at hrow
     have hlen : (F0 ++ sets.map setT).length = z := by rw [List.length_append, List.length_map, hz, Hn2.out]
     have hRz := Hwz.out Hfz.out
     by_cases hz0 : z = 0
     ·subst hz0
      have hL : F0 ++ sets.map setT = [] := List.eq_nil_of_length_eq_zero hlen
      rw [if_pos hL] at hws2
      have hlit : (wr.alloc (.cells #[.string ⟨#[42]⟩] 9)).ownsRow wr.heap.size 9 1 (.slice (some ⟨wr.heap.size, 0, none⟩) 1 1) 1 [.string ⟨#[42]⟩] := World.ownsRow_lit (base := wr.heap.size) (e := 9) (size := 1) wr #[.string ⟨#[42]⟩] 1 (Nat.le_refl _) (by decide) rfl
      have hbz : Below w.heap.size w (wr.alloc (.cells #[.string ⟨#[42]⟩] 9)) := hI.bel.alloc hI.bel.size _
      obtain ⟨HI, Hz, Hrow, Htk, Hws2, Hlen, HRz, HL, Hlit, Hbz⟩ := hd10 hI hz hrow htk hws2 hlen hRz hL hlit hbz; clear hI hz hrow htk hws2 hlen hRz hL hlit hbz
      go_wp2_with fail
      go_ret
      have hfin : R = [starT] := Hws2.out
      refine ⟨some ⟨wr.heap.size, 0, none⟩, 1, by rw [hfin]; rfl, ?_, Hbz.out⟩
      rw [hfin]
      exact own_texts (l := [starT]) Hlit.out (fun x hx => by rw [List.mem_singleton] at hx; rw [hx]; decide)
     ·have k7 : ((z : Int) == 0) = false := by rw [beq_eq_false_iff_ne]; omega
      have hL : F0 ++ sets.map setT ≠ [] := fun e => by rw [e] at hlen; exact hz0 hlen.symm
      rw [if_neg hL] at hws2
      rw [← hws2] at hrow hlen
      have hI2 := hI
      obtain ⟨HI, HI2, Hz, Hrow, Htk, Hws2, Hlen, HRz, HL, Hz0⟩ := hd10 hI hI2 hz hrow htk hws2 hlen hRz hL hz0; clear hI hI2 hz hrow htk hws2 hlen hRz hL hz0
      go_wp2_with fail
      go_ret
      refine ⟨ra, rc, by rw [Hlen.out]; rfl, ?_, HI2.out.bel⟩
      rw [Hlen.out]
      exact own_texts Hrow.out HRz.out
 | false =>
  have hfn : fi = nm ++ (⟨#[64]⟩ ++ tx) := by rw [Hst.out, if_neg (of_decide_eq_false Hal.out.symm)]
  have hne : fi ≠ noT := by rw [hfn]; exact app_ne (ne_app (by decide))
  have hfz : fi.size ≤ 9223372036854775807 := by
   have := Hts.out
   have e1 := Hsize.out nm (⟨#[64]⟩ ++ tx)
   have e2 := Hsize.out ⟨#[64]⟩ tx
   have e3 : (⟨#[64]⟩ : ByteArray).size = 1 := rfl
   rw [hfn]
   omega
  obtain ⟨F0, hFe⟩ : ∃ F : List ByteArray, F = [nm ++ (⟨#[64]⟩ ++ tx)] := ⟨_, rfl⟩
  have hF0 : (if fi = noT then [] else [fi]) = F0 := by rw [if_neg hne, hFe, hfn]
  have hF1 : F0.length ≤ 1 := by rw [hFe]; exact Nat.le_refl _
  have k1 : (nm ++ (⟨#[64]⟩ ++ tx)).toList.isEmpty = false := by
   rw [Txt.no_dec]
   refine decide_eq_false fun h => ?_
   apply hne
   rw [hfn]
   exact Txt.ext (List.eq_nil_of_length_eq_zero (by rw [Txt.len]; exact h))
  clear hnd
  have htxz := Hts.out
  obtain ⟨Hfn, Hne, HF0, Hfz, HFe, HF1⟩ := hd6 hfn hne hF0 hfz hFe hF1; clear hfn hne hF0 hfz hFe hF1
  go_wp2_with fail
  refine HA.out.mono ?_
  rintro e wz ⟨rfl, hwz'⟩
  subst hwz'
  go_wp2_with fail
  refine HT.out.mono ?_
  rintro e wt ⟨rfl, hbt1⟩
  have hbt := Hb1.out.trans (hbt1.mono Hb1.out.size)
  have hpt := heap_below hbt1 Hp0.out
  have hbs := hbt.size
  have hnil : wt.ownsRow w.heap.size 9 1 (.slice none 0 0) 0 [] := World.ownsRow_nil _ _ _ _
  obtain ⟨Hbt1, Hbt, Hpt, Hnil⟩ := hd4 hbt1 hbt hpt hnil; clear hbt1 hbt hpt hnil
  go_wp2_with (at_builtin; (refine wpList_append_lit elem_txts rfl (.tmp 21) (.tmp 23) rfl w.heap.size (.slice none 0 0) 0 [] rfl Hnil.out 1 _ rfl rfl (by simp [Value.oneCell']) (by omega) (by unfold maxLen; omega) hbs ?_; intro v9 w9 hown9 hg9 hm9; obtain ⟨a9, c9, rfl⟩ := own_shape hown9; have hb9 := (bel_own Hbt.out Hnil.out (Nat.le_refl _) hg9 hbs : Below w.heap.size w w9); have Hp := Lib.hid ((hg9.block g (Array.getElem?_eq_some_iff.1 Hpt.out).1 (by simp [Value.ownBlock])).trans Hpt.out : SpcBox g (.string nm) (.slice a1 n1 c1) (.slice a2 n2 c2) w9); have HI := Lib.hid (⟨by rw [HFe.out]; exact hown9, hb9⟩ : WdI w sets F0 0 (.slice a9 1 c9) w9); obtain ⟨y0, y1, y2, -⟩ := spc_cells Hp.out; clear hown9 hg9 hm9 hb9))
  clear x0 x1 x2 k1
  go_loopw [4, 28] (fun v i wr => ∃ k : Nat, k ≤ n2 ∧ i = .int .i64 k ∧ WdI w sets F0 k v wr) (fun _ i _ => n2 - (RowKit.intOf i).toNat)
  case atStart => exact ⟨0, Nat.zero_le _, rfl, HI.out⟩
  case round =>
   obtain ⟨k, hk, rfl, hI⟩ := hrel
   obtain ⟨z, hz⟩ : ∃ z, z = F0.length + k := ⟨_, rfl⟩
   have hrow := hI.row
   rw [← hz] at hrow
   obtain ⟨ra, rc, rfl⟩ := own_shape hrow
   have hzs : z ≤ 1001 := by have := HF1.out; omega
   by_cases hlt : k < n2
   ·have hkl : k < sets.length := by have := Hn2.out; omega
    obtain ⟨x, hx⟩ : ∃ x, x = sets[k] := ⟨_, rfl⟩
    obtain ⟨b, off, rfl, d0, d1, hs1, hs2⟩ := Hat.out k x (by rw [hx]; exact List.getElem?_eq_getElem hkl)
    have e0 := cell_later hI.bel d0
    have e1 := cell_later hI.bel d1
    have hnext := sets_take hkl
    rw [← hx] at hnext
    have hset : setT x = x.1 ++ ⟨#[61]⟩ ++ x.2 := rfl
    obtain ⟨s, hs⟩ : ∃ s, s = x.1 := ⟨_, rfl⟩
    obtain ⟨t, ht⟩ : ∃ s, s = x.2 := ⟨_, rfl⟩
    rw [← hs, ← ht] at hset
    have hxz := Hsz.out x (by rw [hx]; exact List.getElem_mem hkl)
    rw [← hs, ← ht] at hxz
    obtain ⟨hss, htt⟩ := hxz
    rw [← hs] at e0
    rw [← ht] at e1
    obtain ⟨sb, hsb⟩ : ∃ z, z = wr.heap.size := ⟨_, rfl⟩
    obtain ⟨w5, hw5⟩ : ∃ W, W = wr.alloc (.cells #[.string s, .string t] 109) := ⟨_, rfl⟩
    have hba : Below wr.heap.size wr w5 := by rw [hw5]; exact below_alloc1 _ _
    have p6 : w5.heap[sb]? = some (.cells #[.string s, .string t] 109 (0, 0)) := by rw [hw5, hsb]; exact heap_alloc_new _ _
    have f0 := cells_at p6 0
    have f1 := cells_at p6 1
    simp only [List.getElem?_toArray, List.getElem?_cons_zero, List.getElem?_cons_succ] at f0 f1
    have hrow5 := ownsRow_below hrow hba
    have hbel5 := hI.bel.trans (hba.mono hI.bel.size)
    have hbw5 := hbel5.size
    obtain ⟨N, hN⟩ : ∃ N, N = (F0 ++ (sets.take k).map setT).map Value.string := ⟨_, rfl⟩
    rw [← hN] at hrow5
    have k5 : (0 : Int) ≤ (k : Int) := by omega
    have k6 : (k : Int) < (n2 : Int) := by omega
    clear d0 d1 hs1 hs2
    obtain ⟨HI, Hz, Hrow, Hx, Hs, Ht, Hnext, Hset, Hba, Hrow5, Hbel5, Hbw5, HN, Hp6⟩ := hd14 hI hz hrow hx hs ht hnext hset hba hrow5 hbel5 hbw5 hN p6; clear hI hz hrow hx hs ht hnext hset hba hrow5 hbel5 hbw5 hN p6
    go_upto_region 10 with (fail)
    rw [← hw5, ← hsb]
    clear hw5 hsb e0 e1
    go_wp2_with (at_builtin; (refine wpList_append_lit elem_txts rfl (.tmp 32) (.tmp 39) rfl w.heap.size (.slice ra z rc) z N rfl Hrow5.out 1 _ rfl rfl (by simp [Value.oneCell']) (by omega) (by unfold maxLen; omega) Hbw5.out ?_; intro v9 w9 hown9 hg9 hm9; obtain ⟨a9, c9, rfl⟩ := own_shape hown9; have hb9 := (bel_own Hbel5.out Hrow5.out (Nat.le_refl _) hg9 Hbw5.out : Below w.heap.size w w9); obtain ⟨Hown9, Hb9⟩ := hd2 hown9 hb9; clear hown9 hg9 hm9 hb9))
    go_roundw
    case rel =>
     refine ⟨k + 1, by omega, by go_num, ⟨?_, Hb9.out⟩⟩
     rw [Hnext.out, ← List.append_assoc, str_snoc, ← HN.out, ← Nat.add_assoc, ← Hz.out, Hset.out]
     exact Hown9.out
    case measure => (simp [RowKit.intOf]) <;> omega
   ·obtain rfl : k = n2 := by omega
    have htk : (sets.take k).map setT = sets.map setT := by rw [List.take_of_length_le (Nat.le_of_eq Hn2.out.symm)]
    have hws2 := Hws.out
    rw [HF0.out] at hws2
    rw [htk] at hrow
    have hlen : (F0 ++ sets.map setT).length = z := by rw [List.length_append, List.length_map, hz, Hn2.out]
    have hRz := Hwz.out Hfz.out
    by_cases hz0 : z = 0
    ·subst hz0
     have hL : F0 ++ sets.map setT = [] := List.eq_nil_of_length_eq_zero hlen
     rw [if_pos hL] at hws2
     have hlit : (wr.alloc (.cells #[.string ⟨#[42]⟩] 9)).ownsRow wr.heap.size 9 1 (.slice (some ⟨wr.heap.size, 0, none⟩) 1 1) 1 [.string ⟨#[42]⟩] := World.ownsRow_lit (base := wr.heap.size) (e := 9) (size := 1) wr #[.string ⟨#[42]⟩] 1 (Nat.le_refl _) (by decide) rfl
     have hbz : Below w.heap.size w (wr.alloc (.cells #[.string ⟨#[42]⟩] 9)) := hI.bel.alloc hI.bel.size _
     obtain ⟨HI, Hz, Hrow, Htk, Hws2, Hlen, HRz, HL, Hlit, Hbz⟩ := hd10 hI hz hrow htk hws2 hlen hRz hL hlit hbz; clear hI hz hrow htk hws2 hlen hRz hL hlit hbz
     go_wp2_with fail
     go_ret
     have hfin : R = [starT] := Hws2.out
     refine ⟨some ⟨wr.heap.size, 0, none⟩, 1, by rw [hfin]; rfl, ?_, Hbz.out⟩
     rw [hfin]
     exact own_texts (l := [starT]) Hlit.out (fun x hx => by rw [List.mem_singleton] at hx; rw [hx]; decide)
    ·have k7 : ((z : Int) == 0) = false := by rw [beq_eq_false_iff_ne]; omega
     have hL : F0 ++ sets.map setT ≠ [] := fun e => by rw [e] at hlen; exact hz0 hlen.symm
     rw [if_neg hL] at hws2
     rw [← hws2] at hrow hlen
     have hI2 := hI
     obtain ⟨HI, HI2, Hz, Hrow, Htk, Hws2, Hlen, HRz, HL, Hz0⟩ := hd10 hI hI2 hz hrow htk hws2 hlen hRz hL hz0; clear hI hI2 hz hrow htk hws2 hlen hRz hL hz0
     go_wp2_with fail
     go_ret
     refine ⟨ra, rc, by rw [Hlen.out]; rfl, ?_, HI2.out.bel⟩
     rw [Hlen.out]
     exact own_texts Hrow.out HRz.out
end Go.Proofs.YteailgjiifdgcaaGreatDoor

/- Plain: what the lines of a text are like: words that are there, at places from one on. No condition. -/
namespace Go.Proofs.YteailgjiifdgcaaGreatDoor.LexM

def GoodW (N : Nat) (x : Wd) : Prop := 1 ≤ x.1 ∧ x.1 ≤ (N : Int) ∧ x.2 ≠ [] ∧ x.2.length ≤ N
def GoodL (N : Nat) (l : Ln) : Prop := 1 ≤ l.1 ∧ l.2 ≠ [] ∧ l.2.length ≤ 40 ∧ ∀ x ∈ l.2, GoodW N x
theorem GoodW.mono {N M : Nat} (h : N ≤ M) {x : Wd} (g : GoodW N x) : GoodW M x := ⟨g.1, by have := g.2.1; omega, g.2.2.1, Nat.le_trans g.2.2.2 h⟩
theorem rerr_room {t : Bs} {room : Bool} {s : RS} {i : Nat} {c : UInt8} (h : rerr t room s i c = 0) (hk : rskip t s i c = false) : s.out.length ≠ 40 := by
 intro e
 unfold rerr at h
 rw [hk] at h
 split at h
 ·cases h
 ·simp [e] at h
theorem rgo_good {t : Bs} {room : Bool} : ∀ (r : Bs) (s : RS) (i : Nat), t.drop i = r → s.out.length ≤ 40 → (∀ x ∈ s.out, GoodW t.length x) → (∀ x ∈ (rgo t room s i r).1, GoodW t.length x) ∧ (rgo t room s i r).1.length ≤ 40
 | [], s, i, _, hl, h => ⟨h, hl⟩
 | c :: r, s, i, hd, hl, h => by
  obtain ⟨hg, hd2, hi⟩ := getD_of_drop hd
  unfold rgo
  by_cases he : rerr t room s i c = 0
  ·rw [if_pos he]
   refine rgo_good r _ (i + 1) hd2 ?_ ?_
   ·unfold rnext
    dsimp only
    split
    ·exact hl
    ·rename_i hk
     have := rerr_room he (by simpa using hk)
     rw [List.length_append, List.length_singleton]
     omega
   ·intro x hx
    unfold rnext at hx
    dsimp only at hx
    split at hx
    ·exact h x hx
    ·rename_i hk
     rcases List.mem_append.1 hx with hx | hx
     ·exact h x hx
     ·rw [List.mem_singleton] at hx
      subst hx
      have hp : part c = true := by
       unfold rskip at hk
       simp only [Bool.or_eq_true, not_or, Bool.not_eq_true', Bool.not_eq_false] at hk
       exact hk.1.2
      refine ⟨by show (1 : Int) ≤ (i : Int) + 1; omega, by show (i : Int) + 1 ≤ (t.length : Int); omega, ?_, ?_⟩
      ·show wordAt t i ≠ []
       rw [wordAt_of hd hp]
       simp
      ·show (wordAt t i).length ≤ t.length
       unfold wordAt
       refine Nat.le_trans (List.takeWhile_sublist _).length_le ?_
       rw [List.length_drop]
       omega
  ·rw [if_neg he]
   exact ⟨h, hl⟩
theorem rline_good (t : Bs) (room : Bool) : (∀ x ∈ (rline t room).1, GoodW t.length x) ∧ (rline t room).1.length ≤ 40 := rgo_good t _ 0 rfl (Nat.zero_le _) (fun x hx => by simp at hx)
theorem addLn_good {N : Nat} {out : List Ln} {n : Int} {ws : List Wd} (h : ∀ l ∈ out, GoodL N l) (hn : 1 ≤ n) (h40 : ws.length ≤ 40) (hw : ∀ x ∈ ws, GoodW N x) : ∀ l ∈ addLn out n ws, GoodL N l := by
 unfold addLn
 split
 ·exact h
 ·rename_i h0
  intro l hl
  rcases List.mem_append.1 hl with hl | hl
  ·exact h l hl
  ·rw [List.mem_singleton] at hl
   subst hl
   exact ⟨hn, h0, h40, hw⟩
theorem addLn_len (out : List Ln) (n : Int) (ws : List Wd) : (addLn out n ws).length ≤ out.length + 1 := by
 unfold addLn
 split <;> simp
theorem rlines_good {N : Nat} : ∀ (r : Bs) (n : Int) (cur : Bs) (out : List Ln), 1 ≤ n → cur.length + r.length ≤ N → (∀ l ∈ out, GoodL N l) → (∀ l ∈ (rlines n cur out r).lines, GoodL N l) ∧ (rlines n cur out r).lines.length ≤ out.length + r.length + 1
 | [], n, cur, out, hn, hN, h => by
  have hg := rline_good cur (decide (out.length < 2000))
  simp only [List.length_nil] at hN
  unfold rlines
  dsimp only
  split
  ·exact ⟨addLn_good h hn hg.2 (fun x hx => (hg.1 x hx).mono (by omega)), by have := addLn_len out n (rline cur (decide (out.length < 2000))).1; simp; omega⟩
  ·exact ⟨fun l hl => by simp at hl, by simp⟩
 | c :: r, n, cur, out, hn, hN, h => by
  have hg := rline_good cur (decide (out.length < 2000))
  simp only [List.length_cons] at hN ⊢
  unfold rlines
  split
  ·dsimp only
   split
   ·have := rlines_good r (n + 1) [] (addLn out n (rline cur (decide (out.length < 2000))).1) (by omega) (by simp; omega) (addLn_good h hn hg.2 (fun x hx => (hg.1 x hx).mono (by omega)))
    have h2 := addLn_len out n (rline cur (decide (out.length < 2000))).1
    exact ⟨this.1, by omega⟩
   ·exact ⟨fun l hl => by simp at hl, by simp⟩
  ·have := rlines_good r n (cur ++ [c]) out hn (by simp; omega) h
   exact ⟨this.1, by omega⟩
theorem doc_good (t : Bs) : (∀ l ∈ (docLines t).lines, GoodL t.length l) ∧ (docLines t).lines.length ≤ t.length + 1 := by
 unfold docLines
 split
 ·exact ⟨fun l hl => by simp at hl, by simp⟩
 ·have := rlines_good (N := t.length) t 1 [] [] (by omega) (by simp) (fun l hl => by simp at hl)
  simpa using this
theorem doc_good7 (t : Bs) : (∀ l ∈ (docLines t).lines, GoodL 70000 l) ∧ (docLines t).lines.length ≤ 70001 := by
 by_cases h : 65536 < t.length
 ·unfold docLines
  rw [if_pos h]
  exact ⟨fun l hl => by simp at hl, by simp⟩
 ·have h1 := doc_good t
  exact ⟨fun l hl => by obtain ⟨k1, k2, k3, k4⟩ := h1.1 l hl; exact ⟨k1, k2, k3, fun x hx => (k4 x hx).mono (by omega)⟩, by omega⟩
end Go.Proofs.YteailgjiifdgcaaGreatDoor.LexM

/- Plain: what print.Wish and print.Condition tell. No condition. -/
namespace Go.Proofs.YteailgjiifdgcaaGreatDoor
open Go.Lib VerN VarM
open LexM (Wd Ln)

abbrev Reader := List Wd → Nat → Option Spc3 × Nat
def ReadsAs (R : Reader) (t : ByteArray) (s : Spc3) : Prop := (LexM.docLines t.data.toList).e = 0 ∧ ∃ ln, (LexM.docLines t.data.toList).lines = [ln] ∧ wt ln.2 = t.data.toList ∧ R ln.2 0 = (some s, ln.2.length)
open Classical in
noncomputable def specR (R : Reader) (s : Spc3) : ByteArray × Bool := if ReadsAs R (specT s) s then (specT s, true) else (noT, false)
theorem specR_yes {R : Reader} {s : Spc3} (h : ReadsAs R (specT s) s) : specR R s = (specT s, true) := by unfold specR; rw [if_pos h]
theorem specR_no {R : Reader} {s : Spc3} (h : ¬ ReadsAs R (specT s) s) : specR R s = (noT, false) := by unfold specR; rw [if_neg h]
structure Sp (s : Spc3) (l : List Tp) : Prop where
 sp : s.2.1 = tB l
 l1 : l.length ≤ 1000
 nm : s.1.size ≤ 9000
 sl : s.2.2.length ≤ 1000
 sz : ∀ x ∈ s.2.2, x.1.size ≤ 9000 ∧ x.2.size ≤ 9000
theorem ba_size (a b : ByteArray) : (a ++ b).size = a.size + b.size := by rw [← Txt.len, Go.Joins.data_append, List.length_append, Txt.len, Txt.len]
theorem Sp.first {s : Spc3} {l : List Tp} (h : Sp s l) : (firstT s).size ≤ 20009001 := by
 have h1 := spT_size l h.l1
 have h2 := h.nm
 unfold firstT
 rw [h.sp]
 split
 ·omega
 ·rw [ba_size, ba_size]
  have : (⟨#[64]⟩ : ByteArray).size = 1 := rfl
  omega
theorem Sp.words {s : Spc3} {l : List Tp} (h : Sp s l) : (∀ x ∈ specWs s, x.size ≤ 20009001) ∧ (specWs s).length ≤ 1001 ∧ specWs s ≠ [] := by
 have hs : ∀ x ∈ (if firstT s = noT then [] else [firstT s]) ++ s.2.2.map setT, x.size ≤ 20009001 := fun x hx => by
  rcases List.mem_append.1 hx with hx | hx
  ·split at hx
   ·simp at hx
   ·rw [List.mem_singleton] at hx
    rw [hx]
    exact h.first
  ·obtain ⟨y, hy, rfl⟩ := List.mem_map.1 hx
   have := h.sz y hy
   unfold setT
   rw [ba_size, ba_size]
   have e : (⟨#[61]⟩ : ByteArray).size = 1 := rfl
   omega
 have hl : ((if firstT s = noT then [] else [firstT s]) ++ s.2.2.map setT).length ≤ 1001 := by
  have := h.sl
  rw [List.length_append, List.length_map]
  split <;> simp <;> omega
 unfold specWs
 by_cases hc : (if firstT s = noT then [] else [firstT s]) ++ s.2.2.map setT = []
 ·rw [if_pos hc]
  exact ⟨fun x hx => by rw [List.mem_singleton] at hx; rw [hx]; decide, by simp, by simp⟩
 ·rw [if_neg hc]
  exact ⟨hs, hl, hc⟩
theorem Sp.text {s : Spc3} {l : List Tp} (h : Sp s l) : (specT s).size ≤ 30000000000 := by
 obtain ⟨h1, h2, h3⟩ := h.words
 rw [specT_eq, ← Txt.len, joinW_data]
 have hb : ∀ x ∈ (specWs s).map (·.data.toList), x.length ≤ 20009001 := by
  intro x hx
  obtain ⟨y, hy, rfl⟩ := List.mem_map.1 hx
  rw [Txt.len]
  exact h1 y hy
 have h4 := lens_le 20009001 _ hb
 have h5 : ((specWs s).map (·.data.toList)).length ≤ 1001 := by simpa using h2
 obtain ⟨L, hL⟩ : ∃ L, L = (specWs s).map (·.data.toList) := ⟨_, rfl⟩
 rw [← hL] at h4 h5 ⊢
 cases L with
 | nil => simp [Lib.join_nil]
 | cons x r =>
  rw [Lib.join_length]
  simp only [List.length_cons, List.length_nil] at *
  omega
open LexM (GoodL)
theorem wt_small {ln : Ln} (h : GoodL 70000 ln) : (wt ln.2).length ≤ 3000000 := by
 have hs : ∀ (ws : List Wd), (∀ x ∈ ws, x.2.length ≤ 70000) → (wt ws).length ≤ 70001 * ws.length := by
  intro ws
  have hf : ∀ (r : List Wd), (∀ x ∈ r, x.2.length ≤ 70000) → (r.flatMap fun y => (32 : UInt8) :: y.2).length ≤ 70001 * r.length := by
   intro r
   induction r with
   | nil => intro _; simp
   | cons y r ih =>
    intro h
    have h1 := ih (fun x hx => h x (by simp [hx]))
    have h2 := h y (by simp)
    rw [List.flatMap_cons, List.length_append, List.length_cons, List.length_cons]
    omega
  cases ws with
  | nil => intro _; simp [wt]
  | cons x r =>
   intro h
   have h1 := hf r (fun y hy => h y (by simp [hy]))
   have h2 := h x (by simp)
   show (x.2 ++ r.flatMap fun y => (32 : UInt8) :: y.2).length ≤ _
   rw [List.length_append, List.length_cons]
   omega
 have h1 := hs ln.2 (fun x hx => (h.2.2.2 x hx).2.2.2)
 have h2 := h.2.2.1
 omega
theorem ltx_one (ln : Ln) : ltx [ln] = wt ln.2 ++ [10] := by simp [ltx]
theorem ltx_eq (ln : Ln) (t : ByteArray) : ((⟨(ltx [ln]).toArray⟩ : ByteArray).toList == (t ++ ⟨#[10]⟩ : ByteArray).toList) = decide (wt ln.2 = t.data.toList) := by
 rw [Txt.eq_dec]
 refine decide_eq_decide.2 ⟨fun h => ?_, fun h => ?_⟩
 ·have h1 := congrArg (fun x : ByteArray => x.data.toList) h
  simp only [Go.Joins.data_append] at h1
  rw [ltx_one] at h1
  exact List.append_inj_left' h1 rfl
 ·apply Txt.ext
  rw [Go.Joins.data_append, ← h]
  exact ltx_one ln
end Go.Proofs.YteailgjiifdgcaaGreatDoor

/- The walks of caught, one and Wish: what a reader throws is told. Condition: the library's variables as they were laid; at most a thousand words of at most 70000 bytes. -/
namespace Go.Proofs.YteailgjiifdgcaaGreatDoor
open Go.Shelf Go.RowKit Go.Lib VerN VarM
open LexM (Wd)
attribute [local go_sem ↓] Go.wp_at_zero Go.wp_at_succ

abbrev thrownV (c : Int) : Value := .iface 206 (.agg #[.int .i64 c])
theorem run_assert_wrong (v : Value) (w : World) : (Instr.typeAssert (.iface 206 v) 20 206 true).run Tryz.prog w = .ok (.tuple #[v, .bool true]) w := by
 have u := Tryz.underlying206
 unfold Instr.typeAssert
 simp [Sem.run_bind, Sem.run_pure, u, go_sem]
set_option maxRecDepth 10000 in
set_option maxHeartbeats 1000000 in
theorem caught1_no (g : Nat) (w : World) : CallsD Tryz.prog 150 #[.pointer (some ⟨g, 0, none⟩)] .returning w fun e u' w' => e = .returned (.tuple #[]) ∧ u' = .returning ∧ w' = w := by
 refine callsD_of_wpS Tryz.func150 rfl fun c₀ cs hu => ?_
 apply wpS_seq
 apply wpS_region
 simp [wpOpsS, go_sem, recoverD, hu, Tryz.ntmps150, Exit.thenS]
 have Hu := hd hu; clear hu
 simp only [Array.replicate_succ, Array.replicate_zero, List.push_toArray, List.append_toArray, List.nil_append, List.cons_append, List.setIfInBounds_toArray, List.set_cons_zero, List.set_cons_succ]
 refine wpS_of_wp ?_
 generalize hQ : (fun (e : Exit) (a' : Act) (w' : World) => _) = Q
 have HQ := hd hQ; clear hQ
 go_wp2_with fail
 rw [← HQ.out]
 cases c₀
 have hu := Hu.out
 simp_all [bodyPostS, results, Tryz.results150]
set_option maxRecDepth 10000 in
set_option maxHeartbeats 1000000 in
theorem caught1_yes (g : Nat) (c x : Int) (w : World) (hg : w.heap[g]? = some (.cells #[.int .i64 x] 3 (0, 0))) :
  CallsD Tryz.prog 150 #[.pointer (some ⟨g, 0, none⟩)] (.panicking [{ v := thrownV c, recovered := false }]) w fun e u' w' =>
   e = .returned (.tuple #[]) ∧ u' = .panicking [{ v := thrownV c, recovered := true }] ∧ w' = (w.alloc (.cells #[.int .i64 c] 206)).setCell ⟨g, 0, none⟩ (.int .i64 c) := by
 refine callsD_of_wpS Tryz.func150 rfl fun c₀ cs hu => ?_
 apply wpS_seq
 apply wpS_region
 simp [wpOpsS, go_sem, recoverD, hu, Tryz.ntmps150, Exit.thenS]
 have ra := run_assert_wrong (.agg #[.int .i64 c])
 have q0 := cells_at hg 0
 have q1 := frozen_at hg 0
 have q2 := heap_below (below_alloc1 w (.cells #[.int .i64 c] 206)) hg
 have q3 := cells_at q2 0
 have q4 := frozen_at q2 0
 have Hu := hd hu; clear hu
 simp only [Array.replicate_succ, Array.replicate_zero, List.push_toArray, List.append_toArray, List.nil_append, List.cons_append, List.setIfInBounds_toArray, List.set_cons_zero, List.set_cons_succ]
 refine wpS_of_wp ?_
 generalize hQ : (fun (e : Exit) (a' : Act) (w' : World) => _) = Q
 have HQ := hd hQ; clear hQ
 go_wp2_with fail
 rw [← HQ.out]
 cases c₀
 have hu := Hu.out
 clear ra q0 q1 q2 q3 q4 hg
 simp_all [bodyPostS, results, Tryz.results150]
set_option maxRecDepth 10000 in
set_option maxHeartbeats 1000000 in
theorem caught_any {w : World} {f : FuncId} {caps : Array Value} (eg : ∀ args w, (callFunc f args).run Tryz.prog w = .ok (.enter f args) w) {A : World → Prop} {B : Int → World → Prop}
  (h : Calls Tryz.prog f caps (w.alloc (.cells #[.int .i64 0] 3)) fun e w' => ((e = .returned (.tuple #[]) ∧ A w') ∨ ∃ c, e = thrown c ∧ B c w') ∧ w'.heap[w.heap.size]? = some (.cells #[.int .i64 0] 3 (0, 0))) :
  Calls Tryz.prog 91 #[.func (.func f) #[] caps] w fun e w' => (∃ w1, A w1 ∧ e = .returned (.int .i64 0) ∧ w' = w1.setCell ⟨w.heap.size, 0, none⟩ (.int .i64 0)) ∨ (∃ c w1, B c w1 ∧ e = .returned (.int .i64 c) ∧ w' = (w1.alloc (.cells #[.int .i64 c] 206)).setCell ⟨w.heap.size, 0, none⟩ (.int .i64 c)) := by
 have hmf : ∀ (fn : Fn) (first cap : Array Value) (w : World), (Instr.makeFunc fn first cap).run Tryz.prog w = .ok (.func fn first cap) w := fun _ _ _ _ => rfl
 have Hh := hd h; clear h
 go_enter_defers Tryz.func91, Tryz.ntmps91
 go_wp2_with fail
 refine Hh.out.mono ?_
 rintro e w1 ⟨⟨rfl, hA⟩ | ⟨c, rfl, hB⟩, hbx⟩
 ·have q0 := cells_at hbx 0
  have q1 := frozen_at hbx 0
  simp only [List.getElem?_toArray, List.getElem?_cons_zero] at q0
  obtain ⟨HA, Hbx⟩ := hd2 hA hbx; clear hA hbx
  go_wp2_with fail
  refine leaves_cons (f := 150) (args := #[.pointer (some ⟨w.heap.size, 0, none⟩)]) (by simp) (by simp [go_sem]) ?_
  refine (caught1_no _ _).mono ?_
  rintro e u' w'' ⟨rfl, rfl, rfl⟩
  have q2 := cells_at (heap_setCell_same w1 w.heap.size 0 _ _ (.int .i64 0) Hbx.out) 0
  have q2 : (w1.setCell ⟨w.heap.size, 0, none⟩ (.int .i64 0)).cell? ⟨w.heap.size, 0, none⟩ = some (.int .i64 0) := q2
  simp [Leaves, settle, results, Tryz.results91, go_sem, q2]
  exact .inl ⟨_, HA.out, rfl⟩
 ·have HB := hd hB; clear hB
  go_wp2_with fail
  refine leaves_cons (f := 150) (args := #[.pointer (some ⟨w.heap.size, 0, none⟩)]) (by simp) (by simp [go_sem]) ?_
  refine (caught1_yes _ c 0 _ hbx).mono ?_
  rintro e u' w'' ⟨rfl, rfl, rfl⟩
  have q2 := cells_at (heap_setCell_same _ w.heap.size 0 _ _ (.int .i64 c) (heap_below (below_alloc1 w1 (.cells #[.int .i64 c] 206)) hbx)) 0
  have q2 : ((w1.alloc (.cells #[.int .i64 c] 206)).setCell ⟨w.heap.size, 0, none⟩ (.int .i64 c)).cell? ⟨w.heap.size, 0, none⟩ = some (.int .i64 c) := q2
  simp [Leaves, settle, results, Tryz.results91, go_sem, q2]
  exact .inr ⟨_, _, HB.out, rfl, rfl⟩
end Go.Proofs.YteailgjiifdgcaaGreatDoor
