/- The walk of variant.May: whether variants may be. Condition: few values. -/
import Derived.Test.YtnelgellbabkoaaVarO
namespace Go.Proofs.Ytnelgellbabkoaa
open Go.RowKit Go.Shelf

theorem elem_str : Elem Try.prog 33 9 (.string ⟨#[]⟩) 1 16 := ⟨Try.underlying33, by kernel_rfl, rfl, by decide⟩
theorem vars_open {w : World} {v : Value} {l : List Var} (h : RVars w [v] l) : ∃ a cap, v = .slice a l.length cap ∧ l.length ≤ 9223372036854775807 ∧ ∀ i (hi : i < l.length), ∃ b off u, a = some ⟨b, off, none⟩ ∧ w.cell? ⟨b, off + i * 2, none⟩ = some (.string l[i].1) ∧ w.cell? ⟨b, off + i * 2 + 1, none⟩ = some u ∧ l[i].1.size ≤ 9223372036854775807 ∧ RSs w [u] l[i].2 := by
  obtain ⟨a, cap, hv, hcap, hmax, hel⟩ := h
  simp only [List.cons.injEq, and_true] at hv
  unfold maxLen at hmax
  refine ⟨a, cap, hv, by omega, fun i hi => ?_⟩
  obtain ⟨b, off, ecs, h1, h2, h3, u, h4, h5, h6⟩ := hel i l[i] (List.getElem?_eq_getElem hi)
  subst h4
  unfold maxLen at h5
  exact ⟨b, off, u, h1, by simpa using h3 0 _ rfl, by simpa using h3 1 _ rfl, by omega, h6⟩
theorem strs_reads {w : World} {B : Nat} {v : Value} {f : List ByteArray} (hw : ∀ x ∈ f, x.size ≤ maxLen) (h : w.ownsRow B 9 1 v f.length (f.map strv)) : RSs w [v] f :=
  slice_of_owns (vs := f.map strv) (by simp) h (fun i u x hu hx => by
    rw [List.getElem?_map, hx] at hu
    simp at hu
    subst hu
    exact ⟨rfl, hw x (List.mem_of_getElem? hx)⟩)
/-- whether variants may be -/
def mayOf (l : List Var) : Bool := l.all oneOf && (decide (l.length ≤ 4) && decide ((l.map (·.1)).Nodup))
theorem allv_succ {α : Type} {p : α → Bool} {l : List α} {k : Nat} (h : k < l.length) (h1 : (l.take k).all p = true) (h2 : p l[k] = true) : (l.take (k + 1)).all p = true := by
  rw [List.take_succ_eq_append_getElem h, List.all_append, h1]; simp [h2]
theorem allv_no {α : Type} {p : α → Bool} {l : List α} {k : Nat} (h : k < l.length) (hp : p l[k] = false) : l.all p = false := by
  rw [Bool.eq_false_iff]; intro h2
  have := List.all_eq_true.1 h2 _ (List.getElem_mem h)
  rw [hp] at this; cases this
set_option maxRecDepth 10000 in
set_option maxHeartbeats 1000000 in
theorem may_any {w : World} {v : Value} {l : List Var} (h : RVars w [v] l) (hl : l.length ≤ 1000000) (hv : ∀ x ∈ l, x.2.length ≤ 1000000) : Calls Try.prog 67 #[v] w fun e w' => e = .returned (.bool (mayOf l)) ∧ Below w.heap.size w w' := by
  obtain ⟨a, cap, rfl, hz, g⟩ := vars_open h
  obtain ⟨n, hn⟩ : ∃ n, n = l.length := ⟨_, rfl⟩
  obtain ⟨r, hr⟩ : ∃ r, r = mayOf l := ⟨_, rfl⟩
  have hsz : ∀ x ∈ l, x.1.size ≤ 9223372036854775807 := fun x hx => by
    obtain ⟨i, hi, e⟩ := List.mem_iff_getElem.1 hx
    obtain ⟨_, _, _, _, _, _, h1, _⟩ := g i hi
    rw [e] at h1; exact h1
  rw [← hr]
  rw [← hn] at hz hl h ⊢
  have Hh := Lib.hid h; have Hg := Lib.hid g; have Hn := Lib.hid hn; have Hr := Lib.hid hr; have Hv := Lib.hid hv; have Hsz := Lib.hid hsz; clear h g hn hr hv hsz
  go_enter Try.func67, Try.ntmps67
  go_wp2_with fail
  go_loopw [3, 8] (fun o i wr => ∃ k : Nat, k ≤ n ∧ i = .int .i64 k ∧ wr.ownsRow w.heap.size 9 1 o k ((l.take k).map fun x => strv x.1) ∧ (l.take k).all oneOf = true ∧ Below w.heap.size w wr) (fun _ i _ => n - (intOf i).toNat)
  case atStart => exact ⟨0, Nat.zero_le _, rfl, World.ownsRow_nil _ _ _ _, by simp, Below.refl _ _⟩
  case round =>
    obtain ⟨k, hk, rfl, ho, hall, hb⟩ := hrel
    obtain ⟨oa, oc, rfl⟩ := own_shape ho
    have hB := hb.size
    by_cases hlt : k < n
    · have hkl : k < l.length := by have := Hn.out; omega
      obtain ⟨b, off, u, rfl, d0, d1, hsx, hu⟩ := Hg.out k hkl
      obtain ⟨x, hx⟩ : ∃ x, x = l[k] := ⟨_, rfl⟩
      rw [← hx] at d0 hu hsx
      have hxl : x ∈ l := by rw [hx]; exact List.getElem_mem hkl
      have hxv := Hv.out x hxl
      obtain ⟨ua, uc, rfl, hz2, _⟩ := strs_open hu
      obtain ⟨m, hm⟩ : ∃ m, m = x.2.length := ⟨_, rfl⟩
      have e0 := cell_later hb d0
      have e1 := cell_later hb d1
      have hO := fun (W : World) (hW : Below wr.heap.size wr W) => one_any (s := x.1) (by unfold maxLen; omega) (stays_slice stays_str _ _ _ _ hu (hb.trans (hW.mono hB))) hxv
      rw [← hm] at e1 d1 hu hz2 hxv hO
      have hyes : oneOf x = true → (l.take (k + 1)).all oneOf = true := fun h => allv_succ hkl hall (by rw [← hx]; exact h)
      have hno : oneOf x = false → r = false := fun h => by rw [Hr.out]; unfold mayOf; rw [allv_no hkl (by rw [← hx]; exact h)]; rfl
      have htk : (l.take (k + 1)).map (fun x => strv x.1) = (l.take k).map (fun x => strv x.1) ++ [strv x.1] := by rw [List.take_succ_eq_append_getElem hkl, ← hx, List.map_append]; rfl
      obtain ⟨s, hs⟩ : ∃ s, s = x.1 := ⟨_, rfl⟩
      obtain ⟨p, hp⟩ : ∃ p, p = oneOf x := ⟨_, rfl⟩
      have hpx : oneOf (x.1, x.2) = p := by rw [hp]
      rw [hpx] at hO
      rw [← hp] at hyes hno
      rw [← hs] at e0 d0 hsx hO htk
      have k5 : (0 : Int) ≤ (k : Int) := by omega
      have k6 : (k : Int) < (n : Int) := by omega
      clear hpx
      clear hx hkl
      have hkm : k ≤ 1000000 := by omega
      cases p with
      | false =>
        have hf := hno rfl
        have Ho := Lib.hid ho; have Hall := Lib.hid hall; have Hb := Lib.hid hb; have Hd0 := Lib.hid d0; have Hd1 := Lib.hid d1; have Hu := Lib.hid hu; have HO := Lib.hid hO; have Hyes := Lib.hid hyes; have Hno := Lib.hid hno; have Hf := Lib.hid hf; have Hm := Lib.hid hm; have Hs := Lib.hid hs; have Hp := Lib.hid hp; have Htk := Lib.hid htk; have Hxl := Lib.hid hxl; clear ho hall hb d0 d1 hu hO hyes hno hf hm hs hp htk hxl
        go_wp2_with fail
        refine (HO.out _ ?c1).mono ?_
        case c1 => exact below_alloc1 _ _
        rintro e w1 ⟨rfl, hb1⟩
        have hb2 := Hb.out.trans (((below_alloc1 wr (.cells #[.string s, .slice ua m uc] 35)).trans (hb1.mono (by simp))).mono hB)
        have Hb1 := Lib.hid hb1; have Hb2 := Lib.hid hb2; clear hb1 hb2
        go_wp2_with fail
        go_ret
        exact ⟨ret_bool Hf.out.symm, Hb2.out⟩
      | true =>
        have hnext := hyes rfl
        have Ho := Lib.hid ho; have Hall := Lib.hid hall; have Hb := Lib.hid hb; have Hd0 := Lib.hid d0; have Hd1 := Lib.hid d1; have Hu := Lib.hid hu; have HO := Lib.hid hO; have Hyes := Lib.hid hyes; have Hno := Lib.hid hno; have Hnext := Lib.hid hnext; have Hm := Lib.hid hm; have Hs := Lib.hid hs; have Hp := Lib.hid hp; have Htk := Lib.hid htk; have Hxl := Lib.hid hxl; clear ho hall hb d0 d1 hu hO hyes hno hnext hm hs hp htk hxl
        go_wp2_with fail
        refine (HO.out _ ?c1).mono ?_
        case c1 => exact below_alloc1 _ _
        rintro e w1 ⟨rfl, hb1⟩
        have hb2 := Hb.out.trans (((below_alloc1 wr (.cells #[.string s, .slice ua m uc] 35)).trans (hb1.mono (by simp))).mono hB)
        have hbr := (below_alloc1 wr (.cells #[.string s, .slice ua m uc] 35)).trans (hb1.mono (by simp))
        have c0 : w1.cell? ⟨wr.heap.size, 0, none⟩ = some (.string s) := by
          have := cells_at (heap_below hb1 (heap_alloc_new wr (.cells #[.string s, .slice ua m uc] 35))) 0
          simpa using this
        have cc0 : ∀ o : Obj, (w1.alloc o).cell? ⟨wr.heap.size, 0, none⟩ = some (.string s) := fun o => ((Frm.refl _ w1).alloc o).keep c0
        have ho1 := ownsRow_below Ho.out hbr
        have hB1 : w.heap.size ≤ w1.heap.size := hb2.size
        have Hb1 := Lib.hid hb1; have Hb2 := Lib.hid hb2; have Hbr := Lib.hid hbr; have Ho1 := Lib.hid ho1; clear hb1 hb2 hbr ho1
        go_wp2_with (at_builtin; (refine wpList_append_some elem_str rfl (.tmp 15) (.tmp 18) rfl w.heap.size (.slice oa k oc) k _ rfl Ho1.out 1 (by decide) #[.string s] rfl rfl (by simp [Value.oneCell']) (by omega) (by unfold maxLen; omega) hB1 ?_; intro g8 c8 w8 hown8 hg8 hm8))
        have hbel8 := bel_own Hb2.out Ho1.out (Nat.le_refl _) hg8 hB1
        have hown9 : w8.ownsRow w.heap.size 9 1 (.slice (some ⟨g8, 0, none⟩) (k + 1) c8) (k + 1) ((l.take (k + 1)).map fun x => strv x.1) := by rw [Htk.out]; exact hown8
        have Hown8 := Lib.hid hown8; have Hg8 := Lib.hid hg8; have Hbel8 := Lib.hid hbel8; have Hown9 := Lib.hid hown9; clear hown8 hg8 hbel8 hown9
        clear hm8
        go_wp2_with fail
        go_roundw
        case rel => exact ⟨k + 1, by omega, by go_num, Hown9.out, Hnext.out, Hbel8.out⟩
        case measure => simp [intOf]; omega
    · obtain rfl : k = n := by omega
      have e : l.take k = l := List.take_of_length_le (by have := Hn.out; omega)
      rw [e] at hall ho
      have hrr : r = (decide (k ≤ 4) && decide ((l.map (·.1)).Nodup)) := by rw [Hr.out]; unfold mayOf; rw [hall, ← Hn.out]; rfl
      by_cases h4 : k ≤ 4
      · have hnm : RSs wr [.slice oa k oc] (l.map (·.1)) := by
          have hkk : k = (l.map (·.1)).length := by rw [List.length_map]; exact Hn.out
          have h9 := ho
          rw [hkk] at h9 ⊢
          refine strs_reads (fun x hx => ?_) (by rw [List.map_map]; exact h9)
          obtain ⟨y, hy, rfl⟩ := List.mem_map.1 hx
          have := Hsz.out y hy
          unfold maxLen; omega
        have hT := twice_any hnm (by rw [List.length_map]; have := Hn.out; omega)
        obtain ⟨d, hd⟩ : ∃ d, d = decide ((l.map (·.1)).Nodup) := ⟨_, rfl⟩
        rw [← hd] at hT
        have hf : r = d := by rw [hrr, decide_eq_true h4, ← hd]; rfl
        have k2 : (k : Int) ≤ 4 := by omega
        have k3 : decide ((k : Int) ≤ 4) = true := by simpa using k2
        have Ho := Lib.hid ho; have Hall := Lib.hid hall; have Hb := Lib.hid hb; have Hrr := Lib.hid hrr; have Hnm := Lib.hid hnm; have HT := Lib.hid hT; have Hd := Lib.hid hd; have Hf := Lib.hid hf; clear ho hall hb hrr hnm hT hd hf
        clear e
        go_wp2_with fail
        refine HT.out.mono ?_
        rintro e w1 ⟨rfl, hb1⟩
        have hb2 := Hb.out.trans (hb1.mono hB)
        have Hb1 := Lib.hid hb1; have Hb2 := Lib.hid hb2; clear hb1 hb2
        go_wp2_with fail
        go_ret
        exact ⟨ret_bool (by rw [Hf.out]), Hb2.out⟩
      · have hf : r = false := by rw [hrr, decide_eq_false h4]; rfl
        have k2 : (4 : Int) < (k : Int) := by omega
        have k3 : decide ((k : Int) ≤ 4) = false := by simpa using k2
        have Ho := Lib.hid ho; have Hall := Lib.hid hall; have Hb := Lib.hid hb; have Hrr := Lib.hid hrr; have Hf := Lib.hid hf; clear ho hall hb hrr hf
        clear e
        go_wp2_with fail
        go_ret
        exact ⟨ret_bool Hf.out.symm, Hb.out⟩
end Go.Proofs.Ytnelgellbabkoaa
