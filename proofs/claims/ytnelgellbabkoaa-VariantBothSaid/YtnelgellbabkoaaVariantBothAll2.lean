/- Walks and plain facts. Texts merged: VarO, VarP, VarU, App, SortA, VarC, VarD, VarA, VarR, VarK, VarE. Condition: none beyond what each says. -/
import Derived.Deep.Cut
import Derived.Deep.RegionHeld3
import Derived.Deep.DrawnRows
import Derived.Laws.StructEq
import Derived.Test.YtnelgellbabkoaaVariantBothAll1
/- The walk of variant.one: whether a variant may be. Condition: few values. -/
namespace Go.Proofs.Ytnelgellbabkoaa
open Go.RowKit Go.Shelf
open VarM (nameOf valueOf)

abbrev Var := ByteArray × List ByteArray
/-- a variant's two cells -/
def RVar : Rd Var := fun w cs x => ∃ v, cs = [.string x.1, v] ∧ x.1.size ≤ maxLen ∧ RSs w [v] x.2
theorem stays_var : Stays RVar := by
  rintro w w' cs x ⟨v, h1, h2, h3⟩ hb
  exact ⟨v, h1, h2, stays_slice stays_str _ _ _ _ h3 hb⟩
abbrev RVars : Rd (List Var) := RSlice 2 RVar
def isName (s : ByteArray) : Bool := nameOf s.data.toList
def isValue (s : ByteArray) : Bool := valueOf s.data.toList
/-- whether a variant may be -/
def oneOf (x : Var) : Bool := isName x.1 && (decide (0 < x.2.length) && (decide (x.2.length ≤ 4) && (x.2.all isValue && decide x.2.Nodup)))
set_option maxRecDepth 10000 in
theorem badValue_any (s : ByteArray) (hs : s.size ≤ 9223372036854775807) (w : World) : Calls Try.prog 134 #[.string s] w fun e w' => e = .returned (.bool (!isValue s)) ∧ w = w' := by
  have hV := value_any s hs w
  obtain ⟨r, hr⟩ : ∃ r, r = isValue s := ⟨_, rfl⟩
  have hr2 : r = valueOf s.data.toList := hr
  rw [← hr2] at hV
  rw [← hr]
  have HV := Lib.hid hV; have Hr := Lib.hid hr; have Hr2 := Lib.hid hr2; clear hV hr hr2
  go_enter Try.func134, Try.ntmps134
  go_wp2_with fail
  refine HV.out.mono ?_
  rintro e w1 ⟨rfl, rfl⟩
  go_wp2_with fail
  go_ret
  exact ⟨rfl, rfl⟩
theorem enters_badValue : ∀ args w, (callFunc 134 args).run Try.prog w = .ok (.enter 134 args) w := enters_of Try.func134 (by kernel_rfl) rfl
theorem badValue_pred (l : List ByteArray) (w : World) : IdxStr.Pred RStr (fun s => !isValue s) 134 #[] l w := by
  intro W u0 x _ _ h
  obtain ⟨h1, h2⟩ := h
  simp only [List.cons.injEq, and_true] at h1
  subst h1
  unfold maxLen at h2
  exact (badValue_any x (by omega) W).mono fun e w' ⟨he, hw⟩ => ⟨he, hw ▸ Below.refl _ _⟩
theorem any_bad (l : List ByteArray) : (l.any fun s => !isValue s) = !(l.all isValue) := by rw [List.not_all_eq_any_not]
set_option maxRecDepth 10000 in
set_option maxHeartbeats 1000000 in
theorem one_any {w : World} {s : ByteArray} {v : Value} {l : List ByteArray} (hs : s.size ≤ maxLen) (h : RSs w [v] l) (hl : l.length ≤ 1000000) : Calls Try.prog 104 #[.agg #[.string s, v]] w fun e w' => e = .returned (.bool (oneOf (s, l))) ∧ Below w.heap.size w w' := by
  unfold maxLen at hs
  obtain ⟨a, cap, rfl, hz, _⟩ := strs_open h
  obtain ⟨m, hm⟩ : ∃ m, m = l.length := ⟨_, rfl⟩
  obtain ⟨r, hr⟩ : ∃ r, r = oneOf (s, l) := ⟨_, rfl⟩
  have hv : r = (isName s && (decide (0 < m) && (decide (m ≤ 4) && (l.all isValue && decide l.Nodup)))) := by rw [hr, hm]; rfl
  have hN := fun W => name_any s (by omega) W
  have hb1 : Below w.heap.size w (w.alloc (.cells #[.string s, .slice a l.length cap] 35)) := below_alloc1 _ _
  have hR := stays_slice stays_str _ _ _ _ h hb1
  have hC := IdxStr.has_any stays_str (fun s => !isValue s) 134 #[] enters_badValue hR (badValue_pred l _)
  rw [any_bad] at hC
  have hT := fun W (hb : Below (w.alloc (.cells #[.string s, .slice a l.length cap] 35)).heap.size (w.alloc (.cells #[.string s, .slice a l.length cap] 35)) W) => twice_any (stays_slice stays_str _ _ _ _ hR hb) hl
  obtain ⟨p, hp⟩ : ∃ p, p = isName s := ⟨_, rfl⟩
  have hp2 : p = nameOf s.data.toList := hp
  obtain ⟨q, hq⟩ : ∃ q, q = l.all isValue := ⟨_, rfl⟩
  obtain ⟨d, hd⟩ : ∃ d, d = decide l.Nodup := ⟨_, rfl⟩
  rw [← hp2] at hN
  rw [← hq] at hC
  rw [← hd] at hT
  rw [← hp, ← hq, ← hd] at hv
  rw [← hr]
  rw [← hm] at h hz hb1 hR hC hT hl ⊢
  cases p with
  | false =>
    have hf : r = false := by rw [hv]; rfl
    have Hh := Lib.hid h; have Hm := Lib.hid hm; have Hr := Lib.hid hr; have Hv := Lib.hid hv; have HN := Lib.hid hN; have Hb1 := Lib.hid hb1; have HR := Lib.hid hR; have HC := Lib.hid hC; have HT := Lib.hid hT; have Hp := Lib.hid hp; have Hp2 := Lib.hid hp2; have Hq := Lib.hid hq; have Hd := Lib.hid hd; have Hf := Lib.hid hf; clear h hm hr hv hN hb1 hR hC hT hp hp2 hq hd hf
    go_enter Try.func104, Try.ntmps104
    go_wp2_with fail
    refine (HN.out _).mono ?_
    rintro e w1 ⟨rfl, rfl⟩
    go_wp2_with fail
    go_ret
    exact ⟨ret_bool Hf.out.symm, Hb1.out⟩
  | true =>
    by_cases h0 : 0 < m
    · by_cases h4 : m ≤ 4
      · have k1 : (0 : Int) < (m : Int) := by omega
        have k2 : (m : Int) ≤ 4 := by omega
        have k3 : decide ((m : Int) ≤ 4) = true := by simpa using k2
        cases q with
        | false =>
          have hf : r = false := by rw [hv]; simp
          have Hh := Lib.hid h; have Hm := Lib.hid hm; have Hr := Lib.hid hr; have Hv := Lib.hid hv; have HN := Lib.hid hN; have Hb1 := Lib.hid hb1; have HR := Lib.hid hR; have HC := Lib.hid hC; have HT := Lib.hid hT; have Hp := Lib.hid hp; have Hp2 := Lib.hid hp2; have Hq := Lib.hid hq; have Hd := Lib.hid hd; have Hf := Lib.hid hf; clear h hm hr hv hN hb1 hR hC hT hp hp2 hq hd hf
          go_enter Try.func104, Try.ntmps104
          go_wp2_with fail
          refine (HN.out _).mono ?_
          rintro e w1 ⟨rfl, rfl⟩
          go_wp2_with fail
          refine HC.out.mono ?_
          rintro e w2 ⟨rfl, hb2⟩
          have hb3 := Hb1.out.trans (hb2.mono Hb1.out.size)
          have Hb2 := Lib.hid hb2; have Hb3 := Lib.hid hb3; clear hb2 hb3
          go_wp2_with fail
          go_ret
          exact ⟨ret_bool Hf.out.symm, Hb3.out⟩
        | true =>
          have hf : r = d := by rw [hv, decide_eq_true h0, decide_eq_true h4]; rfl
          have Hh := Lib.hid h; have Hm := Lib.hid hm; have Hr := Lib.hid hr; have Hv := Lib.hid hv; have HN := Lib.hid hN; have Hb1 := Lib.hid hb1; have HR := Lib.hid hR; have HC := Lib.hid hC; have HT := Lib.hid hT; have Hp := Lib.hid hp; have Hp2 := Lib.hid hp2; have Hq := Lib.hid hq; have Hd := Lib.hid hd; have Hf := Lib.hid hf; clear h hm hr hv hN hb1 hR hC hT hp hp2 hq hd hf
          go_enter Try.func104, Try.ntmps104
          go_wp2_with fail
          refine (HN.out _).mono ?_
          rintro e w1 ⟨rfl, rfl⟩
          go_wp2_with fail
          refine HC.out.mono ?_
          rintro e w2 ⟨rfl, hb2⟩
          have hb3 := Hb1.out.trans (hb2.mono Hb1.out.size)
          have hT2 := HT.out w2 hb2
          have c1 : w2.cell? ⟨w.heap.size, 1, none⟩ = some (.slice a m cap) := by
            have := cells_at (heap_below hb2 (heap_alloc_new w (.cells #[.string s, .slice a m cap] 35))) 1
            simpa using this
          have Hb2 := Lib.hid hb2; have Hb3 := Lib.hid hb3; have HT2 := Lib.hid hT2; clear hb2 hb3 hT2
          go_wp2_with fail
          refine HT2.out.mono ?_
          rintro e w3 ⟨rfl, hb4⟩
          have hb5 := Hb3.out.trans (hb4.mono Hb3.out.size)
          have Hb4 := Lib.hid hb4; have Hb5 := Lib.hid hb5; clear hb4 hb5
          go_wp2_with fail
          go_ret
          exact ⟨ret_bool (by rw [Hf.out]), Hb5.out⟩
      · have hf : r = false := by rw [hv, decide_eq_false h4]; simp
        have k1 : (0 : Int) < (m : Int) := by omega
        have k2 : (4 : Int) < (m : Int) := by omega
        have k3 : decide ((m : Int) ≤ 4) = false := by simpa using k2
        have Hh := Lib.hid h; have Hm := Lib.hid hm; have Hr := Lib.hid hr; have Hv := Lib.hid hv; have HN := Lib.hid hN; have Hb1 := Lib.hid hb1; have HR := Lib.hid hR; have HC := Lib.hid hC; have HT := Lib.hid hT; have Hp := Lib.hid hp; have Hp2 := Lib.hid hp2; have Hq := Lib.hid hq; have Hd := Lib.hid hd; have Hf := Lib.hid hf; clear h hm hr hv hN hb1 hR hC hT hp hp2 hq hd hf
        go_enter Try.func104, Try.ntmps104
        go_wp2_with fail
        refine (HN.out _).mono ?_
        rintro e w1 ⟨rfl, rfl⟩
        go_wp2_with fail
        go_ret
        exact ⟨ret_bool Hf.out.symm, Hb1.out⟩
    · have hf : r = false := by rw [hv, decide_eq_false h0]; rfl
      have k1 : decide (0 < (m : Int)) = false := decide_eq_false (by omega)
      have k2 : m ≤ 0 := by omega
      have Hh := Lib.hid h; have Hm := Lib.hid hm; have Hr := Lib.hid hr; have Hv := Lib.hid hv; have HN := Lib.hid hN; have Hb1 := Lib.hid hb1; have HR := Lib.hid hR; have HC := Lib.hid hC; have HT := Lib.hid hT; have Hp := Lib.hid hp; have Hp2 := Lib.hid hp2; have Hq := Lib.hid hq; have Hd := Lib.hid hd; have Hf := Lib.hid hf; clear h hm hr hv hN hb1 hR hC hT hp hp2 hq hd hf
      go_enter Try.func104, Try.ntmps104
      go_wp2_with fail
      refine (HN.out _).mono ?_
      rintro e w1 ⟨rfl, rfl⟩
      go_wp2_with fail
      go_ret
      exact ⟨ret_bool Hf.out.symm, Hb1.out⟩
end Go.Proofs.Ytnelgellbabkoaa

/- The walk of variant.May: whether variants may be. Condition: few values. -/
namespace Go.Proofs.Ytnelgellbabkoaa
open Go.RowKit Go.Shelf

theorem elem_str : Elem Try.prog 33 9 (.string ⟨#[]⟩) 1 16 := ⟨Try.underlying33, by kernel_rfl, rfl, by decide⟩
theorem vars_open {w : World} {v : Value} {l : List Var} (h : RVars w [v] l) : ∃ a cap, v = .slice a l.length cap ∧ l.length ≤ 9223372036854775807 ∧ ∀ i (hi : i < l.length), ∃ b off u, a = some ⟨b, off, none⟩ ∧ w.cell? ⟨b, off + i * 2, none⟩ = some (.string l[i].1) ∧ w.cell? ⟨b, off + i * 2 + 1, none⟩ = some u ∧ l[i].1.size ≤ 9223372036854775807 ∧ RSs w [u] l[i].2 := by
  obtain ⟨a, cap, hv, hcap, hmax, hel⟩ := h
  simp only [List.cons.injEq, and_true] at hv
  unfold maxLen at hmax
  refine ⟨a, cap, hv, by omega, fun i hi => ?_⟩
  obtain ⟨b, off, ecs, h1, h2, h3, u, h4, h5, h6⟩ := hel i l[i] (List.getElem?_eq_getElem hi)
  subst h4
  unfold maxLen at h5
  exact ⟨b, off, u, h1, by simpa using h3 0 _ rfl, by simpa using h3 1 _ rfl, by omega, h6⟩
theorem strs_reads {w : World} {B : Nat} {v : Value} {f : List ByteArray} (hw : ∀ x ∈ f, x.size ≤ maxLen) (h : w.ownsRow B 9 1 v f.length (f.map strv)) : RSs w [v] f :=
  slice_of_owns (vs := f.map strv) (by simp) h (fun i u x hu hx => by
    rw [List.getElem?_map, hx] at hu
    simp at hu
    subst hu
    exact ⟨rfl, hw x (List.mem_of_getElem? hx)⟩)
/-- whether variants may be -/
def mayOf (l : List Var) : Bool := l.all oneOf && (decide (l.length ≤ 4) && decide ((l.map (·.1)).Nodup))
theorem allv_succ {α : Type} {p : α → Bool} {l : List α} {k : Nat} (h : k < l.length) (h1 : (l.take k).all p = true) (h2 : p l[k] = true) : (l.take (k + 1)).all p = true := by
  rw [List.take_succ_eq_append_getElem h, List.all_append, h1]; simp [h2]
theorem allv_no {α : Type} {p : α → Bool} {l : List α} {k : Nat} (h : k < l.length) (hp : p l[k] = false) : l.all p = false := by
  rw [Bool.eq_false_iff]; intro h2
  have := List.all_eq_true.1 h2 _ (List.getElem_mem h)
  rw [hp] at this; cases this
set_option maxRecDepth 10000 in
set_option maxHeartbeats 1000000 in
theorem may_any {w : World} {v : Value} {l : List Var} (h : RVars w [v] l) (hl : l.length ≤ 1000000) (hv : ∀ x ∈ l, x.2.length ≤ 1000000) : Calls Try.prog 67 #[v] w fun e w' => e = .returned (.bool (mayOf l)) ∧ Below w.heap.size w w' := by
  obtain ⟨a, cap, rfl, hz, g⟩ := vars_open h
  obtain ⟨n, hn⟩ : ∃ n, n = l.length := ⟨_, rfl⟩
  obtain ⟨r, hr⟩ : ∃ r, r = mayOf l := ⟨_, rfl⟩
  have hsz : ∀ x ∈ l, x.1.size ≤ 9223372036854775807 := fun x hx => by
    obtain ⟨i, hi, e⟩ := List.mem_iff_getElem.1 hx
    obtain ⟨_, _, _, _, _, _, h1, _⟩ := g i hi
    rw [e] at h1; exact h1
  rw [← hr]
  rw [← hn] at hz hl h ⊢
  have Hh := Lib.hid h; have Hg := Lib.hid g; have Hn := Lib.hid hn; have Hr := Lib.hid hr; have Hv := Lib.hid hv; have Hsz := Lib.hid hsz; clear h g hn hr hv hsz
  go_enter Try.func67, Try.ntmps67
  go_wp2_with fail
  go_loopw [3, 8] (fun o i wr => ∃ k : Nat, k ≤ n ∧ i = .int .i64 k ∧ wr.ownsRow w.heap.size 9 1 o k ((l.take k).map fun x => strv x.1) ∧ (l.take k).all oneOf = true ∧ Below w.heap.size w wr) (fun _ i _ => n - (intOf i).toNat)
  case atStart => exact ⟨0, Nat.zero_le _, rfl, World.ownsRow_nil _ _ _ _, by simp, Below.refl _ _⟩
  case round =>
    obtain ⟨k, hk, rfl, ho, hall, hb⟩ := hrel
    obtain ⟨oa, oc, rfl⟩ := own_shape ho
    have hB := hb.size
    by_cases hlt : k < n
    · have hkl : k < l.length := by have := Hn.out; omega
      obtain ⟨b, off, u, rfl, d0, d1, hsx, hu⟩ := Hg.out k hkl
      obtain ⟨x, hx⟩ : ∃ x, x = l[k] := ⟨_, rfl⟩
      rw [← hx] at d0 hu hsx
      have hxl : x ∈ l := by rw [hx]; exact List.getElem_mem hkl
      have hxv := Hv.out x hxl
      obtain ⟨ua, uc, rfl, hz2, _⟩ := strs_open hu
      obtain ⟨m, hm⟩ : ∃ m, m = x.2.length := ⟨_, rfl⟩
      have e0 := cell_later hb d0
      have e1 := cell_later hb d1
      have hO := fun (W : World) (hW : Below wr.heap.size wr W) => one_any (s := x.1) (by unfold maxLen; omega) (stays_slice stays_str _ _ _ _ hu (hb.trans (hW.mono hB))) hxv
      rw [← hm] at e1 d1 hu hz2 hxv hO
      have hyes : oneOf x = true → (l.take (k + 1)).all oneOf = true := fun h => allv_succ hkl hall (by rw [← hx]; exact h)
      have hno : oneOf x = false → r = false := fun h => by rw [Hr.out]; unfold mayOf; rw [allv_no hkl (by rw [← hx]; exact h)]; rfl
      have htk : (l.take (k + 1)).map (fun x => strv x.1) = (l.take k).map (fun x => strv x.1) ++ [strv x.1] := by rw [List.take_succ_eq_append_getElem hkl, ← hx, List.map_append]; rfl
      obtain ⟨s, hs⟩ : ∃ s, s = x.1 := ⟨_, rfl⟩
      obtain ⟨p, hp⟩ : ∃ p, p = oneOf x := ⟨_, rfl⟩
      have hpx : oneOf (x.1, x.2) = p := by rw [hp]
      rw [hpx] at hO
      rw [← hp] at hyes hno
      rw [← hs] at e0 d0 hsx hO htk
      have k5 : (0 : Int) ≤ (k : Int) := by omega
      have k6 : (k : Int) < (n : Int) := by omega
      clear hpx
      clear hx hkl
      have hkm : k ≤ 1000000 := by omega
      cases p with
      | false =>
        have hf := hno rfl
        have Ho := Lib.hid ho; have Hall := Lib.hid hall; have Hb := Lib.hid hb; have Hd0 := Lib.hid d0; have Hd1 := Lib.hid d1; have Hu := Lib.hid hu; have HO := Lib.hid hO; have Hyes := Lib.hid hyes; have Hno := Lib.hid hno; have Hf := Lib.hid hf; have Hm := Lib.hid hm; have Hs := Lib.hid hs; have Hp := Lib.hid hp; have Htk := Lib.hid htk; have Hxl := Lib.hid hxl; clear ho hall hb d0 d1 hu hO hyes hno hf hm hs hp htk hxl
        go_wp2_with fail
        refine (HO.out _ ?c1).mono ?_
        case c1 => exact below_alloc1 _ _
        rintro e w1 ⟨rfl, hb1⟩
        have hb2 := Hb.out.trans (((below_alloc1 wr (.cells #[.string s, .slice ua m uc] 35)).trans (hb1.mono (by simp))).mono hB)
        have Hb1 := Lib.hid hb1; have Hb2 := Lib.hid hb2; clear hb1 hb2
        go_wp2_with fail
        go_ret
        exact ⟨ret_bool Hf.out.symm, Hb2.out⟩
      | true =>
        have hnext := hyes rfl
        have Ho := Lib.hid ho; have Hall := Lib.hid hall; have Hb := Lib.hid hb; have Hd0 := Lib.hid d0; have Hd1 := Lib.hid d1; have Hu := Lib.hid hu; have HO := Lib.hid hO; have Hyes := Lib.hid hyes; have Hno := Lib.hid hno; have Hnext := Lib.hid hnext; have Hm := Lib.hid hm; have Hs := Lib.hid hs; have Hp := Lib.hid hp; have Htk := Lib.hid htk; have Hxl := Lib.hid hxl; clear ho hall hb d0 d1 hu hO hyes hno hnext hm hs hp htk hxl
        go_wp2_with fail
        refine (HO.out _ ?c1).mono ?_
        case c1 => exact below_alloc1 _ _
        rintro e w1 ⟨rfl, hb1⟩
        have hb2 := Hb.out.trans (((below_alloc1 wr (.cells #[.string s, .slice ua m uc] 35)).trans (hb1.mono (by simp))).mono hB)
        have hbr := (below_alloc1 wr (.cells #[.string s, .slice ua m uc] 35)).trans (hb1.mono (by simp))
        have c0 : w1.cell? ⟨wr.heap.size, 0, none⟩ = some (.string s) := by
          have := cells_at (heap_below hb1 (heap_alloc_new wr (.cells #[.string s, .slice ua m uc] 35))) 0
          simpa using this
        have cc0 : ∀ o : Obj, (w1.alloc o).cell? ⟨wr.heap.size, 0, none⟩ = some (.string s) := fun o => ((Frm.refl _ w1).alloc o).keep c0
        have ho1 := ownsRow_below Ho.out hbr
        have hB1 : w.heap.size ≤ w1.heap.size := hb2.size
        have Hb1 := Lib.hid hb1; have Hb2 := Lib.hid hb2; have Hbr := Lib.hid hbr; have Ho1 := Lib.hid ho1; clear hb1 hb2 hbr ho1
        go_wp2_with (at_builtin; (refine wpList_append_some elem_str rfl (.tmp 15) (.tmp 18) rfl w.heap.size (.slice oa k oc) k _ rfl Ho1.out 1 (by decide) #[.string s] rfl rfl (by simp [Value.oneCell']) (by omega) (by unfold maxLen; omega) hB1 ?_; intro g8 c8 w8 hown8 hg8 hm8))
        have hbel8 := bel_own Hb2.out Ho1.out (Nat.le_refl _) hg8 hB1
        have hown9 : w8.ownsRow w.heap.size 9 1 (.slice (some ⟨g8, 0, none⟩) (k + 1) c8) (k + 1) ((l.take (k + 1)).map fun x => strv x.1) := by rw [Htk.out]; exact hown8
        have Hown8 := Lib.hid hown8; have Hg8 := Lib.hid hg8; have Hbel8 := Lib.hid hbel8; have Hown9 := Lib.hid hown9; clear hown8 hg8 hbel8 hown9
        clear hm8
        go_wp2_with fail
        go_roundw
        case rel => exact ⟨k + 1, by omega, by go_num, Hown9.out, Hnext.out, Hbel8.out⟩
        case measure => simp [intOf]; omega
    · obtain rfl : k = n := by omega
      have e : l.take k = l := List.take_of_length_le (by have := Hn.out; omega)
      rw [e] at hall ho
      have hrr : r = (decide (k ≤ 4) && decide ((l.map (·.1)).Nodup)) := by rw [Hr.out]; unfold mayOf; rw [hall, ← Hn.out]; rfl
      by_cases h4 : k ≤ 4
      · have hnm : RSs wr [.slice oa k oc] (l.map (·.1)) := by
          have hkk : k = (l.map (·.1)).length := by rw [List.length_map]; exact Hn.out
          have h9 := ho
          rw [hkk] at h9 ⊢
          refine strs_reads (fun x hx => ?_) (by rw [List.map_map]; exact h9)
          obtain ⟨y, hy, rfl⟩ := List.mem_map.1 hx
          have := Hsz.out y hy
          unfold maxLen; omega
        have hT := twice_any hnm (by rw [List.length_map]; have := Hn.out; omega)
        obtain ⟨d, hd⟩ : ∃ d, d = decide ((l.map (·.1)).Nodup) := ⟨_, rfl⟩
        rw [← hd] at hT
        have hf : r = d := by rw [hrr, decide_eq_true h4, ← hd]; rfl
        have k2 : (k : Int) ≤ 4 := by omega
        have k3 : decide ((k : Int) ≤ 4) = true := by simpa using k2
        have Ho := Lib.hid ho; have Hall := Lib.hid hall; have Hb := Lib.hid hb; have Hrr := Lib.hid hrr; have Hnm := Lib.hid hnm; have HT := Lib.hid hT; have Hd := Lib.hid hd; have Hf := Lib.hid hf; clear ho hall hb hrr hnm hT hd hf
        clear e
        go_wp2_with fail
        refine HT.out.mono ?_
        rintro e w1 ⟨rfl, hb1⟩
        have hb2 := Hb.out.trans (hb1.mono hB)
        have Hb1 := Lib.hid hb1; have Hb2 := Lib.hid hb2; clear hb1 hb2
        go_wp2_with fail
        go_ret
        exact ⟨ret_bool (by rw [Hf.out]), Hb2.out⟩
      · have hf : r = false := by rw [hrr, decide_eq_false h4]; rfl
        have k2 : (4 : Int) < (k : Int) := by omega
        have k3 : decide ((k : Int) ≤ 4) = false := by simpa using k2
        have Ho := Lib.hid ho; have Hall := Lib.hid hall; have Hb := Lib.hid hb; have Hrr := Lib.hid hrr; have Hf := Lib.hid hf; clear ho hall hb hrr hf
        clear e
        go_wp2_with fail
        go_ret
        exact ⟨ret_bool Hf.out.symm, Hb.out⟩
end Go.Proofs.Ytnelgellbabkoaa

/- The walk of variant.Usual: the settings with the usual values. Condition: few variants. -/
namespace Go.Proofs.Ytnelgellbabkoaa
open Go.RowKit Go.Shelf

abbrev Setg := ByteArray × ByteArray
def setCells (x : Setg) : List Value := [.string x.1, .string x.2]
theorem elem_set : Elem Try.prog 36 38 (.agg #[.string ⟨#[]⟩, .string ⟨#[]⟩]) 2 32 := ⟨Try.underlying36, by kernel_rfl, rfl, by decide⟩
def usual1 (x : Var) : Option Setg := x.2.head?.map fun y => (x.1, y)
def usualOf (l : List Var) : List Setg := l.filterMap usual1
theorem usual_succ {l : List Var} {k : Nat} (h : k < l.length) : usualOf (l.take (k + 1)) = usualOf (l.take k) ++ (match usual1 l[k] with | some y => [y] | none => []) := by
  unfold usualOf
  rw [List.take_succ_eq_append_getElem h, List.filterMap_append]
  cases hq : usual1 l[k] <;> simp [hq]
theorem usual_len (l : List Var) : (usualOf l).length ≤ l.length := List.length_filterMap_le _ _
set_option maxRecDepth 10000 in
set_option maxHeartbeats 2000000 in
theorem usual_any {w : World} {v : Value} {l : List Var} (h : RVars w [v] l) (hl : l.length ≤ 1000000) : Calls Try.prog 62 #[v] w fun e w' => ∃ o, e = .returned o ∧ w'.ownsRow w.heap.size 38 2 o (usualOf l).length ((usualOf l).flatMap setCells) ∧ Below w.heap.size w w' := by
  obtain ⟨a, cap, rfl, hz, g⟩ := vars_open h
  obtain ⟨n, hn⟩ : ∃ n, n = l.length := ⟨_, rfl⟩
  rw [← hn] at hz hl h ⊢
  have Hh := Lib.hid h; have Hg := Lib.hid g; have Hn := Lib.hid hn; clear h g hn
  go_enter Try.func62, Try.ntmps62
  go_wp2_with fail
  go_loopw [3, 8] (fun o i wr => ∃ k m : Nat, k ≤ n ∧ i = .int .i64 k ∧ m = (usualOf (l.take k)).length ∧ m ≤ k ∧ wr.ownsRow w.heap.size 38 2 o m ((usualOf (l.take k)).flatMap setCells) ∧ Below w.heap.size w wr) (fun _ i _ => n - (intOf i).toNat)
  case atStart => exact ⟨0, 0, Nat.zero_le _, rfl, rfl, Nat.le_refl _, World.ownsRow_nil _ _ _ _, Below.refl _ _⟩
  case round =>
    obtain ⟨k, m, hk, rfl, hm, hmk, ho, hb⟩ := hrel
    obtain ⟨oa, oc, rfl⟩ := own_shape ho
    have hB := hb.size
    by_cases hlt : k < n
    · have hkl : k < l.length := by have := Hn.out; omega
      obtain ⟨b, off, u, rfl, d0, d1, hsx, hu⟩ := Hg.out k hkl
      obtain ⟨x, hx⟩ : ∃ x, x = l[k] := ⟨_, rfl⟩
      rw [← hx] at d0 hu hsx
      obtain ⟨ua, uc, rfl, hz2, g2⟩ := strs_open hu
      obtain ⟨m2, hm2⟩ : ∃ m, m = x.2.length := ⟨_, rfl⟩
      have e0 := cell_later hb d0
      have e1 := cell_later hb d1
      have hus := usual_succ hkl
      rw [← hx] at hus
      rw [← hm2] at e1 d1 hu hz2
      obtain ⟨s, hs⟩ : ∃ s, s = x.1 := ⟨_, rfl⟩
      rw [← hs] at e0 d0 hsx
      have k5 : (0 : Int) ≤ (k : Int) := by omega
      have k6 : (k : Int) < (n : Int) := by omega
      clear hx hkl
      by_cases h0 : 0 < m2
      · have h0l : 0 < x.2.length := by omega
        obtain ⟨b2, off2, rfl, d2, hxx⟩ := g2 0 h0l
        clear hxx
        obtain ⟨y, hy⟩ : ∃ y, y = x.2[0] := ⟨_, rfl⟩
        rw [← hy, Nat.add_zero] at d2
        have hu1 : usual1 x = some (s, y) := by
          unfold usual1
          rw [List.head?_eq_getElem?, List.getElem?_eq_getElem h0l, ← hy, ← hs]; rfl
        have hus2 : usualOf (l.take (k + 1)) = usualOf (l.take k) ++ [(s, y)] := by rw [hus, hu1]
        have d3 := cell_later hb d2
        have k7 : (0 : Int) < (m2 : Int) := by omega
        have hnl : (usualOf (l.take (k + 1))).length = m + 1 := by rw [hus2, List.length_append, ← hm]; rfl
        clear hy d2
        have Ho := Lib.hid ho; have Hb := Lib.hid hb; have Hd0 := Lib.hid d0; have Hd1 := Lib.hid d1; have Hu := Lib.hid hu; have Hus := Lib.hid hus; have Hus2 := Lib.hid hus2; have Hu1 := Lib.hid hu1; have Hm2 := Lib.hid hm2; have Hs := Lib.hid hs; have Hg2 := Lib.hid g2; have Hm := Lib.hid hm; have Hd3 := Lib.hid d3; have Hnl := Lib.hid hnl; clear ho hb d0 d1 hu hus hus2 hu1 hm2 hs g2 hm d3 hnl
        clear h0l
        go_upto_region 6 with (fail)
        obtain ⟨W1, hW1⟩ : ∃ W1, W1 = wr.alloc (.cells #[.string s, .slice (some ⟨b2, off2, none⟩) m2 uc] 35) := ⟨_, rfl⟩
        have hcW : W1.heap[wr.heap.size]? = some (.cells #[.string s, .slice (some ⟨b2, off2, none⟩) m2 uc] 35 (0, 0)) := by rw [hW1]; exact heap_alloc_new _ _
        have c0 := cells_at hcW 0
        have c1 := cells_at hcW 1
        simp only [List.getElem?_toArray, List.getElem?_cons_succ, List.getElem?_cons_zero] at c0 c1
        have d4 : W1.cell? ⟨b2, off2, none⟩ = some (.string y) := by rw [hW1]; exact cell_later (below_alloc1 _ _) Hd3.out
        have hown2 : W1.drew.ownsRow w.heap.size 38 2 (.slice oa m oc) m ((usualOf (l.take k)).flatMap setCells) := by rw [hW1]; exact Ho.out.alloc _
        have hB2 : w.heap.size ≤ W1.drew.heap.size := by rw [hW1]; show w.heap.size ≤ (wr.alloc _).heap.size; simp; omega
        have hbW : Below w.heap.size w W1 := by rw [hW1]; exact Hb.out.alloc hB _
        rw [← hW1]
        clear hcW
        have Hown2 := Lib.hid hown2; have HbW := Lib.hid hbW; have HW1 := Lib.hid hW1; clear hown2 hbW hW1
        go_region_law (refine step_append_some elem_set (w := W1.drew) rfl (.tmp 16) (.tmp 24) rfl w.heap.size (.slice oa m oc) m ((usualOf (l.take k)).flatMap setCells) rfl Hown2.out 1 (by decide) #[.string s, .string y] rfl rfl (by simp [Value.oneCell']) (by omega) (by unfold maxLen; omega) hB2 ?_; intro g8 c8 w8 hown8 hg8 hm8)
        all_goals
          have hbel8 := bel_own (bel_drewN HbW.out 1) Hown2.out (Nat.le_refl _) hg8 hB2
          have hown9 : w8.ownsRow w.heap.size 38 2 (.slice (some ⟨g8, 0, none⟩) (m + 1) c8) (m + 1) ((usualOf (l.take (k + 1))).flatMap setCells) := by
            rw [Hus2.out, List.flatMap_append]
            simpa [setCells] using hown8
          have Hown8 := Lib.hid hown8; have Hg8 := Lib.hid hg8; have Hbel8 := Lib.hid hbel8; have Hown9 := Lib.hid hown9; clear hown8 hg8 hbel8 hown9
          clear hm8
          go_wp2_with fail
          go_roundw
          case rel => exact ⟨k + 1, m + 1, by omega, by go_num, Hnl.out.symm, by omega, Hown9.out, Hbel8.out⟩
          case measure => simp [intOf]; omega
      · have hz0 : m2 = 0 := by omega
        have hu1 : usual1 x = none := by
          unfold usual1
          rw [List.eq_nil_of_length_eq_zero (l := x.2) (by omega)]; rfl
        have hus2 : usualOf (l.take (k + 1)) = usualOf (l.take k) := by rw [hus, hu1]; simp
        have k7 : decide (0 < (m2 : Int)) = false := decide_eq_false (by omega)
        have k8 : m2 ≤ 0 := by omega
        rw [← hus2] at ho hm
        have hb2 := hb.alloc hB (.cells #[.string s, .slice ua m2 uc] 35)
        have ho2 := ho.alloc (.cells #[.string s, .slice ua m2 uc] 35)
        clear h0
        have Ho := Lib.hid ho; have Hb := Lib.hid hb; have Hd0 := Lib.hid d0; have Hd1 := Lib.hid d1; have Hu := Lib.hid hu; have Hus := Lib.hid hus; have Hus2 := Lib.hid hus2; have Hu1 := Lib.hid hu1; have Hm2 := Lib.hid hm2; have Hs := Lib.hid hs; have Hg2 := Lib.hid g2; have Hm := Lib.hid hm; have Hz0 := Lib.hid hz0; have Hb2 := Lib.hid hb2; have Ho2 := Lib.hid ho2; clear ho hb d0 d1 hu hus hus2 hu1 hm2 hs g2 hm hz0 hb2 ho2
        go_wp2_with fail
        go_roundw
        case rel => exact ⟨k + 1, m, by omega, by go_num, Hm.out, by omega, Ho2.out, Hb2.out⟩
        case measure => simp [intOf]; omega
    · obtain rfl : k = n := by omega
      have e : l.take k = l := List.take_of_length_le (by have := Hn.out; omega)
      rw [e] at ho hm
      have Ho := Lib.hid ho; have Hb := Lib.hid hb; have Hm := Lib.hid hm; have He := Lib.hid e; clear ho hb hm e
      go_wp2_with fail
      go_ret
      exact ⟨_, rfl, by have := Ho.out; rw [Hm.out] at this ⊢; exact this, Hb.out⟩
end Go.Proofs.Ytnelgellbabkoaa

/- Laws for an append of what is read. No condition. -/
namespace Go.Proofs.Ytnelgellbabkoaa
open Go.RowKit

theorem run_append_from {P : Program} {t e : TypeId} {z : Value} {size bytes : Nat} (E : Elem P t e z size bytes) (w : World) (base : Nat) (ty : TypeId)
    (v : Value) (n : Nat) (xs : List Value) (hown : w.ownsRow base e size v n xs)
    (ao : Option Addr) (m c : Nat) (news : List Value) (hl : news.length = m * size) (hnews : ∀ j u, news[j]? = some u → ∃ b off, ao = some ⟨b, off, none⟩ ∧ w.cell? ⟨b, off + j, none⟩ = some u) (h1 : ∀ u ∈ news, u.oneCell' = true)
    (h63 : n + m ≤ maxLen) (hbytes : (n + m) * bytes ≤ 140737488355328) (hbase : base ≤ w.heap.size) :
    ∃ v' w', (Builtin.append_ #[t, t] ty #[v, .slice ao m c]).run P w = .ok v' w' ∧ w'.ownsRow base e size v' (n + m) (xs ++ news) ∧ w.grownBy w' v.ownBlock ∧ Moved w v v' := by
  obtain ⟨i, hi, hz, hsz, hby⟩ := info_parts E.info
  cases ao with
  | some a =>
    obtain ⟨v', w', hr, h2, h3, h4⟩ := run_append_where (P := P) w base t ty e i z size bytes E.slice hi hz hsz hby E.zero E.pos v n xs hown a m c news hl (by
      intro j u hu
      obtain ⟨b, off, e1, e2⟩ := hnews j u hu
      cases e1
      rw [Addr.add_lit]
      exact e2) h1 h63 hbytes hbase
    refine ⟨v', w', hr, h2, h3, fun k hk => ?_⟩
    rcases h4 with h4 | h4
    · exact .inl (by rw [← h4]; exact hk)
    · right; rw [h4] at hk; simp at hk; omega
  | none =>
    have hn : news = [] := by
      cases news with
      | nil => rfl
      | cons x r => obtain ⟨b, off, e1, _⟩ := hnews 0 x rfl; cases e1
    subst hn
    have hm : m = 0 := by
      have hp := E.pos
      rcases Nat.eq_zero_or_pos m with h | h
      · exact h
      · have := Nat.mul_pos h hp; simp at hl; omega
    subst hm
    refine ⟨v, w, ?_, by simpa using hown, World.grownBy.refl _ _, fun k hk => .inl hk⟩
    rcases hown.2 with ⟨rfl, rfl⟩ | ⟨g, cap, cur, rfl, _, _, hnc, _⟩
    · simp [Builtin.append_, run_underlying E.slice, sizeOf, typeInfo, hi, Builtin.lenOf, Builtin.firstCells]
    · simp [Builtin.append_, run_underlying E.slice, sizeOf, typeInfo, hi, Builtin.lenOf, Builtin.firstCells, hnc, storeCells]

theorem wp_append_from {P : Program} {t e : TypeId} {z : Value} {size bytes : Nat} (E : Elem P t e z size bytes) {w : World} {o : Oper} {a : Act} {K : Act → World → Prop} {Q : Exit → Act → World → Prop}
    (s x : Operand) (ho : o.op = .call { callee := .builtin .append, args := #[s, x], argTypes := #[t, t] })
    (base : Nat) (v : Value) (n : Nat) (xs : List Value) (hs : a.eval s = v) (hown : w.ownsRow base e size v n xs)
    (ao : Option Addr) (m c : Nat) (news : List Value) (hx : a.eval x = .slice ao m c) (hl : news.length = m * size) (hnews : ∀ j u, news[j]? = some u → ∃ b off, ao = some ⟨b, off, none⟩ ∧ w.cell? ⟨b, off + j, none⟩ = some u) (h1 : ∀ u ∈ news, u.oneCell' = true)
    (hb : (n + m) * bytes ≤ 140737488355328) (hb1 : n + m ≤ maxLen) (hbase : base ≤ w.heap.size)
    (h : ∀ v' w', w'.ownsRow base e size v' (n + m) (xs ++ news) → w.grownBy w' v.ownBlock → Moved w v v' → K (a.put o.dst v') w') :
    o.wp P a w K Q := by
  obtain ⟨v', w', hr, h2, h3, h4⟩ := run_append_from E w base o.type v n xs hown ao m c news hl hnews h1 hb1 hb hbase
  unfold Oper.wp execOp
  simp only [ho, resolve, invoke, builtin, Sem.run_bind, Sem.run_pure, Result.andThen_ok, List.map_toArray, List.map_cons, List.map_nil, hs, hx, hr]
  exact h v' w' h2 h3 h4
theorem wpList_append_from {P : Program} {t e : TypeId} {z : Value} {size bytes : Nat} (E : Elem P t e z size bytes) {w : World} {ops : Array Oper} {rest : List Oper} {o : Oper} {a : Act} {Q : Exit → Act → World → Prop}
    (hgd : o.guard = none) (s x : Operand) (ho : o.op = .call { callee := .builtin .append, args := #[s, x], argTypes := #[t, t] })
    (base : Nat) (v : Value) (n : Nat) (xs : List Value) (hs : a.eval s = v) (hown : w.ownsRow base e size v n xs)
    (ao : Option Addr) (m c : Nat) (news : List Value) (hx : a.eval x = .slice ao m c) (hl : news.length = m * size) (hnews : ∀ j u, news[j]? = some u → ∃ b off, ao = some ⟨b, off, none⟩ ∧ w.cell? ⟨b, off + j, none⟩ = some u) (h1 : ∀ u ∈ news, u.oneCell' = true)
    (hb : (n + m) * bytes ≤ 140737488355328) (hb1 : n + m ≤ maxLen) (hbase : base ≤ w.heap.size)
    (h : ∀ v' w', w'.ownsRow base e size v' (n + m) (xs ++ news) → w.grownBy w' v.ownBlock → Moved w v v' → wpList P ops Q rest (a.put o.dst v') w') :
    wpList P ops Q (o :: rest) a w :=
  wpList_plain hgd fun _ hK => wp_append_from E s x ho base v n xs hs hown ao m c news hx hl hnews h1 hb hb1 hbase fun v' w' h2 h3 h4 => hK _ _ (h v' w' h2 h3 h4)

end Go.Proofs.Ytnelgellbabkoaa

/- Rows of elements of some cells each: an element is put, two are exchanged. No condition. -/
namespace Go.Proofs.Ytnelgellbabkoaa
open Go.RowKit
open SortM

/-- values written from a place on -/
def wr (xs : List Value) : Nat → List Value → List Value
  | _, [] => xs
  | o, v :: vs => wr (xs.set o v) (o + 1) vs
theorem wr_mid : ∀ (vs as1 pre r : List Value), as1.length = vs.length → wr (pre ++ as1 ++ r) pre.length vs = pre ++ vs ++ r := by
  intro vs
  induction vs with
  | nil => intro as1 pre r h; have := List.eq_nil_of_length_eq_zero h; subst this; rfl
  | cons v vs ih =>
    intro as1 pre r h
    match as1, h with
    | a :: as1, h =>
      unfold wr
      have e : (pre ++ a :: as1 ++ r).set pre.length v = (pre ++ [v]) ++ as1 ++ r := by
        rw [List.append_assoc, List.set_append_right _ _ (Nat.le_refl _)]
        simp
      rw [e]
      have := ih as1 (pre ++ [v]) r (by simpa using h)
      rw [List.length_append, List.length_singleton] at this
      rw [this]
      simp
theorem flat_set {α : Type} (f : α → List Value) (k : Nat) (hk : ∀ x, (f x).length = k) (l : List α) (i : Nat) (h : i < l.length) (y : α) : wr (l.flatMap f) (i * k) (f y) = (l.set i y).flatMap f := by
  have h1 : l = l.take i ++ l[i] :: l.drop (i + 1) := by rw [← List.drop_eq_getElem_cons h, List.take_append_drop]
  have h2 : l.set i y = l.take i ++ y :: l.drop (i + 1) := by rw [List.set_eq_take_append_cons_drop, if_pos h]
  have hl : ((l.take i).flatMap f).length = i * k := by
    have : ∀ m : List α, (m.flatMap f).length = m.length * k := by
      intro m
      induction m with
      | nil => simp
      | cons a m ih => rw [List.flatMap_cons, List.length_append, ih, hk, List.length_cons, Nat.succ_mul]; omega
    rw [this, List.length_take, Nat.min_eq_left (by omega)]
  have e1 : l.flatMap f = (l.take i).flatMap f ++ f l[i] ++ (l.drop (i + 1)).flatMap f := by
    conv => lhs; rw [h1]
    rw [List.flatMap_append, List.flatMap_cons, List.append_assoc]
  rw [h2, e1, ← hl, wr_mid _ _ _ _ (by rw [hk, hk]), List.flatMap_append, List.flatMap_cons, List.append_assoc]
theorem flat_get {α : Type} (f : α → List Value) (k : Nat) (hk : ∀ x, (f x).length = k) (l : List α) (i : Nat) (h : i < l.length) (j : Nat) (hj : j < k) : (l.flatMap f)[i * k + j]? = (f l[i])[j]? := by
  induction l generalizing i with
  | nil => simp at h
  | cons a l ih =>
    rw [List.flatMap_cons]
    match i, h with
    | 0, _ =>
      rw [List.getElem?_append_left (by rw [hk]; omega)]
      simp
    | i + 1, h =>
      have hge : (f a).length ≤ (i + 1) * k + j := by rw [hk, Nat.succ_mul]; omega
      rw [List.getElem?_append_right hge, hk, show (i + 1) * k + j - k = i * k + j by rw [Nat.succ_mul]; omega]
      exact ih i (by simpa using h)
def swapAt {α : Type} (l : List α) (i j : Nat) : List α := match l[i]?, l[j]? with
  | some x, some y => (l.set i y).set j x
  | _, _ => l
theorem swapAt_len {α : Type} (l : List α) (i j : Nat) : (swapAt l i j).length = l.length := by
  unfold swapAt; split <;> simp
theorem swapAt_eq {α : Type} (l : List α) (i j : Nat) (hi : i < l.length) (hj : j < l.length) : swapAt l i j = (l.set i l[j]).set j l[i] := by
  unfold swapAt
  rw [List.getElem?_eq_getElem hi, List.getElem?_eq_getElem hj]
/-- two neighbours, as1 parts of the row -/
theorem swapAt_next {α : Type} (p : List α) (x y : α) (q : List α) : swapAt (p ++ x :: y :: q) p.length (p.length + 1) = p ++ y :: x :: q := by
  rw [swapAt_eq _ _ _ (by simp) (by simp)]
  have e1 : (p ++ x :: y :: q)[p.length + 1]'(by simp) = y := by
    rw [List.getElem_append_right (by omega)]; simp
  have e2 : (p ++ x :: y :: q)[p.length]'(by simp) = x := by
    rw [List.getElem_append_right (by omega)]; simp
  rw [e1, e2, List.set_append_right _ _ (Nat.le_refl _), List.set_append_right _ _ (by omega)]
  simp
end Go.Proofs.Ytnelgellbabkoaa

/- The walk of slices.Clone at settings, and rows of settings that a call owns. Condition: few settings. -/
namespace Go.Proofs.Ytnelgellbabkoaa
open Go.RowKit Go.Shelf

/-- a setting's two cells -/
def RSet : Rd Setg := fun _ cs x => cs = [.string x.1, .string x.2] ∧ x.1.size ≤ maxLen ∧ x.2.size ≤ maxLen
theorem stays_set : Stays RSet := fun _ _ _ _ h _ => h
abbrev RSets : Rd (List Setg) := RSlice 2 RSet
theorem setCells_len (x : Setg) : (setCells x).length = 2 := rfl
theorem setsFlat_len : ∀ (l : List Setg), (l.flatMap setCells).length = l.length * 2
  | [] => rfl
  | x :: l => by rw [List.flatMap_cons, List.length_append, setsFlat_len l, setCells_len, List.length_cons]; omega
theorem sets_one (l : List Setg) : ∀ u ∈ l.flatMap setCells, u.oneCell' = true := by
  intro u hu
  obtain ⟨x, _, h⟩ := List.mem_flatMap.1 hu
  simp [setCells] at h
  rcases h with rfl | rfl <;> rfl
theorem SortM_flat (f : List Setg) (i : Nat) (h : i < f.length) (j : Nat) (hj : j < 2) : (f.flatMap setCells)[i * 2 + j]? = (setCells f[i])[j]? := flat_get setCells 2 setCells_len f i h j hj
/-- the cells of a slice of settings -/
theorem sets_news {w : World} {o : Option Addr} {n c : Nat} {f : List Setg} (h : RSets w [.slice o n c] f) : ∀ j u, (f.flatMap setCells)[j]? = some u → ∃ b off, o = some ⟨b, off, none⟩ ∧ w.cell? ⟨b, off + j, none⟩ = some u := by
  obtain ⟨a, cap, hv, _, _, hel⟩ := h
  simp only [List.cons.injEq, and_true, Value.slice.injEq] at hv
  obtain ⟨rfl, _, _⟩ := hv
  intro j u hu
  have hj := (List.getElem?_eq_some_iff.1 hu).1
  rw [setsFlat_len] at hj
  have hi : j / 2 < f.length := by omega
  have e := SortM_flat f (j / 2) hi (j % 2) (by omega)
  have ej : j / 2 * 2 + j % 2 = j := by omega
  rw [ej, hu] at e
  obtain ⟨b, off, ecs, h1, h2, h3, h4, _⟩ := hel (j / 2) f[j / 2] (List.getElem?_eq_getElem hi)
  subst h4
  refine ⟨b, off, h1, ?_⟩
  have := h3 (j % 2) u e.symm
  rwa [Nat.add_assoc, ej] at this
theorem sets_shape {w : World} {v : Value} {f : List Setg} (h : RSets w [v] f) : ∃ a c, v = .slice a f.length c := by
  obtain ⟨a, cap, hv, _⟩ := h
  simp only [List.cons.injEq, and_true] at hv
  exact ⟨a, cap, hv⟩
theorem lit_sets {w : World} {B : Nat} (h : B ≤ w.heap.size) : (w.alloc (.cells #[] 38)).ownsRow B 38 2 (.slice (some ⟨w.heap.size, 0, none⟩) 0 0) 0 [] := World.ownsRow_lit (base := B) (e := 38) (size := 2) w #[] 0 h (by decide) rfl
def ClonePost (w : World) (n : Nat) (N : List Value) (e : Ending) (w' : World) : Prop := ∃ o, e = .returned o ∧ w'.ownsRow w.heap.size 38 2 o n N ∧ Below w.heap.size w w'
set_option maxRecDepth 10000 in
theorem cloneSet_any {w : World} {v : Value} {l : List Setg} (h : RSets w [v] l) (hl : l.length ≤ 1000000) : Calls Try.prog 68 #[v] w (ClonePost w l.length (l.flatMap setCells)) := by
  obtain ⟨a, c, rfl⟩ := sets_shape h
  have hN : ∀ j u, (l.flatMap setCells)[j]? = some u → ∃ b off, a = some ⟨b, off, none⟩ ∧ (w.alloc (.cells #[] 38)).cell? ⟨b, off + j, none⟩ = some u := fun j u hu => by
    obtain ⟨b, off, h1, h2⟩ := sets_news h j u hu
    exact ⟨b, off, h1, cell_later (below_alloc1 _ _) h2⟩
  have h1 := sets_one l
  have hfl := setsFlat_len l
  have hlit := lit_sets (w := w) (B := w.heap.size) (Nat.le_refl _)
  obtain ⟨n, hn⟩ : ∃ n, n = l.length := ⟨_, rfl⟩
  obtain ⟨N, hNN⟩ : ∃ N, N = l.flatMap setCells := ⟨_, rfl⟩
  rw [← hNN] at hN h1 hfl
  rw [← hn] at hfl hl h ⊢
  rw [← hNN]
  cases a with
  | none =>
    have hl0 : l = [] := by
      cases l with
      | nil => rfl
      | cons x r =>
        obtain ⟨_, _, hv, _, _, hel⟩ := h
        simp only [List.cons.injEq, and_true, Value.slice.injEq] at hv
        obtain ⟨rfl, _, _⟩ := hv
        obtain ⟨b, off, ecs, h1, _⟩ := hel 0 x rfl
        cases h1
    have hn0 : n = 0 := by rw [hn, hl0]; rfl
    have hN0 : N = [] := by rw [hNN, hl0]; rfl
    subst hn0
    have hnil : ∀ W, (binOp .eql 36 (.slice none 0 c) (.slice none 0 0)).run Try.prog W = .ok (.bool true) W := fun W => Lib.run_eql_slice_nil W 36 38 none 0 c 0 0 Try.underlying36
    have Hh := Lib.hid h; have HN := Lib.hid hN; have H1 := Lib.hid h1; have Hfl := Lib.hid hfl; have Hlit := Lib.hid hlit; have Hn := Lib.hid hn; have HNN := Lib.hid hNN; have Hl0 := Lib.hid hl0; have HN0 := Lib.hid hN0; clear h hN h1 hfl hlit hn hNN hl0 hN0
    go_enter Try.func68, Try.ntmps68
    go_wp2_with fail
    go_ret
    exact ⟨_, rfl, by rw [HN0.out]; exact World.ownsRow_nil _ _ _ _, Below.refl _ _⟩
  | some p =>
    have hnil : ∀ W, (binOp .eql 36 (.slice (some p) n c) (.slice none 0 0)).run Try.prog W = .ok (.bool false) W := fun W => Lib.run_eql_slice_nil W 36 38 (some p) n c 0 0 Try.underlying36
    have Hh := Lib.hid h; have HN := Lib.hid hN; have H1 := Lib.hid h1; have Hfl := Lib.hid hfl; have Hlit := Lib.hid hlit; have Hn := Lib.hid hn; have HNN := Lib.hid hNN; clear h hN h1 hfl hlit hn hNN
    go_enter Try.func68, Try.ntmps68
    go_wp2_with (at_builtin; (refine wpList_append_from elem_set rfl (.tmp 5) (.tmp 6) rfl w.heap.size (.slice (some ⟨w.heap.size, 0, none⟩) 0 0) 0 [] rfl Hlit.out (some p) n c N rfl Hfl.out HN.out H1.out (by omega) (by unfold maxLen; omega) (by simp) ?_; intro v1 w1 hown1 hg1 hm1; obtain ⟨oa, oc, rfl⟩ := own_shape hown1; generalize hN7 : 0 + n = N7 at hown1 ⊢; have Hown1 := Lib.hid hown1; have Hg1 := Lib.hid hg1; have HN7 := Lib.hid hN7; clear hown1 hg1 hm1 hN7))
    go_ret
    have hb1 : Below w.heap.size w w1 := bel_own (below_alloc1 w _) Hlit.out (Nat.le_refl _) Hg1.out (by simp)
    refine ⟨_, rfl, ?_, hb1⟩
    have h9 := Hown1.out
    have e : N7 = n := by have := HN7.out; omega
    rw [List.nil_append] at h9
    rw [e] at h9 ⊢
    exact h9
/-- rows of settings that a call owns, in a row -/
structure SRws (B : Nat) (w : World) (v : Value) (vs : List Value) (l : List (List Setg)) : Prop where
  len : vs.length = l.length
  row : w.ownsRow B 36 1 v l.length vs
  rows : ∀ (i : Nat) u f, vs[i]? = some u → l[i]? = some f → w.ownsRow B 38 2 u f.length (f.flatMap setCells)
theorem SRws.nil (B : Nat) (w : World) : SRws B w (.slice none 0 0) [] [] := ⟨rfl, World.ownsRow_nil _ _ _ _, fun i u f h => by simp at h⟩
theorem SRws.below {B : Nat} {w w' : World} {v : Value} {vs : List Value} {l : List (List Setg)} (h : SRws B w v vs l) (hb : Below w.heap.size w w') : SRws B w' v vs l :=
  ⟨h.len, ownsRow_below h.row hb, fun i u f h1 h2 => ownsRow_below (h.rows i u f h1 h2) hb⟩
/-- it stays where another row grows -/
theorem SRws.kept {B B' : Nat} {w w' : World} {v x : Value} {vs xs : List Value} {l : List (List Setg)} {n : Nat} (h : SRws B w v vs l) (hown : w.ownsRow B' 36 1 x n xs) (hne : ∀ k, v.ownBlock = some k → x.ownBlock ≠ some k) (hg : w.grownBy w' x.ownBlock) : SRws B w' v vs l := by
  have hf := frm_of_grown hg
  exact ⟨h.len, hf.owns h.row (fun k hk e => hne k hk e), fun i u f hu hl => by
    have ho := h.rows i u f hu hl
    exact hf.owns ho (fun k hk e => apart_type hown ho (by decide) k e hk)⟩
theorem SRws.push {B : Nat} {w w' : World} {v v' u : Value} {vs : List Value} {l : List (List Setg)} {f : List Setg} (h : SRws B w v vs l) (hu : w.ownsRow B 38 2 u f.length (f.flatMap setCells))
    (hown : w'.ownsRow B 36 1 v' (l.length + 1) (vs ++ [u])) (hg : w.grownBy w' v.ownBlock) : SRws B w' v' (vs ++ [u]) (l ++ [f]) := by
  have hf := frm_of_grown hg
  refine ⟨by simp [h.len], by simpa using hown, fun i x g hx hl => ?_⟩
  by_cases hi : i < vs.length
  · rw [List.getElem?_append_left hi] at hx
    rw [List.getElem?_append_left (by rw [← h.len]; exact hi)] at hl
    have ho := h.rows i x g hx hl
    exact hf.owns ho (fun k hk e => apart_type h.row ho (by decide) k e hk)
  · have hlt := (List.getElem?_eq_some_iff.1 hx).1
    have hiv : i = vs.length := by simp at hlt; omega
    rw [List.getElem?_append_right (by omega), hiv, Nat.sub_self] at hx
    rw [List.getElem?_append_right (by rw [← h.len]; omega), hiv, h.len, Nat.sub_self] at hl
    simp at hx hl
    subst hx; subst hl
    exact hf.owns hu (fun k hk e => apart_type h.row hu (by decide) k e hk)
/-- a row of settings that the call owns reads as they are -/
theorem sets_reads {w : World} {B : Nat} {v : Value} {f : List Setg} (hw : ∀ x ∈ f, x.1.size ≤ maxLen ∧ x.2.size ≤ maxLen) (h : w.ownsRow B 38 2 v f.length (f.flatMap setCells)) : RSets w [v] f := by
  obtain ⟨a, cap, rfl, h1, h2, h3⟩ := Sl.of_owns h
  refine ⟨a, cap, rfl, h1, h2, fun i x hi => ?_⟩
  have hil := (List.getElem?_eq_some_iff.1 hi).1
  have hx := (List.getElem?_eq_some_iff.1 hi).2
  have hc : ∀ c, c < 2 → ∀ u, (setCells x)[c]? = some u → ∃ b off, a = some ⟨b, off, none⟩ ∧ w.cell? ⟨b, off + (i * 2 + c), none⟩ = some u := fun c hc u hu => h3 (i * 2 + c) u (by rw [SortM_flat f i hil c hc, hx]; exact hu)
  obtain ⟨b, off, ha, h4⟩ := hc 0 (by omega) _ rfl
  obtain ⟨b', off', ha', h5⟩ := hc 1 (by omega) _ rfl
  rw [ha] at ha'
  cases ha'
  refine ⟨b, off, setCells x, ha, rfl, fun j u hu => ?_, rfl, (hw x (List.mem_of_getElem? hi)).1, (hw x (List.mem_of_getElem? hi)).2⟩
  match j, hu with
  | 0, hu => simp [setCells] at hu; subst hu; rw [← Nat.add_assoc] at h4; exact h4
  | 1, hu => simp [setCells] at hu; subst hu; rw [← Nat.add_assoc] at h5; exact h5
end Go.Proofs.Ytnelgellbabkoaa

/- The walk of variant.All: all settings of variants. Condition: few variants of few values. -/
namespace Go.Proofs.Ytnelgellbabkoaa
open Go.RowKit Go.Shelf
attribute [local go_sem ↓] Go.wp_at_zero Go.wp_at_succ

theorem elem_sets : Elem Try.prog 31 36 (.slice none 0 0) 1 24 := ⟨Try.underlying31, by kernel_rfl, rfl, by decide⟩
def ext1 (s y : ByteArray) (O : List (List Setg)) : List (List Setg) := O.map fun f => f ++ [(s, y)]
def allStep (O : List (List Setg)) (x : Var) : List (List Setg) := x.2.flatMap fun y => ext1 x.1 y O
/-- all settings of variants -/
def allOf (l : List Var) : List (List Setg) := l.foldl allStep [[]]
theorem allOf_succ {l : List Var} {k : Nat} (h : k < l.length) : allOf (l.take (k + 1)) = allStep (allOf (l.take k)) l[k] := by
  unfold allOf
  rw [List.take_succ_eq_append_getElem h, List.foldl_append]; rfl
theorem ext1_succ {s y : ByteArray} {O : List (List Setg)} {k : Nat} (h : k < O.length) : ext1 s y (O.take (k + 1)) = ext1 s y (O.take k) ++ [O[k] ++ [(s, y)]] := by
  unfold ext1
  rw [List.take_succ_eq_append_getElem h, List.map_append]; rfl
theorem ext1_len (s y : ByteArray) (O : List (List Setg)) : (ext1 s y O).length = O.length := by unfold ext1; simp
theorem vals_succ {s : ByteArray} {O : List (List Setg)} {ys : List ByteArray} {k : Nat} (h : k < ys.length) : ((ys.take (k + 1)).flatMap fun y => ext1 s y O) = ((ys.take k).flatMap fun y => ext1 s y O) ++ ext1 s ys[k] O := by
  rw [List.take_succ_eq_append_getElem h, List.flatMap_append]; simp
theorem vals_len (s : ByteArray) (O : List (List Setg)) : ∀ ys : List ByteArray, (ys.flatMap fun y => ext1 s y O).length = ys.length * O.length
  | [] => by simp
  | y :: ys => by rw [List.flatMap_cons, List.length_append, ext1_len, vals_len s O ys, List.length_cons, Nat.succ_mul]; omega
/-- the sizes stay small -/
theorem allOf_small (l : List Var) (hv : ∀ x ∈ l, x.2.length ≤ 4) : (allOf l).length ≤ 4 ^ l.length ∧ (∀ f ∈ allOf l, f.length = l.length) ∧ (∀ f ∈ allOf l, ∀ y ∈ f, ∃ x ∈ l, y.1 = x.1 ∧ y.2 ∈ x.2) := by
  have key : ∀ (r : List Var) (p : List Var), (∀ x ∈ p ++ r, x.2.length ≤ 4) → ((allOf p).length ≤ 4 ^ p.length ∧ (∀ f ∈ allOf p, f.length = p.length) ∧ (∀ f ∈ allOf p, ∀ y ∈ f, ∃ x ∈ p, y.1 = x.1 ∧ y.2 ∈ x.2)) → ((allOf (p ++ r)).length ≤ 4 ^ (p ++ r).length ∧ (∀ f ∈ allOf (p ++ r), f.length = (p ++ r).length) ∧ (∀ f ∈ allOf (p ++ r), ∀ y ∈ f, ∃ x ∈ p ++ r, y.1 = x.1 ∧ y.2 ∈ x.2)) := by
    intro r
    induction r with
    | nil => intro p _ h; simpa using h
    | cons x r ih =>
      intro p hv h
      have e : p ++ x :: r = (p ++ [x]) ++ r := by simp
      rw [e] at hv ⊢
      refine ih (p ++ [x]) hv ?_
      have ea : allOf (p ++ [x]) = allStep (allOf p) x := by unfold allOf; rw [List.foldl_append]; rfl
      obtain ⟨h1, h2, h3⟩ := h
      have hx := hv x (by simp)
      rw [ea]
      refine ⟨?_, ?_, ?_⟩
      · unfold allStep
        rw [vals_len, List.length_append, List.length_singleton, Nat.pow_succ, Nat.mul_comm]
        exact Nat.mul_le_mul h1 hx
      · intro f hf
        unfold allStep at hf
        obtain ⟨y, _, hf⟩ := List.mem_flatMap.1 hf
        obtain ⟨g, hg, rfl⟩ := List.mem_map.1 hf
        simp [h2 g hg]
      · intro f hf z hz
        unfold allStep at hf
        obtain ⟨y, hy, hf⟩ := List.mem_flatMap.1 hf
        obtain ⟨g, hg, rfl⟩ := List.mem_map.1 hf
        rcases List.mem_append.1 hz with hz | hz
        · obtain ⟨x', hx', hh⟩ := h3 g hg z hz
          exact ⟨x', by simp [hx'], hh⟩
        · simp at hz
          subst hz
          exact ⟨x, by simp, rfl, hy⟩
  have := key l [] (by simpa using hv) (by simp [allOf])
  simpa using this
theorem step_append_from {P : Program} {t e : TypeId} {z : Value} {size bytes : Nat} (E : Elem P t e z size bytes) {w : World} {ops : Array Oper} {o : Oper} {a : Act} {K : Act → World → Prop} {Q : Exit → Act → World → Prop} {X : Prop}
    (hgd : o.guard = none) (s x : Operand) (ho : o.op = .call { callee := .builtin .append, args := #[s, x], argTypes := #[t, t] })
    (base : Nat) (v : Value) (n : Nat) (xs : List Value) (hs : a.eval s = v) (hown : w.ownsRow base e size v n xs)
    (ao : Option Addr) (m c : Nat) (news : List Value) (hx : a.eval x = .slice ao m c) (hl : news.length = m * size) (hnews : ∀ j u, news[j]? = some u → ∃ b off, ao = some ⟨b, off, none⟩ ∧ w.cell? ⟨b, off + j, none⟩ = some u) (h1 : ∀ u ∈ news, u.oneCell' = true)
    (hb : (n + m) * bytes ≤ 140737488355328) (hb1 : n + m ≤ maxLen) (hbase : base ≤ w.heap.size)
    (h : ∀ v' w', w'.ownsRow base e size v' (n + m) (xs ++ news) → w.grownBy w' v.ownBlock → Moved w v v' → K (a.put o.dst v') w') :
    if Region.wanted o (yielded ops a.tmps) = true then Oper.wp P o a w K Q else X := by
  have hw : Region.wanted o (yielded ops a.tmps) = true := by simp [Region.wanted, hgd]
  rw [if_pos hw]
  exact wp_append_from E s x ho base v n xs hs hown ao m c news hx hl hnews h1 hb hb1 hbase h
theorem lit_two {w : World} {b : Nat} {s y : ByteArray} (h : w.heap[b]? = some (.cells #[.string s, .string y] 38 (0, 0))) : ∀ (j : Nat) u, ([.string s, .string y] : List Value)[j]? = some u → ∃ b' off, (some ⟨b, 0, none⟩ : Option Addr) = some ⟨b', off, none⟩ ∧ w.cell? ⟨b', off + j, none⟩ = some u := by
  intro j u hu
  refine ⟨b, 0, rfl, ?_⟩
  match j, hu with
  | 0, hu => simp at hu; subst hu; simpa using cells_at h 0
  | 1, hu => simp at hu; subst hu; simpa using cells_at h 1
/-- the row that is built -/
structure AllSt (W0 w : World) (ov : Value) (ovs : List Value) (O : List (List Setg)) (nv : Value) (nvs : List Value) (N : List (List Setg)) : Prop where
  out : SRws W0.heap.size w ov ovs O
  next : SRws W0.heap.size w nv nvs N
  ne : ∀ k, ov.ownBlock = some k → nv.ownBlock ≠ some k
  bel : Below W0.heap.size W0 w
/-- inside the loops: the rows, and the variant's box -/
structure In2 (W0 : World) (vb : Nat) (bc : Array Value) (ov : Value) (ovs : List Value) (O : List (List Setg)) (nv : Value) (N : List (List Setg)) (w : World) : Prop where
  st : ∃ nvs, AllSt W0 w ov ovs O nv nvs N
  box : w.heap[vb]? = some (.cells bc 35 (0, 0))
theorem In2.below {W0 w w' : World} {vb : Nat} {bc : Array Value} {ov : Value} {ovs : List Value} {O : List (List Setg)} {nv : Value} {N : List (List Setg)} (h : In2 W0 vb bc ov ovs O nv N w) (hb : Below w.heap.size w w') : In2 W0 vb bc ov ovs O nv N w' := by
  obtain ⟨nvs, h1⟩ := h.st
  exact ⟨⟨nvs, h1.out.below hb, h1.next.below hb, h1.ne, h1.bel.trans (hb.mono h1.bel.size)⟩, heap_below hb h.box⟩
/-- a row more -/
theorem In2.push {W0 w w' : World} {vb : Nat} {bc : Array Value} {ov : Value} {ovs : List Value} {O : List (List Setg)} {nv nv' u : Value} {nvs : List Value} {N : List (List Setg)} {f : List Setg} (h1 : AllSt W0 w ov ovs O nv nvs N) (hbox : w.heap[vb]? = some (.cells bc 35 (0, 0))) (hu : w.ownsRow W0.heap.size 38 2 u f.length (f.flatMap setCells))
    (hown : w'.ownsRow W0.heap.size 36 1 nv' (N.length + 1) (nvs ++ [u])) (hg : w.grownBy w' nv.ownBlock) (hm : Moved w nv nv') : In2 W0 vb bc ov ovs O nv' (N ++ [f]) w' := by
  refine ⟨⟨nvs ++ [u], h1.out.kept h1.next.row h1.ne hg, h1.next.push hu hown hg, fun k hk e => ?_, bel_own h1.bel h1.next.row (Nat.le_refl _) hg h1.bel.size⟩, ?_⟩
  · rcases hm k e with e2 | e2
    · exact h1.ne k hk e2
    · have := (h1.out.row.lt k hk).2; omega
  · exact keepT_grown hg h1.next.row (by decide) _ _ _ hbox
theorem In2.more {W0 w w5 w6 : World} {vb : Nat} {bc : Array Value} {ov : Value} {ovs : List Value} {O : List (List Setg)} {nv6 u : Value} {na : Option Addr} {nc : Nat} {nvs : List Value} {N : List (List Setg)} {f : List Setg} {s y : ByteArray} {fn NL : Nat} (h1 : AllSt W0 w ov ovs O (.slice na N.length nc) nvs N) (hbox : w.heap[vb]? = some (.cells bc 35 (0, 0))) (hb5 : Below w.heap.size w w5) (hfn : fn = f.length) (hNL : NL = N.length)
    (hown5 : w5.ownsRow w.heap.size 38 2 u (fn + 1) (f.flatMap setCells ++ [.string s, .string y])) (hown6 : w6.ownsRow W0.heap.size 36 1 nv6 (NL + 1) (nvs ++ [u])) (hg6 : w5.grownBy w6 (Value.slice na NL nc).ownBlock) (hm6 : Moved w5 (.slice na NL nc) nv6) : In2 W0 vb bc ov ovs O nv6 (N ++ [f ++ [(s, y)]]) w6 := by
  subst hfn hNL
  have hu := ownsRow_mono (B := W0.heap.size) hown5 h1.bel.size
  exact In2.push ⟨h1.out.below hb5, h1.next.below hb5, h1.ne, h1.bel.trans (hb5.mono h1.bel.size)⟩ (heap_below hb5 hbox) (by simpa [setCells] using hu) hown6 hg6 hm6
set_option maxRecDepth 10000 in
set_option maxHeartbeats 4000000 in
theorem all_any {w : World} {v : Value} {l : List Var} (h : RVars w [v] l) (hmay : mayOf l = true) : Calls Try.prog 22 #[v] w fun e w' => ∃ o vs, e = .returned o ∧ SRws w.heap.size w' o vs (allOf l) ∧ Below w.heap.size w w' := by
  obtain ⟨a, cap, rfl, hz, g⟩ := vars_open h
  have hv4 : ∀ x ∈ l, x.2.length ≤ 4 := fun x hx => by
    unfold mayOf at hmay
    simp only [Bool.and_eq_true, List.all_eq_true] at hmay
    have := hmay.1 x hx
    unfold oneOf at this
    simp only [Bool.and_eq_true, decide_eq_true_eq] at this
    exact this.2.2.1
  have hl4 : l.length ≤ 4 := by
    unfold mayOf at hmay
    simp only [Bool.and_eq_true, decide_eq_true_eq] at hmay
    exact hmay.2.1
  have hM := may_any h (by omega) (fun x hx => by have := hv4 x hx; omega)
  rw [hmay] at hM
  obtain ⟨n, hn⟩ : ∃ n, n = l.length := ⟨_, rfl⟩
  rw [← hn] at hz hl4 h hM ⊢
  have Hh := Lib.hid h; have Hg := Lib.hid g; have Hn := Lib.hid hn; have Hv4 := Lib.hid hv4; have HM := Lib.hid hM; have Hmay := Lib.hid hmay; clear h g hn hv4 hM hmay
  go_enter Try.func22, Try.ntmps22
  go_wp2_with fail
  refine HM.out.mono ?_
  rintro e w1 ⟨rfl, hb1⟩
  have hz1 := hb1.size
  have h0 : SRws w.heap.size (w1.alloc (.cells #[.slice none 0 0] 36)) (.slice (some ⟨w1.heap.size, 0, none⟩) 1 1) [.slice none 0 0] [[]] := ⟨rfl, World.ownsRow_lit (base := w.heap.size) (e := 36) (size := 1) w1 #[.slice none 0 0] 1 hz1 (by decide) rfl, fun i u f hu hf => by
    match i, hu, hf with
    | 0, hu, hf => simp at hu hf; subst hu; subst hf; exact World.ownsRow_nil _ _ _ _⟩
  have hb2 := hb1.alloc hz1 (.cells #[.slice none 0 0] 36)
  have Hb1 := Lib.hid hb1; have H0 := Lib.hid h0; have Hb2 := Lib.hid hb2; clear hb1 h0 hb2
  go_wp2_with fail
  go_loopw [3, 17] (fun o i wr => ∃ k m : Nat, k ≤ n ∧ i = .int .i64 k ∧ m = (allOf (l.take k)).length ∧ (∃ c : Option Addr × Nat, o = .slice c.1 m c.2) ∧ (∃ vs, SRws w.heap.size wr o vs (allOf (l.take k))) ∧ Below w.heap.size w wr) (fun _ i _ => n - (intOf i).toNat)
  case atStart => exact ⟨0, 1, Nat.zero_le _, rfl, rfl, ⟨(_, _), rfl⟩, ⟨_, H0.out⟩, Hb2.out⟩
  case round =>
    obtain ⟨k, m, hk, rfl, hm, ⟨⟨oa, oc⟩, rfl⟩, ⟨ovs, hO⟩, hb⟩ := hrel
    have hB := hb.size
    by_cases hlt : k < n
    · have hkl : k < l.length := by have := Hn.out; omega
      obtain ⟨b, off, u, rfl, d0, d1, hsx, hu⟩ := Hg.out k hkl
      obtain ⟨x, hx⟩ : ∃ x, x = l[k] := ⟨_, rfl⟩
      rw [← hx] at d0 hu hsx
      have hxl : x ∈ l := by rw [hx]; exact List.getElem_mem hkl
      have hxv := Hv4.out x hxl
      obtain ⟨ua, uc, rfl, hz2, g2⟩ := strs_open hu
      have e0 := cell_later hb d0
      have e1 := cell_later hb d1
      have hstep := allOf_succ hkl
      rw [← hx] at hstep
      have hsmall := (allOf_small (l.take k) (fun x hx => Hv4.out x (List.mem_of_mem_take hx))).1
      have hmsm : m ≤ 256 := by
        rw [hm]
        refine Nat.le_trans hsmall ?_
        rw [List.length_take]
        exact Nat.le_trans (Nat.pow_le_pow_right (by omega) (by omega : min k l.length ≤ 4)) (by decide)
      obtain ⟨m2, hm2⟩ : ∃ m, m = x.2.length := ⟨_, rfl⟩
      rw [← hm2] at e1 d1 hu hz2 hxv
      obtain ⟨s, hs⟩ : ∃ s, s = x.1 := ⟨_, rfl⟩
      rw [← hs] at e0 d0 hsx
      obtain ⟨O, hOO⟩ : ∃ O, O = allOf (l.take k) := ⟨_, rfl⟩
      rw [← hOO] at hm hO hstep
      have k5 : (0 : Int) ≤ (k : Int) := by omega
      have k6 : (k : Int) < (n : Int) := by omega
      have hOlen : ∀ f ∈ O, f.length = k := fun f hf => by
        have := (allOf_small (l.take k) (fun x hx => Hv4.out x (List.mem_of_mem_take hx))).2.1 f (by rw [← hOO]; exact hf)
        rw [this, List.length_take]; omega
      have hOsz : ∀ f ∈ O, ∀ z ∈ f, z.1.size ≤ maxLen ∧ z.2.size ≤ maxLen := fun f hf z hz => by
        obtain ⟨x', hx', e1, e2⟩ := (allOf_small (l.take k) (fun x hx => Hv4.out x (List.mem_of_mem_take hx))).2.2 f (by rw [← hOO]; exact hf) z hz
        obtain ⟨j, hj, ej⟩ := List.mem_iff_getElem.1 (List.mem_of_mem_take hx')
        obtain ⟨_, _, u', _, _, _, h5, h6⟩ := Hg.out j hj
        rw [ej] at h5 h6
        obtain ⟨_, _, _, _, g3⟩ := strs_open h6
        obtain ⟨t, ht, et⟩ := List.mem_iff_getElem.1 e2
        obtain ⟨_, _, _, _, h7⟩ := g3 t ht
        rw [et] at h7
        exact ⟨by rw [e1]; unfold maxLen; omega, h7⟩
      clear hx hkl hsmall
      have HOlen := Lib.hid hOlen; have HOsz := Lib.hid hOsz; clear hOlen hOsz
      have hOa := hO.below (below_alloc1 wr (.cells #[.string s, .slice ua m2 uc] 35))
      have hba := hb.alloc hB (.cells #[.string s, .slice ua m2 uc] 35)
      have hbx : (wr.alloc (.cells #[.string s, .slice ua m2 uc] 35)).heap[wr.heap.size]? = some (.cells #[.string s, .slice ua m2 uc] 35 (0, 0)) := heap_alloc_new _ _
      have HO := Lib.hid hO; have Hb := Lib.hid hb; have Hd0 := Lib.hid d0; have Hd1 := Lib.hid d1; have Hu := Lib.hid hu; have Hg2 := Lib.hid g2; have Hm := Lib.hid hm; have HOO := Lib.hid hOO; have Hstep := Lib.hid hstep; have Hxl := Lib.hid hxl; have Hs := Lib.hid hs; have Hm2 := Lib.hid hm2; have HOa := Lib.hid hOa; have Hba := Lib.hid hba; have Hbx := Lib.hid hbx; clear hO hb d0 d1 hu g2 hm hOO hstep hxl hs hm2 hOa hba hbx
      have hin0 : In2 w wr.heap.size #[.string s, .slice ua m2 uc] (.slice oa m oc) ovs O (.slice none 0 0) ((x.2.take 0).flatMap fun y => ext1 s y O) (wr.alloc (.cells #[.string s, .slice ua m2 uc] 35)) := ⟨⟨[], HOa.out, SRws.nil _ _, fun k _ e => by simp [Value.ownBlock] at e, Hba.out⟩, Hbx.out⟩
      obtain ⟨vb, hvb⟩ : ∃ vb, vb = wr.heap.size := ⟨_, rfl⟩
      rw [← hvb] at hin0
      have Hin0 := Lib.hid hin0; clear hin0
      go_wp2_with fail
      rw [← hvb]
      clear hvb
      go_loopw [6, 24] (fun nv j w2 => ∃ i : Nat, i ≤ m2 ∧ j = .int .i64 i ∧ In2 w vb #[.string s, .slice ua m2 uc] (.slice oa m oc) ovs O nv ((x.2.take i).flatMap fun y => ext1 s y O) w2) (fun _ j _ => m2 - (intOf j).toNat)
      case atStart => exact ⟨0, Nat.zero_le _, rfl, Hin0.out⟩
      case round =>
        obtain ⟨i, hi, rfl, hin⟩ := hrel
        by_cases hlt2 : i < m2
        · have hil : i < x.2.length := by have := Hm2.out; omega
          obtain ⟨b2, off2, rfl, d2, hys⟩ := Hg2.out i hil
          obtain ⟨y, hy⟩ : ∃ y, y = x.2[i] := ⟨_, rfl⟩
          rw [← hy] at d2 hys
          have hbw2 : Below w.heap.size w wr := by obtain ⟨_, h1⟩ := hin.st; exact h1.bel
          have e2 := cell_later hbw2 d2
          have hvs := vals_succ (s := s) (O := O) hil
          rw [← hy] at hvs
          have hvl := vals_len s O (x.2.take i)
          rw [List.length_take, show min i x.2.length = i by omega] at hvl
          obtain ⟨P, hP⟩ : ∃ P, P = (x.2.take i).flatMap fun y => ext1 s y O := ⟨_, rfl⟩
          rw [← hP] at hin hvs hvl
          have hPl : P.length ≤ 1024 := by
            rw [hvl]
            have := Hm.out
            exact Nat.le_trans (Nat.mul_le_mul (by omega : i ≤ 4) (by omega : O.length ≤ 256)) (by decide)
          have k7 : (0 : Int) ≤ (i : Int) := by omega
          have k8 : (i : Int) < (m2 : Int) := by omega
          clear hy hil
          have hin3 : ∃ nv, In2 w vb #[.string s, .slice (some ⟨b2, off2, none⟩) m2 uc] (.slice oa m oc) ovs O nv (P ++ ext1 s y (O.take 0)) wr := ⟨_, by simpa [ext1] using hin⟩
          clear hin3
          have Hin := Lib.hid hin; have Hd2 := Lib.hid d2; have Hbw2 := Lib.hid hbw2; have Hvs := Lib.hid hvs; have Hvl := Lib.hid hvl; have HP := Lib.hid hP; clear hin d2 hbw2 hvs hvl hP
          go_wp2_with fail
          go_loopw [6, 30] (fun nv j w2 => ∃ q : Nat, q ≤ m ∧ j = .int .i64 q ∧ In2 w vb #[.string s, .slice (some ⟨b2, off2, none⟩) m2 uc] (.slice oa m oc) ovs O nv (P ++ ext1 s y (O.take q)) w2) (fun _ j _ => m - (intOf j).toNat)
          case atStart => exact ⟨0, Nat.zero_le _, rfl, by simpa [ext1] using Hin.out⟩
          case round =>
            obtain ⟨q, hq, rfl, hin3⟩ := hrel
            obtain ⟨nvs, h1⟩ := hin3.st
            have hbox := hin3.box
            obtain ⟨na, nc, rfl⟩ := own_shape h1.next.row
            by_cases hlt3 : q < m
            · have hqO : q < O.length := by have := Hm.out; omega
              have hqv : q < ovs.length := by rw [h1.out.len]; exact hqO
              obtain ⟨og, ocap, hsh, hogB, hogl, hogc, _, hogcell⟩ := ownsRow_some h1.out.row (by omega)
              simp only [Value.slice.injEq] at hsh
              obtain ⟨rfl, hsh2, rfl⟩ := hsh
              clear hsh2
              obtain ⟨f, hf⟩ : ∃ f, f = O[q] := ⟨_, rfl⟩
              obtain ⟨u2, hu2⟩ : ∃ u, u = ovs[q] := ⟨_, rfl⟩
              have hkf : O[q]? = some f := by rw [hf]; exact List.getElem?_eq_getElem hqO
              have hku : ovs[q]? = some u2 := by rw [hu2]; exact List.getElem?_eq_getElem hqv
              have hrow := h1.out.rows q u2 f hku hkf
              have dd := hogcell q _ hku
              obtain ⟨fa, fc, rfl⟩ := own_shape hrow
              have hfO : f ∈ O := by rw [hf]; exact List.getElem_mem hqO
              have hfl : f.length ≤ 4 := by rw [HOlen.out f hfO]; omega
              have hrd := sets_reads (HOsz.out f hfO) hrow
              obtain ⟨fn, hfn⟩ : ∃ n, n = f.length := ⟨_, rfl⟩
              rw [← hfn] at hrow dd hrd hfl
              have hC := fun (W : World) (hW : Below wr.heap.size wr W) => cloneSet_any (stays_slice stays_set _ _ _ _ hrd hW) (by omega)
              rw [← hfn] at hC
              have c0 := cells_at hbox 0
              simp only [List.getElem?_toArray, List.getElem?_cons_zero] at c0
              have hnext := ext1_succ (s := s) (y := y) hqO
              rw [← hf] at hnext
              obtain ⟨NL, hNL⟩ : ∃ NL, NL = (P ++ ext1 s y (O.take q)).length := ⟨_, rfl⟩
              have hNL2 : NL ≤ 2000 := by
                rw [hNL, List.length_append, ext1_len, List.length_take]
                have := Hm.out
                omega
              rw [← hNL]
              have hB3 := h1.bel.size
              have h1n := h1.next.row
              rw [← hNL] at h1n
              have hvbl : vb < wr.heap.size := (Array.getElem?_eq_some_iff.1 hbox).1
              have k9 : (0 : Int) ≤ (q : Int) := by omega
              have k10 : (q : Int) < (m : Int) := by omega
              clear hf hu2 hqO hqv hogcell hku hkf
              have Hin3 := Lib.hid hin3; have H1 := Lib.hid h1; have Hbox := Lib.hid hbox; have Hrow := Lib.hid hrow; have HfO := Lib.hid hfO; have Hrd := Lib.hid hrd; have Hfn := Lib.hid hfn; have HC := Lib.hid hC; have Hnext := Lib.hid hnext; have HNL := Lib.hid hNL; clear hin3 h1 hbox hrow hfO hrd hfn hC hnext hNL
              go_wp2_with fail
              have w0 := World.new_ne wr ⟨vb, 0, none⟩ c0
              go_region_held3? (fun w' => w'.cell? ⟨vb, 0, none⟩ = some (.string s)) (first | go_keep | exact cc6 | exact cell_later hb5 c0 | exact cell_later hA4 c0) (first | (have := ord1; have hA3 := hA1; refine step_append_some elem_set (w := wA) rfl (.tmp 36) (.tmp 41) rfl wr.heap.size (.slice a1 fn c1) fn (f.flatMap setCells) rfl hA3 1 (by decide) #[.string s, .string y] rfl rfl (by simp [Value.oneCell']) (by omega) (by unfold maxLen; omega) hzA ?_; intro g5 c5 w5 hown5 hg5 hm5; have hb5 := bel_own hA4 hA3 (Nat.le_refl _) hg5 hzA; have hz5 := hb5.size; have hn5 := ownsRow_below h1n hb5) | (have := ord2; have hA3 := ownsRow_mono (B := wr.heap.size) hA1 ((below_alloc1 (wr.drewN 1) _).size); have hL2 := heap_below hA2 (heap_new_at (o := .cells #[.string s, .string y] 38) (w := wr.drewN 1) (n := wr.heap.size) rfl); refine step_append_from elem_set rfl (.tmp 36) (.tmp 41) rfl wr.heap.size (.slice a1 fn c1) fn (f.flatMap setCells) rfl hA3 (some ⟨wr.heap.size, 0, none⟩) 1 1 [.string s, .string y] rfl rfl (lit_two hL2) (by simp [Value.oneCell']) (by omega) (by unfold maxLen; omega) hzA ?_; intro v5 w5 hown5 hg5 hm5; obtain ⟨g5, c5, rfl, _⟩ := ownsRow_some hown5 (by omega); have hb5 := bel_own hA4 hA3 (Nat.le_refl _) hg5 hzA; have hz5 := hb5.size; have hn5 := ownsRow_below h1n hb5) | (have := hown5; refine step_append_some elem_sets (w := w5) rfl (.tmp 34) (.tmp 43) rfl w.heap.size (.slice na NL nc) NL nvs rfl hn5 1 (by decide) #[.slice (some ⟨g5, 0, none⟩) (fn + 1) c5] rfl rfl (by simp [Value.oneCell']) (by omega) (by unfold maxLen; omega) (Nat.le_trans hB3 hz5) ?_; intro g6 c6 w6 hown6 hg6 hm6; have hbox6 := keepT_grown hg6 hn5 (by decide) _ _ _ (heap_below hb5 Hbox.out); have cc6 := cells_at hbox6 0; simp only [List.getElem?_toArray, List.getElem?_cons_zero] at cc6) | (go_at_call 68; refine (HC.out _ (by exact bel_drewN (Below.refl _ _) 1)).mono ?_; rintro e wA ⟨v1, rfl, hA1, hA2⟩; have hA4 : Below wr.heap.size wr wA := ⟨hA2.os, hA2.tape, hA2.output, hA2.size, hA2.block⟩; have ord1 : True := trivial; obtain ⟨a1, c1, rfl⟩ := own_shape hA1; have hzA := hA4.size) | (go_at_call 68; refine (HC.out _ (by exact (bel_drewN (Below.refl _ _) 1).alloc (Nat.le_refl _) _)).mono ?_; rintro e wA ⟨v1, rfl, hA1, hA2⟩; have hA4 : Below wr.heap.size wr wA := ((bel_drewN (Below.refl wr.heap.size wr) 1).alloc (Nat.le_refl _) _).trans (hA2.mono ((below_alloc1 (wr.drewN 1) _).size)); have ord2 : True := trivial; obtain ⟨a1, c1, rfl⟩ := own_shape hA1; have hzA := hA4.size))
              all_goals
                have hN : In2 w vb #[.string s, .slice (some ⟨b2, off2, none⟩) m2 uc] (.slice (some ⟨og, 0, none⟩) m oc) ovs O (.slice (some ⟨g6, 0, none⟩) (NL + 1) c6) (P ++ ext1 s y (O.take (q + 1))) w6 := by
                  rw [Hnext.out, ← List.append_assoc]
                  exact In2.more H1.out Hbox.out hb5 Hfn.out HNL.out hown5 hown6 hg6 hm6
                have HN := Lib.hid hN; have Hown5 := Lib.hid hown5; have Hown6 := Lib.hid hown6; have Hg6 := Lib.hid hg6; have Hm6 := Lib.hid hm6; have Hb5 := Lib.hid hb5; have HA4 := Lib.hid hA4; have HA1 := Lib.hid hA1; have HA2 := Lib.hid hA2; have Hn5 := Lib.hid hn5; have Hbox6 := Lib.hid hbox6; clear hN hown5 hown6 hg6 hm6 hb5 hA4 hA1 hA2 hn5 hbox6
                go_wp2_with fail
                go_roundw
                case rel => exact ⟨q + 1, by omega, by go_num, HN.out⟩
                case measure => simp [intOf]; omega
            · obtain rfl : m = q := by omega
              have hfull : In2 w vb #[.string s, .slice (some ⟨b2, off2, none⟩) m2 uc] (.slice oa m oc) ovs O (.slice na (P ++ ext1 s y (O.take m)).length nc) ((x.2.take (i + 1)).flatMap fun y => ext1 s y O) wr := by
                rw [Hvs.out]
                have e : O.take m = O := List.take_of_length_le (by rw [← Hm.out]; exact Nat.le_refl _)
                rw [e] at hin3 ⊢
                exact hin3
              obtain ⟨NL, hNL⟩ : ∃ NL, NL = (P ++ ext1 s y (O.take m)).length := ⟨_, rfl⟩
              rw [← hNL] at hfull ⊢
              have Hfull := Lib.hid hfull; have Hin3 := Lib.hid hin3; have H1 := Lib.hid h1; have Hbox := Lib.hid hbox; have HNL := Lib.hid hNL; clear hfull hin3 h1 hbox hNL
              go_wp2_with fail
              go_roundw
              case rel => exact ⟨i + 1, by omega, by go_num, Hfull.out⟩
              case measure => simp [intOf]; omega
        · obtain rfl : m2 = i := by omega
          obtain ⟨nvs, h1⟩ := hin.st
          have e : x.2.take m2 = x.2 := List.take_of_length_le (by rw [← Hm2.out]; exact Nat.le_refl _)
          have e2 : ((x.2.take m2).flatMap fun y => ext1 s y O) = allOf (l.take (k + 1)) := by
            rw [Hstep.out, e, Hs.out]; rfl
          rw [e2] at h1
          obtain ⟨na, nc, rfl⟩ := own_shape h1.next.row
          obtain ⟨NL, hNL⟩ : ∃ NL, NL = (allOf (l.take (k + 1))).length := ⟨_, rfl⟩
          rw [← hNL]
          have hnx := h1.next
          have hbl := h1.bel
          rw [← hNL] at hnx
          have Hnx := Lib.hid hnx; have Hbl := Lib.hid hbl; have Hin := Lib.hid hin; have H1 := Lib.hid h1; have HNL := Lib.hid hNL; clear hnx hbl hin h1 hNL
          go_wp2_with fail
          go_roundw
          case rel => exact ⟨k + 1, NL, by omega, by go_num, HNL.out, ⟨(_, _), rfl⟩, ⟨_, Hnx.out⟩, Hbl.out⟩
          case measure => simp [intOf]; omega
    · obtain rfl : n = k := by omega
      have e : l.take n = l := List.take_of_length_le (by rw [← Hn.out]; exact Nat.le_refl _)
      rw [e] at hO
      have HO := Lib.hid hO; have Hb := Lib.hid hb; have Hm := Lib.hid hm; clear hO hb hm
      go_wp2_with fail
      go_ret
      exact ⟨_, rfl, ⟨_, HO.out⟩, Hb.out⟩
end Go.Proofs.Ytnelgellbabkoaa

/- Plain facts: the settings of variants by their numbers. -/
namespace Go.Proofs.Ytnelgellbabkoaa
open Go.RowKit

theorem beq_dec (x y : ByteArray) : (x == y) = decide (x = y) := by
  rw [beq_toListBytes, ByteArray.toList_eq, ByteArray.toList_eq]
  by_cases h : x = y
  · subst h; simp
  · have : x.data.toList ≠ y.data.toList := fun e => h (ByteArray.ext (Array.ext' e))
    simpa [h] using fun e => this (congrArg Array.toList e)
theorem flat_at (s : ByteArray) (O : List (List Setg)) (hO : 0 < O.length) : ∀ (ys : List ByteArray) (i : Nat), i < ys.length * O.length → ∃ f y, O[i % O.length]? = some f ∧ ys[i / O.length]? = some y ∧ (ys.flatMap fun y => ext1 s y O)[i]? = some (f ++ [(s, y)])
  | [], i, h => by simp at h
  | y :: ys, i, h => by
    rw [List.flatMap_cons]
    by_cases hi : i < O.length
    · refine ⟨O[i], y, ?_, ?_, ?_⟩
      · rw [Nat.mod_eq_of_lt hi]; exact List.getElem?_eq_getElem hi
      · rw [Nat.div_eq_of_lt hi]; rfl
      · rw [List.getElem?_append_left (by rw [ext1_len]; exact hi)]
        unfold ext1
        rw [List.getElem?_map, List.getElem?_eq_getElem hi]; rfl
    · have hle : O.length ≤ i := by omega
      rw [List.length_cons, Nat.succ_mul] at h
      obtain ⟨f, y', h1, h2, h3⟩ := flat_at s O hO ys (i - O.length) (by omega)
      refine ⟨f, y', ?_, ?_, ?_⟩
      · rw [Nat.mod_eq_sub_mod hle]; exact h1
      · rw [Nat.div_eq_sub_div hO hle]; exact h2
      · rw [List.getElem?_append_right (by rw [ext1_len]; exact hle), ext1_len]; exact h3
/-- how many settings the first variants have -/
def cnt (l : List Var) (j : Nat) : Nat := (allOf (l.take j)).length
theorem cnt_zero (l : List Var) : cnt l 0 = 1 := rfl
theorem cnt_succ {l : List Var} {k : Nat} (h : k < l.length) : cnt l (k + 1) = l[k].2.length * cnt l k := by
  unfold cnt
  rw [allOf_succ h]
  unfold allStep
  rw [vals_len]
theorem cnt_all (l : List Var) : cnt l l.length = (allOf l).length := by unfold cnt; rw [List.take_length]
theorem cnt_dvd {l : List Var} {j : Nat} : ∀ k, j ≤ k → k ≤ l.length → cnt l j ∣ cnt l k
  | 0, h, _ => by obtain rfl : j = 0 := by omega
                  exact Nat.dvd_refl _
  | k + 1, h, hk => by
    by_cases e : j = k + 1
    · subst e; exact Nat.dvd_refl _
    · rw [cnt_succ (by omega)]
      exact Nat.dvd_trans (cnt_dvd k (by omega) (by omega)) (Nat.dvd_mul_left _ _)
theorem cnt_pos {l : List Var} (hl : ∀ x ∈ l, 0 < x.2.length) : ∀ k, k ≤ l.length → 0 < cnt l k
  | 0, _ => by rw [cnt_zero]; omega
  | k + 1, hk => by
    rw [cnt_succ (by omega)]
    exact Nat.mul_pos (hl _ (List.getElem_mem _)) (cnt_pos hl k (by omega))
theorem all_at {l : List Var} (hl : ∀ x ∈ l, 0 < x.2.length) : ∀ k, k ≤ l.length → ∀ i, i < cnt l k → ∃ f, (allOf (l.take k))[i]? = some f ∧ f.length = k ∧ ∀ j, j < k → ∃ x y, l[j]? = some x ∧ f[j]? = some (x.1, y) ∧ x.2[(i / cnt l j) % x.2.length]? = some y
  | 0, _, i, h => by
    rw [cnt_zero] at h
    obtain rfl : i = 0 := by omega
    exact ⟨[], rfl, rfl, fun j hj => by omega⟩
  | k + 1, hk, i, h => by
    have hkl : k < l.length := by omega
    have hp := cnt_pos hl k (by omega)
    have hc := cnt_succ hkl
    rw [hc] at h
    obtain ⟨f, y, h1, h2, h3⟩ := flat_at l[k].1 (allOf (l.take k)) hp l[k].2 i h
    have hm : i % (allOf (l.take k)).length < cnt l k := Nat.mod_lt _ hp
    obtain ⟨g, g1, g2, g3⟩ := all_at hl k (by omega) _ hm
    rw [h1] at g1
    injection g1 with g1
    subst g1
    refine ⟨f ++ [(l[k].1, y)], ?_, by simp [g2], fun j hj => ?_⟩
    · rw [allOf_succ hkl]; exact h3
    · by_cases hjk : j < k
      · obtain ⟨x, z, e1, e2, e3⟩ := g3 j hjk
        refine ⟨x, z, e1, ?_, ?_⟩
        · rw [List.getElem?_append_left (by omega)]; exact e2
        · have hjl : j < l.length := by omega
          have hx : l[j] = x := by rw [List.getElem?_eq_getElem hjl] at e1; injection e1
          obtain ⟨c, hc2⟩ := cnt_dvd (l := l) (j := j + 1) k (by omega) (by omega)
          rw [cnt_succ hjl, hx] at hc2
          have e4 : cnt l k = cnt l j * (x.2.length * c) := by rw [hc2, ← Nat.mul_assoc, Nat.mul_comm (cnt l j)]
          have e5 : i % (allOf (l.take k)).length / cnt l j % x.2.length = i / cnt l j % x.2.length := by
            show i % cnt l k / cnt l j % x.2.length = _
            rw [e4, Nat.mod_mul_right_div_self, Nat.mod_mul_right_mod]
          rw [← e5]; exact e3
      · obtain rfl : j = k := by omega
        refine ⟨l[j], y, List.getElem?_eq_getElem hkl, ?_, ?_⟩
        · rw [List.getElem?_append_right (by omega), g2]; simp
        · have : i / cnt l j < l[j].2.length := (Nat.div_lt_iff_lt_mul hp).2 h
          rw [Nat.mod_eq_of_lt this]; exact h2
/-- are settings of variants? -/
structure LegalIs (l : List Var) (s : List Setg) : Prop where
  len : s.length = l.length
  at' : ∀ j (h : j < l.length), ∃ y, s[j]? = some (l[j].1, y) ∧ y ∈ l[j].2
theorem all_legal {l : List Var} (hl : ∀ x ∈ l, 0 < x.2.length) {i : Nat} {f : List Setg} (h : (allOf l)[i]? = some f) : LegalIs l f := by
  have hi : i < cnt l l.length := by
    rw [cnt_all]
    exact (List.getElem?_eq_some_iff.1 h).1
  obtain ⟨g, h1, h2, h3⟩ := all_at hl l.length (Nat.le_refl _) i hi
  rw [List.take_length, h] at h1
  injection h1 with h1
  subst h1
  refine ⟨h2, fun j hj => ?_⟩
  obtain ⟨x, y, e1, e2, e3⟩ := h3 j hj
  rw [List.getElem?_eq_getElem hj] at e1
  injection e1 with e1
  subst e1
  exact ⟨y, e2, List.mem_of_getElem? e3⟩
end Go.Proofs.Ytnelgellbabkoaa

/- The walks of cooperref04.Name and Value. Condition: the text's reach. -/
namespace Go.Proofs.Ytnelgellbabkoaa
open Go.RowKit
open VarM (letN digN okN okB digB nameOf valueOf digsOf headN)

set_option maxRecDepth 10000 in
set_option maxHeartbeats 1000000 in
theorem nameRef_any (s : ByteArray) (hs : s.size ≤ 9223372036854775807) (w : World) : Calls Try.prog 18 #[.string s] w fun e w' => e = .returned (.bool (nameOf s.data.toList)) ∧ w = w' := by
  obtain ⟨l, hl⟩ : ∃ l, l = s.data.toList := ⟨_, rfl⟩
  have hln : l.length = s.size := by rw [hl]; exact dl s
  obtain ⟨r, hr⟩ : ∃ r, r = nameOf l := ⟨_, rfl⟩
  have hh := head_is s
  rw [← hl] at hh
  have hlen : ∀ (P : Prop), (nameOf l = true → P) → (¬ P) → r = false := fun P h hp => by
    rw [hr, Bool.eq_false_iff]; exact fun h2 => hp (h h2)
  rw [← hl, ← hr]
  by_cases h0 : 0 < s.size
  · have k3 : ¬ s.toList = [] := by rw [empty_iff]; omega
    have k1 : s.toList.isEmpty = false := by rw [Bool.eq_false_iff]; intro h; rw [List.isEmpty_iff, empty_iff] at h; omega
    by_cases h24 : s.size ≤ 24
    · obtain ⟨n, hn⟩ : ∃ n, n = s[0].toNat := ⟨_, rfl⟩
      have hn256 : n < 256 := by rw [hn]; exact s[0].toNat_lt
      have hsk0 : s[0].toNat = n := hn.symm
      have hhn : headN l = n := by rw [hh h0, hsk0]
      have k4 : decide (24 < (s.size : Int)) = false := decide_eq_false (by omega)
      have hhead : letN n = false → r = false := fun h => by rw [hr]; exact VarM.name_head (by rw [hhn]; exact h)
      clear hn
      rcases Nat.lt_or_ge n 97 with h1 | h1
      · have hf := hhead (by unfold letN; rw [decide_eq_false (by omega)]; rfl)
        have k5 : decide ((n : Int) < 97) = true := decide_eq_true (by omega)
        have Hl := Lib.hid hl; have Hln := Lib.hid hln; have Hr := Lib.hid hr; have Hh := Lib.hid hh; have Hlen := Lib.hid hlen; have Hhn := Lib.hid hhn; have Hhead := Lib.hid hhead; have Hf := Lib.hid hf; clear hl hln hr hh hlen hhn hhead hf
        go_enter Try.func18, Try.ntmps18
        go_wp2_with fail
        go_ret
        exact ⟨ret_bool Hf.out.symm, rfl⟩
      · have k5 : decide ((n : Int) < 97) = false := decide_eq_false (by omega)
        rcases Nat.lt_or_ge 122 n with h2 | h2
        · have hf := hhead (by unfold letN; rw [decide_eq_false (p := n ≤ 122) (by omega)]; simp)
          have k6 : decide (122 < (n : Int)) = true := decide_eq_true (by omega)
          have Hl := Lib.hid hl; have Hln := Lib.hid hln; have Hr := Lib.hid hr; have Hh := Lib.hid hh; have Hlen := Lib.hid hlen; have Hhn := Lib.hid hhn; have Hhead := Lib.hid hhead; have Hf := Lib.hid hf; clear hl hln hr hh hlen hhn hhead hf
          go_enter Try.func18, Try.ntmps18
          go_wp2_with fail
          go_ret
          exact ⟨ret_bool Hf.out.symm, rfl⟩
        · have k6 : decide (122 < (n : Int)) = false := decide_eq_false (by omega)
          have hL : letN n = true := by unfold letN; rw [decide_eq_true h1, decide_eq_true h2]; rfl
          have hv : r = l.all okB := by
            rw [hr]; unfold nameOf
            rw [hhn, hL, hln, decide_eq_true h0, decide_eq_true h24]; simp
          have Hl := Lib.hid hl; have Hln := Lib.hid hln; have Hr := Lib.hid hr; have Hh := Lib.hid hh; have Hlen := Lib.hid hlen; have Hhn := Lib.hid hhn; have Hhead := Lib.hid hhead; have HL := Lib.hid hL; have Hv := Lib.hid hv; clear hl hln hr hh hlen hhn hhead hL hv
          go_enter Try.func18, Try.ntmps18
          go_wp2_with fail
          clear k4 k5 k6 hsk0 h1 h2 hn256
          go_loop [3] (fun i => ∃ k : Nat, k ≤ s.size ∧ i = .int .i64 k ∧ (l.take k).all okB = true) (fun i => s.size - (intOf i).toNat)
          case atStart => exact ⟨0, Nat.zero_le _, rfl, by simp⟩
          case round =>
            obtain ⟨k, hk, rfl, hall⟩ := hrel
            by_cases hlt : k < s.size
            · have hkl : k < l.length := by have := Hln.out; omega
              obtain ⟨n, hn⟩ : ∃ n, n = s[k].toNat := ⟨_, rfl⟩
              have hn256 : n < 256 := by rw [hn]; exact s[k].toNat_lt
              have hck : okB l[k] = okN n := by
                have e : l[k] = s[k] := by simp only [Hl.out]; rfl
                unfold okB
                rw [e, hn]
              have hsk : s[k].toNat = n := hn.symm
              have hyes : okN n = true → (l.take (k + 1)).all okB = true := fun h => VarM.all_succ hkl hall (by rw [hck]; exact h)
              have hno : okN n = false → r = false := fun h => by rw [Hv.out]; exact VarM.all_no hkl (by rw [hck]; exact h)
              clear hn hck
              clear hkl
              have hcase : (97 ≤ n ∧ n ≤ 122) ∨ (48 ≤ n ∧ n ≤ 57) ∨ n = 45 ∨ (n < 45) ∨ (45 < n ∧ n < 48) ∨ (57 < n ∧ n < 97) ∨ 122 < n := by omega
              rcases hcase with ⟨c1, c2⟩ | ⟨c1, c2⟩ | rfl | c1 | ⟨c1, c2⟩ | ⟨c1, c2⟩ | c1
              · have hnext := hyes (VarM.okN_let (by unfold letN; rw [decide_eq_true c1, decide_eq_true c2]; rfl))
                have m1 : decide (97 ≤ (n : Int)) = true := decide_eq_true (by omega)
                have m2 : decide ((n : Int) ≤ 122) = true := decide_eq_true (by omega)
                have Hall := Lib.hid hall; have Hyes := Lib.hid hyes; have Hno := Lib.hid hno; have Hnext := Lib.hid hnext; clear hall hyes hno hnext
                go_wp2_with fail
                go_round
                case rel => exact ⟨k + 1, by omega, by go_num, Hnext.out⟩
                case measure => simp [intOf]; omega
              · have hnext := hyes (VarM.okN_dig (by unfold digN; rw [decide_eq_true c1, decide_eq_true c2]; rfl))
                have m1 : decide (97 ≤ (n : Int)) = false := decide_eq_false (by omega)
                have m3 : decide (48 ≤ (n : Int)) = true := decide_eq_true (by omega)
                have m4 : decide ((n : Int) ≤ 57) = true := decide_eq_true (by omega)
                have Hall := Lib.hid hall; have Hyes := Lib.hid hyes; have Hno := Lib.hid hno; have Hnext := Lib.hid hnext; clear hall hyes hno hnext
                go_wp2_with fail
                go_round
                case rel => exact ⟨k + 1, by omega, by go_num, Hnext.out⟩
                case measure => simp [intOf]; omega
              · have hnext := hyes rfl
                have Hall := Lib.hid hall; have Hyes := Lib.hid hyes; have Hno := Lib.hid hno; have Hnext := Lib.hid hnext; clear hall hyes hno hnext
                go_wp2_with fail
                go_round
                case rel => exact ⟨k + 1, by omega, by go_num, Hnext.out⟩
                case measure => simp [intOf]; omega
              all_goals
                have hf := hno (VarM.okN_no (by unfold letN; first | (rw [decide_eq_false (p := 97 ≤ n) (by omega)]; rfl) | (rw [decide_eq_false (p := n ≤ 122) (by omega)]; simp)) (by unfold digN; first | (rw [decide_eq_false (p := 48 ≤ n) (by omega)]; rfl) | (rw [decide_eq_false (p := n ≤ 57) (by omega)]; simp)) (by omega))
                have m5 : ((n : Int) == 45) = false := by rw [beq_eq_false_iff_ne]; omega
                first
                  | (have m1 : decide (97 ≤ (n : Int)) = false := decide_eq_false (by omega))
                  | (have m1 : decide (97 ≤ (n : Int)) = true := decide_eq_true (by omega))
                first
                  | (have m2 : decide ((n : Int) ≤ 122) = true := decide_eq_true (by omega))
                  | (have m2 : decide ((n : Int) ≤ 122) = false := decide_eq_false (by omega))
                first
                  | (have m3 : decide (48 ≤ (n : Int)) = true := decide_eq_true (by omega))
                  | (have m3 : decide (48 ≤ (n : Int)) = false := decide_eq_false (by omega))
                first
                  | (have m4 : decide ((n : Int) ≤ 57) = true := decide_eq_true (by omega))
                  | (have m4 : decide ((n : Int) ≤ 57) = false := decide_eq_false (by omega))
                have Hall := Lib.hid hall; have Hyes := Lib.hid hyes; have Hno := Lib.hid hno; have Hf := Lib.hid hf; clear hall hyes hno hf
                go_wp2_with fail
                go_ret
                exact ⟨ret_bool Hf.out.symm, rfl⟩
            · obtain rfl : k = s.size := by omega
              have hall2 : l.all okB = true := by rw [List.take_of_length_le (by have := Hln.out; omega)] at hall; exact hall
              have hf : r = true := by rw [Hv.out, hall2]
              have Hall := Lib.hid hall; have Hall2 := Lib.hid hall2; have Hf := Lib.hid hf; clear hall hall2 hf
              go_wp2_with fail
              go_ret
              exact ⟨ret_bool Hf.out.symm, rfl⟩
    · have hf := hlen (s.size ≤ 24) (fun h => by have := (VarM.name_pos h).2; omega) h24
      have k2 : (24 : Int) < (s.size : Int) := by omega
      have k4 : decide (24 < (s.size : Int)) = true := by simpa using k2
      have Hl := Lib.hid hl; have Hln := Lib.hid hln; have Hr := Lib.hid hr; have Hh := Lib.hid hh; have Hlen := Lib.hid hlen; have Hf := Lib.hid hf; clear hl hln hr hh hlen hf
      go_enter Try.func18, Try.ntmps18
      go_wp2_with fail
      go_ret
      exact ⟨ret_bool Hf.out.symm, rfl⟩
  · have hf := hlen (0 < s.size) (fun h => by have := (VarM.name_pos h).1; omega) h0
    have k3 : s.toList = [] := by rw [empty_iff]; omega
    have k1 : s.toList.isEmpty = true := by rw [k3]; rfl
    have Hl := Lib.hid hl; have Hln := Lib.hid hln; have Hr := Lib.hid hr; have Hh := Lib.hid hh; have Hlen := Lib.hid hlen; have Hf := Lib.hid hf; clear hl hln hr hh hlen hf
    go_enter Try.func18, Try.ntmps18
    go_wp2_with fail
    go_ret
    exact ⟨ret_bool Hf.out.symm, rfl⟩
set_option maxRecDepth 10000 in
set_option maxHeartbeats 1000000 in
theorem valueRef_any (s : ByteArray) (hs : s.size ≤ 9223372036854775807) (w : World) : Calls Try.prog 20 #[.string s] w fun e w' => e = .returned (.bool (valueOf s.data.toList)) ∧ w = w' := by
  have hN := fun W => nameRef_any s hs W
  have hD := fun W => digits_any s hs W
  obtain ⟨l, hl⟩ : ∃ l, l = s.data.toList := ⟨_, rfl⟩
  have hln : l.length = s.size := by rw [hl]; exact dl s
  obtain ⟨r, hr⟩ : ∃ r, r = valueOf l := ⟨_, rfl⟩
  rw [← hl] at hN hD
  rw [← hl, ← hr]
  cases hq : nameOf l with
  | true =>
    rw [hq] at hN
    have hf : r = true := by rw [hr]; unfold valueOf; rw [hq]; rfl
    have Hl := Lib.hid hl; have Hln := Lib.hid hln; have Hr := Lib.hid hr; have HN := Lib.hid hN; have HD := Lib.hid hD; have Hf := Lib.hid hf; have Hq := Lib.hid hq; clear hl hln hr hN hD hf hq
    go_enter Try.func20, Try.ntmps20
    go_wp2_with fail
    refine (HN.out _).mono ?_
    rintro e w1 ⟨rfl, rfl⟩
    go_wp2_with fail
    go_ret
    exact ⟨ret_bool Hf.out.symm, rfl⟩
  | false =>
    rw [hq] at hN
    have hv : r = (digsOf l && decide (s.size ≤ 3)) := by rw [hr]; unfold valueOf; rw [hq, hln]; rfl
    cases hd : digsOf l with
    | false =>
      have hf : r = false := by rw [hv, hd]; rfl
      rw [hd] at hD
      have Hl := Lib.hid hl; have Hln := Lib.hid hln; have Hr := Lib.hid hr; have HN := Lib.hid hN; have HD := Lib.hid hD; have Hv := Lib.hid hv; have Hq := Lib.hid hq; have Hf := Lib.hid hf; have Hd := Lib.hid hd; clear hl hln hr hN hD hv hq hf hd
      go_enter Try.func20, Try.ntmps20
      go_wp2_with fail
      refine (HN.out _).mono ?_
      rintro e w1 ⟨rfl, rfl⟩
      go_wp2_with fail
      refine (HD.out _).mono ?_
      rintro e w1 ⟨rfl, rfl⟩
      go_wp2_with fail
      go_ret
      exact ⟨ret_bool Hf.out.symm, rfl⟩
    | true =>
      rw [hd] at hD
      have hf : r = decide (s.size ≤ 3) := by rw [hv, hd]; rfl
      have Hl := Lib.hid hl; have Hln := Lib.hid hln; have Hr := Lib.hid hr; have HN := Lib.hid hN; have HD := Lib.hid hD; have Hv := Lib.hid hv; have Hq := Lib.hid hq; have Hf := Lib.hid hf; have Hd := Lib.hid hd; clear hl hln hr hN hD hv hq hf hd
      go_enter Try.func20, Try.ntmps20
      go_wp2_with fail
      refine (HN.out _).mono ?_
      rintro e w1 ⟨rfl, rfl⟩
      go_wp2_with fail
      refine (HD.out _).mono ?_
      rintro e w1 ⟨rfl, rfl⟩
      go_wp2_with fail
      go_ret
      exact ⟨ret_bool (by rw [Hf.out, decide_eq_decide]; omega), rfl⟩
end Go.Proofs.Ytnelgellbabkoaa

/- The walk of cooperref04.May: whether variants may be. No condition. -/
namespace Go.Proofs.Ytnelgellbabkoaa
open Go.RowKit Go.Shelf VarM
attribute [local go_sem ↓] Go.wp_at_zero Go.wp_at_succ

theorem bytes_dec (x y : ByteArray) : (x.toList == y.toList) = decide (x = y) := by rw [← beq_toListBytes]; exact beq_dec x y
/-- the first k of a list differ -/
def Diff (f : Nat → ByteArray) (k : Nat) : Prop := ∀ j i, j < i → i < k → f j ≠ f i
theorem nodup_of_diff (ys : List ByteArray) : decide ys.Nodup = true ↔ ∀ j i (hj : j < ys.length) (hi : i < ys.length), j < i → ys[j] ≠ ys[i] := by
  rw [decide_eq_true_eq, List.nodup_iff_pairwise_ne, List.pairwise_iff_getElem]
set_option maxRecDepth 10000 in
set_option maxHeartbeats 2000000 in
theorem mayRef_any {w : World} {v : Value} {l : List Var} (h : RVars w [v] l) : Calls Try.prog 23 #[v] w fun e w' => e = .returned (.bool (mayOf l)) ∧ ∃ q, w' = w.drewN q := by
  obtain ⟨a, cap, rfl, hz, g⟩ := vars_open h
  obtain ⟨n, hn⟩ : ∃ n, n = l.length := ⟨_, rfl⟩
  obtain ⟨r, hr⟩ : ∃ r, r = mayOf l := ⟨_, rfl⟩
  rw [← hr]
  rw [← hn] at hz h ⊢
  have hno1 : ¬ n ≤ 4 → r = false := fun h => by
    rw [hr]; unfold mayOf; rw [← hn, decide_eq_false h]; simp
  have hno2 : ∀ k (hk : k < l.length), oneOf l[k] = false → r = false := fun k hk h => by
    rw [hr]; unfold mayOf; rw [allv_no hk h]; rfl
  have hno3 : ∀ j i (hj : j < l.length) (hi : i < l.length), j < i → l[j].1 = l[i].1 → r = false := fun j i hj hi hji h => by
    rw [hr, Bool.eq_false_iff]
    intro h2
    unfold mayOf at h2
    simp only [Bool.and_eq_true] at h2
    exact (nodup_of_diff _).1 h2.2.2 j i (by simpa using hj) (by simpa using hi) hji (by simpa using h)
  have hyes : n ≤ 4 → l.all oneOf = true → (∀ j i (hj : j < l.length) (hi : i < l.length), j < i → l[j].1 ≠ l[i].1) → r = true := fun h1 h2 h3 => by
    rw [hr]; unfold mayOf
    rw [h2, ← hn, decide_eq_true h1, (nodup_of_diff _).2 (fun j i hj hi hji => by simpa using h3 j i (by simpa using hj) (by simpa using hi) hji)]
    rfl
  have Hh := Lib.hid h; have Hg := Lib.hid g; have Hn := Lib.hid hn; have Hr := Lib.hid hr; have Hno1 := Lib.hid hno1; have Hno2 := Lib.hid hno2; have Hno3 := Lib.hid hno3; have Hyes := Lib.hid hyes; clear h g hn hr hno1 hno2 hno3 hyes
  go_enter Try.func23, Try.ntmps23
  by_cases h4 : n ≤ 4
  · have k1 : decide ((4 : Int) < (n : Int)) = false := by simp; omega
    go_wp2_with fail
    clear k1
    go_loopw [12] (fun i wr => ∃ k : Nat, k ≤ n ∧ i = .int .i64 k ∧ ((l.take k).all oneOf = true ∧ ∀ j i (hj : j < l.length) (hi : i < l.length), j < i → i < k → l[j].1 ≠ l[i].1) ∧ ∃ q, wr = w.drewN q) (fun i _ => n - (intOf i).toNat)
    case atStart => exact ⟨0, Nat.zero_le _, rfl, ⟨by simp, fun j i _ _ _ h => by omega⟩, 0, rfl⟩
    case round =>
      obtain ⟨k, hk, rfl, ⟨hall, hdiff⟩, q1, rfl⟩ := hrel
      by_cases hlt : k < n
      · have hkl : k < l.length := by have := Hn.out; omega
        obtain ⟨b, off, u, rfl, d0, d1, hsx, hu⟩ := Hg.out k hkl
        have hno2k := Hno2.out k hkl
        have hno3k := fun j hj => Hno3.out j k hj hkl
        have hnall := fun h => allv_succ hkl hall h
        obtain ⟨x, hx⟩ : ∃ x, x = l[k] := ⟨_, rfl⟩
        have hdn : (∀ j (hj : j < l.length), j < k → l[j].1 ≠ x.1) → ∀ j i (hj : j < l.length) (hi : i < l.length), j < i → i < k + 1 → l[j].1 ≠ l[i].1 := fun h j i hj hi hji hik => by
          by_cases e : i < k
          · exact hdiff j i hj hi hji e
          · obtain rfl : i = k := by omega
            rw [← hx]
            exact h j hj hji
        rw [← hx] at d0 hu hsx hno2k hno3k hnall
        obtain ⟨ua, uc, rfl, hz2, g3⟩ := strs_open hu
        have hN := fun W => nameRef_any x.1 hsx W
        obtain ⟨m, hm⟩ : ∃ m, m = x.2.length := ⟨_, rfl⟩
        rw [← hm] at d1 hu hz2
        have hone : oneOf x = (nameOf x.1.data.toList && (decide (0 < m) && (decide (m ≤ 4) && (x.2.all isValue && decide x.2.Nodup)))) := by rw [hm]; rfl
        obtain ⟨s, hs⟩ : ∃ s, s = x.1 := ⟨_, rfl⟩
        rw [← hs] at d0 hsx hN hno3k hdn hone
        obtain ⟨p, hp⟩ : ∃ p, p = nameOf s.data.toList := ⟨_, rfl⟩
        rw [← hp] at hN hone
        have k5 : (0 : Int) ≤ (k : Int) := by omega
        have k6 : (k : Int) < (n : Int) := by omega
        have hkn : k < 4 := by omega
        clear hx hkl
        cases p with
        | false =>
          have hf : r = false := hno2k (by rw [hone]; rfl)
          have Hall := Lib.hid hall; have Hdiff := Lib.hid hdiff; have Hno2k := Lib.hid hno2k; have Hno3k := Lib.hid hno3k; have Hnall := Lib.hid hnall; have Hdn := Lib.hid hdn; have Hu := Lib.hid hu; have Hg3 := Lib.hid g3; have HN := Lib.hid hN; have Hm := Lib.hid hm; have Hone := Lib.hid hone; have Hs := Lib.hid hs; have Hp := Lib.hid hp; have Hf := Lib.hid hf; clear hall hdiff hno2k hno3k hnall hdn hu g3 hN hm hone hs hp hf
          go_wp2_with fail
          refine (HN.out _).mono ?_
          rintro e w1 ⟨rfl, rfl⟩
          go_wp2_with fail
          go_ret
          exact ⟨ret_bool Hf.out.symm, _, rfl⟩
        | true =>
          by_cases h0 : 0 < m
          · have k7 : ((m : Int) == 0) = false := by simp; omega
            by_cases hm4 : m ≤ 4
            · have k8 : decide ((4 : Int) < (m : Int)) = false := by simp; omega
              have hone2 : oneOf x = (x.2.all isValue && decide x.2.Nodup) := by rw [hone, decide_eq_true h0, decide_eq_true hm4]; rfl
              clear hone
              have Hall := Lib.hid hall; have Hdiff := Lib.hid hdiff; have Hno2k := Lib.hid hno2k; have Hno3k := Lib.hid hno3k; have Hnall := Lib.hid hnall; have Hdn := Lib.hid hdn; have Hu := Lib.hid hu; have Hg3 := Lib.hid g3; have HN := Lib.hid hN; have Hm := Lib.hid hm; have Hone2 := Lib.hid hone2; have Hs := Lib.hid hs; have Hp := Lib.hid hp; clear hall hdiff hno2k hno3k hnall hdn hu g3 hN hm hone2 hs hp
              go_wp2_with fail
              refine (HN.out _).mono ?_
              rintro e w1 ⟨rfl, rfl⟩
              go_wp2_with fail
              go_loopw [4] (fun j wr => ∃ i : Nat, i ≤ k ∧ j = .int .i64 i ∧ (∀ t (ht : t < l.length), t < i → l[t].1 ≠ s) ∧ ∃ q, wr = w.drewN q) (fun j _ => k - (intOf j).toNat)
              case atStart => exact ⟨0, Nat.zero_le _, rfl, fun t _ h => by omega, q1, rfl⟩
              case round =>
                obtain ⟨i, hi, rfl, hne, q2, rfl⟩ := hrel
                by_cases hlt2 : i < k
                · have hil : i < l.length := by have := Hn.out; omega
                  obtain ⟨b4, off4, u4, e4, f0, f1, hs4, hu4⟩ := Hg.out i hil
                  injection e4 with e4
                  injection e4 with e5 e6
                  subst e5 e6
                  have hno4 := Hno3k.out i hil hlt2
                  obtain ⟨z, hz4⟩ : ∃ z, z = l[i].1 := ⟨_, rfl⟩
                  have hnn : z ≠ s → ∀ t (ht : t < l.length), t < i + 1 → l[t].1 ≠ s := fun h t ht hti => by
                    by_cases e : t < i
                    · exact hne t ht e
                    · obtain rfl : t = i := by omega
                      rw [← hz4]; exact h
                  rw [← hz4] at f0 hs4 hno4
                  have k9 : (0 : Int) ≤ (i : Int) := by omega
                  have k10 : (i : Int) < (n : Int) := by omega
                  have k11 : decide ((i : Int) < (k : Int)) = true := by simp; omega
                  have hbd := bytes_dec z s
                  clear hz4 hil f1 hu4
                  have Hne := Lib.hid hne; have Hno4 := Lib.hid hno4; have Hnn := Lib.hid hnn; clear hne hno4 hnn
                  by_cases hzs : z = s
                  · have hf : r = false := Hno4.out hzs
                    rw [decide_eq_true hzs] at hbd
                    have Hf := Lib.hid hf; clear hf
                    clear hzs
                    go_wp2_with fail
                    go_region
                    go_wp2_with fail
                    go_ret
                    exact ⟨ret_bool Hf.out.symm, _, rfl⟩
                  · have hnx := Hnn.out hzs
                    rw [decide_eq_false hzs] at hbd
                    have Hnx := Lib.hid hnx; clear hnx
                    clear hzs
                    go_wp2_with fail
                    go_region
                    go_wp2_with fail
                    go_roundw
                    case rel => exact ⟨i + 1, by omega, by go_num, Hnx.out, _, rfl⟩
                    case measure => simp [intOf]; omega
                · obtain rfl : k = i := by omega
                  have hdn2 := Hdn.out (fun t ht htk => hne t ht htk)
                  have Hne := Lib.hid hne; have Hdn2 := Lib.hid hdn2; clear hne hdn2
                  go_wp2_with fail
                  go_loopw [62] (fun j wr => ∃ i : Nat, i ≤ m ∧ j = .int .i64 i ∧ ((x.2.take i).all isValue = true ∧ ∀ j i' (hj : j < x.2.length) (hi : i' < x.2.length), j < i' → i' < i → x.2[j] ≠ x.2[i']) ∧ ∃ q, wr = w.drewN q) (fun j _ => m - (intOf j).toNat)
                  case atStart => exact ⟨0, Nat.zero_le _, rfl, ⟨by simp, fun j i _ _ _ h => by omega⟩, _, rfl⟩
                  case round =>
                    obtain ⟨i, hi, rfl, ⟨hva, hvd⟩, q3, rfl⟩ := hrel
                    by_cases hlt3 : i < m
                    · have hil : i < x.2.length := by have := Hm.out; omega
                      obtain ⟨b3, off3, rfl, f0, hys⟩ := Hg3.out i hil
                      have hbadv : isValue x.2[i] = false → r = false := fun h => Hno2k.out (by rw [Hone2.out, allv_no hil h]; rfl)
                      have hgoodv := fun h => allv_succ hil hva h
                      have hsame : ∀ t (ht : t < x.2.length), t < i → x.2[t] = x.2[i] → r = false := fun t ht hti e => Hno2k.out (by
                        rw [Hone2.out]
                        have : decide x.2.Nodup = false := by
                          rw [Bool.eq_false_iff]; intro h2
                          exact (nodup_of_diff _).1 h2 t i ht hil hti e
                        rw [this]; simp)
                      obtain ⟨y, hy⟩ : ∃ y, y = x.2[i] := ⟨_, rfl⟩
                      have hvn : (∀ t (ht : t < x.2.length), t < i → x.2[t] ≠ y) → ∀ j i' (hj : j < x.2.length) (hi : i' < x.2.length), j < i' → i' < i + 1 → x.2[j] ≠ x.2[i'] := fun h j i' hj hi' hji hik => by
                        by_cases e : i' < i
                        · exact hvd j i' hj hi' hji e
                        · obtain rfl : i' = i := by omega
                          rw [← hy]
                          exact h j hj hji
                      rw [← hy] at f0 hys hbadv hgoodv hsame
                      have hV := fun W => valueRef_any y (by unfold maxLen at hys; omega) W
                      obtain ⟨p2, hp2⟩ : ∃ p, p = isValue y := ⟨_, rfl⟩
                      have hp3 : p2 = valueOf y.data.toList := hp2
                      rw [← hp2] at hbadv hgoodv
                      rw [← hp3] at hV
                      have k12 : (0 : Int) ≤ (i : Int) := by omega
                      have k13 : (i : Int) < (m : Int) := by omega
                      clear hy hil
                      cases p2 with
                      | false =>
                        have hf := hbadv rfl
                        have Hva := Lib.hid hva; have Hvd := Lib.hid hvd; have Hsame := Lib.hid hsame; have Hvn := Lib.hid hvn; have HV := Lib.hid hV; have Hp2 := Lib.hid hp2; have Hp3 := Lib.hid hp3; have Hbadv := Lib.hid hbadv; have Hgoodv := Lib.hid hgoodv; have Hf := Lib.hid hf; clear hva hvd hsame hvn hV hp2 hp3 hbadv hgoodv hf
                        go_wp2_with fail
                        refine (HV.out _).mono ?_
                        rintro e w1 ⟨rfl, rfl⟩
                        go_wp2_with fail
                        go_ret
                        exact ⟨ret_bool Hf.out.symm, _, rfl⟩
                      | true =>
                        have hva2 := hgoodv rfl
                        have Hva := Lib.hid hva; have Hvd := Lib.hid hvd; have Hsame := Lib.hid hsame; have Hvn := Lib.hid hvn; have HV := Lib.hid hV; have Hp2 := Lib.hid hp2; have Hp3 := Lib.hid hp3; have Hbadv := Lib.hid hbadv; have Hgoodv := Lib.hid hgoodv; have Hva2 := Lib.hid hva2; clear hva hvd hsame hvn hV hp2 hp3 hbadv hgoodv hva2
                        go_wp2_with fail
                        refine (HV.out _).mono ?_
                        rintro e w1 ⟨rfl, rfl⟩
                        go_wp2_with fail
                        go_loopw [6] (fun j wr => ∃ t : Nat, t ≤ i ∧ j = .int .i64 t ∧ (∀ t' (ht : t' < x.2.length), t' < t → x.2[t'] ≠ y) ∧ ∃ q, wr = w.drewN q) (fun j _ => i - (intOf j).toNat)
                        case atStart => exact ⟨0, Nat.zero_le _, rfl, fun t _ h => by omega, q3, rfl⟩
                        case round =>
                          obtain ⟨t, ht, rfl, hne, q4, rfl⟩ := hrel
                          by_cases hlt4 : t < i
                          · have htl : t < x.2.length := by have := Hm.out; omega
                            obtain ⟨b5, off5, e5, f1, hs5⟩ := Hg3.out t htl
                            injection e5 with e5
                            injection e5 with e6 e7
                            subst e6 e7
                            have hno5 := Hsame.out t htl hlt4
                            obtain ⟨z, hz5⟩ : ∃ z, z = x.2[t] := ⟨_, rfl⟩
                            have hnn : z ≠ y → ∀ t' (ht : t' < x.2.length), t' < t + 1 → x.2[t'] ≠ y := fun h t' ht' htt => by
                              by_cases e : t' < t
                              · exact hne t' ht' e
                              · obtain rfl : t' = t := by omega
                                rw [← hz5]; exact h
                            rw [← hz5] at f1 hs5 hno5
                            have k14 : (0 : Int) ≤ (t : Int) := by omega
                            have k15 : (t : Int) < (m : Int) := by omega
                            have k16 : decide ((t : Int) < (i : Int)) = true := by simp; omega
                            have hbd := bytes_dec z y
                            clear hz5 htl
                            have Hne := Lib.hid hne; have Hno5 := Lib.hid hno5; have Hnn := Lib.hid hnn; clear hne hno5 hnn
                            by_cases hzy : z = y
                            · have hf : r = false := Hno5.out hzy
                              rw [decide_eq_true hzy] at hbd
                              have Hf := Lib.hid hf; clear hf
                              clear hzy
                              go_wp2_with fail
                              go_region
                              go_wp2_with fail
                              go_ret
                              exact ⟨ret_bool Hf.out.symm, _, rfl⟩
                            · have hnx := Hnn.out hzy
                              rw [decide_eq_false hzy] at hbd
                              have Hnx := Lib.hid hnx; clear hnx
                              clear hzy
                              go_wp2_with fail
                              go_region
                              go_wp2_with fail
                              go_roundw
                              case rel => exact ⟨t + 1, by omega, by go_num, Hnx.out, _, rfl⟩
                              case measure => simp [intOf]; omega
                          · obtain rfl : i = t := by omega
                            have hvn2 := Hvn.out (fun t ht hti => hne t ht hti)
                            have Hne := Lib.hid hne; have Hvn2 := Lib.hid hvn2; clear hne hvn2
                            go_wp2_with fail
                            go_roundw
                            case rel => exact ⟨i + 1, by omega, by go_num, ⟨Hva2.out, Hvn2.out⟩, _, rfl⟩
                            case measure => simp [intOf]; omega
                    · obtain rfl : m = i := by omega
                      have e : x.2.take m = x.2 := List.take_of_length_le (by have := Hm.out; omega)
                      rw [e] at hva
                      have hox : oneOf x = true := by
                        rw [Hone2.out, hva, (nodup_of_diff _).2 (fun j i hj hi hji => hvd j i hj hi hji (by have := Hm.out; omega))]; rfl
                      have hall2 := Hnall.out hox
                      clear e
                      have Hva := Lib.hid hva; have Hvd := Lib.hid hvd; have Hox := Lib.hid hox; have Hall2 := Lib.hid hall2; clear hva hvd hox hall2
                      go_wp2_with fail
                      go_roundw
                      case rel => exact ⟨k + 1, by omega, by go_num, ⟨Hall2.out, Hdn2.out⟩, _, rfl⟩
                      case measure => simp [intOf]; omega
            · have k8 : decide ((4 : Int) < (m : Int)) = true := by simp; omega
              have hf : r = false := hno2k (by rw [hone, decide_eq_false hm4]; simp)
              have Hall := Lib.hid hall; have Hdiff := Lib.hid hdiff; have Hno2k := Lib.hid hno2k; have Hno3k := Lib.hid hno3k; have Hnall := Lib.hid hnall; have Hdn := Lib.hid hdn; have Hu := Lib.hid hu; have Hg3 := Lib.hid g3; have HN := Lib.hid hN; have Hm := Lib.hid hm; have Hone := Lib.hid hone; have Hs := Lib.hid hs; have Hp := Lib.hid hp; have Hf := Lib.hid hf; clear hall hdiff hno2k hno3k hnall hdn hu g3 hN hm hone hs hp hf
              go_wp2_with fail
              refine (HN.out _).mono ?_
              rintro e w1 ⟨rfl, rfl⟩
              go_wp2_with fail
              go_ret
              exact ⟨ret_bool Hf.out.symm, _, rfl⟩
          · have k7 : ((m : Int) == 0) = true := by simp; omega
            have hf : r = false := hno2k (by rw [hone, decide_eq_false h0]; rfl)
            have Hall := Lib.hid hall; have Hdiff := Lib.hid hdiff; have Hno2k := Lib.hid hno2k; have Hno3k := Lib.hid hno3k; have Hnall := Lib.hid hnall; have Hdn := Lib.hid hdn; have Hu := Lib.hid hu; have Hg3 := Lib.hid g3; have HN := Lib.hid hN; have Hm := Lib.hid hm; have Hone := Lib.hid hone; have Hs := Lib.hid hs; have Hp := Lib.hid hp; have Hf := Lib.hid hf; clear hall hdiff hno2k hno3k hnall hdn hu g3 hN hm hone hs hp hf
            go_wp2_with fail
            refine (HN.out _).mono ?_
            rintro e w1 ⟨rfl, rfl⟩
            go_wp2_with fail
            go_ret
            exact ⟨ret_bool Hf.out.symm, _, rfl⟩
      · obtain rfl : n = k := by omega
        have e : l.take n = l := List.take_of_length_le (by have := Hn.out; omega)
        rw [e] at hall
        have hf : r = true := Hyes.out h4 hall (fun j i hj hi hji => hdiff j i hj hi hji (by have := Hn.out; omega))
        clear e
        have Hall := Lib.hid hall; have Hdiff := Lib.hid hdiff; have Hf := Lib.hid hf; clear hall hdiff hf
        go_wp2_with fail
        go_ret
        exact ⟨ret_bool Hf.out.symm, _, rfl⟩
  · have k1 : decide ((4 : Int) < (n : Int)) = true := by simp; omega
    have hf := Hno1.out h4
    have Hf := Lib.hid hf; clear hf
    go_wp2_with fail
    go_ret
    exact ⟨ret_bool Hf.out.symm, 0, rfl⟩
end Go.Proofs.Ytnelgellbabkoaa

/- The walk of cooperref04.Legal at settings that are of the variants. Condition: they are. -/
namespace Go.Proofs.Ytnelgellbabkoaa
open Go.RowKit Go.Shelf
attribute [local go_sem ↓] Go.wp_at_zero Go.wp_at_succ

theorem sets_open {w : World} {v : Value} {l : List Setg} (h : RSets w [v] l) : ∃ a cap, v = .slice a l.length cap ∧ l.length ≤ 9223372036854775807 ∧ ∀ i x, l[i]? = some x → ∃ b off, a = some ⟨b, off, none⟩ ∧ w.cell? ⟨b, off + i * 2, none⟩ = some (.string x.1) ∧ w.cell? ⟨b, off + i * 2 + 1, none⟩ = some (.string x.2) ∧ x.1.size ≤ 9223372036854775807 ∧ x.2.size ≤ 9223372036854775807 := by
  obtain ⟨a, cap, hv, hcap, hmax, hel⟩ := h
  simp only [List.cons.injEq, and_true] at hv
  unfold maxLen at hmax
  refine ⟨a, cap, hv, by omega, fun i x hi => ?_⟩
  obtain ⟨b, off, ecs, h1, h2, h3, h4, h5, h6⟩ := hel i x hi
  subst h4
  unfold maxLen at h5 h6
  exact ⟨b, off, h1, by simpa using h3 0 _ rfl, by simpa using h3 1 _ rfl, by omega, by omega⟩
theorem any_take_succ {ys : List ByteArray} {y : ByteArray} {k : Nat} (h : k < ys.length) : ((ys.take (k + 1)).any fun z => decide (z = y)) = (((ys.take k).any fun z => decide (z = y)) || decide (ys[k] = y)) := by
  rw [List.take_succ_eq_append_getElem h, List.any_append]; simp
set_option maxRecDepth 10000 in
set_option maxHeartbeats 2000000 in
theorem legal_yes {w : World} {v u : Value} {l : List Var} {s : List Setg} (h : RVars w [v] l) (hs : RSets w [u] s) (hL : LegalIs l s) : Calls Try.prog 24 #[v, u] w fun e w' => e = .returned (.bool true) ∧ ∃ q, w' = w.drewN q := by
  obtain ⟨a, cap, rfl, hz, g⟩ := vars_open h
  obtain ⟨sa, sc, rfl, hsz, g2⟩ := sets_open hs
  have hlen := hL.len
  obtain ⟨n, hn⟩ : ∃ n, n = l.length := ⟨_, rfl⟩
  rw [← hn] at hz h hlen ⊢
  rw [hlen] at hs ⊢
  have e1 : ((n : Int) == (n : Int)) = true := by simp
  have e2 : ((n : Int) != (n : Int)) = false := by simp
  clear hsz hlen
  have Hh := Lib.hid h; have Hs := Lib.hid hs; have Hg := Lib.hid g; have Hg2 := Lib.hid g2; have Hn := Lib.hid hn; have HL := Lib.hid hL; clear h hs g g2 hn hL
  go_enter Try.func24, Try.ntmps24
  go_wp2_with fail
  go_loopw [15] (fun i wr => ∃ k : Nat, k ≤ n ∧ i = .int .i64 k ∧ ∃ q, wr = w.drewN q) (fun i _ => n - (intOf i).toNat)
  case atStart => exact ⟨0, Nat.zero_le _, rfl, 0, rfl⟩
  case round =>
    obtain ⟨k, hk, rfl, q1, rfl⟩ := hrel
    by_cases hlt : k < n
    · have hkl : k < l.length := by have := Hn.out; omega
      obtain ⟨b, off, u, rfl, d0, d1, hsx, hu⟩ := Hg.out k hkl
      obtain ⟨y, hy, hmem⟩ := HL.out.at' k hkl
      obtain ⟨b2, off2, rfl, c0, c1, hs1, hs2⟩ := Hg2.out k _ hy
      obtain ⟨x, hx⟩ : ∃ x, x = l[k] := ⟨_, rfl⟩
      rw [← hx] at d0 hu hsx hmem c0 hs1
      obtain ⟨ua, uc, rfl, hz2, g3⟩ := strs_open hu
      obtain ⟨m, hm⟩ : ∃ m, m = x.2.length := ⟨_, rfl⟩
      rw [← hm] at d1 hu hz2
      dsimp only at c0 c1 hs1 hs2
      obtain ⟨s, hs⟩ : ∃ s, s = x.1 := ⟨_, rfl⟩
      rw [← hs] at d0 hsx c0 hs1
      have hfin : (x.2.any fun z => decide (z = y)) = true := by rw [List.any_eq_true]; exact ⟨y, hmem, by simp⟩
      have k5 : (0 : Int) ≤ (k : Int) := by omega
      have k6 : (k : Int) < (n : Int) := by omega
      clear hx hkl hy hmem
      have Hu := Lib.hid hu; have Hg3 := Lib.hid g3; have Hm := Lib.hid hm; have Hs := Lib.hid hs; have Hfin := Lib.hid hfin; clear hu g3 hm hs hfin
      go_wp2_with fail
      go_loopw [6, 24] (fun o j wr => ∃ i : Nat, i ≤ m ∧ j = .int .i64 i ∧ o = .bool ((x.2.take i).any fun z => decide (z = y)) ∧ ∃ q, wr = w.drewN q) (fun _ j _ => m - (intOf j).toNat)
      case atStart => exact ⟨0, Nat.zero_le _, rfl, rfl, q1, rfl⟩
      case round =>
        obtain ⟨i, hi, rfl, rfl, q2, rfl⟩ := hrel
        by_cases hlt2 : i < m
        · have hil : i < x.2.length := by have := Hm.out; omega
          obtain ⟨b3, off3, rfl, d2, hys⟩ := Hg3.out i hil
          have hnext := any_take_succ (y := y) hil
          obtain ⟨z, hz3⟩ : ∃ z, z = x.2[i] := ⟨_, rfl⟩
          rw [← hz3] at d2 hys hnext
          obtain ⟨q, hq⟩ : ∃ q, q = ((x.2.take i).any fun z => decide (z = y)) := ⟨_, rfl⟩
          rw [← hq] at hnext ⊢
          obtain ⟨p, hp⟩ : ∃ p, p = decide (z = y) := ⟨_, rfl⟩
          have hpe : (z.toList == y.toList) = p := by rw [hp, ← beq_toListBytes]; exact beq_dec z y
          rw [← hp] at hnext
          have k7 : (0 : Int) ≤ (i : Int) := by omega
          have k8 : (i : Int) < (m : Int) := by omega
          clear hz3 hil
          have Hnext := Lib.hid hnext; have Hq := Lib.hid hq; have Hp := Lib.hid hp; clear hnext hq hp
          cases q with
          | true =>
            go_wp2_with fail
            go_region
            go_wp2_with fail
            go_roundw
            case rel => exact ⟨i + 1, by omega, by go_num, by rw [Hnext.out]; rfl, _, rfl⟩
            case measure => simp [intOf]; omega
          | false =>
            go_wp2_with fail
            go_region
            go_wp2_with fail
            go_roundw
            case rel => exact ⟨i + 1, by omega, by go_num, by rw [Hnext.out]; simp, _, rfl⟩
            case measure => simp [intOf]; omega
        · obtain rfl : m = i := by omega
          have e : x.2.take m = x.2 := List.take_of_length_le (by have := Hm.out; omega)
          rw [e, Hfin.out]
          clear e
          go_wp2_with fail
          go_region
          go_wp2_with fail
          go_roundw
          case rel => exact ⟨k + 1, by omega, by go_num, _, rfl⟩
          case measure => simp [intOf]; omega
    · obtain rfl : n = k := by omega
      go_wp2_with fail
      go_ret
      exact ⟨rfl, _, rfl⟩
end Go.Proofs.Ytnelgellbabkoaa
