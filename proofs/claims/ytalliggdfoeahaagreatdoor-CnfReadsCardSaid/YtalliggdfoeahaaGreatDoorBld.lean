/- Contracts of strings.Builder at this translation: WriteString, String. Condition: at most 2^47 bytes. -/
import Derived.Test.YtalliggdfoeahaaGreatDoorRows
import Derived.Test.YtalliggdfoeahaaGreatDoorKit
import Derived.Lib.Builder
import Derived.Lib.AppendStr
import Derived.Lib.UnsafeStr
import Derived.Lib.Strings
import Derived.Laws.Externs
set_option linter.unusedVariables false
set_option linter.unusedSimpArgs false
namespace Go.Proofs.YtalliggdfoeahaaGreatDoor
open Go.RowKit

/-- block b is a builder that holds the bytes -/
def Bld (B b : Nat) (bs : List UInt8) (w : World) : Prop := Lib.IsBuilder 49 5 B b (Lib.byteCells bs) w
theorem bld_size : (Tryz.prog.info? 49).map (·.size) = some 2 := by kernel_rfl
theorem bld_lies : liesAt Tryz.prog Tryz.prog.depth 49 (2 / Tryz.prog.cellsOf 49) 0 49 1 = true := by kernel_rfl
theorem bld_byte : (Tryz.prog.info? 5).map (fun i => (i.zero, i.size, i.bytes)) = some (some (.int .u8 0), 1, 1) := by kernel_rfl
theorem bld_cells : Tryz.prog.cellsOf 5 = 1 := by kernel_rfl
theorem bld_new (w : World) : Bld w.heap.size w.heap.size [] (w.alloc (.cells #[.pointer none, .slice none 0 0] 49)) := Lib.fresh_isBuilder _ _ w

/-- blocks of other types are as they were -/
def Keep (w w' : World) : Prop := ∀ (k : Nat) (cs : Array Value) (t : TypeId) (fr : Nat × Nat), w.heap[k]? = some (.cells cs t fr) → t ≠ 49 → t ≠ 5 → w'.heap[k]? = some (.cells cs t fr)
theorem keep_refl (w : World) : Keep w w := fun _ _ _ _ h _ _ => h
theorem Keep.trans {a b c : World} (h : Keep a b) (k : Keep b c) : Keep a c := fun i cs t fr h1 h2 h3 => k i cs t fr (h i cs t fr h1 h2 h3) h2 h3
theorem keep_below {w w' : World} (h : Below w.heap.size w w') : Keep w w' := fun k _ _ _ h1 _ _ => (h.block k (Array.getElem?_eq_some_iff.1 h1).1).trans h1
theorem keep_set {w : World} {b : Nat} {cs : Array Value} {fr : Nat × Nat} (hb : w.heap[b]? = some (.cells cs 49 fr)) (i : Nat) (u : Value) : Keep w (w.setCell ⟨b, i, none⟩ u) := by
  intro k cs' t fr' h h1 _
  have hne : k ≠ b := by
    intro e
    subst e
    rw [hb] at h
    simp at h
    exact h1 h.2.1.symm
  rw [Below.heap_setCell _ _ _ _ hne]
  exact h
theorem keep_grown {w w' : World} {B : Nat} {v : Value} {n : Nat} {xs : List Value} (hg : w.grownBy w' v.ownBlock) (hown : w.ownsRow B 5 1 v n xs) : Keep w w' := by
  intro k cs t fr h _ h2
  refine (hg.block k (Array.getElem?_eq_some_iff.1 h).1 (fun e => ?_)).trans h
  rcases hown.2 with ⟨hv, _⟩ | ⟨g, cap, cur, hv, _, hgg, _⟩
  · rw [hv] at e; simp [Value.ownBlock] at e
  · rw [hv] at e
    simp [Value.ownBlock] at e
    subst e
    rw [hgg] at h
    simp at h
    exact h2 h.2.1.symm

set_option maxRecDepth 10000 in
set_option maxHeartbeats 1000000 in
theorem bld_check {B b : Nat} {bs : List Value} {w : World} (h : Lib.IsBuilder 49 5 B b bs w) :
    Calls Tryz.prog 33 #[.pointer (some ⟨b, 0, none⟩)] w fun e w' => e = .returned (.tuple #[]) ∧ Lib.BuilderAt 49 5 B b (.pointer (some ⟨b, 0, none⟩)) bs w' ∧ Below B w w' ∧ Keep w w' := by
  obtain ⟨j, hj, hjs⟩ := Option.map_eq_some_iff.1 bld_size
  rcases h with h | h
  · have h0 := h.cell0
    have hsh := h.shape
    have hfz := h.frozen0
    have H := Lib.hid h; have HJ := Lib.hid hj; have HS := Lib.hid hjs; have HSH := Lib.hid hsh
    clear h hj hjs hsh
    go_enter Tryz.func33, Tryz.ntmps33
    go_wp2_with fail
    rw [Lib.run_to_unsafe w ⟨b, 0, none⟩ Tryz.underlying46 Tryz.underlying70 HJ.out (by rw [HS.out]; decide) HSH.out (Nat.zero_lt_succ 1)]
    simp only [Result.andThen]
    rw [Oper.upon_value]
    go_wp2_with fail
    rw [run_callFunc_extern Tryz.func42 (by kernel_rfl) (by kernel_rfl) (by kernel_rfl) (e := Extern.AbiNoEscape.same) (by kernel_rfl)]
    rw [Lib.run_noEscape]
    simp only [Result.andThen]
    rw [Oper.upon_value]
    go_wp2_with fail
    rw [Lib.run_from_unsafe w ⟨b, 0, none⟩ Tryz.underlying70 Tryz.underlying46 HJ.out HSH.out bld_lies]
    simp only [Result.andThen]
    rw [Oper.upon_value]
    go_wp2_with fail
    go_end0
    exact ⟨rfl, H.out.used _, (Below.refl B w).setCell (p := ⟨b, 0, none⟩) H.out.1 _, by obtain ⟨_, v, hbk, _⟩ := H.out; exact keep_set hbk 0 _⟩
  · have h0 := h.cell0
    have H := Lib.hid h; have HJ := Lib.hid hj
    clear h hj hjs
    go_enter Tryz.func33, Tryz.ntmps33
    go_wp2_with fail
    rw [Lib.run_neq_ptr_same w _ Tryz.underlying46 HJ.out]
    go_wp2_with fail
    go_end0
    exact ⟨rfl, H.out, Below.refl B _, keep_refl _⟩

set_option maxRecDepth 10000 in
set_option maxHeartbeats 2000000 in
theorem bld_string {B b : Nat} {bs : List UInt8} {w : World} (h : Bld B b bs w) (s : ByteArray) (hlen : bs.length + s.size ≤ 1000000000) (hBw : B ≤ w.heap.size) :
    Calls Tryz.prog 20 #[.pointer (some ⟨b, 0, none⟩), .string s] w fun e w' => e = .returned (.tuple #[.int .i64 s.size, .nilIface]) ∧ Bld B b (bs ++ s.data.toList) w' ∧ Below B w w' ∧ Keep w w' := by
  obtain ⟨i0, hi, hz0, hz1, hz2⟩ := info_parts bld_byte
  have hl : (Lib.byteCells bs).length = bs.length := Lib.byteCells_length bs
  have HC := Lib.hid (fun w => bld_check (w := w) (B := B) (b := b) (bs := Lib.byteCells bs))
  have hcat : Lib.byteCells bs ++ Lib.strCells s = Lib.byteCells (bs ++ s.data.toList) := by simp [Lib.byteCells, Lib.strCells]
  obtain ⟨L, hL⟩ : ∃ L, L = Lib.byteCells bs := ⟨_, rfl⟩
  unfold Bld at h
  rw [← hL] at h hl HC hcat
  have hLl : L.length + s.size ≤ 1000000000 := by omega
  have Hi := Lib.hid hi; have Hz0 := Lib.hid hz0; have Hz1 := Lib.hid hz1; have Hz2 := Lib.hid hz2; have Hh := Lib.hid h; have HL := Lib.hid hL; have Hl := Lib.hid hl; have Hcat := Lib.hid hcat; clear hi hz0 hz1 hz2 h hL hl hcat
  go_enter Tryz.func20, Tryz.ntmps20
  go_wp2_with fail
  refine (HC.out _ Hh.out).mono ?_
  rintro e w1 ⟨rfl, ⟨hB, v, hbk, hown, hne⟩, hb1, hkp⟩
  have c0 : w1.cell? ⟨b, 0, none⟩ = some (.pointer (some ⟨b, 0, none⟩)) := by rw [Lib.cell_of_heap hbk]; rfl
  have c1 : w1.cell? ⟨b, 1, none⟩ = some v := by rw [Lib.cell_of_heap hbk]; rfl
  have hB1 : B ≤ w1.heap.size := by have := hb1.size; omega
  have Hbk := Lib.hid hbk; have Hown := Lib.hid hown; have Hne := Lib.hid hne; have Hb1 := Lib.hid hb1; have Hkp := Lib.hid hkp; clear hbk hown hne hb1 hkp
  go_wp2_with (at_builtin; refine Lib.wpList_append_own_string _ rfl _ _ 47 9 rfl B 5 i0 Tryz.underlying47 Tryz.underlying9 Hi.out Hz0.out Hz1.out Hz2.out _ _ _ rfl Hown.out s rfl ?c3 ?c4 ?c5 ?_)
  case c3 => unfold maxLen; omega
  case c4 => omega
  case c5 => omega
  intro v' w2 hown' hgrow _
  have hlt : b < w1.heap.size := (Array.getElem?_eq_some_iff.1 Hbk.out).1
  have hb2 : w2.heap[b]? = some (.cells #[.pointer (some ⟨b, 0, none⟩), v] 49 (0, 0)) := by
    rw [hgrow.block b hlt (fun e => Hne.out e.symm)]
    exact Hbk.out
  have d1 : w2.cell? ⟨b, 1, none⟩ = some v := by rw [Lib.cell_of_heap hb2]; rfl
  have f1 : w2.frozen? ⟨b, 1, none⟩ = false := Lib.frozen_of_heap hb2 1
  obtain ⟨ao, n', cap, rfl⟩ : ∃ ao n' cap, v' = .slice ao n' cap := by
    rcases hown'.2 with ⟨hv, _⟩ | ⟨g, cap, cur, hv, _⟩
    · exact ⟨_, _, _, hv⟩
    · exact ⟨_, _, _, hv⟩
  have Hb2 := Lib.hid hb2; have Hown' := Lib.hid hown'; have Hgrow := Lib.hid hgrow; clear hb2 hown' hgrow
  go_wp2_with fail
  go_ret2
  refine ⟨rfl, ?_, ?_, ?_⟩
  · unfold Bld
    rw [← Hcat.out]
    exact .inr (Lib.BuilderAt.put (T := 49) (e := 5) hB Hb2.out (bs' := L ++ Lib.strCells s) (by simpa [Lib.strCells_length] using Hown'.out) (by decide))
  · exact (Hb1.out.grown Hgrow.out hB1 (fun k hk => (Hown.out.lt k hk).1)).setCell (p := ⟨b, 1, none⟩) hB _
  · exact (Hkp.out.trans (keep_grown Hgrow.out Hown.out)).trans (keep_set Hb2.out 1 _)

set_option maxRecDepth 10000 in
set_option maxHeartbeats 2000000 in
/-- String, of a builder that holds a byte -/
theorem bld_done {B b : Nat} {l : List UInt8} {w : World} (h : Bld B b l w) (h0 : l ≠ []) :
    Calls Tryz.prog 22 #[.pointer (some ⟨b, 0, none⟩)] w fun e w' => e = .returned (.string ⟨l.toArray⟩) ∧ Below B w w' := by
  obtain ⟨p, hB, v, hbk, hown, hne⟩ : ∃ p, Lib.BuilderAt 49 5 B b p (Lib.byteCells l) w := by
    rcases h with h | h
    · exact ⟨_, h⟩
    · exact ⟨_, h⟩
  have hl0 : l.length ≠ 0 := by simpa using h0
  rw [Lib.byteCells_length] at hown
  obtain ⟨g, cap, cur, rfl, hbg, hg, hnc, hcm, hcs, htake⟩ : ∃ g cap cur, v = .slice (some ⟨g, 0, none⟩) l.length cap ∧ B ≤ g ∧ w.heap[g]? = some (.cells cur 5 (0, 0)) ∧ l.length ≤ cap ∧ cap ≤ maxLen ∧ cur.size = cap * 1 ∧ cur.toList.take (l.length * 1) = Lib.byteCells l := by
    rcases hown.2 with ⟨_, hz⟩ | ⟨g, cap, cur, hv, r⟩
    · exact absurd hz hl0
    · exact ⟨g, cap, cur, hv, r⟩
  have c1 : w.drew.cell? ⟨b, 1, none⟩ = some (.slice (some ⟨g, 0, none⟩) l.length cap) := by
    have : w.drew.heap[b]? = some (.cells #[p, .slice (some ⟨g, 0, none⟩) l.length cap] 49 (0, 0)) := hbk
    rw [Lib.cell_of_heap this]; rfl
  have hSD : (Builtin.unsafeSliceData_ #[47] 64 #[.slice (some ⟨g, 0, none⟩) l.length cap]).run Tryz.prog w.drew = .ok (.pointer (some ⟨g, 0, none⟩)) w.drew :=
    Lib.run_unsafeSliceData_row _ _ _ _ _ _ (by omega)
  have hUS : (Builtin.unsafeString_ #[64, 3] 9 #[.pointer (some ⟨g, 0, none⟩), .int .i64 l.length]).run Tryz.prog w.drew = .ok (.string ⟨l.toArray⟩) (w.drew.freeze ⟨g, 0, none⟩ l.length) := by
    refine Lib.run_unsafeString_row w.drew 64 3 9 5 Tryz.underlying64 bld_cells g cur.size (by have hg' : w.drew.heap[g]? = some (.cells cur 5 (0, 0)) := hg; simp [World.shape?, hg']) l h0 (by omega) (by unfold maxLen at hcm; omega) ?_
    intro j x hx
    have := hown.cells (g := g) rfl j (.int .u8 x.toNat) (by simp [Lib.byteCells, hx])
    exact this
  have hlm : l.length ≤ 9223372036854775807 := by unfold maxLen at hcm; omega
  have Hbk := Lib.hid hbk; have Hown := Lib.hid hown; have Hne := Lib.hid hne; have Hg := Lib.hid hg; have Hcs := Lib.hid hcs; have Htake := Lib.hid htake; have Hh := Lib.hid h; clear hbk hown hne hg hcs htake h
  go_enter Tryz.func22, Tryz.ntmps22
  go_wp2_with fail
  go_region
  all_goals
    go_wp2_with fail
    go_ret
    exact ⟨rfl, Lib.below_freeze (Below.drew (Below.refl B w)) (p := ⟨g, 0, none⟩) hbg _⟩
theorem bld_at_below {T e : TypeId} {B b : Nat} {p : Value} {bs : List Value} {w w' : World} (h : Lib.BuilderAt T e B b p bs w) (hb : Below w.heap.size w w') : Lib.BuilderAt T e B b p bs w' := by
  obtain ⟨hB, v, hbk, hown, hne⟩ := h
  exact ⟨hB, v, (hb.block b (Array.getElem?_eq_some_iff.1 hbk).1).trans hbk, ownsRow_below hown hb, hne⟩
theorem bld_below {B b : Nat} {bs : List UInt8} {w w' : World} (h : Bld B b bs w) (hb : Below w.heap.size w w') : Bld B b bs w' := by
  rcases h with h | h
  · exact .inl (bld_at_below h hb)
  · exact .inr (bld_at_below h hb)
set_option maxRecDepth 10000 in
set_option maxHeartbeats 2000000 in
/-- String, of a new builder -/
theorem bld_empty (w : World) {b : Nat} (hbk : w.heap[b]? = some (.cells #[.pointer none, .slice none 0 0] 49 (0, 0))) :
    Calls Tryz.prog 22 #[.pointer (some ⟨b, 0, none⟩)] w fun e w' => e = .returned (.string ⟨#[]⟩) ∧ Below w.heap.size w w' := by
  have c1 : w.drew.cell? ⟨b, 1, none⟩ = some (.slice none 0 0) := by
    have : w.drew.heap[b]? = some (.cells #[.pointer none, .slice none 0 0] 49 (0, 0)) := hbk
    rw [Lib.cell_of_heap this]; rfl
  have hUS : (Builtin.unsafeString_ #[64, 3] 9 #[.pointer none, .int .i64 0]).run Tryz.prog w.drew = .ok (.string .empty) w.drew := Lib.run_unsafeString_none w.drew _ _ _ none
  have hSD : (Builtin.unsafeSliceData_ #[47] 64 #[.slice none 0 0]).run Tryz.prog w.drew = .ok (.pointer none) w.drew := rfl
  have Hbk := Lib.hid hbk; clear hbk
  go_enter Tryz.func22, Tryz.ntmps22
  go_wp2_with fail
  go_region
  all_goals
    go_wp2_with fail
    go_ret
    exact ⟨rfl, Below.drew (Below.refl _ w)⟩

end Go.Proofs.YtalliggdfoeahaaGreatDoor
