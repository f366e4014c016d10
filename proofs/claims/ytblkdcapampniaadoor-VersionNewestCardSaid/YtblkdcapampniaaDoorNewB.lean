/- The walk of version.Newest. Condition: the library's variables as they were laid; at most a thousand texts of at most 9000 bytes. -/
import Derived.Test.YtblkdcapampniaaDoorNewA
import Derived.Test.YtblkdcapampniaaDoorShelf
set_option linter.unusedVariables false
set_option linter.unusedSimpArgs false
namespace Go.Proofs.YtblkdcapampniaaDoor
open Go.Shelf Go.RowKit Go.Lib Go.Sort SortM VerN

set_option maxRecDepth 10000 in
set_option maxHeartbeats 1000000 in
theorem insertNew_nil (cv : Value) (w : World) : Calls Tryd.prog 75 #[.slice none 0 0, .int .i64 0, .int .i64 0, cv] w fun e w' => e = .returned (.tuple #[]) ∧ w = w' := by
  go_enter Tryd.func75, Tryd.ntmps75
  go_wp2_with fail
  refine wp_loop_rounds 1 ?_
  rw [rounds_succ]
  go_wp2_with fail
  go_end0
  exact ⟨rfl, rfl⟩
set_option maxRecDepth 10000 in
set_option maxHeartbeats 1000000 in
theorem stableNew_nil (cv : Value) (w : World) : Calls Tryd.prog 67 #[.slice none 0 0, .int .i64 0, cv] w fun e w' => e = .returned (.tuple #[]) ∧ w = w' := by
  have h := insertNew_nil cv
  have Hh := Lib.hid h; clear h
  go_enter Tryd.func67, Tryd.ntmps67
  go_wp2_with fail
  refine wp_loop_rounds 1 ?_
  rw [rounds_succ]
  go_wp2_with fail
  refine (Hh.out _).mono ?_
  rintro e w2 ⟨rfl, rfl⟩
  go_wp2_with fail
  refine wp_loop_rounds 1 ?_
  rw [rounds_succ]
  go_wp2_with fail
  go_end0
  exact ⟨rfl, rfl⟩
set_option maxRecDepth 10000 in
theorem sortNew_nil (cv : Value) (w : World) : Calls Tryd.prog 56 #[.slice none 0 0, cv] w fun e w' => e = .returned (.tuple #[]) ∧ w = w' := by
  have h := stableNew_nil cv
  have Hh := Lib.hid h; clear h
  go_enter Tryd.func56, Tryd.ntmps56
  go_wp2_with fail
  refine (Hh.out _).mono ?_
  rintro e w2 ⟨rfl, rfl⟩
  go_wp2_with fail
  go_end0
  exact ⟨rfl, rfl⟩
def newPost (l : List Tx) (w : World) (e : Ending) (w' : World) : Prop := ∃ o, e = .returned o ∧ w'.ownsRow w.heap.size 9 1 o l.length ((newest l).map fun x => Value.string x.1) ∧ Below w.heap.size w w'
theorem cloneTx_any {w : World} {B : Nat} {v : Value} {l : List Tx} (h : w.ownsRow B 9 1 v l.length (l.map fun x => Value.string x.1)) (hl : l.length ≤ 1000) : Calls Tryd.prog 55 #[v] w fun e w' => ∃ o, e = .returned o ∧ w'.ownsRow w.heap.size 9 1 o l.length (l.map fun x => Value.string x.1) ∧ Below w.heap.size w w' := by
  rcases h.2 with ⟨rfl, h0⟩ | ⟨g, cap, cur, rfl, _⟩
  · have hl0 : l = [] := List.length_eq_zero_iff.1 h0
    subst hl0
    exact (Tryd.slices_Clone_nil _ _ w).mono fun e w' ⟨he, hw⟩ => ⟨_, he, hw ▸ World.ownsRow_nil _ _ _ _, hw ▸ Below.refl _ _⟩
  · refine (Tryd.slices_Clone ((Tryd.prog.info? 9).get (by kernel_rfl)) (.string ⟨#[]⟩) 1 16 (by kernel_rfl) (by kernel_rfl) (by kernel_rfl) (by kernel_rfl) rfl (by decide) (by intro w; exact Tryd.sizeOf9 w) g 0 l.length cap (l.map fun x => Value.string x.1) w (by simp) (by unfold maxLen; omega) (by omega) (fun j u hu => ?_) (fun u hu => ?_)).mono ?_
    · have hj := (List.getElem?_eq_some_iff.1 hu).1
      rw [List.length_map] at hj
      have := h.cellAt j (by omega)
      rw [Nat.zero_add, this, hu]
    · obtain ⟨y, _, rfl⟩ := List.mem_map.1 hu
      rfl
    · rintro e w' ⟨o, he, ho, _, hb⟩
      exact ⟨o, he, ho, hb⟩
set_option maxRecDepth 10000 in
set_option maxHeartbeats 1000000 in
theorem newest_any {w : World} {B : Nat} {v : Value} {l : List Tx} (h : w.ownsRow B 9 1 v l.length (l.map fun x => Value.string x.1)) (hl : l.length ≤ 1000) (hD : Doors w) : Calls Tryd.prog 40 #[v] w (newPost l w) := by
  unfold newPost
  have hC := cloneTx_any h hl
  obtain ⟨a, cap, rfl⟩ := own_shape h
  obtain ⟨N, hN⟩ : ∃ N, N = l.length := ⟨_, rfl⟩
  rw [← hN] at hC ⊢
  have hlen : (newest l).length = l.length := ssort_len newSwo l
  have Hh := Lib.hid h; have HC := Lib.hid hC; have HN := Lib.hid hN; have Hlen := Lib.hid hlen; have HD := Lib.hid hD; clear h hC hN hlen hD
  go_enter Tryd.func40, Tryd.ntmps40
  go_wp2_with fail
  refine HC.out.mono ?_
  rintro e w1 ⟨o, rfl, ho, hb1⟩
  rcases ho.2 with ⟨rfl, h0⟩ | ⟨g, c, cur, rfl, _⟩
  · have hS := sortNew_nil (.func (.func 57) #[] #[])
    have hl0 : l = [] := List.length_eq_zero_iff.1 (by have := HN.out; omega)
    have Ho := Lib.hid ho; have Hb1 := Lib.hid hb1; have HS := Lib.hid hS; have H0 := Lib.hid h0; have Hl0 := Lib.hid hl0; clear ho hb1 hS h0 hl0
    go_wp2_with fail
    refine (HS.out _).mono ?_
    rintro e w2 ⟨rfl, rfl⟩
    go_wp2_with fail
    go_ret
    refine ⟨_, rfl, ?_, Hb1.out⟩
    have hl0 := Hl0.out
    have h0 := H0.out
    subst hl0 h0
    exact World.ownsRow_nil _ _ _ _
  · have ho2 := ho
    rw [HN.out] at ho2
    have hS := sortNew_any ho2 hb1 HD.out hl
    rw [← HN.out] at hS
    clear ho2
    have Ho := Lib.hid ho; have Hb1 := Lib.hid hb1; have HS := Lib.hid hS; clear ho hb1 hS
    go_wp2_with fail
    refine HS.out.mono ?_
    rintro e w2 ⟨rfl, hw2, hb2⟩
    have Hw2 := Lib.hid hw2; have Hb2 := Lib.hid hb2; clear hw2 hb2
    go_wp2_with fail
    go_ret
    exact ⟨_, rfl, Hw2.out, Hb2.out⟩
end Go.Proofs.YtblkdcapampniaaDoor
