/- What luby.Forget calls, at rows that the call owns: DeleteFunc, SortStableFunc, Sort. Condition: at most a million. -/
import Derived.Test.YtoljhahmmdibfaaNDel
import Derived.Test.YtoljhahmmdibfaaStbNoteT
import Derived.Test.YtoljhahmmdibfaaShelf
import Derived.Lib.OwnBridge
set_option linter.unusedVariables false
set_option linter.unusedSimpArgs false
namespace Go.Proofs.Ytoljhahmmdibfaa
open Go.Shelf Go.RowKit Go.Lib Go.Sort SortM ForgM

abbrev nEnc : NT → List Value := StbNote.enc (fun x => x.1) (fun x => x.2.1) (fun x => x.2.2.1) (fun x => x.2.2.2)
theorem enters_worse : ∀ args w, (callFunc 56 args).run Try.prog w = .ok (.enter 56 args) w := enters_of Try.func56 (by kernel_rfl) rfl
theorem worse_lays (blk off size : Nat) (w : World) : CmpLays Try.prog 56 #[] nEnc 4 worseOf blk off size w := fun m os dk _ x y => by
  have := worse_any x y (sortWorldK nEnc 4 w blk off m dk os)
  exact this
set_option maxRecDepth 10000 in
set_option maxHeartbeats 1000000 in
theorem insertion_nil (cv : Value) (w : World) : Calls Try.prog 74 #[.slice none 0 0, .int .i64 0, .int .i64 0, cv] w fun e w' => e = .returned (.tuple #[]) ∧ w = w' := by
  go_enter Try.func74, Try.ntmps74
  go_wp2_with fail
  refine wp_loop_rounds 1 ?_
  rw [rounds_succ]
  go_wp2_with fail
  go_end0
  exact ⟨rfl, rfl⟩
set_option maxRecDepth 10000 in
set_option maxHeartbeats 1000000 in
theorem stable_nil (cv : Value) (w : World) : Calls Try.prog 69 #[.slice none 0 0, .int .i64 0, cv] w fun e w' => e = .returned (.tuple #[]) ∧ w = w' := by
  have h := insertion_nil cv
  have Hh := Lib.hid h; clear h
  go_enter Try.func69, Try.ntmps69
  go_wp2_with fail
  refine wp_loop_rounds 1 ?_
  rw [rounds_succ]
  go_wp2_with fail
  refine (Hh.out _).mono ?_
  rintro e w2 ⟨rfl, rfl⟩
  go_wp2_with fail
  refine wp_loop_rounds 1 ?_
  rw [rounds_succ]
  go_wp2_with fail
  go_end0
  exact ⟨rfl, rfl⟩
set_option maxRecDepth 10000 in
theorem sortStable_nil (cv : Value) (w : World) : Calls Try.prog 55 #[.slice none 0 0, cv] w fun e w' => e = .returned (.tuple #[]) ∧ w = w' := by
  have h := stable_nil cv
  have Hh := Lib.hid h; clear h
  go_enter Try.func55, Try.ntmps55
  go_wp2_with fail
  refine (Hh.out _).mono ?_
  rintro e w2 ⟨rfl, rfl⟩
  go_wp2_with fail
  go_end0
  exact ⟨rfl, rfl⟩
set_option maxRecDepth 10000 in
theorem delNil_any (w : World) : Calls Try.prog 52 #[.slice none 0 0, .func (.func 54) #[] #[]] w fun e w' => e = .returned (.slice none 0 0) ∧ Below w.heap.size w w' := by
  have hrd : RNotes w [.slice none 0 0] [] := ⟨none, 0, rfl, Nat.le_refl _, Nat.zero_le _, fun i x hi => by simp at hi⟩
  have hI := IdxNote.idx_any stays_note stay 54 #[] enters_stays hrd (stays_pred [] w)
  rw [show idxOf stay [] = -1 from rfl] at hI
  have Hrd := Lib.hid hrd; have HI := Lib.hid hI; clear hrd hI
  go_enter Try.func52, Try.ntmps52
  go_wp2_with fail
  refine HI.out.mono ?_
  rintro e w1 ⟨rfl, hb1⟩
  have Hb1 := Lib.hid hb1; clear hb1
  go_wp2_with fail
  go_ret
  exact ⟨rfl, Hb1.out⟩
theorem delOwned_any {w : World} {B : Nat} {v : Value} {n : Nat} {l : List NT} (h : w.ownsRow B 76 4 v n (l.flatMap ntCells)) (hn : l.length = n) (hb : n ≤ 1000000) :
    Calls Try.prog 52 #[v, .func (.func 54) #[] #[]] w (NDelPost B (l.filter mayN) w) := by
  rcases h.2 with ⟨rfl, rfl⟩ | ⟨g, cap, cur, rfl, hbg, hg, hnc, _, _, _⟩
  · obtain rfl : l = [] := List.eq_nil_of_length_eq_zero hn
    refine (delNil_any w).mono ?_
    rintro e w' ⟨rfl, hbw⟩
    exact ⟨_, rfl, World.ownsRow_nil _ _ _ _, fun w0 hb hB => ⟨hb.trans (hbw.mono hB), Nat.le_trans hB hbw.size⟩⟩
  · exact delNote_any h hn hb
/-- SortStableFunc by what is worse, of a row that a call owns -/
def NSortPost (B : Nat) (v : Value) (n : Nat) (l : List NT) (w : World) (e : Ending) (w' : World) : Prop := e = .returned (.tuple #[]) ∧ w'.ownsRow B 76 4 v n (l.flatMap ntCells) ∧ ∀ w0, Below B w0 w → B ≤ w.heap.size → Below B w0 w' ∧ B ≤ w'.heap.size
theorem sortNotes_any {w : World} {B : Nat} {v : Value} {n : Nat} {l : List NT} (h : w.ownsRow B 76 4 v n (l.flatMap ntCells)) (hn : l.length = n) (hb : n ≤ 1000000) :
    Calls Try.prog 55 #[v, .func (.func 56) #[] #[]] w (NSortPost B v n (ssort wlt l) w) := by
  rcases h.2 with ⟨rfl, rfl⟩ | ⟨g, cap, cur, rfl, hbg, hg, hnc, _, _, _⟩
  · obtain rfl : l = [] := List.eq_nil_of_length_eq_zero hn
    refine (sortStable_nil _ w).mono ?_
    rintro e w' ⟨rfl, rfl⟩
    exact ⟨rfl, World.ownsRow_nil _ _ _ _, fun w0 hb hB => ⟨hb, hB⟩⟩
  · have R := rowK_of_owns (enc := ntCells) ntCells_len nt_one (by decide) h hn
    have R' : RowK nEnc 4 w g 0 l.toArray := R
    have hs : l.toArray.size = n := by simpa using hn
    have hc := StbNote.sortStable_any R' (worse_lays g 0 l.toArray.size w) enters_worse (by rw [worse_lt]; exact wlt_swo) cap (by rw [hs]; exact hb)
    rw [worse_lt] at hc
    rw [hs] at hc
    refine hc.mono ?_
    rintro e w' ⟨rfl, d, S, hd⟩
    have hds : d.size = n := by rw [← Array.length_toList, hd, ssort_len wlt_swo, ← hn]
    have ho := owns_of_swk (enc := ntCells) ntCells_len (by decide) h S hds
    rw [hd] at ho
    refine ⟨rfl, ho.1, fun w0 hb hB => ⟨ho.2 w0 hb hB, Nat.le_trans hB S.le⟩⟩
abbrev intv : Int → Value := Value.int .i64
theorem mergeSort_is (l : List Int) : (l.mergeSort fun x y => decide (x ≤ y)) = sortN l := by
  refine rising_uniq _ _ ?_ (sortN_spec l).1 ((List.mergeSort_perm _ _).trans (sortN_spec l).2.symm)
  have := List.pairwise_mergeSort (le := fun x y : Int => decide (x ≤ y)) (fun a b c h1 h2 => by simp at *; omega) (fun a b => by simp; omega) l
  exact this.imp fun h => by simpa using h
theorem sortN_len (l : List Int) : (sortN l).length = l.length := (sortN_spec l).2.length_eq
def ISortPost (B : Nat) (v : Value) (n : Nat) (l : List Int) (w : World) (e : Ending) (w' : World) : Prop := e = .returned (.tuple #[]) ∧ w'.ownsRow B 3 1 v n (l.map intv) ∧ ∀ w0, Below B w0 w → B ≤ w.heap.size → Below B w0 w'
theorem sortInts_any {w : World} {B : Nat} {v : Value} {n : Nat} {l : List Int} (h : w.ownsRow B 3 1 v n (l.map intv)) (hn : l.length = n) (hb : n ≤ 1000000) :
    Calls Try.prog 57 #[v] w (ISortPost B v n (sortN l) w) := by
  rcases h.2 with ⟨rfl, rfl⟩ | ⟨g, cap, cur, rfl, hbg, hg, hnc, _, _, _⟩
  · obtain rfl : l = [] := List.eq_nil_of_length_eq_zero hn
    refine (Try.slices_Sort_int_none none 0 w).mono ?_
    rintro e w' ⟨rfl, rfl⟩
    exact ⟨rfl, World.ownsRow_nil _ _ _ _, fun w0 hb hB => hb⟩
  · obtain ⟨g', cap', e1, hb2, hlt, hnc', hcm, hl, hH⟩ := holds_of_ownsRow h (by simp)
    injection e1 with e2 _ e3
    injection e2 with e2
    injection e2 with e2
    subst e2 e3
    have hc := Try.slices_Sort_int g 0 cap l w hH hlt (by omega)
    rw [hn] at hc
    refine hc.mono ?_
    rintro e w' ⟨rfl, q, os, hw⟩
    rw [mergeSort_is] at hw
    have h1 := ownsRow_putRow (q := q) (k := n) (ys := sortN l) h (by rw [sortN_len, hn]) (Nat.le_refl _)
    rw [List.take_of_length_le (by rw [sortN_len, hn]; exact Nat.le_refl _)] at h1
    have hsz : (putRow (Value.int .i64) (Sort.ahead w q) g 0 (sortN l).toArray).heap.size = w.heap.size := by simp [putRow, mapBlock, Sort.ahead]
    have hgr : ∀ X : World, Below X.heap.size X (grow X os) := fun X => ⟨rfl, rfl, rfl, by simp, fun k hk => heap_grow_old X os hk⟩
    refine ⟨rfl, by rw [hw]; exact ownsRow_below h1 (hgr _), fun w0 hb hB => ?_⟩
    rw [hw]
    have h2 := below_putRow (enc := Value.int .i64) (q := q) (g := g) (d := (sortN l).toArray) hb hb2
    exact h2.trans ((hgr _).mono (by rw [hsz]; exact hB))
end Go.Proofs.Ytoljhahmmdibfaa
