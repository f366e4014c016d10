/- Walks and plain facts. Texts merged: VerR, ItOwn, Split, ResTwo, Parts, VerAt, VerCmp, Txs, SpnA, SpnB, SpnC. Condition: none beyond what each says. -/
import Derived.Test.YteailgjiifdgcaaGreatDoorRows
import Derived.Laws.Rows
import Derived.Laws.ResultCell
import Derived.Lib.AtoiAllCases
import Derived.RangeFuncNested
import Derived.RangeFuncBox
import Derived.RangeFuncCalls
import Derived.RangeFuncLeaves
import Derived.Shelf.Abstract
import Derived.WalkKit
import Derived.OwnWalkIn
import Derived.TacticsInMore
import Derived.LoopNIn
import Derived.LoopIn
import Derived.Deep.RegionHeld3
import Derived.Deep.CutRange
import Derived.Lib.SmallJoins
import Derived.Test.YteailgjiifdgcaaGreatDoorSpansSharesAll1
import Derived.Test.YteailgjiifdgcaaGreatDoorSpansSharesAll2
set_option linter.unusedVariables false
set_option linter.unusedSimpArgs false
/- The walk of version.read: whether a text is a part, and which one. Condition: the library's variables as they were laid, and a text of at most a million bytes. -/
namespace Go.Proofs.YteailgjiifdgcaaGreatDoor
open Go.RowKit Go.Lib VerN

/-- what a part is as the program keeps it -/
def IsPart (l : List UInt8) (r m : Int) (x : ByteArray) : Prop := r = rankOf l ∧ m = numOf l ∧ x.data.toList = wordOf l
theorem bodyPost_part {fn : Func} {p u : Tmp} (hres : fn.results = #[.cell p 241, .tmp u]) {R : Ending → World → Prop} {a : Act} {w : World} {g : Nat} {x y z b : Value} (hp : a.tmps.getD p undef = .pointer (some ⟨g, 0, none⟩)) (hu : a.tmps.getD u undef = b)
    (hg : w.heap[g]? = some (.cells #[x, y, z] 241 (0, 0))) (hd : a.defers = []) (hR : R (.returned (.tuple #[.agg #[x, y, z], b])) w) : bodyPost Tryz.prog fn R .ret a w := by
  refine bodyPost_ret (v := .tuple #[.agg #[x, y, z], b]) ?_ hd hR
  rw [results_cell_tmp hres, hp, hu]
  simp only [asAddr, Sem.run_pure, Result.andThen, run_loadVar_row w g 241 241 _ _ _ hg Tryz.underlying241 rfl (by kernel_rfl)]
theorem ret_two {v : Value} {a b : Bool} (h : a = b) : Ending.returned (.tuple #[v, .bool a]) = .returned (.tuple #[v, .bool b]) := by rw [h]
theorem trip_cells {w : World} {g : Nat} {t : TypeId} {x y z : Value} (h : w.heap[g]? = some (.cells #[x, y, z] t (0, 0))) : w.cell? ⟨g, 0, none⟩ = some x ∧ w.cell? ⟨g, 1, none⟩ = some y ∧ w.cell? ⟨g, 2, none⟩ = some z ∧ w.frozen? ⟨g, 0, none⟩ = false ∧ w.frozen? ⟨g, 1, none⟩ = false ∧ w.frozen? ⟨g, 2, none⟩ = false := by
  have b0 := cells_at h 0
  have b1 := cells_at h 1
  have b2 := cells_at h 2
  simp only [List.getElem?_toArray, List.getElem?_cons_zero, List.getElem?_cons_succ] at b0 b1 b2
  exact ⟨b0, b1, b2, frozen_at h 0, frozen_at h 1, frozen_at h 2⟩
theorem trip_set {w : World} {g : Nat} {t : TypeId} {x y z : Value} (u v q : Value) (h : w.heap[g]? = some (.cells #[x, y, z] t (0, 0))) : (((w.setCell ⟨g, 0, none⟩ u).setCell ⟨g, 1, none⟩ v).setCell ⟨g, 2, none⟩ q).heap[g]? = some (.cells #[u, v, q] t (0, 0)) := by
  have k0 := heap_setCell_same _ g 0 _ _ u h
  have k1 := heap_setCell_same _ g 1 _ _ v k0
  have k2 := heap_setCell_same _ g 2 _ _ q k1
  exact k2
theorem trip_bel {B : Nat} {a w : World} {g : Nat} (u v q : Value) (h : Below B a w) (hg : B ≤ g) : Below B a (((w.setCell ⟨g, 0, none⟩ u).setCell ⟨g, 1, none⟩ v).setCell ⟨g, 2, none⟩ q) :=
  ((h.setCell (p := ⟨g, 0, none⟩) hg _).setCell (p := ⟨g, 1, none⟩) hg _).setCell (p := ⟨g, 2, none⟩) hg _
def readPost (l : List UInt8) (w : World) (e : Ending) (w' : World) : Prop :=
  (∃ r m x, e = .returned (.tuple #[.agg #[.int .i64 r, .int .i64 m, .string x], .bool (partL l)]) ∧ (partL l = true → IsPart l r m x)) ∧ Below w.heap.size w w'
theorem read_part {l : List UInt8} (h : ∀ v, atoiAll l ≠ .ok v) : partL l = letOk l := by
  have h1 := read_is l
  unfold readOk at h1
  unfold partL
  rw [← h1]
  cases ha : atoiAll l with
  | ok v => exact absurd ha (h v)
  | range => unfold letOk; rw [Bool.and_comm]
  | _ => unfold letOk; rw [Bool.and_comm]
theorem read_num {l : List UInt8} {v : Int} (h : atoiAll l = .ok v) : partL l = (decide (0 ≤ v) && decide (v ≤ 999999999) && decide (itoa v = l)) := by
  have h1 := read_is l
  unfold readOk at h1
  rw [h] at h1
  unfold partL
  rw [← h1]
theorem num_part {l : List UInt8} {v : Int} (h : atoiAll l = .ok v) (hp : partL l = true) : IsPart l 2 v ⟨#[]⟩ := by
  have hd : digOk l = true := by
    unfold partL at hp
    cases hl : letOk l
    · rw [hl] at hp; simpa using hp
    · exfalso
      have h0 := read_num h
      rw [show partL l = true from hp] at h0
      have h1 := h0.symm
      simp only [Bool.and_eq_true, decide_eq_true_eq] at h1
      obtain ⟨u, rfl⟩ : ∃ u : Nat, v = u := ⟨v.toNat, by omega⟩
      have h2 := h1.2
      rw [itoa_nat] at h2
      have hk := dec_dig u
      rw [h2] at hk
      have := (not_both hl).1
      unfold digs at this
      rw [hk.1] at this
      have hne := hk.2.1
      cases l with
      | nil => exact hne rfl
      | cons _ _ => simp at this
  have e := atoi_dig hd
  rw [h] at e
  injection e with e
  refine ⟨(rk_dig hd).symm, ?_, ?_⟩
  · rw [e]; unfold numOf; rw [if_neg (by rw [(digs_of hd).2.1]; simp)]
  · unfold wordOf; rw [if_neg (by rw [(digs_of hd).2.1]; simp)]
theorem let_part {l : List UInt8} (hp : letOk l = true) {x : ByteArray} (hx : x.data.toList = l) : IsPart l 0 0 x :=
  ⟨(rk_let hp).symm, by unfold numOf; rw [if_pos hp], by unfold wordOf; rw [if_pos hp, hx]⟩
set_option maxRecDepth 10000 in
set_option maxHeartbeats 1000000 in
theorem read_any (s : ByteArray) (hs : s.size ≤ 1000000) {w : World} (hD : Doors w) : Calls Tryz.prog 206 #[.string s] w (readPost s.data.toList w) := by
  obtain ⟨l, hl⟩ : ∃ l, l = s.data.toList := ⟨_, rfl⟩
  have hb1 : Below w.heap.size w (w.alloc (.cells #[.int .i64 0, .int .i64 0, .string ⟨#[]⟩] 241)) := below_alloc1 _ _
  have hr1 : (w.alloc (.cells #[.int .i64 0, .int .i64 0, .string ⟨#[]⟩] 241)).heap[w.heap.size]? = some (.cells #[.int .i64 0, .int .i64 0, .string ⟨#[]⟩] 241 (0, 0)) := heap_new_at rfl
  have hA := atoi_any s (by omega) (hD.below hb1)
  have hln : l.length = s.size := by rw [hl]; exact Txt.len s
  rw [← hl] at hA ⊢
  have Hl := Lib.hid hl; have Hb1 := Lib.hid hb1; have Hr1 := Lib.hid hr1; have HA := Lib.hid hA; have Hln := Lib.hid hln; clear hl hb1 hr1 hA hln
  go_enter Tryz.func206, Tryz.ntmps206
  go_wp2_with fail
  refine HA.out.mono ?_
  rintro e w2 ⟨⟨v, hv, rfl⟩ | ⟨hv, v, N, rfl⟩, hb2⟩
  · have hp := read_num hv
    have hrow := heap_below hb2 Hr1.out
    have hb := Hb1.out.trans (hb2.mono Hb1.out.size)
    have hbd := atoiAll_bounds hv
    obtain ⟨c0, c1, c2, f0, f1, f2⟩ := trip_cells hrow
    have hnum := num_part hv
    by_cases h0 : 0 ≤ v
    · by_cases h9 : v ≤ 999999999
      · have k1 : decide (0 ≤ v) = true := decide_eq_true h0
        have k2 : decide (v ≤ 999999999) = true := decide_eq_true h9
        have hI := itoa_any v (by omega) (by omega) (hD.below hb)
        have hpb : (itoa v == s.toList) = partL l := by
          rw [hp, decide_eq_true h0, decide_eq_true h9, toList_data, ← Hl.out]
          simp only [Bool.and_self, Bool.true_and]
          by_cases h : itoa v = l
          · rw [h]; simp
          · rw [decide_eq_false h]; exact beq_eq_false_iff_ne.2 h
        have Hp := Lib.hid hp; have Hv := Lib.hid hv; have Hrow := Lib.hid hrow; have Hb := Lib.hid hb; have Hbd := Lib.hid hbd; have Hnum := Lib.hid hnum; have HI := Lib.hid hI; have Hpb := Lib.hid hpb; have H0 := Lib.hid h0; have H9 := Lib.hid h9; have HD := Lib.hid hD; have Hs := Lib.hid hs; clear hp hv hrow hb hbd hnum hI hpb h0 h9 hD hs
        clear c0 c1 c2 f0 f1 f2 hb2
        go_wp2_with fail
        refine HI.out.mono ?_
        rintro e w3 ⟨rfl, hb3⟩
        have hrow3 := heap_below hb3 Hrow.out
        obtain ⟨c0, c1, c2, f0, f1, f2⟩ := trip_cells hrow3
        have hbw := Hb.out.trans (hb3.mono Hb.out.size)
        have Hrow3 := Lib.hid hrow3; have Hbw := Lib.hid hbw; have Hb3 := Lib.hid hb3; clear hrow3 hbw hb3
        go_wp2_with fail
        refine bodyPost_part rfl rfl rfl (trip_set _ _ _ Hrow3.out) rfl ?_
        exact ⟨⟨_, _, _, ret_two Hpb.out, Hnum.out⟩, trip_bel _ _ _ Hbw.out (Nat.le_refl _)⟩
      · have k1 : decide (0 ≤ v) = true := decide_eq_true h0
        have k2 : decide (v ≤ 999999999) = false := decide_eq_false h9
        have hpb : partL l = false := by rw [hp, decide_eq_false h9]; simp
        have Hp := Lib.hid hp; have Hv := Lib.hid hv; have Hrow := Lib.hid hrow; have Hb := Lib.hid hb; have Hbd := Lib.hid hbd; have Hnum := Lib.hid hnum; have Hpb := Lib.hid hpb; have H0 := Lib.hid h0; have H9 := Lib.hid h9; have HD := Lib.hid hD; have Hs := Lib.hid hs; clear hp hv hrow hb hbd hnum hpb h0 h9 hD hs
        go_wp2_with fail
        refine bodyPost_part rfl rfl rfl (trip_set _ _ _ Hrow.out) rfl ?_
        exact ⟨⟨_, _, _, ret_two Hpb.out.symm, Hnum.out⟩, trip_bel _ _ _ Hb.out (Nat.le_refl _)⟩
    · have k1 : decide (0 ≤ v) = false := decide_eq_false h0
      have hpb : partL l = false := by rw [hp, decide_eq_false h0]; simp
      have Hp := Lib.hid hp; have Hv := Lib.hid hv; have Hrow := Lib.hid hrow; have Hb := Lib.hid hb; have Hbd := Lib.hid hbd; have Hnum := Lib.hid hnum; have Hpb := Lib.hid hpb; have H0 := Lib.hid h0; have HD := Lib.hid hD; have Hs := Lib.hid hs; clear hp hv hrow hb hbd hnum hpb h0 hD hs
      go_wp2_with fail
      refine bodyPost_part rfl rfl rfl (trip_set _ _ _ Hrow.out) rfl ?_
      exact ⟨⟨_, _, _, ret_two Hpb.out.symm, Hnum.out⟩, trip_bel _ _ _ Hb.out (Nat.le_refl _)⟩
  · have hp := read_part hv
    have hrow := heap_below hb2 Hr1.out
    have hb := Hb1.out.trans (hb2.mono Hb1.out.size)
    obtain ⟨c0, c1, c2, f0, f1, f2⟩ := trip_cells hrow
    obtain ⟨sz, hsz⟩ : ∃ sz, sz = s.size := ⟨_, rfl⟩
    have Hp := Lib.hid hp; have Hv := Lib.hid hv; have Hrow := Lib.hid hrow; have Hb := Lib.hid hb; have HD := Lib.hid hD; clear hp hv hrow hb hD
    clear hb2
    go_wp2_with fail
    go_loop [6, 30] (fun _ i => ∃ k : Nat, k ≤ s.size ∧ i = .int .i64 k ∧ (l.take k).all isLet = true) (fun _ i => s.size - (RowKit.intOf i).toNat)
    case atStart => exact ⟨0, Nat.zero_le _, rfl, by simp⟩
    case round =>
      obtain ⟨k, hk, rfl, hall⟩ := hrel
      by_cases hlt : k < s.size
      · have hkl : k < l.length := by have := Hln.out; omega
        obtain ⟨n, hn⟩ : ∃ n, n = s[k].toNat := ⟨_, rfl⟩
        have hn256 : n < 256 := by rw [hn]; exact s[k].toNat_lt
        have hsk : s[k].toNat = n := hn.symm
        have e : l[k] = s[k] := by simp only [Hl.out]; rfl
        have hyes : 97 ≤ n → n ≤ 122 → (l.take (k + 1)).all isLet = true := fun h1 h2 => by
          rw [List.take_succ_eq_append_getElem hkl, List.all_append, hall]
          simp only [List.all_cons, List.all_nil, Bool.and_true, Bool.true_and]
          rw [isLet_iff, e, hsk]; exact ⟨h1, h2⟩
        have hno : ¬ (97 ≤ n ∧ n ≤ 122) → partL l = false := fun h => by
          rw [Hp.out, Bool.eq_false_iff]
          intro h2
          unfold letOk at h2
          rw [Bool.and_eq_true] at h2
          have := List.all_eq_true.1 h2.2 l[k] (List.getElem_mem hkl)
          rw [isLet_iff, e, hsk] at this
          exact h this
        clear hn e hkl
        rcases Nat.lt_or_ge n 97 with h1 | h1
        · have hf := hno (by omega)
          have k1 : decide ((n : Int) < 97) = true := decide_eq_true (by omega)
          have Hall := Lib.hid hall; have Hyes := Lib.hid hyes; have Hno := Lib.hid hno; have Hf := Lib.hid hf; clear hall hyes hno hf
          go_wp2_with fail
          refine bodyPost_part rfl rfl rfl (trip_set _ _ _ Hrow.out) rfl ?_
          exact ⟨⟨_, _, _, ret_two Hf.out.symm, fun h => by rw [Hf.out] at h; cases h⟩, trip_bel _ _ _ Hb.out (Nat.le_refl _)⟩
        · have k1 : decide ((n : Int) < 97) = false := decide_eq_false (by omega)
          rcases Nat.lt_or_ge 122 n with h2 | h2
          · have hf := hno (by omega)
            have k2 : decide (122 < (n : Int)) = true := decide_eq_true (by omega)
            have Hall := Lib.hid hall; have Hyes := Lib.hid hyes; have Hno := Lib.hid hno; have Hf := Lib.hid hf; clear hall hyes hno hf
            go_wp2_with fail
            refine bodyPost_part rfl rfl rfl (trip_set _ _ _ Hrow.out) rfl ?_
            exact ⟨⟨_, _, _, ret_two Hf.out.symm, fun h => by rw [Hf.out] at h; cases h⟩, trip_bel _ _ _ Hb.out (Nat.le_refl _)⟩
          · have k2 : decide (122 < (n : Int)) = false := decide_eq_false (by omega)
            have hnext := hyes h1 h2
            have Hall := Lib.hid hall; have Hyes := Lib.hid hyes; have Hno := Lib.hid hno; have Hnext := Lib.hid hnext; clear hall hyes hno hnext
            go_wp2_with fail
            go_round
            case rel => exact ⟨k + 1, by omega, by go_num, Hnext.out⟩
            case measure => simp [RowKit.intOf]; omega
      · obtain rfl : k = s.size := by omega
        have hall2 : l.all isLet = true := by rw [List.take_of_length_le (by have := Hln.out; omega)] at hall; exact hall
        have hf : partL l = !s.toList.isEmpty := by
          rw [Hp.out]
          unfold letOk
          rw [hall2, Bool.and_true, Txt.no_dec]
          have := Hln.out
          cases l with
          | nil => simp at this; rw [decide_eq_true (by omega)]; rfl
          | cons x r => simp at this; rw [decide_eq_false (by omega)]; rfl
        have hlp : partL l = true → IsPart l 0 0 s := fun h => let_part (by rw [← Hp.out]; exact h) Hl.out.symm
        have Hall := Lib.hid hall; have Hall2 := Lib.hid hall2; have Hf := Lib.hid hf; have Hlp := Lib.hid hlp; clear hall hall2 hf hlp
        go_wp2_with fail
        refine bodyPost_part rfl rfl rfl (trip_set _ _ _ Hrow.out) rfl ?_
        exact ⟨⟨_, _, _, ret_two Hf.out.symm, Hlp.out⟩, trip_bel _ _ _ Hb.out (Nat.le_refl _)⟩
end Go.Proofs.YteailgjiifdgcaaGreatDoor

/- A range over a function whose iterator turns a block of cells of its own between two rounds: its contract, and the law for the loop. No condition. -/
namespace Go.Proofs.YteailgjiifdgcaaGreatDoor
open Go.RowKit Go.Shelf

/-- what abides a store into block b -/
def Lets {β : Type} (b : Nat) (J : β → World → Prop) : Prop := ∀ s W (i : Nat) u, J s W → J s (W.setCell ⟨b, i, none⟩ u)
/-- the blocks of S are as they were -/
def KeepS (S : Nat → Prop) (W W' : World) : Prop := ∀ k, S k → W'.heap[k]? = W.heap[k]?
theorem KeepS.refl (S : Nat → Prop) (W : World) : KeepS S W W := fun _ _ => rfl
theorem KeepS.trans {S : Nat → Prop} {A B C : World} (h : KeepS S A B) (k : KeepS S B C) : KeepS S A C := fun i hi => (k i hi).trans (h i hi)
theorem KeepS.below {S : Nat → Prop} {W W' : World} (hS : ∀ k, S k → k < W.heap.size) (h : Below W.heap.size W W') : KeepS S W W' := fun k hk => h.block k (hS k hk)
theorem KeepS.put {S : Nat → Prop} {W : World} {l : Nat} (h : ¬ S l) (o : Obj) : KeepS S W (W.putObj l o) := fun k hk => World.putObj_heap_other (fun e => h (by rw [← e]; exact hk))
theorem KeepS.set {S : Nat → Prop} {W : World} {p : Addr} (h : ¬ S p.block) (u : Value) : KeepS S W (W.setCell p u) := fun k hk => Below.heap_setCell _ _ _ _ (fun e => h (by rw [← e]; exact hk))
/-- the iterator's contract: whatever the rounds carry that abides its own steps, all of it comes, or a part behind which a round said no -/
def SeqOwn {α : Type} (F : Fence) (n : Nat) (P : Program) (g : Nat) (lb : Array Value) (enc : α → Value) (K : Nat → Prop) (b : Nat) (Px : List α → α → Prop) (S Sp : List α → Prop) (w : World) : Prop :=
  ∀ (l : Nat) (J Jx : List α → World → Prop) (W : World), Below w.heap.size w W → AbidesFrom W.heap.size J → AbidesFrom W.heap.size Jx → Lets b J → Lets b Jx →
    (∀ pre x W1, J pre W1 → Px pre x → YieldAt F (n - 1) P l #[enc x] W1 fun e W' =>
      (e = .returned (.bool true) ∧ J (pre ++ [x]) W' ∧ KeepS K W1 W') ∨ (e = .returned (.bool false) ∧ Jx (pre ++ [x]) W')) →
    J [] W →
    CallsIn F n P g (#[.func (.yield l) #[] #[]] ++ lb) W fun e W' => (∃ v, e = .returned v) ∧ ((∃ xs, S xs ∧ J xs W') ∨ (∃ pre, Sp pre ∧ Jx pre W'))
/-- how a round's body is left: it goes on, or it returns -/
def ownEnd {α : Type} (B : Nat) (K : Nat → Prop) (I Ix : List α → World → Prop) (xs : List α) (W : World) : Exit → Act → World → Prop
  | .normal, _, W' => KeepsFrom B W W' ∧ KeepS K W W' ∧ I xs W'
  | .ret, _, W' => KeepsFrom B W W' ∧ Ix xs W'
  | _, _, _ => False
theorem heap_other {W : World} {k b i : Nat} {u : Value} {o : Obj} (h : W.heap[k]? = some o) (hne : k ≠ b) : (W.setCell ⟨b, i, none⟩ u).heap[k]? = some o :=
  (Below.heap_setCell _ _ _ _ hne).trans h
variable {F : Fence} {n : Nat} {P : Program}
/-- the loop: its record lies in a block of its own, and one more bears what the rounds put off -/
theorem wpIn_range_own {α : Type} {g : Operand} {ps : Array Tmp} {assign body : Code} {Q : Exit → Act → World → Prop} {a : Act} {w : World}
    (hro : F.round = none) (h1 : 1 ≤ n) {gf : Nat} {lb : Array Value} (hg : a.eval g = .func (.func gf) #[] lb) (hFg : F.fn gf) (eg : ∀ args w, (callFunc gf args).run P w = .ok (.enter gf args) w)
    {enc : α → Value} {Kb : Nat → Prop} {b : Nat} {Px : List α → α → Prop} {S Sp : List α → Prop} {w0 : World} (hseq : SeqOwn F (n - 1) P gf lb enc Kb b Px S Sp w0)
    (hKb : ∀ k, Kb k → k < w.heap.size) (hb : b < w.heap.size) (hb0 : Below w0.heap.size w0 w) (hps : ps.size = 1)
    (I Ix : List α → World → Prop) (hI : OwnFrom w.heap.size I) (hIx : OwnFrom w.heap.size Ix) (hIb : Lets b I) (hIxb : Lets b Ix) (h0 : I [] w) (a₁ : α → Act)
    (hassign : ∀ (l : Nat) (x : α) (W : World) (K : Act → World → Prop), K (a₁ x) W →
      assign.wpIn (F.inRound l) (n - 1 - 1) P (Exit.then K (fun _ _ _ => False)) { tmps := (ps.zip #[enc x]).foldl (fun t (p, v) => t.setIfInBounds p v) a.tmps, defers := [] } W)
    (hbody : ∀ (l : Nat) (pre : List α) (x : α) (W : World), I pre W → Px pre x → body.wpIn (F.inRound l) (n - 1 - 1) P (ownEnd w.heap.size Kb I Ix (pre ++ [x]) W) (a₁ x) W)
    (hdone : ∀ (D : Nat) (xs : List α) (W : World), w.heap.size ≤ D → S xs → I xs W → W.heap[D]? = some (.deferred (some [])) → Q .normal { a with defers := { target := .collected D, args := #[] } :: a.defers } W)
    (hstop : ∀ (D : Nat) (pre : List α) (W : World), w.heap.size ≤ D → Sp pre → Ix pre W → W.heap[D]? = some (.deferred (some [])) → Code.ret.wpIn F n P Q { a with defers := { target := .collected D, args := #[] } :: a.defers } W) :
    (Code.rangeFunc g ps assign body).wpIn F n P Q a w := by
  refine wpIn_rangeFunc fun fn hfn => ?_
  rw [hro]
  obtain ⟨rec, hrec⟩ : ∃ rec : LoopState → Option Code → Loop, rec = fun st pe => { state := st, pending := pe, fn, tmps := a.tmps, params := ps, assign, body, defers := w.heap.size } := ⟨_, rfl⟩
  obtain ⟨W1, hW1⟩ : ∃ W1, (w.alloc (.deferred (some []))).alloc (.loop (rec .ready none)) = W1 := ⟨_, rfl⟩
  have hL1 : W1.heap[w.heap.size + 1]? = some (.loop (rec .ready none)) := by
    rw [← hW1]
    have := World.alloc_heap_new (w.alloc (.deferred (some []))) (.loop (rec .ready none))
    rwa [World.size_alloc] at this
  have hK1 : W1.heap[w.heap.size]? = some (.deferred (some [])) := by
    rw [← hW1]
    exact (Below.heap_alloc _ _ _ (by simp)).trans (World.alloc_heap_new w _)
  have hI1 : I [] W1 := by rw [← hW1]; exact hI.alloc _ (hI.alloc _ h0)
  have hs1 : W1.heap.size = w.heap.size + 2 := by rw [← hW1]; simp
  have hb1 : Below w0.heap.size w0 W1 := by
    rw [← hW1]
    exact hb0.trans ((((Below.refl _ w).alloc (Nat.le_refl _) _).alloc (by simp) _).mono hb0.size)
  refine ⟨w.heap.size + 1, [{ target := .collected w.heap.size, args := #[] }], W1, { target := .fn (.func gf) lb, args := #[.func (.yield (w.heap.size + 1)) #[] #[]] }, W1, gf,
    #[.func (.yield (w.heap.size + 1)) #[] #[]] ++ lb, W1, ?_, ?_, ?_, ?_, fun _ => h1, ?_⟩
  · rw [← hW1, hrec]; exact run_enterLoop_outer _ _ _ _ _
  · simp only [resolve, hg]
    simp [go_sem]
  · intro f' hf'
    simp [Target.leads] at hf'
    subst hf'
    exact hFg
  · simp [invoke, go_sem, eg]
  · -- the record and the block of what is put off lie as they lay, whatever the iterator does
    have kp : ∀ {A B : World} {row : Option Nat} {k : Nat} {o : Obj}, A.grownBy B row → (∀ r, row = some r → W1.heap.size ≤ r ∧ ∃ o : Obj, A.heap[r]? = some o ∧ o.isWalk = true) → k < W1.heap.size → A.heap[k]? = some o → B.heap[k]? = some o := fun hg' hr hk ho =>
      (hg'.block _ (Array.getElem?_eq_some_iff.1 ho).1 (fun e => by have := (hr _ e.symm).1; omega)).trans ho
    have nw : ∀ {A : World} {row : Option Nat}, (∀ r, row = some r → W1.heap.size ≤ r ∧ ∃ o : Obj, A.heap[r]? = some o ∧ o.isWalk = true) → (∀ r, row = some r → w.heap.size ≤ r ∧ ∃ o : Obj, A.heap[r]? = some o ∧ o.isCells = false) := fun hr r e => by
      obtain ⟨h2, o, h3, h4⟩ := hr r e
      exact ⟨by omega, o, h3, Obj.not_cells_of_walk h4⟩
    refine (hseq (w.heap.size + 1)
      (fun pre W => I pre W ∧ W.heap[w.heap.size + 1]? = some (.loop (rec .ready none)) ∧ W.heap[w.heap.size]? = some (.deferred (some [])))
      (fun pre W => Ix pre W ∧ W.heap[w.heap.size + 1]? = some (.loop (rec .done (some .ret))) ∧ W.heap[w.heap.size]? = some (.deferred (some [])))
      W1 hb1
      (fun s A B row hs hg' hr => ⟨hI s A B row hs.1 hg' (nw hr), kp hg' hr (by omega) hs.2.1, kp hg' hr (by omega) hs.2.2⟩)
      (fun s A B row hs hg' hr => ⟨hIx s A B row hs.1 hg' (nw hr), kp hg' hr (by omega) hs.2.1, kp hg' hr (by omega) hs.2.2⟩)
      (fun s W i u hs => ⟨hIb s W i u hs.1, heap_other hs.2.1 (by omega), heap_other hs.2.2 (by omega)⟩)
      (fun s W i u hs => ⟨hIxb s W i u hs.1, heap_other hs.2.1 (by omega), heap_other hs.2.2 (by omega)⟩)
      ?_ ⟨hI1, hL1, hK1⟩).mono ?_
    · -- one round
      rintro pre x W ⟨hi, hl, hk⟩ hpx
      have hlt : w.heap.size + 1 < W.heap.size := (Array.getElem?_eq_some_iff.1 hl).1
      have hy := run_yield (P := P) (args := #[enc x]) hl (by rw [hrec]; exact hps.symm)
      rw [hrec] at hy
      refine ⟨fn, _, assign, body, hy, roundIn_of_wpIn hfn (hassign _ x W _ ?_)⟩
      clear hy
      refine ⟨_, run_beginRound hl (by rw [hrec]), ?_⟩
      obtain ⟨W2, hW2⟩ : ∃ W2, W2 = W.putObj (w.heap.size + 1) (.loop { rec .ready none with state := .busy }) := ⟨_, rfl⟩
      rw [← hW2]
      have hl2 : W2.heap[w.heap.size + 1]? = some (.loop { rec .ready none with state := .busy }) := by rw [hW2]; exact World.putObj_heap_same hlt
      have hk2 : W2.heap[w.heap.size]? = some (.deferred (some [])) := by rw [hW2]; exact (World.putObj_heap_other (by omega)).trans hk
      have hne : ¬ Kb (w.heap.size + 1) := fun h => by have := hKb _ h; omega
      have hw2 : KeepS Kb W W2 := by rw [hW2]; exact KeepS.put hne _
      have hi2 : I pre W2 := by rw [hW2]; exact hI.putObj _ hi (by omega) hl rfl
      refine wpIn_mono (hbody _ pre x W2 hi2 hpx) ?_
      have fin : ∀ (jump : Option Code) (W3 : World), KeepsFrom w.heap.size W2 W3 →
          ∃ W4, W4 = W3.putObj (w.heap.size + 1) (.loop (rec (if jump.isNone then .ready else .done) jump)) ∧ (Instr.endRound (w.heap.size + 1) jump).run P W3 = .ok (.bool jump.isNone) W4 ∧
          W3.heap[w.heap.size + 1]? = some (.loop { rec .ready none with state := .busy }) ∧
          W4.heap[w.heap.size + 1]? = some (.loop (rec (if jump.isNone then .ready else .done) jump)) ∧ W4.heap[w.heap.size]? = some (.deferred (some [])) := fun jump W3 hk3 => by
        have hl3 := hk3.same _ _ (by omega) hl2 rfl
        have hr := run_endRound (P := P) jump hl3
        refine ⟨_, rfl, ?_, hl3, World.putObj_heap_same (Array.getElem?_eq_some_iff.1 hl3).1, (World.putObj_heap_other (by omega)).trans (hk3.same _ _ (Nat.le_refl _) hk2 rfl)⟩
        rw [hrec] at hr ⊢
        exact hr
      rintro e a3 W3 hp
      cases e with
      | normal =>
        obtain ⟨hk3, hkp3, hi3⟩ := hp
        obtain ⟨W4, e4, hr, hl3, hl4, hk4⟩ := fin none W3 hk3
        refine ⟨_, _, hr, .inl ⟨rfl, ⟨?_, hl4, hk4⟩, ?_⟩⟩
        · rw [e4]; exact hI.putObj _ hi3 (by omega) hl3 rfl
        · rw [e4]; exact (hw2.trans hkp3).trans (KeepS.put hne _)
      | ret =>
        obtain ⟨hk3, hi3⟩ := hp
        obtain ⟨W4, e4, hr, hl3, hl4, hk4⟩ := fin (some .ret) W3 hk3
        refine ⟨_, _, hr, .inr ⟨rfl, ?_, hl4, hk4⟩⟩
        rw [e4]; exact hIx.putObj _ hi3 (by omega) hl3 rfl
      | exit id => exact hp.elim
      | goto t => exact hp.elim
      | panic ch => exact hp.elim
      | outgrown => exact hp.elim
    · -- behind the iterator
      rintro e W2 ⟨⟨v, rfl⟩, (⟨xs, hS, hi, hl, hk⟩ | ⟨pre, hSp, hi, hl, hk⟩)⟩
      · have hr := run_endLoop (P := P) hl (by rw [hrec]; simp)
        rw [hrec] at hr
        exact ⟨none, _, hr, hdone _ xs _ (Nat.le_refl _) hS (hI.putObj _ hi (by omega) hl rfl) ((World.putObj_heap_other (by omega)).trans hk)⟩
      · have hr := run_endLoop (P := P) hl (by rw [hrec]; simp)
        rw [hrec] at hr
        exact ⟨some .ret, _, hr, hstop _ pre _ (Nat.le_refl _) hSp (hIx.putObj _ hi (by omega) hl rfl) ((World.putObj_heap_other (by omega)).trans hk)⟩
end Go.Proofs.YteailgjiifdgcaaGreatDoor

/- The walk of strings.SplitSeq at a separator of one byte: what the iterator hands over. Condition: a text of at most a million bytes. -/
namespace Go.Proofs.YteailgjiifdgcaaGreatDoor
open Go.RowKit Go.Shelf Go.Lib VerN

attribute [local go_sem] Oper.semAt_some

/-- the iterator's three boxes: what is left of the text, the separator, how much of it is kept -/
structure SBox (Bs Bp Bv : Nat) (c : UInt8) (r : ByteArray) (W : World) : Prop where
  s : W.heap[Bs]? = some (.cells #[.string r] 9 (0, 0))
  p : W.heap[Bp]? = some (.cells #[.string ⟨#[c]⟩] 9 (0, 0))
  v : W.heap[Bv]? = some (.cells #[.int .i64 0] 3 (0, 0))
theorem SBox.below {Bs Bp Bv n₀ : Nat} {c : UInt8} {r : ByteArray} {W W' : World} (h : SBox Bs Bp Bv c r W) (hb : Below n₀ W W') (h1 : Bs < n₀) (h2 : Bp < n₀) (h3 : Bv < n₀) : SBox Bs Bp Bv c r W' :=
  ⟨(hb.block _ h1).trans h.s, (hb.block _ h2).trans h.p, (hb.block _ h3).trans h.v⟩
abbrev Three (Bs Bp Bv : Nat) (k : Nat) : Prop := k = Bs ∨ k = Bp ∨ k = Bv
theorem SBox.keeps {Bs Bp Bv : Nat} {c : UInt8} {r : ByteArray} {W W' : World} (h : SBox Bs Bp Bv c r W) (hk : KeepS (Three Bs Bp Bv) W W') : SBox Bs Bp Bv c r W' :=
  ⟨(hk _ (.inl rfl)).trans h.s, (hk _ (.inr (.inl rfl))).trans h.p, (hk _ (.inr (.inr rfl))).trans h.v⟩
theorem SBox.set {Bs Bp Bv : Nat} {c : UInt8} {r : ByteArray} {W : World} (h : SBox Bs Bp Bv c r W) (hp : Bp ≠ Bs) (hv : Bv ≠ Bs) (r' : ByteArray) : SBox Bs Bp Bv c r' (W.setCell ⟨Bs, 0, none⟩ (.string r')) :=
  ⟨heap_setCell_same _ Bs 0 _ _ _ h.s, heap_other h.p hp, heap_other h.v hv⟩
theorem SBox.cells {Bs Bp Bv : Nat} {c : UInt8} {r : ByteArray} {W : World} (h : SBox Bs Bp Bv c r W) :
    W.cell? ⟨Bs, 0, none⟩ = some (.string r) ∧ W.cell? ⟨Bp, 0, none⟩ = some (.string ⟨#[c]⟩) ∧ W.cell? ⟨Bv, 0, none⟩ = some (.int .i64 0) ∧ W.frozen? ⟨Bs, 0, none⟩ = false :=
  ⟨cells_at h.s 0, cells_at h.p 0, cells_at h.v 0, frozen_at h.s 0⟩
/-- how much is left -/
def left (Bs : Nat) (W : World) : Nat := match W.cell? ⟨Bs, 0, none⟩ with
  | some (.string r) => r.size
  | _ => 0
theorem left_is {Bs Bp Bv : Nat} {c : UInt8} {r : ByteArray} {W : World} (h : SBox Bs Bp Bv c r W) : left Bs W = r.size := by unfold left; rw [h.cells.1]
theorem pre_snoc {pre zs rest : List ByteArray} {x : ByteArray} (h : zs = pre ++ x :: rest) : pre ++ [x] <+: zs := ⟨rest, by rw [h]; simp⟩
set_option maxRecDepth 100000 in
set_option maxHeartbeats 2000000 in
theorem split_stops (n : Nat) (hn : 1 ≤ n) (Bs Bp Bv : Nat) (c : UInt8) (s : ByteArray) (hs : s.size ≤ 1000000) (w : World) (h1 : Bs < w.heap.size) (h2 : Bp < w.heap.size) (h3 : Bv < w.heap.size) (hp : Bp ≠ Bs) (hv : Bv ≠ Bs) (hb : SBox Bs Bp Bv c s w) :
    SeqOwn Fence.wide n Tryz.prog 167 #[.pointer (some ⟨Bp, 0, none⟩), .pointer (some ⟨Bs, 0, none⟩), .pointer (some ⟨Bv, 0, none⟩)] (fun x : ByteArray => Value.string x) (Three Bs Bp Bv) Bs (fun pre x => x.size ≤ s.size ∧ pre ++ [x] <+: cutS c s) (fun ys => ys = cutS c s) (fun pre => pre <+: cutS c s) w := by
  intro l J Jx W hW hJ hJx hL hLx hY h0
  obtain ⟨zs, hzs⟩ : ∃ zs, zs = cutS c s := ⟨_, rfl⟩
  rw [← hzs]
  have hb0 : SBox Bs Bp Bv c s W := hb.below hW h1 h2 h3
  obtain ⟨d1, d2, d3, d4⟩ := hb0.cells
  have hc1 : ((1 : Int) == 0) = false := rfl
  have Hzs := Lib.hid hzs; have Hb := Lib.hid hb; have Hb0 := Lib.hid hb0; have HW := Lib.hid hW; have HJ := Lib.hid hJ; have HJx := Lib.hid hJx; have HL := Lib.hid hL; have HLx := Lib.hid hLx; clear hzs hb hb0 hW hJ hJx hL hLx
  refine callsIn_of_wp Tryz.func167 rfl trivial ?_ rfl
  simp only [Tryz.ntmps167, List.size_toArray, List.length_cons, List.length_nil, Nat.reduceAdd, Nat.reduceSub, Array.replicate_succ, Array.replicate_zero, List.push_toArray, List.append_toArray, List.nil_append, List.cons_append]
  gi_wp2
  gi_loopw [7, 8] (fun _ _ wr => ∃ (pre : List ByteArray) (r : ByteArray), zs = pre ++ cutS c r ∧ SBox Bs Bp Bv c r wr ∧ J pre wr ∧ r.size ≤ s.size) (fun _ _ wr => left Bs wr)
  case atStart => exact ⟨[], s, Hzs.out, Hb0.out, h0, Nat.le_refl _⟩
  case round =>
    obtain ⟨pre, r, hz, hbx, hJs, hr⟩ := hrel
    obtain ⟨d1, d2, d3, d4⟩ := hbx.cells
    have hl := left_is hbx
    have hI := Tryz.strings_Index_one r c wr
    obtain ⟨v, hvd⟩ : ∃ v, v = indexByte r.data.toList c := ⟨_, rfl⟩
    rw [← hvd] at hI
    by_cases hm : v = -1
    · have hzz : zs = pre ++ [r] := by rw [hz, cutS_miss (by rw [← hvd, hm])]
      obtain ⟨fn, tmps, assign, body, hy, hR⟩ := hY pre r wr hJs ⟨hr, by rw [← Hzs.out, hzz]; exact List.prefix_refl _⟩
      have k1 : decide (v < 0) = true := decide_eq_true (by omega)
      have Hz := Lib.hid hz; have Hzz := Lib.hid hzz; have Hbx := Lib.hid hbx; have HJs := Lib.hid hJs; have Hr := Lib.hid hr; have Hl := Lib.hid hl; have Hvd := Lib.hid hvd; have HI := Lib.hid hI; have Hm := Lib.hid hm; clear hz hzz hbx hJs hr hl hvd hI hm
      gi_wp2
      refine ⟨trivial, (callsIn_wide.2 HI.out).mono ?_⟩
      rintro e w2 ⟨rfl, rfl⟩
      gi_wp2
      refine hR.mono ?_
      rintro e W3 (⟨rfl, hJ3, hk3⟩ | ⟨rfl, hJx3⟩)
      · gi_wp2
        go_end0
        exact ⟨⟨_, rfl⟩, .inl ⟨_, Hzz.out.symm, hJ3⟩⟩
      · gi_wp2
        go_end0
        exact ⟨⟨_, rfl⟩, .inr ⟨_, by rw [Hzz.out]; exact List.prefix_refl _, hJx3⟩⟩
    · obtain ⟨i, hi⟩ : ∃ i : Nat, v = i := ⟨v.toNat, by have := indexByte_ge r.data.toList c; omega⟩
      subst hi
      have hlt := index_lt hvd.symm
      rw [Txt.len] at hlt
      have hz2 : zs = pre ++ r.extract 0 i :: cutS c (r.extract (i + 1) r.size) := by rw [hz, cutS_hit hvd.symm]
      obtain ⟨fn, tmps, assign, body, hy, hR⟩ := hY pre (r.extract 0 i) wr hJs ⟨by simp; omega, by rw [← Hzs.out]; exact pre_snoc hz2⟩
      have k1 : decide ((i : Int) < 0) = false := decide_eq_false (by omega)
      have k2 : (i : Int) ≤ (r.size : Int) := by omega
      have hsz : (r.extract (i + 1) r.size).size = r.size - (i + 1) := by simp
      have Hz := Lib.hid hz; have Hz2 := Lib.hid hz2; have Hbx := Lib.hid hbx; have HJs := Lib.hid hJs; have Hl := Lib.hid hl; have Hvd := Lib.hid hvd; have HI := Lib.hid hI; have Hm := Lib.hid hm; have Hsz := Lib.hid hsz; clear hz hz2 hbx hJs hl hvd hI hm hsz
      gi_wp2
      refine ⟨trivial, (callsIn_wide.2 HI.out).mono ?_⟩
      rintro e w2 ⟨rfl, rfl⟩
      gi_wp2
      refine hR.mono ?_
      rintro e W3 (⟨rfl, hJ3, hk3⟩ | ⟨rfl, hJx3⟩)
      · have hb3 := Hbx.out.keeps hk3
        obtain ⟨d1, d2, d3, d4⟩ := hb3.cells
        have Hb3 := Lib.hid hb3; have HJ3 := Lib.hid hJ3; have Hk3 := Lib.hid hk3; clear hb3 hJ3 hk3
        gi_wp2
        go_roundw
        case rel => exact ⟨pre ++ [r.extract 0 i], r.extract (i + 1) r.size, by rw [Hz2.out]; simp, Hb3.out.set hp hv _, HL.out _ _ 0 _ HJ3.out, by rw [Hsz.out]; omega⟩
        case measure => rw [left_is (Hb3.out.set hp hv _), Hl.out, Hsz.out]; omega
      · gi_wp2
        refine bodyPost_ret (results_none rfl _ _ _) rfl ?_
        exact ⟨⟨_, rfl⟩, .inr ⟨_, pre_snoc Hz2.out, hJx3⟩⟩
end Go.Proofs.YteailgjiifdgcaaGreatDoor

/- A return whose two results lie in boxes of one cell each. No condition. -/
namespace Go.Proofs.YteailgjiifdgcaaGreatDoor
open Go.RowKit

theorem results_cells {P : Program} {fn : Func} {p q : Tmp} {ty tz : TypeId} (h : fn.results = #[.cell p ty, .cell q tz]) {tmps : Array Value} {w : World} {a b : Nat} {x y : Value} {ex ey : TypeId}
    (hp : tmps.getD p undef = .pointer (some ⟨a, 0, none⟩)) (hq : tmps.getD q undef = .pointer (some ⟨b, 0, none⟩))
    (hx : w.heap[a]? = some (.cells #[x] ex (0, 0))) (hy : w.heap[b]? = some (.cells #[y] ey (0, 0)))
    (ax : (isAgg ty).run P w = .ok false w) (ay : (isAgg tz).run P w = .ok false w) :
    (results fn tmps).run P w = .ok (.tuple #[x, y]) w := by
  have cx : w.cell? ⟨a, 0, none⟩ = some x := cells_at hx 0
  have cy : w.cell? ⟨b, 0, none⟩ = some y := cells_at hy 0
  have hp' : tmps[p]?.getD undef = .pointer (some ⟨a, 0, none⟩) := by simpa using hp
  have hq' : tmps[q]?.getD undef = .pointer (some ⟨b, 0, none⟩) := by simpa using hq
  simp only [results, h]
  simp [Sem.run_bind, Result.andThen, go_sem, hp', hq', ax, ay, cx, cy]
end Go.Proofs.YteailgjiifdgcaaGreatDoor

/- The walk of version.parts: a version's parts, or that it is none. Condition: the library's variables as they were laid. -/
namespace Go.Proofs.YteailgjiifdgcaaGreatDoor
open Go.RowKit Go.Shelf Go.Lib VerN

attribute [local go_sem] Oper.semAt_some

abbrev fSplit : Nat := 167
/-- a part's three cells -/
def partCells (l : List UInt8) : List Value := [.int .i64 (rankOf l), .int .i64 (numOf l), .string ⟨(wordOf l).toArray⟩]
def partsCells (ps : List (List UInt8)) : List Value := ps.flatMap partCells
theorem partsCells_len (ps : List (List UInt8)) : (partsCells ps).length = ps.length * 3 := by
  induction ps with
  | nil => rfl
  | cons x r ih => simp only [partsCells, List.flatMap_cons, List.length_append, List.length_cons] at ih ⊢; rw [ih]; simp [partCells]; omega
theorem partsCells_snoc (ps : List (List UInt8)) (l : List UInt8) : partsCells (ps ++ [l]) = partsCells ps ++ partCells l := by simp [partsCells]
theorem part_cells {l : List UInt8} {r m : Int} {x : ByteArray} (h : IsPart l r m x) : partCells l = [.int .i64 r, .int .i64 m, .string x] := by
  obtain ⟨rfl, rfl, h⟩ := h
  unfold partCells
  rw [← h]
set_option maxRecDepth 10000 in
theorem splitSeq_any (s : ByteArray) (c : UInt8) (w : World) : Calls Tryz.prog 52 #[.string s, .string ⟨#[c]⟩] w fun e w' =>
    e = .returned (.func (.func fSplit) #[] #[.pointer (some ⟨w.heap.size + 1, 0, none⟩), .pointer (some ⟨w.heap.size, 0, none⟩), .pointer (some ⟨w.heap.size + 1 + 1, 0, none⟩)]) ∧
    w' = ((w.alloc (.cells #[.string s] 9)).alloc (.cells #[.string ⟨#[c]⟩] 9)).alloc (.cells #[.int .i64 0] 3) := by
  go_enter Tryz.func52, Tryz.ntmps52
  go_wp2
  go_ret
  exact ⟨rfl, rfl⟩
/-- between two rounds -/
structure PI (w W : World) (pre : List ByteArray) : Prop where
  bel : Below w.heap.size w W
  r2 : W.heap[w.heap.size]? = some (.cells #[.slice none 0 0] 224 (0, 0))
  r3 : W.heap[w.heap.size + 1]? = some (.cells #[.bool false] 4 (0, 0))
  out : ∃ v, W.heap[w.heap.size + 1 + 1]? = some (.cells #[v] 224 (0, 0)) ∧ W.ownsRow (w.heap.size + 6) 241 3 v pre.length (partsCells (pre.map (·.data.toList)))
  ok : ∀ p ∈ pre, partL p.data.toList = true
  len : pre.length ≤ 8
/-- behind a round that told that it is no version -/
structure PX (w W : World) (pre : List ByteArray) : Prop where
  bel : Below w.heap.size w W
  r2 : W.heap[w.heap.size]? = some (.cells #[.slice none 0 0] 224 (0, 0))
  r3 : W.heap[w.heap.size + 1]? = some (.cells #[.bool false] 4 (0, 0))
  bad : (∃ p ∈ pre, partL p.data.toList = false) ∨ 8 < pre.length
theorem heap_kept {W W' : World} {row : Option Nat} {k : Nat} {o : Obj} {B : Nat} (hg : W.grownBy W' row) (hr : ∀ r, row = some r → B ≤ r) (hk : k < B) (h : W.heap[k]? = some o) : W'.heap[k]? = some o :=
  (hg.block k (Array.getElem?_eq_some_iff.1 h).1 (fun e => by have := hr k e.symm; omega)).trans h
theorem ownFrom_size {B : Nat} (m : Nat) : OwnFrom B (fun (_ : List ByteArray) W => m ≤ W.heap.size) := fun _ _ _ _ h hg _ => Nat.le_trans h hg.size
theorem PI.own {w : World} {B : Nat} (hB : w.heap.size + 6 ≤ B) : OwnFrom B (fun (pre : List ByteArray) W => PI w W pre) := by
  rintro pre W W' row h hg hr
  have hr' : ∀ r, row = some r → B ≤ r := fun r e => (hr r e).1
  obtain ⟨v, hv, hrow⟩ := h.out
  refine ⟨h.bel.grown hg h.bel.size (fun k e => by have := hr' k e; omega), heap_kept hg hr' (by omega) h.r2, heap_kept hg hr' (by omega) h.r3, ⟨v, heap_kept hg hr' (by omega) hv, hrow.kept hg ?_⟩, h.ok, h.len⟩
  rcases hrow.2 with ⟨rfl, _⟩ | ⟨g, cap, cur, rfl, _, hgb, _⟩
  · exact .inl rfl
  · refine .inr fun e' => ?_
    obtain ⟨_, o, ho, hc⟩ := hr g (by simpa [Value.ownBlock] using e'.symm)
    rw [hgb] at ho
    cases ho
    cases hc
theorem PX.own {w : World} {B : Nat} (hB : w.heap.size + 6 ≤ B) : OwnFrom B (fun (pre : List ByteArray) W => PX w W pre) := by
  rintro pre W W' row h hg hr
  have hr' : ∀ r, row = some r → B ≤ r := fun r e => (hr r e).1
  exact ⟨h.bel.grown hg h.bel.size (fun k e => by have := hr' k e; omega), heap_kept hg hr' (by omega) h.r2, heap_kept hg hr' (by omega) h.r3, h.bad⟩
theorem own_set {W : World} {B : Nat} {e : TypeId} {size : Nat} {v : Value} {n : Nat} {xs : List Value} (h : W.ownsRow B e size v n xs) {p : Nat} (hp : p < B) (i : Nat) (u : Value) : (W.setCell ⟨p, i, none⟩ u).ownsRow B e size v n xs := by
  refine h.kept (row := some p) ⟨rfl, rfl, rfl, by simp [World.setCell], fun k _ hk => Below.heap_setCell _ _ _ _ (fun e => hk (by rw [e]))⟩ ?_
  rcases h.2 with ⟨rfl, _⟩ | ⟨g, cap, cur, rfl, hg, _⟩
  · exact .inl rfl
  · exact .inr fun e' => by simp [Value.ownBlock] at e'; omega
theorem PI.lets (w : World) : Lets (w.heap.size + 1 + 1 + 1) (fun (pre : List ByteArray) W => PI w W pre) := by
  rintro pre W i u h
  obtain ⟨v, hv, hrow⟩ := h.out
  exact ⟨h.bel.setCell (p := ⟨w.heap.size + 1 + 1 + 1, i, none⟩) (by show w.heap.size ≤ w.heap.size + 1 + 1 + 1; omega) _, heap_other h.r2 (by omega), heap_other h.r3 (by omega), ⟨v, heap_other hv (by omega), own_set hrow (by omega) i u⟩, h.ok, h.len⟩
theorem PX.lets (w : World) : Lets (w.heap.size + 1 + 1 + 1) (fun (pre : List ByteArray) W => PX w W pre) := by
  rintro pre W i u h
  exact ⟨h.bel.setCell (p := ⟨w.heap.size + 1 + 1 + 1, i, none⟩) (by show w.heap.size ≤ w.heap.size + 1 + 1 + 1; omega) _, heap_other h.r2 (by omega), heap_other h.r3 (by omega), h.bad⟩
abbrev sb (w : World) : Nat → Prop := Three (w.heap.size + 1 + 1 + 1) (w.heap.size + 1 + 1 + 1 + 1) (w.heap.size + 1 + 1 + 1 + 1 + 1)
theorem keepsFrom_below {B : Nat} {W W' : World} (h : Below W.heap.size W W') : KeepsFrom B W W' := ⟨h.size, fun k o _ hk _ => heap_below h hk⟩
theorem PI.size {w W : World} {pre : List ByteArray} (h : PI w W pre) (hs : w.heap.size + 6 ≤ W.heap.size) : ∀ k, sb w k → k < W.heap.size := by
  rintro k (rfl | rfl | rfl) <;> omega
theorem lit3 (w : World) (x y z : Value) (t : TypeId) {n : Nat} (hn : w.heap.size = n) : ∀ j u, [x, y, z][j]? = some u → (w.alloc (.cells #[x, y, z] t)).cell? ((⟨n, 0, none⟩ : Addr).add j) = some u := by
  intro j u hu
  subst hn
  rw [Addr.add_lit, Nat.zero_add, World.cell?_alloc_new]
  simpa using hu
/-- a part that is added -/
theorem PI.add {w W W3 w1 : World} {pre : List ByteArray} {x : ByteArray} {tmp : Obj} {B : Nat} (h : PI w W pre) (hs : w.heap.size + 6 ≤ W.heap.size) (hb : Below W.heap.size W W3) {v v' : Value}
    (hv : W.heap[w.heap.size + 1 + 1]? = some (.cells #[v] 224 (0, 0))) (hrow : W.ownsRow (w.heap.size + 6) 241 3 v pre.length (partsCells (pre.map (·.data.toList))))
    (hown : w1.ownsRow (w.heap.size + 6) 241 3 v' (pre.length + 1) (partsCells (pre.map (·.data.toList)) ++ partCells x.data.toList)) (hg : (W3.alloc tmp).grownBy w1 v.ownBlock) (hx : partL x.data.toList = true) (h8 : pre.length ≠ 8) :
    KeepsFrom B W (w1.setCell ⟨w.heap.size + 1 + 1, 0, none⟩ v') ∧ KeepS (sb w) W (w1.setCell ⟨w.heap.size + 1 + 1, 0, none⟩ v') ∧ PI w (w1.setCell ⟨w.heap.size + 1 + 1, 0, none⟩ v') (pre ++ [x]) ∧ w1.heap[w.heap.size + 1 + 1]? = some (.cells #[v] 224 (0, 0)) ∧ w.heap.size + 6 ≤ (w1.setCell ⟨w.heap.size + 1 + 1, 0, none⟩ v').heap.size := by
  have hb3 : Below W.heap.size W (W3.alloc tmp) := hb.alloc hb.size _
  have hrow3 : (W3.alloc tmp).ownsRow (w.heap.size + 6) 241 3 v pre.length (partsCells (pre.map (·.data.toList))) := ownsRow_below hrow hb3
  have old : ∀ {k : Nat} {o : Obj}, k < w.heap.size + 6 → W.heap[k]? = some o → w1.heap[k]? = some o := fun {k o} hk ho =>
    (hg.block k (by have := hb3.size; have := (Array.getElem?_eq_some_iff.1 ho).1; omega) (fun e => by have := (hrow3.lt k e.symm).1; omega)).trans (heap_below hb3 ho)
  refine ⟨?_, ?_, ⟨?_, heap_other (old (by omega) h.r2) (by omega), heap_other (old (by omega) h.r3) (by omega), ⟨v', heap_setCell_same _ _ 0 _ _ _ (old (by omega) hv), ?_⟩, ?_, ?_⟩, old (by omega) hv, by have := hg.size; have := hb3.size; simp [World.setCell]; omega⟩
  · have k1 : KeepsFrom B W (W3.alloc tmp) := keepsFrom_below hb3
    have k2 : KeepsFrom B (W3.alloc tmp) w1 := ⟨hg.size, fun k o _ hk hc => (hg.block k (Array.getElem?_eq_some_iff.1 hk).1 (fun e => by
      obtain ⟨cs, hcs⟩ := own_type hrow3 k e.symm
      rw [hcs] at hk
      cases hk
      cases hc)).trans hk⟩
    exact (k1.trans k2).trans ((KeepsOthers.setCell _ _ _).from B)
  · intro k hk
    have hlt := h.size hs k hk
    have hlt6 : k < w.heap.size + 6 := by rcases hk with rfl | rfl | rfl <;> omega
    have hne : k ≠ w.heap.size + 1 + 1 := by rcases hk with h | h | h <;> omega
    rw [Below.heap_setCell _ _ _ _ hne]
    cases ho : W.heap[k]? with
    | none => exact absurd ho (by rw [Array.getElem?_eq_getElem hlt]; simp)
    | some o => exact old hlt6 ho
  · exact ((h.bel.trans (hb3.mono h.bel.size)).grown hg (by have := hb3.size; have := h.bel.size; omega) (fun k e => by have := (hrow3.lt k e).1; omega)).setCell (p := ⟨w.heap.size + 1 + 1, 0, none⟩) (by show w.heap.size ≤ w.heap.size + 1 + 1; omega) _
  · rw [List.map_append, List.map_singleton, partsCells_snoc, List.length_append]
    exact own_set hown (by omega) 0 v'
  · intro p hp
    rcases List.mem_append.1 hp with hp | hp
    · exact h.ok p hp
    · rw [List.mem_singleton] at hp; subst hp; exact hx
  · have := h.len; rw [List.length_append, List.length_singleton]; omega
/-- a round that tells that it is no version -/
theorem PI.no {w W W3 : World} {pre : List ByteArray} {x : ByteArray} {B : Nat} (h : PI w W pre) (hs : w.heap.size + 6 ≤ W.heap.size) (hb : Below W.heap.size W W3) (hx : partL x.data.toList = false ∨ pre.length = 8) :
    KeepsFrom B W ((W3.setCell ⟨w.heap.size, 0, none⟩ (.slice none 0 0)).setCell ⟨w.heap.size + 1, 0, none⟩ (.bool false)) ∧ PX w ((W3.setCell ⟨w.heap.size, 0, none⟩ (.slice none 0 0)).setCell ⟨w.heap.size + 1, 0, none⟩ (.bool false)) (pre ++ [x]) := by
  refine ⟨((keepsFrom_below hb).trans ((KeepsOthers.setCell _ _ _).from B)).trans ((KeepsOthers.setCell _ _ _).from B), ?_, ?_, ?_, ?_⟩
  · exact (((h.bel.trans (hb.mono h.bel.size)).setCell (p := ⟨w.heap.size, 0, none⟩) (Nat.le_refl _) _).setCell (p := ⟨w.heap.size + 1, 0, none⟩) (by show w.heap.size ≤ w.heap.size + 1; omega) _)
  · exact heap_other (heap_setCell_same _ _ 0 _ _ _ (heap_below hb h.r2)) (by omega)
  · exact heap_setCell_same _ _ 0 _ _ _ (heap_other (heap_below hb h.r3) (by omega))
  · rcases hx with hx | hx
    · exact .inl ⟨x, by simp, hx⟩
    · right; rw [List.length_append, List.length_singleton]; omega
theorem info_part : (Tryz.prog.info? 241).map (fun i => (i.zero, i.size, i.bytes)) = some (some (.agg #[.int .i64 0, .int .i64 0, .string ⟨#[]⟩]), 3, 32) := by kernel_rfl
/-- what version.parts answers -/
def partsPost (l : List UInt8) (w : World) (e : Ending) (w' : World) : Prop :=
  ∃ v, e = .returned (.tuple #[v, .bool (mayL l)]) ∧ (mayL l = true → w'.ownsRow w.heap.size 241 3 v (cutL 46 l).length (partsCells (cutL 46 l))) ∧ (mayL l = false → v = .slice none 0 0) ∧ Below w.heap.size w w'
theorem may_no {s : ByteArray} {pre : List ByteArray} (h : pre <+: cutS 46 s) (hb : (∃ p ∈ pre, partL p.data.toList = false) ∨ 8 < pre.length) : mayL s.data.toList = false := by
  rw [Bool.eq_false_iff]
  intro hm
  obtain ⟨_, _, h1, h2⟩ := (may_iff _).1 hm
  rcases hb with ⟨p, hp, hf⟩ | hb
  · have := h1 p.data.toList (by rw [← cutS_data]; exact List.mem_map.2 ⟨p, h.subset hp, rfl⟩)
    rw [hf] at this; cases this
  · have := h.length_le
    rw [cutS_len] at this
    omega
theorem may_yes {s : ByteArray} (h0 : s.size ≠ 0) (h40 : s.size ≤ 40) (hok : ∀ p ∈ cutS 46 s, partL p.data.toList = true) (hl : (cutS 46 s).length ≤ 8) : mayL s.data.toList = true := by
  rw [may_iff]
  refine ⟨fun e => h0 (by rw [← Txt.len, e]; rfl), by rw [Txt.len]; exact h40, fun p hp => ?_, by rw [← cutS_len]; exact hl⟩
  rw [← cutS_data] at hp
  obtain ⟨x, hx, rfl⟩ := List.mem_map.1 hp
  exact hok x hx
set_option maxRecDepth 100000 in
set_option maxHeartbeats 2000000 in
theorem parts_any (s : ByteArray) (hs : s.size ≤ 1000000) {w : World} (hD : Doors w) : Calls Tryz.prog 175 #[.string s] w (partsPost s.data.toList w) := by
  refine (callsIn_wide (n := 8)).1 ?_
  refine callsIn_of_wp_marks Tryz.func175 rfl trivial ?_ rfl
  simp only [Tryz.ntmps175, List.size_toArray, List.length_cons, List.length_nil, Nat.reduceAdd, Nat.reduceSub, Array.replicate_succ, Array.replicate_zero, List.push_toArray, List.append_toArray, List.nil_append, List.cons_append]
  by_cases h0 : s.size = 0
  · have k1 : s.toList.isEmpty = true := by rw [Txt.no_dec, decide_eq_true h0]
    have hm : mayL s.data.toList = false := by
      rw [Bool.eq_false_iff]
      intro h
      exact ((may_iff _).1 h).1 (List.length_eq_zero_iff.1 (by rw [Txt.len]; exact h0))
    have Hm := Lib.hid hm; have HD := Lib.hid hD; clear hm hD
    gi_wp2
    refine ⟨_, results_cells rfl rfl rfl (heap_below (below_alloc1 _ _) (heap_new_at rfl)) (heap_new_at (by simp)) (Tryz.isAgg224 _) (Tryz.isAgg4 _), ?_⟩
    refine ⟨_, by rw [Hm.out], fun h => (by rw [Hm.out] at h; cases h), fun _ => rfl, ((Below.refl _ w).alloc (Nat.le_refl _) _).alloc (by simp) _⟩
  · by_cases h40 : 40 < s.size
    · have k1 : s.toList.isEmpty = false := by rw [Txt.no_dec, decide_eq_false h0]
      have k2 : decide ((40 : Int) < (s.size : Int)) = true := decide_eq_true (by omega)
      have hm : mayL s.data.toList = false := by
        rw [Bool.eq_false_iff]
        intro h
        have := ((may_iff _).1 h).2.1
        rw [Txt.len] at this
        omega
      have Hm := Lib.hid hm; have HD := Lib.hid hD; clear hm hD
      gi_wp2
      refine ⟨_, results_cells rfl rfl rfl (heap_below (below_alloc1 _ _) (heap_new_at rfl)) (heap_new_at (by simp)) (Tryz.isAgg224 _) (Tryz.isAgg4 _), ?_⟩
      refine ⟨_, by rw [Hm.out], fun h => (by rw [Hm.out] at h; cases h), fun _ => rfl, ((Below.refl _ w).alloc (Nat.le_refl _) _).alloc (by simp) _⟩
    · have k1 : s.toList.isEmpty = false := by rw [Txt.no_dec, decide_eq_false h0]
      have k2 : decide ((40 : Int) < (s.size : Int)) = false := decide_eq_false (by omega)
      have hq := splitSeq_any s 46 (((w.alloc (.cells #[.slice none 0 0] 224)).alloc (.cells #[.bool false] 4)).alloc (.cells #[.slice none 0 0] 224))
      have Hq := Lib.hid hq; have HD := Lib.hid hD; clear hq hD
      gi_wp2
      refine ⟨trivial, (callsIn_wide.2 Hq.out).mono ?_⟩
      rintro e w2 ⟨rfl, rfl⟩
      gi_wp2
      have hsb : SBox (w.heap.size + 1 + 1 + 1) (w.heap.size + 1 + 1 + 1 + 1) (w.heap.size + 1 + 1 + 1 + 1 + 1) 46 s ((((((w.alloc (.cells #[.slice none 0 0] 224)).alloc (.cells #[.bool false] 4)).alloc (.cells #[.slice none 0 0] 224)).alloc (.cells #[.string s] 9)).alloc (.cells #[.string ⟨#[46]⟩] 9)).alloc (.cells #[.int .i64 0] 3)) := by
        have a1 := heap_new_at (w := (((w.alloc (.cells #[.slice none 0 0] 224)).alloc (.cells #[.bool false] 4)).alloc (.cells #[.slice none 0 0] 224))) (o := .cells #[.string s] 9) (n := w.heap.size + 1 + 1 + 1) (by simp)
        have a2 := heap_new_at (w := ((((w.alloc (.cells #[.slice none 0 0] 224)).alloc (.cells #[.bool false] 4)).alloc (.cells #[.slice none 0 0] 224)).alloc (.cells #[.string s] 9))) (o := .cells #[.string ⟨#[46]⟩] 9) (n := w.heap.size + 1 + 1 + 1 + 1) (by simp)
        have a3 := heap_new_at (w := (((((w.alloc (.cells #[.slice none 0 0] 224)).alloc (.cells #[.bool false] 4)).alloc (.cells #[.slice none 0 0] 224)).alloc (.cells #[.string s] 9)).alloc (.cells #[.string ⟨#[46]⟩] 9))) (o := .cells #[.int .i64 0] 3) (n := w.heap.size + 1 + 1 + 1 + 1 + 1) (by simp)
        exact ⟨heap_below (below_alloc1 _ _) (heap_below (below_alloc1 _ _) a1), heap_below (below_alloc1 _ _) a2, a3⟩
      obtain ⟨W0, hW0⟩ : ∃ W0, W0 = ((((((w.alloc (.cells #[.slice none 0 0] 224)).alloc (.cells #[.bool false] 4)).alloc (.cells #[.slice none 0 0] 224)).alloc (.cells #[.string s] 9)).alloc (.cells #[.string ⟨#[46]⟩] 9)).alloc (.cells #[.int .i64 0] 3)) := ⟨_, rfl⟩
      have hs0 : W0.heap.size = w.heap.size + 6 := by rw [hW0]; simp
      rw [← hW0] at hsb ⊢
      have hPI : PI w W0 [] := by
        rw [hW0]
        have k1 : ∀ {w' : World} {o : Obj} {k : Nat} {o' : Obj}, w'.heap[k]? = some o → (w'.alloc o').heap[k]? = some o := fun h => heap_below (below_alloc1 _ _) h
        refine ⟨(((((((Below.refl _ w).alloc (Nat.le_refl _) _).alloc (by simp) _).alloc (by simp; omega) _).alloc (by simp; omega) _).alloc (by simp; omega) _).alloc (by simp; omega) _), k1 (k1 (k1 (k1 (k1 (heap_new_at rfl))))), k1 (k1 (k1 (k1 (heap_new_at (by simp))))), ⟨_, k1 (k1 (k1 (heap_new_at (by simp)))), World.ownsRow_nil _ _ _ _⟩, (fun p hp => by cases hp), Nat.zero_le _⟩
      have HW0 := Lib.hid hW0; clear hW0
      refine wpIn_range_own rfl (by omega) (gf := fSplit) rfl trivial (enters_of Tryz.func167 (by kernel_rfl) rfl) (split_stops 7 (by omega) _ _ _ 46 s hs W0 (by omega) (by omega) (by omega) (by omega) (by omega) hsb)
        (fun k hk => by rcases hk with h | h | h <;> omega) (by omega) (Below.refl _ _) rfl
        (fun pre W => w.heap.size + 6 ≤ W.heap.size ∧ PI w W pre) (fun pre W => w.heap.size + 6 ≤ W.heap.size ∧ PX w W pre) (OwnFrom.and (ownFrom_size _) (PI.own (by omega))) (OwnFrom.and (ownFrom_size _) (PX.own (by omega))) (fun pre W i u h => ⟨by simp [World.setCell]; exact h.1, PI.lets w pre W i u h.2⟩) (fun pre W i u h => ⟨by simp [World.setCell]; exact h.1, PX.lets w pre W i u h.2⟩) ⟨by omega, hPI⟩
        (fun x => { tmps := #[.string s, undef, .pointer (some ⟨w.heap.size, 0, none⟩), .pointer (some ⟨w.heap.size + 1, 0, none⟩), .pointer (some ⟨w.heap.size + 1 + 1, 0, none⟩), .string x, undef, undef, .string s, .bool false, .bool false, .string s, .int .i64 (s.size : Int), .bool false, .bool false, .string s,
          .func (.func fSplit) #[] #[.pointer (some ⟨w.heap.size + 1 + 1 + 1 + 1, 0, none⟩), .pointer (some ⟨w.heap.size + 1 + 1 + 1, 0, none⟩), .pointer (some ⟨w.heap.size + 1 + 1 + 1 + 1 + 1, 0, none⟩)], .string x, undef, undef, undef, undef, undef, undef, undef, undef, undef, undef, undef, undef, undef, undef, undef, undef, undef], defers := [] }) ?assign ?body ?done ?stop
      case assign =>
        intro l x W K hK
        gi_wp2
        exact hK
      case body =>
        rintro l pre x W ⟨hsz, h⟩ ⟨hx, _⟩
        obtain ⟨v, hv, hrow⟩ := h.out
        obtain ⟨a, cap, rfl⟩ := own_shape hrow
        have hR := read_any x (by omega) (HD.out.below h.bel)
        obtain ⟨b, hb⟩ : ∃ b, b = partL x.data.toList := ⟨_, rfl⟩
        obtain ⟨m, hm⟩ : ∃ m, m = pre.length := ⟨_, rfl⟩
        have c0 : W.cell? ⟨w.heap.size + 1 + 1, 0, none⟩ = some (.slice a pre.length cap) := cells_at hv 0
        unfold readPost at hR
        rw [← hb] at hR
        have Hv := Lib.hid hv; have Hrow := Lib.hid hrow; have HR := Lib.hid hR; have Hh := Lib.hid h; have Hc0 := Lib.hid c0; have Hx := Lib.hid hx; clear hv hrow hR h c0 hx
        gi_wp2
        refine ⟨trivial, (CallsIn.inRound l (callsIn_wide.2 HR.out)).mono ?_⟩
        rintro e W2 ⟨⟨r, q, y, rfl, hpt⟩, hb2⟩
        have hb3 : Below W.heap.size W (W2.alloc (.cells #[.int .i64 r, .int .i64 q, .string y] 241)) := hb2.alloc hb2.size _
        have r2 := heap_below hb3 Hh.out.r2
        have r3 := heap_below hb3 Hh.out.r3
        have d0 : (W2.alloc (.cells #[.int .i64 r, .int .i64 q, .string y] 241)).cell? ⟨w.heap.size + 1 + 1, 0, none⟩ = some (.slice a pre.length cap) := cell_later hb3 Hc0.out
        have d1 : (W2.alloc (.cells #[.int .i64 r, .int .i64 q, .string y] 241)).cell? ⟨w.heap.size, 0, none⟩ = some (.slice none 0 0) := cells_at r2 0
        have d2 : (W2.alloc (.cells #[.int .i64 r, .int .i64 q, .string y] 241)).cell? ⟨w.heap.size + 1, 0, none⟩ = some (.bool false) := cells_at r3 0
        have f1 := frozen_at r2 0
        have f2 := frozen_at r3 0
        have Hb2 := Lib.hid hb2; have Hb3 := Lib.hid hb3; have Hr2 := Lib.hid r2; have Hr3 := Lib.hid r3; have Hpt := Lib.hid hpt; have Hb := Lib.hid hb; have Hm := Lib.hid hm; clear hb2 hb3 r2 r3 hpt hb hm
        clear Hq
        cases b with
        | false =>
          have hno := Hh.out.no (B := W0.heap.size) hsz Hb3.out (.inl Hb.out.symm)
          have hs3 : w.heap.size + 6 ≤ (((W2.alloc (.cells #[.int .i64 r, .int .i64 q, .string y] 241)).setCell ⟨w.heap.size, 0, none⟩ (.slice none 0 0)).setCell ⟨w.heap.size + 1, 0, none⟩ (.bool false)).heap.size := by have := Hb3.out.size; simp [World.setCell] at this ⊢; omega
          have Hno := Lib.hid hno; clear hno
          gi_wp2
          exact ⟨Hno.out.1, hs3, Hno.out.2⟩
        | true =>
          by_cases h8 : pre.length = 8
          · have hno := Hh.out.no (B := W0.heap.size) hsz Hb3.out (x := x) (.inr h8)
            have hs3 : w.heap.size + 6 ≤ (((W2.alloc (.cells #[.int .i64 r, .int .i64 q, .string y] 241)).setCell ⟨w.heap.size, 0, none⟩ (.slice none 0 0)).setCell ⟨w.heap.size + 1, 0, none⟩ (.bool false)).heap.size := by have := Hb3.out.size; simp [World.setCell] at this ⊢; omega
            have k8 : ((pre.length : Int) == 8) = true := by rw [h8]; rfl
            have Hno := Lib.hid hno; have H8 := Lib.hid h8; clear hno h8
            gi_wp2
            exact ⟨Hno.out.1, hs3, Hno.out.2⟩
          · have k8 : ((pre.length : Int) == 8) = false := by rw [beq_eq_false_iff_ne]; omega
            have hlen := Hh.out.len
            have hrow3 := ownsRow_below Hrow.out Hb3.out
            have hpc := part_cells (Hpt.out rfl)
            obtain ⟨i0, hi, hz0, hz1, hz2⟩ := info_parts info_part
            have hadd := fun (w1 : World) (v' : Value) => Hh.out.add (B := W0.heap.size) hsz Hb3.out Hv.out Hrow.out (w1 := w1) (v' := v') (x := x) (tmp := .cells #[.int .i64 r, .int .i64 q, .string y] 241)
            rw [hpc] at hadd
            have hz9 : w.heap.size + 6 ≤ (W2.alloc (.cells #[.int .i64 r, .int .i64 q, .string y] 241)).heap.size := by have := Hb3.out.size; omega
            have g1 : pre.length + 1 ≤ maxLen := by unfold maxLen; omega
            have g2 : (pre.length + 1) * 32 ≤ 140737488355328 := by omega
            have g3 : w.heap.size + 6 ≤ ((W2.alloc (.cells #[.int .i64 r, .int .i64 q, .string y] 241)).alloc (.cells #[.int .i64 r, .int .i64 q, .string y] 241)).heap.size := by simp at hz9 ⊢; omega
            have g4 := lit3 (W2.alloc (.cells #[.int .i64 r, .int .i64 q, .string y] 241)) (.int .i64 r) (.int .i64 q) (.string y) 241 (n := W2.heap.size + 1) (by simp)
            have g5 : ∀ u ∈ [Value.int .i64 r, .int .i64 q, .string y], u.oneCell' = true := by simp [Value.oneCell']
            have Hrow3 := Lib.hid hrow3; have Hpc := Lib.hid hpc; have Hadd := Lib.hid hadd; have Hz9 := Lib.hid hz9; have H8 := Lib.hid h8; have Hlen := Lib.hid hlen; have Hg1 := Lib.hid g1; have Hg2 := Lib.hid g2; have Hg3 := Lib.hid g3; have Hg4 := Lib.hid g4; have Hg5 := Lib.hid g5; clear hrow3 hpc hadd hz9 h8 hlen g1 g2 g3 g4 g5
            gi_wp2_with (gi_at_builtin; refine wpListIn_append_own _ rfl _ _ 224 rfl (w.heap.size + 6) 241 i0 (.agg #[.int .i64 0, .int .i64 0, .string ⟨#[]⟩]) 3 32 Tryz.underlying224 hi hz0 hz1 hz2 rfl (by decide) _ _ _ rfl (Hrow3.out.alloc _) ⟨W2.heap.size + 1, 0, none⟩ 1 1 [.int .i64 r, .int .i64 q, .string y] rfl rfl Hg4.out Hg5.out Hg1.out Hg2.out Hg3.out ?_; intro v' w1 hown' hgrow _; obtain ⟨g', cap', rfl⟩ := ownsRow_succ hown'; have hfin := Hadd.out w1 _ hown' hgrow Hb.out.symm H8.out; clear hown' hgrow; refine Hid.out ?_)
            have e1 := cells_at hfin.2.2.2.1 0
            have e2 := frozen_at hfin.2.2.2.1 0
            simp only [List.getElem?_toArray, List.getElem?_cons_zero] at e1
            have Hfin := Lib.hid hfin; clear hfin
            refine Lib.hid ?_
            gi_wp2
            exact ⟨Hfin.out.1, Hfin.out.2.1, Hfin.out.2.2.2.2, Hfin.out.2.2.1⟩
      case done =>
        rintro D ys W hD rfl ⟨hsz, h⟩ hK
        obtain ⟨v, hv, hrow⟩ := h.out
        obtain ⟨a, cap, rfl⟩ := own_shape hrow
        have c0 : W.cell? ⟨w.heap.size + 1 + 1, 0, none⟩ = some (.slice a (cutS 46 s).length cap) := cells_at hv 0
        have c1 := cells_at h.r2 0
        have c2 := cells_at h.r3 0
        have f1 := frozen_at h.r2 0
        have f2 := frozen_at h.r3 0
        simp only [List.getElem?_toArray, List.getElem?_cons_zero] at c1 c2
        have hm := may_yes h0 (by omega) h.ok h.len
        have Hv := Lib.hid hv; have Hrow := Lib.hid hrow; have Hh := Lib.hid h; have Hm := Lib.hid hm; clear hv hrow h hm
        gi_wp2
        have hK2 : ((W.setCell ⟨w.heap.size, 0, none⟩ (.slice a (cutS 46 s).length cap)).setCell ⟨w.heap.size + 1, 0, none⟩ (.bool true)).heap[D]? = some (.deferred (some [])) := heap_other (heap_other hK (by omega)) (by omega)
        have x1 := heap_other (b := w.heap.size + 1) (i := 0) (u := .bool true) (heap_setCell_same W w.heap.size 0 _ _ (.slice a (cutS 46 s).length cap) Hh.out.r2) (by omega)
        have x2 := heap_setCell_same _ (w.heap.size + 1) 0 _ _ (.bool true) (heap_other (b := w.heap.size) (i := 0) (u := .slice a (cutS 46 s).length cap) Hh.out.r3 (by omega))
        have hb9 : Below w.heap.size w ((W.setCell ⟨w.heap.size, 0, none⟩ (.slice a (cutS 46 s).length cap)).setCell ⟨w.heap.size + 1, 0, none⟩ (.bool true)) := (Hh.out.bel.setCell (p := ⟨w.heap.size, 0, none⟩) (Nat.le_refl _) _).setCell (p := ⟨w.heap.size + 1, 0, none⟩) (by show w.heap.size ≤ w.heap.size + 1; omega) _
        have ho : ((W.setCell ⟨w.heap.size, 0, none⟩ (.slice a (cutS 46 s).length cap)).setCell ⟨w.heap.size + 1, 0, none⟩ (.bool true)).ownsRow (w.heap.size + 6) 241 3 (.slice a (cutS 46 s).length cap) (cutL 46 s.data.toList).length (partsCells (cutL 46 s.data.toList)) := by
          have hlen := cutS_len 46 s
          rw [← hlen, ← cutS_data]
          have := own_set (own_set Hrow.out (p := w.heap.size) (by omega) 0 (.slice a (cutS 46 s).length cap)) (p := w.heap.size + 1) (by omega) 0 (.bool true)
          exact this
        refine ⟨by simp, .inl ⟨_, _, rfl, run_takeDeferred hK2, ?_⟩⟩
        refine ⟨_, results_cells rfl rfl rfl ((World.putObj_heap_other (by omega)).trans x1) ((World.putObj_heap_other (by omega)).trans x2) (Tryz.isAgg224 _) (Tryz.isAgg4 _), ?_⟩
        refine ⟨_, by rw [Hm.out], fun _ => ownsRow_mono (ownsRow_putObj ho _ hK2 rfl) (by omega), fun h => (by rw [Hm.out] at h; cases h), hb9.trans (belowK_b (w := w) (Nat.le_refl _) _ D _ _ (by omega) hK2 rfl rfl)⟩
      case stop =>
        rintro D pre W hD hpre ⟨hsz, h⟩ hK
        have hm := may_no hpre h.bad
        have Hm := Lib.hid hm; clear hm
        gi_wp2
        refine ⟨by simp, .inl ⟨_, _, rfl, run_takeDeferred hK, ?_⟩⟩
        refine ⟨_, results_cells rfl rfl rfl ((World.putObj_heap_other (by omega)).trans h.r2) ((World.putObj_heap_other (by omega)).trans h.r3) (Tryz.isAgg224 _) (Tryz.isAgg4 _), ?_⟩
        refine ⟨_, by rw [Hm.out], fun h => (by rw [Hm.out] at h; cases h), fun _ => rfl, h.bel.trans (belowK_b (w := w) (Nat.le_refl _) _ D _ _ (by omega) hK rfl rfl)⟩
end Go.Proofs.YteailgjiifdgcaaGreatDoor

/- The walk of version.at: the part at a place, or the end. Condition: few parts. -/
namespace Go.Proofs.YteailgjiifdgcaaGreatDoor
open Go.RowKit Go.Lib VerN

theorem bodyPost_part1 {fn : Func} {p : Tmp} (hres : fn.results = #[.cell p 241]) {R : Ending → World → Prop} {a : Act} {w : World} {g : Nat} {x y z : Value} (hp : a.tmps.getD p undef = .pointer (some ⟨g, 0, none⟩))
    (hg : w.heap[g]? = some (.cells #[x, y, z] 241 (0, 0))) (hd : a.defers = []) (hR : R (.returned (.agg #[x, y, z])) w) : bodyPost Tryz.prog fn R .ret a w :=
  bodyPost_ret (results_cell_row hres a.tmps w g _ _ _ _ hp hg Tryz.underlying241 rfl (by kernel_rfl)) hd hR
theorem partsCells_at : ∀ (ps : List (List UInt8)) (i j : Nat) (h : i < ps.length), j < 3 → (partsCells ps)[i * 3 + j]? = (partCells ps[i])[j]?
  | p :: r, 0, j, _, hj => by
    simp only [partsCells, List.flatMap_cons, Nat.zero_mul, Nat.zero_add, List.getElem_cons_zero]
    rw [List.getElem?_append_left (by simpa [partCells] using hj)]
  | p :: r, i + 1, j, h, hj => by
    have := partsCells_at r i j (by simpa using h) hj
    simp only [partsCells, List.flatMap_cons, List.getElem_cons_succ] at this ⊢
    rw [List.getElem?_append_right (by simp [partCells]; omega), ← this]
    congr 1
    simp [partCells]
    omega
/-- a part of a row that a call owns -/
theorem parts_cell {w : World} {B : Nat} {v : Value} {n : Nat} {ps : List (List UInt8)} (h : w.ownsRow B 241 3 v n (partsCells ps)) (hn : n = ps.length) (i : Nat) (hi : i < ps.length) :
    ∃ g cap, v = .slice (some ⟨g, 0, none⟩) n cap ∧ n ≤ cap ∧ w.cell? ⟨g, i * 3, none⟩ = some (.int .i64 (rankOf ps[i])) ∧ w.cell? ⟨g, i * 3 + 1, none⟩ = some (.int .i64 (numOf ps[i])) ∧ w.cell? ⟨g, i * 3 + 2, none⟩ = some (.string ⟨(wordOf ps[i]).toArray⟩) := by
  obtain ⟨g, cap, rfl, _, _, h1, _, h2⟩ := ownsRow_some h (by omega)
  exact ⟨g, cap, rfl, h1, h2 _ _ (partsCells_at ps i 0 hi (by omega)), h2 _ _ (partsCells_at ps i 1 hi (by omega)), h2 _ _ (partsCells_at ps i 2 hi (by omega))⟩
set_option maxRecDepth 10000 in
set_option maxHeartbeats 1000000 in
theorem at_any {w : World} {B : Nat} {v : Value} {ps : List (List UInt8)} (h : w.ownsRow B 241 3 v ps.length (partsCells ps)) (h8 : ps.length ≤ 8) (i : Nat) (hi8 : i < 8) :
    Calls Tryz.prog 197 #[v, .int .i64 i] w fun e w' => e = .returned (.agg #[.int .i64 (rankOf (ps.getD i [])), .int .i64 (numOf (ps.getD i [])), .string ⟨(wordOf (ps.getD i [])).toArray⟩]) ∧ Below w.heap.size w w' := by
  have hb1 : Below w.heap.size w (w.alloc (.cells #[.int .i64 0, .int .i64 0, .string ⟨#[]⟩] 241)) := below_alloc1 _ _
  have hr1 : (w.alloc (.cells #[.int .i64 0, .int .i64 0, .string ⟨#[]⟩] 241)).heap[w.heap.size]? = some (.cells #[.int .i64 0, .int .i64 0, .string ⟨#[]⟩] 241 (0, 0)) := heap_new_at rfl
  by_cases hi : i < ps.length
  · obtain ⟨g, cap, rfl, hcap, c0, c1, c2⟩ := parts_cell h rfl i hi
    rw [getD_lt hi]
    have d0 := cell_later hb1 c0
    have d1 := cell_later hb1 c1
    have d2 := cell_later hb1 c2
    obtain ⟨n, hn⟩ : ∃ n, n = ps.length := ⟨_, rfl⟩
    obtain ⟨x, hx⟩ : ∃ x, x = rankOf ps[i] := ⟨_, rfl⟩
    obtain ⟨y, hy⟩ : ∃ y, y = numOf ps[i] := ⟨_, rfl⟩
    obtain ⟨z, hz⟩ : ∃ z, z = (⟨(wordOf ps[i]).toArray⟩ : ByteArray) := ⟨_, rfl⟩
    rw [← hx] at c0 d0 ⊢
    rw [← hy] at c1 d1 ⊢
    rw [← hz] at c2 d2 ⊢
    rw [← hn] at h h8 hi hcap ⊢
    have k1 : (i : Int) < (n : Int) := by omega
    have k2 : decide ((i : Int) < (n : Int)) = true := decide_eq_true k1
    have Hh := Lib.hid h; have Hn := Lib.hid hn; have Hx := Lib.hid hx; have Hy := Lib.hid hy; have Hz := Lib.hid hz; have Hb1 := Lib.hid hb1; have Hr1 := Lib.hid hr1; clear h hn hx hy hz hb1 hr1
    clear c0 c1 c2
    go_enter Tryz.func197, Tryz.ntmps197
    go_wp2_with fail
    exact bodyPost_part1 rfl rfl (heap_new_at rfl) rfl ⟨by rw [Hx.out, Hy.out, Hz.out], below_alloc1 _ _⟩
  · obtain ⟨a, cap, rfl⟩ := own_shape h
    rw [getD_ge (by omega)]
    obtain ⟨n, hn⟩ : ∃ n, n = ps.length := ⟨_, rfl⟩
    rw [← hn] at h h8 hi ⊢
    have k1 : decide ((i : Int) < (n : Int)) = false := decide_eq_false (by omega)
    have Hh := Lib.hid h; have Hn := Lib.hid hn; have Hb1 := Lib.hid hb1; have Hr1 := Lib.hid hr1; clear h hn hb1 hr1
    go_enter Tryz.func197, Tryz.ntmps197
    go_wp2_with fail
    exact bodyPost_part1 rfl rfl (heap_new_at rfl) rfl ⟨rfl, below_alloc1 _ _⟩
end Go.Proofs.YteailgjiifdgcaaGreatDoor

/- The walk of version.Compare: how two texts stand to each other. Condition: the library's variables as they were laid. -/
namespace Go.Proofs.YteailgjiifdgcaaGreatDoor
open Go.Shelf Go.RowKit Go.Lib Go.Sort VerN

theorem or3 (r a b c : Int) (h : (if a ≠ 0 then a else if b ≠ 0 then b else c) = r) : orOf [a, b, c] = r := by
  rw [← h]
  unfold orOf orOf orOf orOf
  split
  · rfl
  · split
    · rfl
    · split
      · rfl
      · rename_i h; simpa using Eq.symm (by simpa using h)
theorem or3_any (c1 c2 c3 r : Int) (hO : orOf [c1, c2, c3] = r) (W : World) : Calls Tryz.prog 198 #[.slice (some ⟨W.heap.size, 0, none⟩) 3 3] (W.alloc (.cells #[.int .i64 c1, .int .i64 c2, .int .i64 c3] 3)).drew fun e w' => e = .returned (.int .i64 r) ∧ (W.alloc (.cells #[.int .i64 c1, .int .i64 c2, .int .i64 c3] 3)).drew = w' := by
  rw [← hO]
  exact or_any W.heap.size 0 3 [c1, c2, c3] _ (by simp) (by
    intro i x hx
    show (W.alloc (.cells #[.int .i64 c1, .int .i64 c2, .int .i64 c3] 3)).cell? ⟨W.heap.size, 0 + i, none⟩ = _
    rw [Nat.zero_add, World.cell?_alloc_new]
    match i, hx with
    | 0, hx => simpa using hx
    | 1, hx => simpa using hx
    | 2, hx => simpa using hx)
set_option maxRecDepth 10000 in
set_option maxHeartbeats 4000000 in
theorem verCompare_any (a b : ByteArray) (ha : a.size ≤ 1000000) (hb : b.size ≤ 1000000) {w : World} (hD : Doors w) :
    Calls Tryz.prog 164 #[.string a, .string b] w fun e w' => e = .returned (.int .i64 (compareL a.data.toList b.data.toList)) ∧ Below w.heap.size w w' := by
  obtain ⟨r, hr⟩ : ∃ r, r = compareL a.data.toList b.data.toList := ⟨_, rfl⟩
  have hP := parts_any a ha hD
  have hQ := fun (W : World) (h : Below w.heap.size w W) => parts_any b hb (hD.below h)
  obtain ⟨ps, hps⟩ : ∃ x, x = cutL 46 a.data.toList := ⟨_, rfl⟩
  obtain ⟨qs, hqs⟩ : ∃ x, x = cutL 46 b.data.toList := ⟨_, rfl⟩
  obtain ⟨p, hp⟩ : ∃ x, x = mayL a.data.toList := ⟨_, rfl⟩
  obtain ⟨q, hq⟩ : ∃ x, x = mayL b.data.toList := ⟨_, rfl⟩
  have hcmp : r = if p = false ∧ q = false then 0 else if p = false then -1 else if q = false then 1 else cmpFrom ps qs 0 (max ps.length qs.length) := by rw [hr, hp, hq, hps, hqs]; rfl
  have hp8 : p = true → ps.length ≤ 8 := fun h => by rw [hps]; exact ((may_iff _).1 (by rw [← hp]; exact h)).2.2.2
  have hq8 : q = true → qs.length ≤ 8 := fun h => by rw [hqs]; exact ((may_iff _).1 (by rw [← hq]; exact h)).2.2.2
  rw [← hr]
  unfold partsPost at hP hQ
  rw [← hps, ← hp] at hP
  rw [← hqs, ← hq] at hQ
  have Hr := Lib.hid hr; have HP := Lib.hid hP; have HQ := Lib.hid hQ; have Hps := Lib.hid hps; have Hqs := Lib.hid hqs; have Hp := Lib.hid hp; have Hq := Lib.hid hq; have Hcmp := Lib.hid hcmp; have Hp8 := Lib.hid hp8; have Hq8 := Lib.hid hq8; have HD := Lib.hid hD; clear hr hP hQ hps hqs hp hq hcmp hp8 hq8 hD
  go_enter Tryz.func164, Tryz.ntmps164
  go_wp2_with fail
  refine HP.out.mono ?_
  rintro e w1 ⟨v1, rfl, hv1, hn1, hb1⟩
  have hQ1 := HQ.out w1 hb1
  have Hv1 := Lib.hid hv1; have Hn1 := Lib.hid hn1; have Hb1 := Lib.hid hb1; have HQ1 := Lib.hid hQ1; clear hv1 hn1 hb1 hQ1
  go_wp2_with fail
  refine HQ1.out.mono ?_
  rintro e w2 ⟨v2, rfl, hv2, hn2, hb2⟩
  have hb := Hb1.out.trans (hb2.mono Hb1.out.size)
  have Hv2 := Lib.hid hv2; have Hn2 := Lib.hid hn2; have Hb2 := Lib.hid hb2; have Hb := Lib.hid hb; clear hv2 hn2 hb2 hb
  cases p with
  | false =>
    cases q with
    | false =>
      have h0 : r = 0 := by rw [Hcmp.out]; rfl
      have H0 := Lib.hid h0; clear h0
      go_wp2_with fail
      go_ret
      exact ⟨ret_int H0.out.symm, Hb.out⟩
    | true =>
      have h0 : r = -1 := by rw [Hcmp.out]; rfl
      have H0 := Lib.hid h0; clear h0
      go_wp2_with fail
      go_ret
      exact ⟨ret_int H0.out.symm, Hb.out⟩
  | true =>
    cases q with
    | false =>
      have h0 : r = 1 := by rw [Hcmp.out]; rfl
      have H0 := Lib.hid h0; clear h0
      go_wp2_with fail
      go_ret
      exact ⟨ret_int H0.out.symm, Hb.out⟩
    | true =>
      have h8 := Hp8.out rfl
      have h9 := Hq8.out rfl
      have o1 := ownsRow_below (Hv1.out rfl) Hb2.out
      have o2 := Hv2.out rfl
      obtain ⟨a1, cap1, rfl⟩ := own_shape o1
      obtain ⟨a2, cap2, rfl⟩ := own_shape o2
      have h0 : r = cmpFrom ps qs 0 (max ps.length qs.length) := by rw [Hcmp.out]; rfl
      obtain ⟨m, hm⟩ : ∃ m, m = ps.length := ⟨_, rfl⟩
      obtain ⟨n, hn⟩ : ∃ n, n = qs.length := ⟨_, rfl⟩
      rw [← hm] at h8 o1 h0 ⊢
      rw [← hn] at h9 o2 h0 ⊢
      obtain ⟨N, hN⟩ : ∃ N, N = max m n := ⟨_, rfl⟩
      rw [← hN] at h0
      have hN8 : N ≤ 8 := by omega
      have hNi : max (m : Int) (n : Int) = (N : Int) := by omega
      have H0 := Lib.hid h0; have Ho1 := Lib.hid o1; have Ho2 := Lib.hid o2; have Hm := Lib.hid hm; have Hn := Lib.hid hn; clear h0 o1 o2 hm hn
      clear Hv1 Hv2 Hn1 Hn2 Hcmp Hp8 Hq8 HP HQ HQ1
      go_wp2_with fail
      go_loopw [41] (fun i wr => ∃ k : Nat, k ≤ N ∧ i = .int .i64 k ∧ r = cmpFrom ps qs k (N - k) ∧ Below w2.heap.size w2 wr) (fun i _ => N - (RowKit.intOf i).toNat)
      case atStart => exact ⟨0, Nat.zero_le _, rfl, H0.out, Below.refl _ _⟩
      case round =>
        obtain ⟨k, hk, rfl, hrk, hbk⟩ := hrel
        by_cases hlt : k < N
        · have p1 := ownsRow_below Ho1.out hbk
          have p2 := ownsRow_below Ho2.out hbk
          have em := Hm.out
          have en := Hn.out
          rw [em] at p1
          rw [en] at p2
          have hA := at_any p1 (by omega) k (by omega)
          have hB := fun (W : World) (h : Below wr.heap.size wr W) => at_any (ownsRow_below p2 h) (by omega) k (by omega)
          rw [← em] at hA
          rw [← en] at hB
          obtain ⟨x, hx⟩ : ∃ x, x = ps.getD k [] := ⟨_, rfl⟩
          obtain ⟨y, hy⟩ : ∃ x, x = qs.getD k [] := ⟨_, rfl⟩
          rw [← hx] at hA
          rw [← hy] at hB
          have hr2 : r = if pcmp x y ≠ 0 then pcmp x y else cmpFrom ps qs (k + 1) (N - (k + 1)) := by
            rw [hrk, show N - k = (N - (k + 1)) + 1 by omega, hx, hy]; rfl
          obtain ⟨c, hc⟩ : ∃ c, c = pcmp x y := ⟨_, rfl⟩
          rw [← hc] at hr2
          obtain ⟨r1, hr1⟩ : ∃ v, v = rankOf x := ⟨_, rfl⟩
          obtain ⟨m1, hm1⟩ : ∃ v, v = numOf x := ⟨_, rfl⟩
          obtain ⟨t1, ht1⟩ : ∃ v, v = (⟨(wordOf x).toArray⟩ : ByteArray) := ⟨_, rfl⟩
          obtain ⟨r2, hrr2⟩ : ∃ v, v = rankOf y := ⟨_, rfl⟩
          obtain ⟨m2, hm2⟩ : ∃ v, v = numOf y := ⟨_, rfl⟩
          obtain ⟨t2, ht2⟩ : ∃ v, v = (⟨(wordOf y).toArray⟩ : ByteArray) := ⟨_, rfl⟩
          rw [← hr1, ← hm1, ← ht1] at hA
          rw [← hrr2, ← hm2, ← ht2] at hB
          obtain ⟨c1, hc1⟩ : ∃ v, v = compareInt r1 r2 := ⟨_, rfl⟩
          obtain ⟨c2, hc2⟩ : ∃ v, v = compareInt m1 m2 := ⟨_, rfl⟩
          obtain ⟨c3, hc3⟩ : ∃ v, v = cmpW t1.data.toList t2.data.toList := ⟨_, rfl⟩
          have hC1 := fun W => compare_any r1 r2 W
          have hC2 := fun W => compare_any m1 m2 W
          have hC3 := fun W => compareW_any t1 t2 W
          rw [← hc1] at hC1
          rw [← hc2] at hC2
          rw [← hc3] at hC3
          have hF := or3_any c1 c2 c3 c (or3 c c1 c2 c3 (by rw [hc, hc1, hc2, hc3, hr1, hrr2, hm1, hm2, ht1, ht2]; rfl))
          clear hr1 hrr2 hm1 hm2 ht1 ht2 hc1 hc2 hc3 hc em en
          have Hp1 := Lib.hid p1; have Hp2 := Lib.hid p2; have HA := Lib.hid hA; have HB := Lib.hid hB; have Hx := Lib.hid hx; have Hy := Lib.hid hy; have Hrk := Lib.hid hrk; have Hr2 := Lib.hid hr2; have HC1 := Lib.hid hC1; have HC2 := Lib.hid hC2; have HC3 := Lib.hid hC3; have HF := Lib.hid hF; have Hbk := Lib.hid hbk; clear p1 p2 hA hB hx hy hrk hr2 hC1 hC2 hC3 hF hbk
          go_wp2_with fail
          refine HA.out.mono ?_
          rintro e w3 ⟨rfl, hb3⟩
          have hB3 := HB.out w3 hb3
          have HB3 := Lib.hid hB3; have Hb3 := Lib.hid hb3; clear hB3 hb3
          clear HB
          go_wp2_with fail
          refine HB3.out.mono ?_
          rintro e w4 ⟨rfl, hb4⟩
          have hb5 := Hbk.out.trans ((Hb3.out.trans (hb4.mono Hb3.out.size)).mono Hbk.out.size)
          have Hb4 := Lib.hid hb4; have Hb5 := Lib.hid hb5; clear hb4 hb5
          obtain ⟨A, hA⟩ : ∃ A, A = Obj.cells #[.int .i64 r1, .int .i64 m1, .string t1] 241 := ⟨_, rfl⟩
          obtain ⟨B, hB⟩ : ∃ A, A = Obj.cells #[.int .i64 r2, .int .i64 m2, .string t2] 241 := ⟨_, rfl⟩
          obtain ⟨pa, hpa⟩ : ∃ n, n = w4.heap.size := ⟨_, rfl⟩
          obtain ⟨pb, hpb⟩ : ∃ n, n = w4.heap.size + 1 := ⟨_, rfl⟩
          obtain ⟨W0, hW0⟩ : ∃ W, W = (w4.alloc A).alloc B := ⟨_, rfl⟩
          have hX : W0.heap[pa]? = some (.cells #[.int .i64 r1, .int .i64 m1, .string t1] 241 (0, 0)) := by
            rw [hW0, hpa]; exact heap_below (below_alloc1 _ _) (by rw [hA]; exact heap_alloc_new _ _)
          have hY : W0.heap[pb]? = some (.cells #[.int .i64 r2, .int .i64 m2, .string t2] 241 (0, 0)) := by
            rw [hW0, hpb, hB, show w4.heap.size + 1 = (w4.alloc A).heap.size by simp]; exact heap_alloc_new _ _
          have hbW : Below w2.heap.size w2 W0 := by
            rw [hW0]
            exact (Hb5.out.alloc Hb5.out.size _).alloc (by have := Hb5.out.size; simp; omega) _
          obtain ⟨x0, x1, x2, _, _, _⟩ := trip_cells hX
          obtain ⟨y0, y1, y2, _, _, _⟩ := trip_cells hY
          have HA := Lib.hid hA; have HB := Lib.hid hB; have Hpa := Lib.hid hpa; have Hpb := Lib.hid hpb; have HW0 := Lib.hid hW0; have HX := Lib.hid hX; have HY := Lib.hid hY; have HbW := Lib.hid hbW; clear hA hB hpa hpb hW0 hX hY hbW
          go_upto_region 13 with fail
          rw [← HA.out, ← HB.out, ← HW0.out, ← Hpb.out, ← Hpa.out]
          have hS : W0.cell? ⟨pa, 0, none⟩ = some (.int .i64 r1) ∧ W0.cell? ⟨pa, 1, none⟩ = some (.int .i64 m1) ∧ W0.cell? ⟨pa, 2, none⟩ = some (.string t1) ∧ W0.cell? ⟨pb, 0, none⟩ = some (.int .i64 r2) ∧ W0.cell? ⟨pb, 1, none⟩ = some (.int .i64 m2) ∧ W0.cell? ⟨pb, 2, none⟩ = some (.string t2) := ⟨x0, x1, x2, y0, y1, y2⟩
          have hS1 : ∀ o, (W0.drew.alloc o).cell? ⟨pa, 0, none⟩ = some (.int .i64 r1) ∧ (W0.drew.alloc o).cell? ⟨pa, 1, none⟩ = some (.int .i64 m1) ∧ (W0.drew.alloc o).cell? ⟨pa, 2, none⟩ = some (.string t1) ∧ (W0.drew.alloc o).cell? ⟨pb, 0, none⟩ = some (.int .i64 r2) ∧ (W0.drew.alloc o).cell? ⟨pb, 1, none⟩ = some (.int .i64 m2) ∧ (W0.drew.alloc o).cell? ⟨pb, 2, none⟩ = some (.string t2) := fun o =>
            ⟨cell_later (below_alloc1 W0.drew o) x0, cell_later (below_alloc1 W0.drew o) x1, cell_later (below_alloc1 W0.drew o) x2, cell_later (below_alloc1 W0.drew o) y0, cell_later (below_alloc1 W0.drew o) y1, cell_later (below_alloc1 W0.drew o) y2⟩
          have hbW2 : ∀ o, Below w2.heap.size w2 (W0.alloc o).drew := fun o => (HbW.out.alloc HbW.out.size o).drew
          have HS := Lib.hid hS; have HS1 := Lib.hid hS1; have HbW2 := Lib.hid hbW2; clear hS hS1 hbW2
          clear HA HB HW0 Hpa Hpb HX HY
          go_region_held3 (fun w' => w'.cell? ⟨pa, 0, none⟩ = some (.int .i64 r1) ∧ w'.cell? ⟨pa, 1, none⟩ = some (.int .i64 m1) ∧ w'.cell? ⟨pa, 2, none⟩ = some (.string t1) ∧ w'.cell? ⟨pb, 0, none⟩ = some (.int .i64 r2) ∧ w'.cell? ⟨pb, 1, none⟩ = some (.int .i64 m2) ∧ w'.cell? ⟨pb, 2, none⟩ = some (.string t2)) (first | exact HS.out | exact HS1.out _) (first
            | (go_at_call_of 199 (Value.int .i64 r1); refine (HC1.out _).mono ?_; rintro e w5 ⟨rfl, rfl⟩)
            | (go_at_call_of 199 (Value.int .i64 m1); refine (HC2.out _).mono ?_; rintro e w5 ⟨rfl, rfl⟩)
            | (go_at_call_of 200 (Value.string t1); refine (HC3.out _).mono ?_; rintro e w5 ⟨rfl, rfl⟩)
            | (go_at_call 198; refine (HF.out W0).mono ?_; rintro e w5 ⟨rfl, rfl⟩))
          all_goals
            have hbz := HbW2.out (.cells #[.int .i64 c1, .int .i64 c2, .int .i64 c3] 3)
            generalize (W0.alloc (.cells #[.int .i64 c1, .int .i64 c2, .int .i64 c3] 3)).drew = W9 at hbz ⊢
            by_cases hc0 : c = 0
            · have e1 : (c != 0) = false := by rw [hc0]; rfl
              have hn_ : r = cmpFrom ps qs (k + 1) (N - (k + 1)) := by rw [Hr2.out, if_neg (by rw [hc0]; simp)]
              have Hbz := Lib.hid hbz; have Hc0 := Lib.hid hc0; have Hn_ := Lib.hid hn_; clear hbz hc0 hn_
              go_wp2_with fail
              go_roundw
              case rel => exact ⟨k + 1, by omega, by go_num, Hn_.out, Hbz.out⟩
              case measure => simp [RowKit.intOf]; omega
            · have e1 : (c != 0) = true := by simpa using hc0
              have hn_ : r = c := by rw [Hr2.out, if_pos hc0]
              have hb9 := Hb.out.trans (hbz.mono Hb.out.size)
              have Hbz := Lib.hid hbz; have Hc0 := Lib.hid hc0; have Hn_ := Lib.hid hn_; have Hb9 := Lib.hid hb9; clear hbz hc0 hn_ hb9
              go_wp2_with fail
              go_ret
              exact ⟨ret_int Hn_.out.symm, Hb9.out⟩
        · obtain rfl : k = N := by omega
          have hfin : r = 0 := by rw [hrk, Nat.sub_self]; rfl
          have hb9 := Hb.out.trans (hbk.mono Hb.out.size)
          have Hrk := Lib.hid hrk; have Hbk := Lib.hid hbk; have Hfin := Lib.hid hfin; have Hb9 := Lib.hid hb9; clear hrk hbk hfin hb9
          go_wp2_with fail
          go_ret
          exact ⟨ret_int Hfin.out.symm, Hb9.out⟩
end Go.Proofs.YteailgjiifdgcaaGreatDoor

/- Rows of texts: how they are read, and what stays. No condition. -/
namespace Go.Proofs.YteailgjiifdgcaaGreatDoor
open Go.RowKit Go.Lib

abbrev RTs : Rd (List ByteArray) := RSlice 1 RStr
theorem txts_open {w : World} {v : Value} {l : List ByteArray} (h : RTs w [v] l) : ∃ a cap, v = .slice a l.length cap ∧ l.length ≤ 9223372036854775807 ∧ ∀ i (hi : i < l.length), ∃ b off, a = some ⟨b, off, none⟩ ∧ w.cell? ⟨b, off + i, none⟩ = some (.string l[i]) ∧ l[i].size ≤ maxLen := by
  obtain ⟨a, cap, hv, hcap, hmax, hel⟩ := h
  simp only [List.cons.injEq, and_true] at hv
  unfold maxLen at hmax
  refine ⟨a, cap, hv, by omega, fun i hi => ?_⟩
  obtain ⟨b, off, ecs, h1, h2, h3, h4, h5⟩ := hel i l[i] (List.getElem?_eq_getElem hi)
  subst h4
  exact ⟨b, off, h1, by simpa using h3 0 _ rfl, h5⟩
theorem own_texts {w : World} {B : Nat} {v : Value} {n : Nat} {l : List ByteArray} (h : w.ownsRow B 9 1 v n (l.map Value.string)) (hs : ∀ x ∈ l, x.size ≤ maxLen) : RTs w [v] l := by
  obtain rfl : n = l.length := by have := h.1; simp at this; omega
  refine slice_of_owns (by simp) h fun i u x hu hx => ?_
  rw [List.getElem?_map, hx] at hu
  cases hu
  exact ⟨rfl, hs x (List.mem_of_getElem? hx)⟩
theorem stays_texts {w w' : World} {v : Value} {l : List ByteArray} (h : RTs w [v] l) (hb : Below w.heap.size w w') : RTs w' [v] l := stays_slice stays_str _ _ _ _ h hb
end Go.Proofs.YteailgjiifdgcaaGreatDoor

/- The walks of version.May, span.bound, span.ahead, span.later, span.sooner and the document's bound. Condition: the library's variables as they were laid; texts of at most a million bytes. -/
namespace Go.Proofs.YteailgjiifdgcaaGreatDoor
open Go.RowKit Go.Lib VerN

theorem calls_to {f : Nat} {args : Array Value} {w W : World} {E : Ending} (h : Below w.heap.size w W) (c : Calls Tryz.prog f args W fun e w' => e = E ∧ Below W.heap.size W w') : Calls Tryz.prog f args W fun e w' => e = E ∧ Below w.heap.size w w' :=
  c.mono fun _ _ ⟨he, hb⟩ => ⟨he, h.trans (hb.mono h.size)⟩
set_option maxRecDepth 10000 in
theorem verMay_any (s : ByteArray) (hs : s.size ≤ 1000000) {w : World} (hD : Doors w) : Calls Tryz.prog 124 #[.string s] w fun e w' => e = .returned (.bool (mayL s.data.toList)) ∧ Below w.heap.size w w' := by
  have hP := parts_any s hs hD
  unfold partsPost at hP
  obtain ⟨p, hp⟩ : ∃ p, p = mayL s.data.toList := ⟨_, rfl⟩
  rw [← hp] at hP ⊢
  have HP := Lib.hid hP; have Hp := Lib.hid hp; have HD := Lib.hid hD; clear hP hp hD
  go_enter Tryz.func124, Tryz.ntmps124
  go_wp2_with fail
  refine HP.out.mono ?_
  rintro e w1 ⟨v, rfl, _, _, hb1⟩
  have Hb1 := Lib.hid hb1; clear hb1
  go_wp2_with fail
  go_ret
  exact ⟨rfl, Hb1.out⟩
theorem bound_yes {s : ByteArray} (h : s.size = 0) : boundB s.data.toList = true := by unfold boundB; rw [(nil_size s).2 h]; rfl
theorem bound_no {s : ByteArray} (h : s.size ≠ 0) : boundB s.data.toList = mayL s.data.toList := by unfold boundB; rw [decide_eq_false (fun e => h ((nil_size s).1 e))]; rfl
set_option maxRecDepth 10000 in
theorem bound_any (s : ByteArray) (hs : s.size ≤ 1000000) {w : World} (hD : Doors w) : Calls Tryz.prog 162 #[.string s] w fun e w' => e = .returned (.bool (boundB s.data.toList)) ∧ Below w.heap.size w w' := by
  by_cases h0 : s.size = 0
  · rw [bound_yes h0]
    have k1 : s.toList.isEmpty = true := by rw [Txt.no_dec, decide_eq_true h0]
    have HD := Lib.hid hD; clear hD
    go_enter Tryz.func162, Tryz.ntmps162
    go_wp2_with fail
    go_ret
    exact ⟨rfl, Below.refl _ _⟩
  · have hP := verMay_any s hs hD
    rw [bound_no h0]
    have k1 : s.toList.isEmpty = false := by rw [Txt.no_dec, decide_eq_false h0]
    obtain ⟨p, hp⟩ : ∃ p, p = mayL s.data.toList := ⟨_, rfl⟩
    rw [← hp] at hP ⊢
    have HP := Lib.hid hP; have Hp := Lib.hid hp; have HD := Lib.hid hD; clear hP hp hD
    go_enter Tryz.func162, Tryz.ntmps162
    go_wp2_with fail
    refine HP.out.mono ?_
    rintro e w1 ⟨rfl, hb1⟩
    have Hb1 := Lib.hid hb1; clear hb1
    go_wp2_with fail
    go_ret
    exact ⟨rfl, Hb1.out⟩
set_option maxRecDepth 10000 in
theorem rbound_any (s : ByteArray) (hs : s.size ≤ 1000000) (w : World) : Calls Tryz.prog 116 #[.string s] w fun e w' => e = .returned (.bool (boundB s.data.toList)) ∧ Below w.heap.size w w' := by
  by_cases h0 : s.size = 0
  · rw [bound_yes h0]
    have k1 : s.toList.isEmpty = true := by rw [Txt.no_dec, decide_eq_true h0]
    go_enter Tryz.func116, Tryz.ntmps116
    go_wp2_with fail
    go_ret
    exact ⟨rfl, Below.refl _ _⟩
  · have hP := may1_any s hs w
    rw [bound_no h0]
    have k1 : s.toList.isEmpty = false := by rw [Txt.no_dec, decide_eq_false h0]
    obtain ⟨p, hp⟩ : ∃ p, p = mayL s.data.toList := ⟨_, rfl⟩
    rw [← hp] at hP ⊢
    have HP := Lib.hid hP; have Hp := Lib.hid hp; clear hP hp
    go_enter Tryz.func116, Tryz.ntmps116
    go_wp2_with fail
    refine HP.out.mono ?_
    rintro e w1 ⟨rfl, hb1⟩
    have Hb1 := Lib.hid hb1; clear hb1
    go_wp2_with fail
    go_ret
    exact ⟨rfl, Hb1.out⟩
theorem ahead_l {a b : ByteArray} (h : a.size = 0) : aheadB a.data.toList b.data.toList = false := by unfold aheadB; rw [(nil_size a).2 h]; rfl
theorem ahead_r {a b : ByteArray} (h : b.size = 0) : aheadB a.data.toList b.data.toList = false := by unfold aheadB; rw [(nil_size b).2 h]; simp
theorem ahead_c {a b : ByteArray} (h : a.size ≠ 0) (k : b.size ≠ 0) : aheadB a.data.toList b.data.toList = decide (compareL a.data.toList b.data.toList < 0) := by
  have h1 : decide (a.data.toList ≠ []) = true := decide_eq_true (fun e => h ((nil_size a).1 e))
  have h2 : decide (b.data.toList ≠ []) = true := decide_eq_true (fun e => k ((nil_size b).1 e))
  unfold aheadB
  rw [h1, h2]
  rfl
set_option maxRecDepth 10000 in
theorem ahead_any (a b : ByteArray) (ha : a.size ≤ 1000000) (hb : b.size ≤ 1000000) {w : World} (hD : Doors w) : Calls Tryz.prog 125 #[.string a, .string b] w fun e w' => e = .returned (.bool (aheadB a.data.toList b.data.toList)) ∧ Below w.heap.size w w' := by
  by_cases h0 : a.size = 0
  · rw [ahead_l h0]
    have k1 : a.toList.isEmpty = true := by rw [Txt.no_dec, decide_eq_true h0]
    have HD := Lib.hid hD; clear hD
    go_enter Tryz.func125, Tryz.ntmps125
    go_wp2_with fail
    go_ret
    exact ⟨rfl, Below.refl _ _⟩
  · have k1 : a.toList.isEmpty = false := by rw [Txt.no_dec, decide_eq_false h0]
    by_cases h1 : b.size = 0
    · rw [ahead_r h1]
      have k2 : b.toList.isEmpty = true := by rw [Txt.no_dec, decide_eq_true h1]
      have HD := Lib.hid hD; clear hD
      go_enter Tryz.func125, Tryz.ntmps125
      go_wp2_with fail
      go_ret
      exact ⟨rfl, Below.refl _ _⟩
    · have k2 : b.toList.isEmpty = false := by rw [Txt.no_dec, decide_eq_false h1]
      have hP := verCompare_any a b ha hb hD
      rw [ahead_c h0 h1]
      obtain ⟨p, hp⟩ : ∃ p, p = compareL a.data.toList b.data.toList := ⟨_, rfl⟩
      rw [← hp] at hP ⊢
      have HP := Lib.hid hP; have Hp := Lib.hid hp; have HD := Lib.hid hD; clear hP hp hD
      go_enter Tryz.func125, Tryz.ntmps125
      go_wp2_with fail
      refine HP.out.mono ?_
      rintro e w1 ⟨rfl, hb1⟩
      have Hb1 := Lib.hid hb1; clear hb1
      go_wp2_with fail
      go_ret
      exact ⟨rfl, Hb1.out⟩
def laterS (a b : ByteArray) : ByteArray := if a.size = 0 ∨ aheadB a.data.toList b.data.toList = true then b else a
def soonerS (a b : ByteArray) : ByteArray := if a.size = 0 ∨ aheadB b.data.toList a.data.toList = true then b else a
theorem laterS_data (a b : ByteArray) : (laterS a b).data.toList = laterB a.data.toList b.data.toList := by
  unfold laterS laterB
  simp only [nil_size]
  split <;> rfl
theorem soonerS_data (a b : ByteArray) : (soonerS a b).data.toList = soonerB a.data.toList b.data.toList := by
  unfold soonerS soonerB
  simp only [nil_size]
  split <;> rfl
theorem laterS_size {a b : ByteArray} {n : Nat} (ha : a.size ≤ n) (hb : b.size ≤ n) : (laterS a b).size ≤ n := by unfold laterS; split <;> assumption
theorem soonerS_size {a b : ByteArray} {n : Nat} (ha : a.size ≤ n) (hb : b.size ≤ n) : (soonerS a b).size ≤ n := by unfold soonerS; split <;> assumption
set_option maxRecDepth 10000 in
theorem later_any (a b : ByteArray) (ha : a.size ≤ 1000000) (hb : b.size ≤ 1000000) {w : World} (hD : Doors w) : Calls Tryz.prog 166 #[.string a, .string b] w fun e w' => e = .returned (.string (laterS a b)) ∧ Below w.heap.size w w' := by
  by_cases h0 : a.size = 0
  · have hv : laterS a b = b := by unfold laterS; rw [if_pos (.inl h0)]
    rw [hv]
    have k1 : a.toList.isEmpty = true := by rw [Txt.no_dec, decide_eq_true h0]
    have HD := Lib.hid hD; have Hv := Lib.hid hv; clear hD hv
    go_enter Tryz.func166, Tryz.ntmps166
    go_wp2_with fail
    go_ret
    exact ⟨rfl, Below.refl _ _⟩
  · have k1 : a.toList.isEmpty = false := by rw [Txt.no_dec, decide_eq_false h0]
    have hA := ahead_any a b ha hb hD
    obtain ⟨p, hp⟩ : ∃ p, p = aheadB a.data.toList b.data.toList := ⟨_, rfl⟩
    rw [← hp] at hA
    cases p with
    | true =>
      have hv : laterS a b = b := by unfold laterS; rw [if_pos (.inr hp.symm)]
      rw [hv]
      have HA := Lib.hid hA; have Hp := Lib.hid hp; have HD := Lib.hid hD; have Hv := Lib.hid hv; clear hA hp hD hv
      go_enter Tryz.func166, Tryz.ntmps166
      go_wp2_with fail
      refine HA.out.mono ?_
      rintro e w1 ⟨rfl, hb1⟩
      have Hb1 := Lib.hid hb1; clear hb1
      go_wp2_with fail
      go_ret
      exact ⟨rfl, Hb1.out⟩
    | false =>
      have hv : laterS a b = a := by unfold laterS; rw [if_neg (by rintro (h | h); exact h0 h; rw [h] at hp; cases hp)]
      rw [hv]
      have HA := Lib.hid hA; have Hp := Lib.hid hp; have HD := Lib.hid hD; have Hv := Lib.hid hv; clear hA hp hD hv
      go_enter Tryz.func166, Tryz.ntmps166
      go_wp2_with fail
      refine HA.out.mono ?_
      rintro e w1 ⟨rfl, hb1⟩
      have Hb1 := Lib.hid hb1; clear hb1
      go_wp2_with fail
      go_ret
      exact ⟨rfl, Hb1.out⟩
set_option maxRecDepth 10000 in
theorem sooner_any (a b : ByteArray) (ha : a.size ≤ 1000000) (hb : b.size ≤ 1000000) {w : World} (hD : Doors w) : Calls Tryz.prog 165 #[.string a, .string b] w fun e w' => e = .returned (.string (soonerS a b)) ∧ Below w.heap.size w w' := by
  by_cases h0 : a.size = 0
  · have hv : soonerS a b = b := by unfold soonerS; rw [if_pos (.inl h0)]
    rw [hv]
    have k1 : a.toList.isEmpty = true := by rw [Txt.no_dec, decide_eq_true h0]
    have HD := Lib.hid hD; have Hv := Lib.hid hv; clear hD hv
    go_enter Tryz.func165, Tryz.ntmps165
    go_wp2_with fail
    go_ret
    exact ⟨rfl, Below.refl _ _⟩
  · have k1 : a.toList.isEmpty = false := by rw [Txt.no_dec, decide_eq_false h0]
    have hA := ahead_any b a hb ha hD
    obtain ⟨p, hp⟩ : ∃ p, p = aheadB b.data.toList a.data.toList := ⟨_, rfl⟩
    rw [← hp] at hA
    cases p with
    | true =>
      have hv : soonerS a b = b := by unfold soonerS; rw [if_pos (.inr hp.symm)]
      rw [hv]
      have HA := Lib.hid hA; have Hp := Lib.hid hp; have HD := Lib.hid hD; have Hv := Lib.hid hv; clear hA hp hD hv
      go_enter Tryz.func165, Tryz.ntmps165
      go_wp2_with fail
      refine HA.out.mono ?_
      rintro e w1 ⟨rfl, hb1⟩
      have Hb1 := Lib.hid hb1; clear hb1
      go_wp2_with fail
      go_ret
      exact ⟨rfl, Hb1.out⟩
    | false =>
      have hv : soonerS a b = a := by unfold soonerS; rw [if_neg (by rintro (h | h); exact h0 h; rw [h] at hp; cases hp)]
      rw [hv]
      have HA := Lib.hid hA; have Hp := Lib.hid hp; have HD := Lib.hid hD; have Hv := Lib.hid hv; clear hA hp hD hv
      go_enter Tryz.func165, Tryz.ntmps165
      go_wp2_with fail
      refine HA.out.mono ?_
      rintro e w1 ⟨rfl, hb1⟩
      have Hb1 := Lib.hid hb1; clear hb1
      go_wp2_with fail
      go_ret
      exact ⟨rfl, Hb1.out⟩
end Go.Proofs.YteailgjiifdgcaaGreatDoor

/- The walks of span.May, Has and the document's. Condition: the library's variables as they were laid; texts of at most a million bytes. -/
namespace Go.Proofs.YteailgjiifdgcaaGreatDoor
open Go.RowKit Go.Lib VerN

theorem below_on {w W0 W : World} (h : Below w.heap.size w W0) (k : Below W0.heap.size W0 W) : Below w.heap.size w W := h.trans (k.mono h.size)
theorem spn_box (lo hi : ByteArray) (w W : World) (h : Below (w.alloc (.cells #[.string lo, .string hi] 34)).heap.size (w.alloc (.cells #[.string lo, .string hi] 34)) W) : W.cell? ⟨w.heap.size, 0, none⟩ = some (.string lo) ∧ W.cell? ⟨w.heap.size, 1, none⟩ = some (.string hi) := by
  have h1 := heap_below h (heap_alloc_new w (.cells #[.string lo, .string hi] 34))
  exact ⟨cells_at h1 0, cells_at h1 1⟩
theorem empty_bool (s : ByteArray) : s.toList.isEmpty = decide (s.data.toList = []) := by rw [Txt.no_dec]; exact decide_eq_decide.2 (nil_size s).symm
set_option maxRecDepth 10000 in
set_option maxHeartbeats 1000000 in
theorem spanMay_any (lo hi : ByteArray) (hl : lo.size ≤ 1000000) (hh : hi.size ≤ 1000000) {w : World} (hD : Doors w) : Calls Tryz.prog 104 #[.agg #[.string lo, .string hi]] w fun e w' => e = .returned (.bool (mayS (lo.data.toList, hi.data.toList))) ∧ Below w.heap.size w w' := by
  obtain ⟨W0, hW0⟩ : ∃ W0, W0 = w.alloc (.cells #[.string lo, .string hi] 34) := ⟨_, rfl⟩
  obtain ⟨nb, hnb⟩ : ∃ nb, nb = w.heap.size := ⟨_, rfl⟩
  have hw : Below w.heap.size w W0 := by rw [hW0]; exact below_alloc1 _ _
  have hbx : ∀ W, Below W0.heap.size W0 W → W.cell? ⟨nb, 0, none⟩ = some (.string lo) ∧ W.cell? ⟨nb, 1, none⟩ = some (.string hi) := by rw [hW0, hnb]; exact spn_box _ _ _
  obtain ⟨c0, c1⟩ := hbx W0 (Below.refl _ _)
  have hb0 : Below W0.heap.size W0 W0 := Below.refl _ _
  have hA := fun (W : World) (k : Below W0.heap.size W0 W) => calls_to k (bound_any lo hl (hD.below (below_on hw k)))
  have hB := fun (W : World) (k : Below W0.heap.size W0 W) => calls_to k (bound_any hi hh (hD.below (below_on hw k)))
  have hC := fun (W : World) (k : Below W0.heap.size W0 W) => calls_to k (ahead_any hi lo hh hl (hD.below (below_on hw k)))
  obtain ⟨p, hp⟩ : ∃ p, p = boundB lo.data.toList := ⟨_, rfl⟩
  obtain ⟨q, hq⟩ : ∃ p, p = boundB hi.data.toList := ⟨_, rfl⟩
  obtain ⟨r, hr⟩ : ∃ p, p = aheadB hi.data.toList lo.data.toList := ⟨_, rfl⟩
  have hm : mayS (lo.data.toList, hi.data.toList) = (p && q && !r) := by rw [hp, hq, hr]; rfl
  rw [← hp] at hA
  rw [← hq] at hB
  rw [← hr] at hC
  rw [hm]
  clear hm hp hq hr hD
  have HA := Lib.hid hA; have HB := Lib.hid hB; have HC := Lib.hid hC; have Hw := Lib.hid hw; have Hbx := Lib.hid hbx; have Hb0 := Lib.hid hb0; clear hA hB hC hw hbx hb0
  go_enter Tryz.func104, Tryz.ntmps104
  go_upto_region 1 with (fail)
  rw [← hW0, ← hnb]
  clear hW0 hnb
  go_wp2_with fail
  refine (HA.out _ Hb0.out).mono ?_
  rintro e w1 ⟨rfl, hb1⟩
  obtain ⟨c0, c1⟩ := Hbx.out _ hb1
  have Hb1 := Lib.hid hb1; clear hb1
  cases p with
  | false =>
    go_wp2_with fail
    go_ret
    exact ⟨rfl, below_on Hw.out Hb1.out⟩
  | true =>
    go_wp2_with fail
    refine (HB.out _ Hb1.out).mono ?_
    rintro e w2 ⟨rfl, hb2⟩
    obtain ⟨c0, c1⟩ := Hbx.out _ hb2
    have Hb2 := Lib.hid hb2; clear hb2
    cases q with
    | false =>
      go_wp2_with fail
      go_ret
      exact ⟨rfl, below_on Hw.out Hb2.out⟩
    | true =>
      go_wp2_with fail
      refine (HC.out _ Hb2.out).mono ?_
      rintro e w3 ⟨rfl, hb3⟩
      obtain ⟨c0, c1⟩ := Hbx.out _ hb3
      have Hb3 := Lib.hid hb3; clear hb3
      go_wp2_with fail
      go_ret
      exact ⟨rfl, below_on Hw.out Hb3.out⟩
set_option maxRecDepth 10000 in
set_option maxHeartbeats 1000000 in
theorem refMay2_any (lo hi : ByteArray) (hl : lo.size ≤ 1000000) (hh : hi.size ≤ 1000000) (w : World) : Calls Tryz.prog 59 #[.agg #[.string lo, .string hi]] w fun e w' => e = .returned (.bool (mayS (lo.data.toList, hi.data.toList))) ∧ Below w.heap.size w w' := by
  obtain ⟨W0, hW0⟩ : ∃ W0, W0 = w.alloc (.cells #[.string lo, .string hi] 34) := ⟨_, rfl⟩
  obtain ⟨nb, hnb⟩ : ∃ nb, nb = w.heap.size := ⟨_, rfl⟩
  have hw : Below w.heap.size w W0 := by rw [hW0]; exact below_alloc1 _ _
  have hbx : ∀ W, Below W0.heap.size W0 W → W.cell? ⟨nb, 0, none⟩ = some (.string lo) ∧ W.cell? ⟨nb, 1, none⟩ = some (.string hi) := by rw [hW0, hnb]; exact spn_box _ _ _
  obtain ⟨c0, c1⟩ := hbx W0 (Below.refl _ _)
  have hb0 : Below W0.heap.size W0 W0 := Below.refl _ _
  have hA := fun (W : World) (k : Below W0.heap.size W0 W) => calls_to k (rbound_any lo hl W)
  have hB := fun (W : World) (k : Below W0.heap.size W0 W) => calls_to k (rbound_any hi hh W)
  have hC := fun (W : World) (k : Below W0.heap.size W0 W) => calls_to k (less1_any hi lo hh hl W)
  obtain ⟨p, hp⟩ : ∃ p, p = boundB lo.data.toList := ⟨_, rfl⟩
  obtain ⟨q, hq⟩ : ∃ p, p = boundB hi.data.toList := ⟨_, rfl⟩
  obtain ⟨r, hr⟩ : ∃ p, p = lessL hi.data.toList lo.data.toList := ⟨_, rfl⟩
  obtain ⟨d1, k1⟩ : ∃ p, lo.toList.isEmpty = p := ⟨_, rfl⟩
  obtain ⟨d2, k2⟩ : ∃ p, hi.toList.isEmpty = p := ⟨_, rfl⟩
  have hm : mayS (lo.data.toList, hi.data.toList) = (p && q && (d1 || d2 || !r)) := by rw [← refMay_is, hp, hq, hr, ← k1, ← k2, empty_bool, empty_bool]; rfl
  rw [← hp] at hA
  rw [← hq] at hB
  rw [← hr] at hC
  rw [hm]
  clear hm hp hq hr
  have HA := Lib.hid hA; have HB := Lib.hid hB; have HC := Lib.hid hC; have Hw := Lib.hid hw; have Hbx := Lib.hid hbx; have Hb0 := Lib.hid hb0; clear hA hB hC hw hbx hb0
  go_enter Tryz.func59, Tryz.ntmps59
  go_upto_region 1 with (fail)
  rw [← hW0, ← hnb]
  clear hW0 hnb
  go_wp2_with fail
  refine (HA.out _ Hb0.out).mono ?_
  rintro e w1 ⟨rfl, hb1⟩
  obtain ⟨c0, c1⟩ := Hbx.out _ hb1
  have Hb1 := Lib.hid hb1; clear hb1
  cases p with
  | false =>
    go_wp2_with fail
    go_ret
    exact ⟨rfl, below_on Hw.out Hb1.out⟩
  | true =>
    go_wp2_with fail
    refine (HB.out _ Hb1.out).mono ?_
    rintro e w2 ⟨rfl, hb2⟩
    obtain ⟨c0, c1⟩ := Hbx.out _ hb2
    have Hb2 := Lib.hid hb2; clear hb2
    cases q with
    | false =>
      go_wp2_with fail
      go_ret
      exact ⟨rfl, below_on Hw.out Hb2.out⟩
    | true =>
      cases d1 with
      | false =>
        cases d2 with
        | false =>
          go_wp2_with fail
          refine (HC.out _ Hb2.out).mono ?_
          rintro e w3 ⟨rfl, hb3⟩
          obtain ⟨c0, c1⟩ := Hbx.out _ hb3
          have Hb3 := Lib.hid hb3; clear hb3
          go_wp2_with fail
          go_ret
          exact ⟨rfl, below_on Hw.out Hb3.out⟩
        | true =>
          go_wp2_with fail
          go_ret
          exact ⟨rfl, below_on Hw.out Hb2.out⟩
      | true =>
        go_wp2_with fail
        go_ret
        exact ⟨rfl, below_on Hw.out Hb2.out⟩
set_option maxRecDepth 10000 in
set_option maxHeartbeats 1000000 in
theorem spanHas_any (lo hi v : ByteArray) (hl : lo.size ≤ 1000000) (hh : hi.size ≤ 1000000) (hv : v.size ≤ 1000000) {w : World} (hD : Doors w) : Calls Tryz.prog 68 #[.agg #[.string lo, .string hi], .string v] w fun e w' => e = .returned (.bool (hasS (lo.data.toList, hi.data.toList) v.data.toList)) ∧ Below w.heap.size w w' := by
  obtain ⟨W0, hW0⟩ : ∃ W0, W0 = w.alloc (.cells #[.string lo, .string hi] 34) := ⟨_, rfl⟩
  obtain ⟨nb, hnb⟩ : ∃ nb, nb = w.heap.size := ⟨_, rfl⟩
  have hw : Below w.heap.size w W0 := by rw [hW0]; exact below_alloc1 _ _
  have hbx : ∀ W, Below W0.heap.size W0 W → W.cell? ⟨nb, 0, none⟩ = some (.string lo) ∧ W.cell? ⟨nb, 1, none⟩ = some (.string hi) := by rw [hW0, hnb]; exact spn_box _ _ _
  obtain ⟨c0, c1⟩ := hbx W0 (Below.refl _ _)
  have hb0 : Below W0.heap.size W0 W0 := Below.refl _ _
  have hM := fun (W : World) (k : Below W0.heap.size W0 W) => calls_to k (spanMay_any lo hi hl hh (hD.below (below_on hw k)))
  have hV := fun (W : World) (k : Below W0.heap.size W0 W) => calls_to k (verMay_any v hv (hD.below (below_on hw k)))
  have hA := fun (W : World) (k : Below W0.heap.size W0 W) => calls_to k (ahead_any v lo hv hl (hD.below (below_on hw k)))
  have hB := fun (W : World) (k : Below W0.heap.size W0 W) => calls_to k (ahead_any hi v hh hv (hD.below (below_on hw k)))
  obtain ⟨p, hp⟩ : ∃ p, p = mayS (lo.data.toList, hi.data.toList) := ⟨_, rfl⟩
  obtain ⟨q, hq⟩ : ∃ p, p = mayL v.data.toList := ⟨_, rfl⟩
  obtain ⟨r, hr⟩ : ∃ p, p = aheadB v.data.toList lo.data.toList := ⟨_, rfl⟩
  obtain ⟨s, hs⟩ : ∃ p, p = aheadB hi.data.toList v.data.toList := ⟨_, rfl⟩
  have hm : hasS (lo.data.toList, hi.data.toList) v.data.toList = (p && q && !r && !s) := by rw [hp, hq, hr, hs]; rfl
  rw [← hp] at hM
  rw [← hq] at hV
  rw [← hr] at hA
  rw [← hs] at hB
  rw [hm]
  clear hm hp hq hr hs hD
  have HM := Lib.hid hM; have HV := Lib.hid hV; have HA := Lib.hid hA; have HB := Lib.hid hB; have Hw := Lib.hid hw; have Hbx := Lib.hid hbx; have Hb0 := Lib.hid hb0; clear hM hV hA hB hw hbx hb0
  go_enter Tryz.func68, Tryz.ntmps68
  go_upto_region 1 with (fail)
  rw [← hW0, ← hnb]
  clear hW0 hnb
  go_wp2_with fail
  refine (HM.out _ Hb0.out).mono ?_
  rintro e w1 ⟨rfl, hb1⟩
  obtain ⟨c0, c1⟩ := Hbx.out _ hb1
  have Hb1 := Lib.hid hb1; clear hb1
  cases p with
  | false =>
    go_wp2_with fail
    go_ret
    exact ⟨rfl, below_on Hw.out Hb1.out⟩
  | true =>
    go_wp2_with fail
    refine (HV.out _ Hb1.out).mono ?_
    rintro e w2 ⟨rfl, hb2⟩
    obtain ⟨c0, c1⟩ := Hbx.out _ hb2
    have Hb2 := Lib.hid hb2; clear hb2
    cases q with
    | false =>
      go_wp2_with fail
      go_ret
      exact ⟨rfl, below_on Hw.out Hb2.out⟩
    | true =>
      go_wp2_with fail
      refine (HA.out _ Hb2.out).mono ?_
      rintro e w3 ⟨rfl, hb3⟩
      obtain ⟨c0, c1⟩ := Hbx.out _ hb3
      have Hb3 := Lib.hid hb3; clear hb3
      cases r with
      | false =>
        go_wp2_with fail
        refine (HB.out _ Hb3.out).mono ?_
        rintro e w4 ⟨rfl, hb4⟩
        obtain ⟨c0, c1⟩ := Hbx.out _ hb4
        have Hb4 := Lib.hid hb4; clear hb4
        go_wp2_with fail
        go_ret
        exact ⟨rfl, below_on Hw.out Hb4.out⟩
      | true =>
        go_wp2_with fail
        go_ret
        exact ⟨rfl, below_on Hw.out Hb3.out⟩
set_option maxRecDepth 10000 in
set_option maxHeartbeats 1000000 in
theorem refHas2_any (lo hi v : ByteArray) (hl : lo.size ≤ 1000000) (hh : hi.size ≤ 1000000) (hv : v.size ≤ 1000000) (w : World) : Calls Tryz.prog 65 #[.agg #[.string lo, .string hi], .string v] w fun e w' => e = .returned (.bool (hasS (lo.data.toList, hi.data.toList) v.data.toList)) ∧ Below w.heap.size w w' := by
  obtain ⟨W0, hW0⟩ : ∃ W0, W0 = w.alloc (.cells #[.string lo, .string hi] 34) := ⟨_, rfl⟩
  obtain ⟨nb, hnb⟩ : ∃ nb, nb = w.heap.size := ⟨_, rfl⟩
  have hw : Below w.heap.size w W0 := by rw [hW0]; exact below_alloc1 _ _
  have hbx : ∀ W, Below W0.heap.size W0 W → W.cell? ⟨nb, 0, none⟩ = some (.string lo) ∧ W.cell? ⟨nb, 1, none⟩ = some (.string hi) := by rw [hW0, hnb]; exact spn_box _ _ _
  obtain ⟨c0, c1⟩ := hbx W0 (Below.refl _ _)
  have hb0 : Below W0.heap.size W0 W0 := Below.refl _ _
  have hM := fun (W : World) (k : Below W0.heap.size W0 W) => calls_to k (refMay2_any lo hi hl hh W)
  have hV := fun (W : World) (k : Below W0.heap.size W0 W) => calls_to k (may1_any v hv W)
  have hA := fun (W : World) (k : Below W0.heap.size W0 W) => calls_to k (less1_any v lo hv hl W)
  have hB := fun (W : World) (k : Below W0.heap.size W0 W) => calls_to k (less1_any hi v hh hv W)
  obtain ⟨p, hp⟩ : ∃ p, p = mayS (lo.data.toList, hi.data.toList) := ⟨_, rfl⟩
  obtain ⟨q, hq⟩ : ∃ p, p = mayL v.data.toList := ⟨_, rfl⟩
  obtain ⟨r, hr⟩ : ∃ p, p = lessL v.data.toList lo.data.toList := ⟨_, rfl⟩
  obtain ⟨s, hs⟩ : ∃ p, p = lessL hi.data.toList v.data.toList := ⟨_, rfl⟩
  obtain ⟨d1, k1⟩ : ∃ p, lo.toList.isEmpty = p := ⟨_, rfl⟩
  obtain ⟨d2, k2⟩ : ∃ p, hi.toList.isEmpty = p := ⟨_, rfl⟩
  have hm : hasS (lo.data.toList, hi.data.toList) v.data.toList = if p = false ∨ q = false then false else (d1 || !r) && (d2 || !s) := by rw [← refHas_is, hp, hq, hr, hs, ← k1, ← k2, empty_bool, empty_bool, ← refMay_is]; rfl
  rw [← hp] at hM
  rw [← hq] at hV
  rw [← hr] at hA
  rw [← hs] at hB
  rw [hm]
  clear hm hp hq hr hs
  have HM := Lib.hid hM; have HV := Lib.hid hV; have HA := Lib.hid hA; have HB := Lib.hid hB; have Hw := Lib.hid hw; have Hbx := Lib.hid hbx; have Hb0 := Lib.hid hb0; clear hM hV hA hB hw hbx hb0
  go_enter Tryz.func65, Tryz.ntmps65
  go_upto_region 1 with (fail)
  rw [← hW0, ← hnb]
  clear hW0 hnb
  go_wp2_with fail
  refine (HM.out _ Hb0.out).mono ?_
  rintro e w1 ⟨rfl, hb1⟩
  obtain ⟨c0, c1⟩ := Hbx.out _ hb1
  have Hb1 := Lib.hid hb1; clear hb1
  cases p with
  | false =>
    go_wp2_with fail
    go_ret
    exact ⟨rfl, below_on Hw.out Hb1.out⟩
  | true =>
    go_wp2_with fail
    refine (HV.out _ Hb1.out).mono ?_
    rintro e w2 ⟨rfl, hb2⟩
    obtain ⟨c0, c1⟩ := Hbx.out _ hb2
    have Hb2 := Lib.hid hb2; clear hb2
    cases q with
    | false =>
      go_wp2_with fail
      go_ret
      exact ⟨rfl, below_on Hw.out Hb2.out⟩
    | true =>
      cases d1 with
      | false =>
        go_wp2_with fail
        refine (HA.out _ Hb2.out).mono ?_
        rintro e w3 ⟨rfl, hb3⟩
        obtain ⟨c0, c1⟩ := Hbx.out _ hb3
        have Hb3 := Lib.hid hb3; clear hb3
        cases r with
        | false =>
          cases d2 with
          | false =>
            go_wp2_with fail
            refine (HB.out _ Hb3.out).mono ?_
            rintro e w4 ⟨rfl, hb4⟩
            obtain ⟨c0, c1⟩ := Hbx.out _ hb4
            have Hb4 := Lib.hid hb4; clear hb4
            go_wp2_with fail
            go_ret
            exact ⟨rfl, below_on Hw.out Hb4.out⟩
          | true =>
            go_wp2_with fail
            go_ret
            exact ⟨rfl, below_on Hw.out Hb3.out⟩
        | true =>
          go_wp2_with fail
          go_ret
          exact ⟨rfl, below_on Hw.out Hb3.out⟩
      | true =>
        cases d2 with
        | false =>
          go_wp2_with fail
          refine (HB.out _ Hb2.out).mono ?_
          rintro e w3 ⟨rfl, hb3⟩
          obtain ⟨c0, c1⟩ := Hbx.out _ hb3
          have Hb3 := Lib.hid hb3; clear hb3
          go_wp2_with fail
          go_ret
          exact ⟨rfl, below_on Hw.out Hb3.out⟩
        | true =>
          go_wp2_with fail
          go_ret
          exact ⟨rfl, below_on Hw.out Hb2.out⟩
end Go.Proofs.YteailgjiifdgcaaGreatDoor

/- The walks of span.Text, Within, and the document's Text, Great. Condition: the library's variables as they were laid; texts of at most a million bytes. -/
namespace Go.Proofs.YteailgjiifdgcaaGreatDoor
open Go.RowKit Go.Lib VerN

/-- the text of a span that may be; of any span -/
def txR (lo hi : ByteArray) : ByteArray := if lo = hi ∧ lo.size ≠ 0 then lo else lo ++ ⟨#[58]⟩ ++ hi
def txS (lo hi : ByteArray) : ByteArray := if mayS (lo.data.toList, hi.data.toList) = true then txR lo hi else ⟨#[]⟩
theorem colon_data (h a : ByteArray) : (h ++ ⟨#[58]⟩ ++ a).data.toList = h.data.toList ++ 58 :: a.data.toList := by
  rw [Go.Joins.data_append, Go.Joins.data_append, List.append_assoc]
  rfl
theorem colon_size (h a : ByteArray) : (h ++ ⟨#[58]⟩ ++ a).size = h.size + 1 + a.size := by
  rw [← Txt.len, colon_data, List.length_append, List.length_cons, Txt.len, Txt.len]
  omega
theorem ba_eq {a b : ByteArray} : a = b ↔ a.data.toList = b.data.toList := ⟨fun h => by rw [h], Txt.ext⟩
theorem txR_data (lo hi : ByteArray) : (txR lo hi).data.toList = textR (lo.data.toList, hi.data.toList) := by
  unfold txR textR
  simp only [ba_eq, ne_eq, nil_size]
  split
  · rfl
  · exact colon_data _ _
theorem txS_data (lo hi : ByteArray) : (txS lo hi).data.toList = textS (lo.data.toList, hi.data.toList) := by
  unfold txS textS
  split
  · exact txR_data _ _
  · rfl
theorem txR_size (lo hi : ByteArray) : (txR lo hi).size ≤ lo.size + 1 + hi.size := by
  unfold txR
  split
  · omega
  · rw [colon_size]
    exact Nat.le_refl _
theorem spn_box2 (lo hi lp hj : ByteArray) (w W : World) (h : Below ((w.alloc (.cells #[.string lo, .string hi] 34)).alloc (.cells #[.string lp, .string hj] 34)).heap.size ((w.alloc (.cells #[.string lo, .string hi] 34)).alloc (.cells #[.string lp, .string hj] 34)) W) :
    W.cell? ⟨w.heap.size, 0, none⟩ = some (.string lo) ∧ W.cell? ⟨w.heap.size, 1, none⟩ = some (.string hi) ∧ W.cell? ⟨w.heap.size + 1, 0, none⟩ = some (.string lp) ∧ W.cell? ⟨w.heap.size + 1, 1, none⟩ = some (.string hj) := by
  have h1 := heap_below h (heap_below (below_alloc1 _ (.cells #[.string lp, .string hj] 34)) (heap_alloc_new w (.cells #[.string lo, .string hi] 34)))
  have h2 := heap_below h (heap_new_at (n := w.heap.size + 1) (by simp))
  exact ⟨cells_at h1 0, cells_at h1 1, cells_at h2 0, cells_at h2 1⟩
set_option maxRecDepth 10000 in
set_option maxHeartbeats 1000000 in
theorem refText_any (lo hi : ByteArray) (hl : lo.size ≤ 1000000) (hh : hi.size ≤ 1000000) (w : World) : Calls Tryz.prog 114 #[.agg #[.string lo, .string hi]] w fun e w' => e = .returned (.string (txR lo hi)) ∧ Below w.heap.size w w' := by
  obtain ⟨W0, hW0⟩ : ∃ W0, W0 = w.alloc (.cells #[.string lo, .string hi] 34) := ⟨_, rfl⟩
  obtain ⟨nb, hnb⟩ : ∃ nb, nb = w.heap.size := ⟨_, rfl⟩
  have hw : Below w.heap.size w W0 := by rw [hW0]; exact below_alloc1 _ _
  have hbx : ∀ W, Below W0.heap.size W0 W → W.cell? ⟨nb, 0, none⟩ = some (.string lo) ∧ W.cell? ⟨nb, 1, none⟩ = some (.string hi) := by rw [hW0, hnb]; exact spn_box _ _ _
  obtain ⟨c0, c1⟩ := hbx W0 (Below.refl _ _)
  have hb0 : Below W0.heap.size W0 W0 := Below.refl _ _
  obtain ⟨d1, k1⟩ : ∃ p, lo.toList.isEmpty = p := ⟨_, rfl⟩
  obtain ⟨d2, k2⟩ : ∃ p, (lo.toList == hi.toList) = p := ⟨_, rfl⟩
  have e0 : (lo ++ ⟨#[58]⟩).size = lo.size + 1 := by rw [← Txt.len, Go.Joins.data_append, List.length_append, Txt.len]; rfl
  have hm : txR lo hi = if d2 = true then (if d1 = true then lo ++ ⟨#[58]⟩ ++ hi else lo) else lo ++ ⟨#[58]⟩ ++ hi := by
    rw [← k1, ← k2, Txt.no_dec, Txt.eq_dec]
    unfold txR
    by_cases h1 : lo = hi <;> by_cases h2 : lo.size = 0 <;> simp [h1, h2]
  rw [hm]
  clear hm
  have Hw := Lib.hid hw; have Hbx := Lib.hid hbx; have Hb0 := Lib.hid hb0; clear hw hbx hb0
  go_enter Tryz.func114, Tryz.ntmps114
  go_upto_region 1 with (fail)
  rw [← hW0, ← hnb]
  clear hW0 hnb
  cases d2 with
  | false =>
    go_wp2_with fail
    go_ret
    exact ⟨rfl, below_on Hw.out Hb0.out⟩
  | true =>
    cases d1 with
    | false =>
      go_wp2_with fail
      go_ret
      exact ⟨rfl, below_on Hw.out Hb0.out⟩
    | true =>
      go_wp2_with fail
      go_ret
      exact ⟨rfl, below_on Hw.out Hb0.out⟩
set_option maxRecDepth 10000 in
set_option maxHeartbeats 1000000 in
theorem spanText_any (lo hi : ByteArray) (hl : lo.size ≤ 1000000) (hh : hi.size ≤ 1000000) {w : World} (hD : Doors w) : Calls Tryz.prog 57 #[.agg #[.string lo, .string hi]] w fun e w' => e = .returned (.string (txS lo hi)) ∧ Below w.heap.size w w' := by
  obtain ⟨W0, hW0⟩ : ∃ W0, W0 = w.alloc (.cells #[.string lo, .string hi] 34) := ⟨_, rfl⟩
  obtain ⟨nb, hnb⟩ : ∃ nb, nb = w.heap.size := ⟨_, rfl⟩
  have hw : Below w.heap.size w W0 := by rw [hW0]; exact below_alloc1 _ _
  have hbx : ∀ W, Below W0.heap.size W0 W → W.cell? ⟨nb, 0, none⟩ = some (.string lo) ∧ W.cell? ⟨nb, 1, none⟩ = some (.string hi) := by rw [hW0, hnb]; exact spn_box _ _ _
  obtain ⟨c0, c1⟩ := hbx W0 (Below.refl _ _)
  have hb0 : Below W0.heap.size W0 W0 := Below.refl _ _
  obtain ⟨d1, k1⟩ : ∃ p, lo.toList.isEmpty = p := ⟨_, rfl⟩
  obtain ⟨d2, k2⟩ : ∃ p, (lo.toList == hi.toList) = p := ⟨_, rfl⟩
  have e0 : (lo ++ ⟨#[58]⟩).size = lo.size + 1 := by rw [← Txt.len, Go.Joins.data_append, List.length_append, Txt.len]; rfl
  have hA := fun (W : World) (k : Below W0.heap.size W0 W) => calls_to k (spanMay_any lo hi hl hh (hD.below (below_on hw k)))
  obtain ⟨p, hp⟩ : ∃ p, p = mayS (lo.data.toList, hi.data.toList) := ⟨_, rfl⟩
  have hm : txS lo hi = if p = true then (if d2 = true then (if d1 = true then lo ++ ⟨#[58]⟩ ++ hi else lo) else lo ++ ⟨#[58]⟩ ++ hi) else ⟨#[]⟩ := by
    rw [← k1, ← k2, Txt.no_dec, Txt.eq_dec]
    unfold txS txR
    rw [← hp]
    by_cases h1 : lo = hi <;> by_cases h2 : lo.size = 0 <;> simp [h1, h2]
  rw [hm]
  rw [← hp] at hA
  clear hm hp hD
  have HA := Lib.hid hA; have Hw := Lib.hid hw; have Hbx := Lib.hid hbx; have Hb0 := Lib.hid hb0; clear hA hw hbx hb0
  go_enter Tryz.func57, Tryz.ntmps57
  go_upto_region 1 with (fail)
  rw [← hW0, ← hnb]
  clear hW0 hnb
  go_wp2_with fail
  refine (HA.out _ Hb0.out).mono ?_
  rintro e w1 ⟨rfl, hb1⟩
  obtain ⟨c0, c1⟩ := Hbx.out _ hb1
  have Hb1 := Lib.hid hb1; clear hb1
  cases p with
  | false =>
    go_wp2_with fail
    go_ret
    exact ⟨rfl, below_on Hw.out Hb1.out⟩
  | true =>
    cases d2 with
    | false =>
      go_wp2_with fail
      go_ret
      exact ⟨rfl, below_on Hw.out Hb1.out⟩
    | true =>
      cases d1 with
      | false =>
        go_wp2_with fail
        go_ret
        exact ⟨rfl, below_on Hw.out Hb1.out⟩
      | true =>
        go_wp2_with fail
        go_ret
        exact ⟨rfl, below_on Hw.out Hb1.out⟩
end Go.Proofs.YteailgjiifdgcaaGreatDoor
