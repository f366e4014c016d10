/- The walk of version.read: whether a text is a part, and which one. Condition: the library's variables as they were laid, and a text of at most a million bytes. -/
import Derived.Test.YtblkdcapampniaaDoorDoor
import Derived.Test.YtblkdcapampniaaDoorVerQ
import Derived.Test.YtblkdcapampniaaDoorRows
import Derived.Laws.Rows
import Derived.Laws.ResultCell
import Derived.Lib.AtoiAllCases
set_option linter.unusedVariables false
set_option linter.unusedSimpArgs false
namespace Go.Proofs.YtblkdcapampniaaDoor
open Go.RowKit Go.Lib VerN

/-- what a part is as the program keeps it -/
def IsPart (l : List UInt8) (r m : Int) (x : ByteArray) : Prop := r = rankOf l ∧ m = numOf l ∧ x.data.toList = wordOf l
theorem bodyPost_part {fn : Func} {p u : Tmp} (hres : fn.results = #[.cell p 53, .tmp u]) {R : Ending → World → Prop} {a : Act} {w : World} {g : Nat} {x y z b : Value} (hp : a.tmps.getD p undef = .pointer (some ⟨g, 0, none⟩)) (hu : a.tmps.getD u undef = b)
    (hg : w.heap[g]? = some (.cells #[x, y, z] 53 (0, 0))) (hd : a.defers = []) (hR : R (.returned (.tuple #[.agg #[x, y, z], b])) w) : bodyPost Tryd.prog fn R .ret a w := by
  refine bodyPost_ret (v := .tuple #[.agg #[x, y, z], b]) ?_ hd hR
  rw [results_cell_tmp hres, hp, hu]
  simp only [asAddr, Sem.run_pure, Result.andThen, run_loadVar_row w g 53 53 _ _ _ hg Tryd.underlying53 rfl (by kernel_rfl)]
theorem ret_two {v : Value} {a b : Bool} (h : a = b) : Ending.returned (.tuple #[v, .bool a]) = .returned (.tuple #[v, .bool b]) := by rw [h]
theorem trip_cells {w : World} {g : Nat} {t : TypeId} {x y z : Value} (h : w.heap[g]? = some (.cells #[x, y, z] t (0, 0))) : w.cell? ⟨g, 0, none⟩ = some x ∧ w.cell? ⟨g, 1, none⟩ = some y ∧ w.cell? ⟨g, 2, none⟩ = some z ∧ w.frozen? ⟨g, 0, none⟩ = false ∧ w.frozen? ⟨g, 1, none⟩ = false ∧ w.frozen? ⟨g, 2, none⟩ = false := by
  have b0 := cells_at h 0
  have b1 := cells_at h 1
  have b2 := cells_at h 2
  simp only [List.getElem?_toArray, List.getElem?_cons_zero, List.getElem?_cons_succ] at b0 b1 b2
  exact ⟨b0, b1, b2, frozen_at h 0, frozen_at h 1, frozen_at h 2⟩
theorem trip_set {w : World} {g : Nat} {t : TypeId} {x y z : Value} (u v q : Value) (h : w.heap[g]? = some (.cells #[x, y, z] t (0, 0))) : (((w.setCell ⟨g, 0, none⟩ u).setCell ⟨g, 1, none⟩ v).setCell ⟨g, 2, none⟩ q).heap[g]? = some (.cells #[u, v, q] t (0, 0)) := by
  have k0 := heap_setCell_same _ g 0 _ _ u h
  have k1 := heap_setCell_same _ g 1 _ _ v k0
  have k2 := heap_setCell_same _ g 2 _ _ q k1
  exact k2
theorem trip_bel {B : Nat} {a w : World} {g : Nat} (u v q : Value) (h : Below B a w) (hg : B ≤ g) : Below B a (((w.setCell ⟨g, 0, none⟩ u).setCell ⟨g, 1, none⟩ v).setCell ⟨g, 2, none⟩ q) :=
  ((h.setCell (p := ⟨g, 0, none⟩) hg _).setCell (p := ⟨g, 1, none⟩) hg _).setCell (p := ⟨g, 2, none⟩) hg _
def readPost (l : List UInt8) (w : World) (e : Ending) (w' : World) : Prop :=
  (∃ r m x, e = .returned (.tuple #[.agg #[.int .i64 r, .int .i64 m, .string x], .bool (partL l)]) ∧ (partL l = true → IsPart l r m x)) ∧ Below w.heap.size w w'
theorem read_part {l : List UInt8} (h : ∀ v, atoiAll l ≠ .ok v) : partL l = letOk l := by
  have h1 := read_is l
  unfold readOk at h1
  unfold partL
  rw [← h1]
  cases ha : atoiAll l with
  | ok v => exact absurd ha (h v)
  | range => unfold letOk; rw [Bool.and_comm]
  | _ => unfold letOk; rw [Bool.and_comm]
theorem read_num {l : List UInt8} {v : Int} (h : atoiAll l = .ok v) : partL l = (decide (0 ≤ v) && decide (v ≤ 999999999) && decide (itoa v = l)) := by
  have h1 := read_is l
  unfold readOk at h1
  rw [h] at h1
  unfold partL
  rw [← h1]
theorem num_part {l : List UInt8} {v : Int} (h : atoiAll l = .ok v) (hp : partL l = true) : IsPart l 2 v ⟨#[]⟩ := by
  have hd : digOk l = true := by
    unfold partL at hp
    cases hl : letOk l
    · rw [hl] at hp; simpa using hp
    · exfalso
      have h0 := read_num h
      rw [show partL l = true from hp] at h0
      have h1 := h0.symm
      simp only [Bool.and_eq_true, decide_eq_true_eq] at h1
      obtain ⟨u, rfl⟩ : ∃ u : Nat, v = u := ⟨v.toNat, by omega⟩
      have h2 := h1.2
      rw [itoa_nat] at h2
      have hk := dec_dig u
      rw [h2] at hk
      have := (not_both hl).1
      unfold digs at this
      rw [hk.1] at this
      have hne := hk.2.1
      cases l with
      | nil => exact hne rfl
      | cons _ _ => simp at this
  have e := atoi_dig hd
  rw [h] at e
  injection e with e
  refine ⟨(rk_dig hd).symm, ?_, ?_⟩
  · rw [e]; unfold numOf; rw [if_neg (by rw [(digs_of hd).2.1]; simp)]
  · unfold wordOf; rw [if_neg (by rw [(digs_of hd).2.1]; simp)]
theorem let_part {l : List UInt8} (hp : letOk l = true) {x : ByteArray} (hx : x.data.toList = l) : IsPart l 0 0 x :=
  ⟨(rk_let hp).symm, by unfold numOf; rw [if_pos hp], by unfold wordOf; rw [if_pos hp, hx]⟩
set_option maxRecDepth 10000 in
set_option maxHeartbeats 1000000 in
theorem read_any (s : ByteArray) (hs : s.size ≤ 1000000) {w : World} (hD : Doors w) : Calls Tryd.prog 61 #[.string s] w (readPost s.data.toList w) := by
  obtain ⟨l, hl⟩ : ∃ l, l = s.data.toList := ⟨_, rfl⟩
  have hb1 : Below w.heap.size w (w.alloc (.cells #[.int .i64 0, .int .i64 0, .string ⟨#[]⟩] 53)) := below_alloc1 _ _
  have hr1 : (w.alloc (.cells #[.int .i64 0, .int .i64 0, .string ⟨#[]⟩] 53)).heap[w.heap.size]? = some (.cells #[.int .i64 0, .int .i64 0, .string ⟨#[]⟩] 53 (0, 0)) := heap_new_at rfl
  have hA := atoi_any s (by omega) (hD.below hb1)
  have hln : l.length = s.size := by rw [hl]; exact Txt.len s
  rw [← hl] at hA ⊢
  have Hl := Lib.hid hl; have Hb1 := Lib.hid hb1; have Hr1 := Lib.hid hr1; have HA := Lib.hid hA; have Hln := Lib.hid hln; clear hl hb1 hr1 hA hln
  go_enter Tryd.func61, Tryd.ntmps61
  go_wp2_with fail
  refine HA.out.mono ?_
  rintro e w2 ⟨⟨v, hv, rfl⟩ | ⟨hv, v, N, rfl⟩, hb2⟩
  · have hp := read_num hv
    have hrow := heap_below hb2 Hr1.out
    have hb := Hb1.out.trans (hb2.mono Hb1.out.size)
    have hbd := atoiAll_bounds hv
    obtain ⟨c0, c1, c2, f0, f1, f2⟩ := trip_cells hrow
    have hnum := num_part hv
    by_cases h0 : 0 ≤ v
    · by_cases h9 : v ≤ 999999999
      · have k1 : decide (0 ≤ v) = true := decide_eq_true h0
        have k2 : decide (v ≤ 999999999) = true := decide_eq_true h9
        have hI := itoa_any v (by omega) (by omega) (hD.below hb)
        have hpb : (itoa v == s.toList) = partL l := by
          rw [hp, decide_eq_true h0, decide_eq_true h9, toList_data, ← Hl.out]
          simp only [Bool.and_self, Bool.true_and]
          by_cases h : itoa v = l
          · rw [h]; simp
          · rw [decide_eq_false h]; exact beq_eq_false_iff_ne.2 h
        have Hp := Lib.hid hp; have Hv := Lib.hid hv; have Hrow := Lib.hid hrow; have Hb := Lib.hid hb; have Hbd := Lib.hid hbd; have Hnum := Lib.hid hnum; have HI := Lib.hid hI; have Hpb := Lib.hid hpb; have H0 := Lib.hid h0; have H9 := Lib.hid h9; have HD := Lib.hid hD; have Hs := Lib.hid hs; clear hp hv hrow hb hbd hnum hI hpb h0 h9 hD hs
        clear c0 c1 c2 f0 f1 f2 hb2
        go_wp2_with fail
        refine HI.out.mono ?_
        rintro e w3 ⟨rfl, hb3⟩
        have hrow3 := heap_below hb3 Hrow.out
        obtain ⟨c0, c1, c2, f0, f1, f2⟩ := trip_cells hrow3
        have hbw := Hb.out.trans (hb3.mono Hb.out.size)
        have Hrow3 := Lib.hid hrow3; have Hbw := Lib.hid hbw; have Hb3 := Lib.hid hb3; clear hrow3 hbw hb3
        go_wp2_with fail
        refine bodyPost_part rfl rfl rfl (trip_set _ _ _ Hrow3.out) rfl ?_
        exact ⟨⟨_, _, _, ret_two Hpb.out, Hnum.out⟩, trip_bel _ _ _ Hbw.out (Nat.le_refl _)⟩
      · have k1 : decide (0 ≤ v) = true := decide_eq_true h0
        have k2 : decide (v ≤ 999999999) = false := decide_eq_false h9
        have hpb : partL l = false := by rw [hp, decide_eq_false h9]; simp
        have Hp := Lib.hid hp; have Hv := Lib.hid hv; have Hrow := Lib.hid hrow; have Hb := Lib.hid hb; have Hbd := Lib.hid hbd; have Hnum := Lib.hid hnum; have Hpb := Lib.hid hpb; have H0 := Lib.hid h0; have H9 := Lib.hid h9; have HD := Lib.hid hD; have Hs := Lib.hid hs; clear hp hv hrow hb hbd hnum hpb h0 h9 hD hs
        go_wp2_with fail
        refine bodyPost_part rfl rfl rfl (trip_set _ _ _ Hrow.out) rfl ?_
        exact ⟨⟨_, _, _, ret_two Hpb.out.symm, Hnum.out⟩, trip_bel _ _ _ Hb.out (Nat.le_refl _)⟩
    · have k1 : decide (0 ≤ v) = false := decide_eq_false h0
      have hpb : partL l = false := by rw [hp, decide_eq_false h0]; simp
      have Hp := Lib.hid hp; have Hv := Lib.hid hv; have Hrow := Lib.hid hrow; have Hb := Lib.hid hb; have Hbd := Lib.hid hbd; have Hnum := Lib.hid hnum; have Hpb := Lib.hid hpb; have H0 := Lib.hid h0; have HD := Lib.hid hD; have Hs := Lib.hid hs; clear hp hv hrow hb hbd hnum hpb h0 hD hs
      go_wp2_with fail
      refine bodyPost_part rfl rfl rfl (trip_set _ _ _ Hrow.out) rfl ?_
      exact ⟨⟨_, _, _, ret_two Hpb.out.symm, Hnum.out⟩, trip_bel _ _ _ Hb.out (Nat.le_refl _)⟩
  · have hp := read_part hv
    have hrow := heap_below hb2 Hr1.out
    have hb := Hb1.out.trans (hb2.mono Hb1.out.size)
    obtain ⟨c0, c1, c2, f0, f1, f2⟩ := trip_cells hrow
    obtain ⟨sz, hsz⟩ : ∃ sz, sz = s.size := ⟨_, rfl⟩
    have Hp := Lib.hid hp; have Hv := Lib.hid hv; have Hrow := Lib.hid hrow; have Hb := Lib.hid hb; have HD := Lib.hid hD; clear hp hv hrow hb hD
    clear hb2
    go_wp2_with fail
    go_loop [6, 30] (fun _ i => ∃ k : Nat, k ≤ s.size ∧ i = .int .i64 k ∧ (l.take k).all isLet = true) (fun _ i => s.size - (intOf i).toNat)
    case atStart => exact ⟨0, Nat.zero_le _, rfl, by simp⟩
    case round =>
      obtain ⟨k, hk, rfl, hall⟩ := hrel
      by_cases hlt : k < s.size
      · have hkl : k < l.length := by have := Hln.out; omega
        obtain ⟨n, hn⟩ : ∃ n, n = s[k].toNat := ⟨_, rfl⟩
        have hn256 : n < 256 := by rw [hn]; exact s[k].toNat_lt
        have hsk : s[k].toNat = n := hn.symm
        have e : l[k] = s[k] := by simp only [Hl.out]; rfl
        have hyes : 97 ≤ n → n ≤ 122 → (l.take (k + 1)).all isLet = true := fun h1 h2 => by
          rw [List.take_succ_eq_append_getElem hkl, List.all_append, hall]
          simp only [List.all_cons, List.all_nil, Bool.and_true, Bool.true_and]
          rw [isLet_iff, e, hsk]; exact ⟨h1, h2⟩
        have hno : ¬ (97 ≤ n ∧ n ≤ 122) → partL l = false := fun h => by
          rw [Hp.out, Bool.eq_false_iff]
          intro h2
          unfold letOk at h2
          rw [Bool.and_eq_true] at h2
          have := List.all_eq_true.1 h2.2 l[k] (List.getElem_mem hkl)
          rw [isLet_iff, e, hsk] at this
          exact h this
        clear hn e hkl
        rcases Nat.lt_or_ge n 97 with h1 | h1
        · have hf := hno (by omega)
          have k1 : decide ((n : Int) < 97) = true := decide_eq_true (by omega)
          have Hall := Lib.hid hall; have Hyes := Lib.hid hyes; have Hno := Lib.hid hno; have Hf := Lib.hid hf; clear hall hyes hno hf
          go_wp2_with fail
          refine bodyPost_part rfl rfl rfl (trip_set _ _ _ Hrow.out) rfl ?_
          exact ⟨⟨_, _, _, ret_two Hf.out.symm, fun h => by rw [Hf.out] at h; cases h⟩, trip_bel _ _ _ Hb.out (Nat.le_refl _)⟩
        · have k1 : decide ((n : Int) < 97) = false := decide_eq_false (by omega)
          rcases Nat.lt_or_ge 122 n with h2 | h2
          · have hf := hno (by omega)
            have k2 : decide (122 < (n : Int)) = true := decide_eq_true (by omega)
            have Hall := Lib.hid hall; have Hyes := Lib.hid hyes; have Hno := Lib.hid hno; have Hf := Lib.hid hf; clear hall hyes hno hf
            go_wp2_with fail
            refine bodyPost_part rfl rfl rfl (trip_set _ _ _ Hrow.out) rfl ?_
            exact ⟨⟨_, _, _, ret_two Hf.out.symm, fun h => by rw [Hf.out] at h; cases h⟩, trip_bel _ _ _ Hb.out (Nat.le_refl _)⟩
          · have k2 : decide (122 < (n : Int)) = false := decide_eq_false (by omega)
            have hnext := hyes h1 h2
            have Hall := Lib.hid hall; have Hyes := Lib.hid hyes; have Hno := Lib.hid hno; have Hnext := Lib.hid hnext; clear hall hyes hno hnext
            go_wp2_with fail
            go_round
            case rel => exact ⟨k + 1, by omega, by go_num, Hnext.out⟩
            case measure => simp [intOf]; omega
      · obtain rfl : k = s.size := by omega
        have hall2 : l.all isLet = true := by rw [List.take_of_length_le (by have := Hln.out; omega)] at hall; exact hall
        have hf : partL l = !s.toList.isEmpty := by
          rw [Hp.out]
          unfold letOk
          rw [hall2, Bool.and_true, Txt.no_dec]
          have := Hln.out
          cases l with
          | nil => simp at this; rw [decide_eq_true (by omega)]; rfl
          | cons x r => simp at this; rw [decide_eq_false (by omega)]; rfl
        have hlp : partL l = true → IsPart l 0 0 s := fun h => let_part (by rw [← Hp.out]; exact h) Hl.out.symm
        have Hall := Lib.hid hall; have Hall2 := Lib.hid hall2; have Hf := Lib.hid hf; have Hlp := Lib.hid hlp; clear hall hall2 hf hlp
        go_wp2_with fail
        refine bodyPost_part rfl rfl rfl (trip_set _ _ _ Hrow.out) rfl ?_
        exact ⟨⟨_, _, _, ret_two Hf.out.symm, Hlp.out⟩, trip_bel _ _ _ Hb.out (Nat.le_refl _)⟩
end Go.Proofs.YtblkdcapampniaaDoor
