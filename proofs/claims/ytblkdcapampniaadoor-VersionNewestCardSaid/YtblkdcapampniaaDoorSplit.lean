/- The walk of strings.SplitSeq at a separator of one byte: what the iterator hands over. Condition: a text of at most a million bytes. -/
import Derived.Test.YtblkdcapampniaaDoorItOwn
import Derived.Test.YtblkdcapampniaaDoorVerQ
import Derived.Test.YtblkdcapampniaaDoorDoor
import Derived.Test.YtblkdcapampniaaDoorRows
set_option linter.unusedVariables false
set_option linter.unusedSimpArgs false
namespace Go.Proofs.YtblkdcapampniaaDoor
open Go.RowKit Go.Shelf Go.Lib VerN

attribute [local go_sem] Oper.semAt_some

/-- the iterator's three boxes: what is left of the text, the separator, how much of it is kept -/
structure SBox (Bs Bp Bv : Nat) (c : UInt8) (r : ByteArray) (W : World) : Prop where
  s : W.heap[Bs]? = some (.cells #[.string r] 9 (0, 0))
  p : W.heap[Bp]? = some (.cells #[.string ⟨#[c]⟩] 9 (0, 0))
  v : W.heap[Bv]? = some (.cells #[.int .i64 0] 3 (0, 0))
theorem SBox.below {Bs Bp Bv n₀ : Nat} {c : UInt8} {r : ByteArray} {W W' : World} (h : SBox Bs Bp Bv c r W) (hb : Below n₀ W W') (h1 : Bs < n₀) (h2 : Bp < n₀) (h3 : Bv < n₀) : SBox Bs Bp Bv c r W' :=
  ⟨(hb.block _ h1).trans h.s, (hb.block _ h2).trans h.p, (hb.block _ h3).trans h.v⟩
abbrev Three (Bs Bp Bv : Nat) (k : Nat) : Prop := k = Bs ∨ k = Bp ∨ k = Bv
theorem SBox.keeps {Bs Bp Bv : Nat} {c : UInt8} {r : ByteArray} {W W' : World} (h : SBox Bs Bp Bv c r W) (hk : KeepS (Three Bs Bp Bv) W W') : SBox Bs Bp Bv c r W' :=
  ⟨(hk _ (.inl rfl)).trans h.s, (hk _ (.inr (.inl rfl))).trans h.p, (hk _ (.inr (.inr rfl))).trans h.v⟩
theorem SBox.set {Bs Bp Bv : Nat} {c : UInt8} {r : ByteArray} {W : World} (h : SBox Bs Bp Bv c r W) (hp : Bp ≠ Bs) (hv : Bv ≠ Bs) (r' : ByteArray) : SBox Bs Bp Bv c r' (W.setCell ⟨Bs, 0, none⟩ (.string r')) :=
  ⟨heap_setCell_same _ Bs 0 _ _ _ h.s, heap_other h.p hp, heap_other h.v hv⟩
theorem SBox.cells {Bs Bp Bv : Nat} {c : UInt8} {r : ByteArray} {W : World} (h : SBox Bs Bp Bv c r W) :
    W.cell? ⟨Bs, 0, none⟩ = some (.string r) ∧ W.cell? ⟨Bp, 0, none⟩ = some (.string ⟨#[c]⟩) ∧ W.cell? ⟨Bv, 0, none⟩ = some (.int .i64 0) ∧ W.frozen? ⟨Bs, 0, none⟩ = false :=
  ⟨cells_at h.s 0, cells_at h.p 0, cells_at h.v 0, frozen_at h.s 0⟩
/-- how much is left -/
def left (Bs : Nat) (W : World) : Nat := match W.cell? ⟨Bs, 0, none⟩ with
  | some (.string r) => r.size
  | _ => 0
theorem left_is {Bs Bp Bv : Nat} {c : UInt8} {r : ByteArray} {W : World} (h : SBox Bs Bp Bv c r W) : left Bs W = r.size := by unfold left; rw [h.cells.1]
theorem pre_snoc {pre zs rest : List ByteArray} {x : ByteArray} (h : zs = pre ++ x :: rest) : pre ++ [x] <+: zs := ⟨rest, by rw [h]; simp⟩
set_option maxRecDepth 100000 in
set_option maxHeartbeats 2000000 in
theorem split_stops (n : Nat) (hn : 1 ≤ n) (Bs Bp Bv : Nat) (c : UInt8) (s : ByteArray) (hs : s.size ≤ 1000000) (w : World) (h1 : Bs < w.heap.size) (h2 : Bp < w.heap.size) (h3 : Bv < w.heap.size) (hp : Bp ≠ Bs) (hv : Bv ≠ Bs) (hb : SBox Bs Bp Bv c s w) :
    SeqOwn Fence.wide n Tryd.prog 77 #[.pointer (some ⟨Bp, 0, none⟩), .pointer (some ⟨Bs, 0, none⟩), .pointer (some ⟨Bv, 0, none⟩)] (fun x : ByteArray => Value.string x) (Three Bs Bp Bv) Bs (fun x => x.size ≤ s.size) (fun ys => ys = cutS c s) (fun pre => pre <+: cutS c s) w := by
  intro l J Jx W hW hJ hJx hL hLx hY h0
  obtain ⟨zs, hzs⟩ : ∃ zs, zs = cutS c s := ⟨_, rfl⟩
  rw [← hzs]
  have hb0 : SBox Bs Bp Bv c s W := hb.below hW h1 h2 h3
  obtain ⟨d1, d2, d3, d4⟩ := hb0.cells
  have hc1 : ((1 : Int) == 0) = false := rfl
  have Hzs := Lib.hid hzs; have Hb := Lib.hid hb; have Hb0 := Lib.hid hb0; have HW := Lib.hid hW; have HJ := Lib.hid hJ; have HJx := Lib.hid hJx; have HL := Lib.hid hL; have HLx := Lib.hid hLx; clear hzs hb hb0 hW hJ hJx hL hLx
  refine callsIn_of_wp Tryd.func77 rfl trivial ?_ rfl
  simp only [Tryd.ntmps77, List.size_toArray, List.length_cons, List.length_nil, Nat.reduceAdd, Nat.reduceSub, Array.replicate_succ, Array.replicate_zero, List.push_toArray, List.append_toArray, List.nil_append, List.cons_append]
  gi_wp2
  gi_loopw [7, 8] (fun _ _ wr => ∃ (pre : List ByteArray) (r : ByteArray), zs = pre ++ cutS c r ∧ SBox Bs Bp Bv c r wr ∧ J pre wr ∧ r.size ≤ s.size) (fun _ _ wr => left Bs wr)
  case atStart => exact ⟨[], s, Hzs.out, Hb0.out, h0, Nat.le_refl _⟩
  case round =>
    obtain ⟨pre, r, hz, hbx, hJs, hr⟩ := hrel
    obtain ⟨d1, d2, d3, d4⟩ := hbx.cells
    have hl := left_is hbx
    have hI := Tryd.strings_Index_one r c wr
    obtain ⟨v, hvd⟩ : ∃ v, v = indexByte r.data.toList c := ⟨_, rfl⟩
    rw [← hvd] at hI
    by_cases hm : v = -1
    · obtain ⟨fn, tmps, assign, body, hy, hR⟩ := hY pre r wr hJs hr
      have hzz : zs = pre ++ [r] := by rw [hz, cutS_miss (by rw [← hvd, hm])]
      have k1 : decide (v < 0) = true := decide_eq_true (by omega)
      have Hz := Lib.hid hz; have Hzz := Lib.hid hzz; have Hbx := Lib.hid hbx; have HJs := Lib.hid hJs; have Hr := Lib.hid hr; have Hl := Lib.hid hl; have Hvd := Lib.hid hvd; have HI := Lib.hid hI; have Hm := Lib.hid hm; clear hz hzz hbx hJs hr hl hvd hI hm
      gi_wp2
      refine ⟨trivial, (callsIn_wide.2 HI.out).mono ?_⟩
      rintro e w2 ⟨rfl, rfl⟩
      gi_wp2
      refine hR.mono ?_
      rintro e W3 (⟨rfl, hJ3, hk3⟩ | ⟨rfl, hJx3⟩)
      · gi_wp2
        go_end0
        exact ⟨⟨_, rfl⟩, .inl ⟨_, Hzz.out.symm, hJ3⟩⟩
      · gi_wp2
        go_end0
        exact ⟨⟨_, rfl⟩, .inr ⟨_, by rw [Hzz.out]; exact List.prefix_refl _, hJx3⟩⟩
    · obtain ⟨i, hi⟩ : ∃ i : Nat, v = i := ⟨v.toNat, by have := indexByte_ge r.data.toList c; omega⟩
      subst hi
      have hlt := index_lt hvd.symm
      rw [Txt.len] at hlt
      have hz2 : zs = pre ++ r.extract 0 i :: cutS c (r.extract (i + 1) r.size) := by rw [hz, cutS_hit hvd.symm]
      obtain ⟨fn, tmps, assign, body, hy, hR⟩ := hY pre (r.extract 0 i) wr hJs (by simp; omega)
      have k1 : decide ((i : Int) < 0) = false := decide_eq_false (by omega)
      have k2 : (i : Int) ≤ (r.size : Int) := by omega
      have hsz : (r.extract (i + 1) r.size).size = r.size - (i + 1) := by simp
      have Hz := Lib.hid hz; have Hz2 := Lib.hid hz2; have Hbx := Lib.hid hbx; have HJs := Lib.hid hJs; have Hl := Lib.hid hl; have Hvd := Lib.hid hvd; have HI := Lib.hid hI; have Hm := Lib.hid hm; have Hsz := Lib.hid hsz; clear hz hz2 hbx hJs hl hvd hI hm hsz
      gi_wp2
      refine ⟨trivial, (callsIn_wide.2 HI.out).mono ?_⟩
      rintro e w2 ⟨rfl, rfl⟩
      gi_wp2
      refine hR.mono ?_
      rintro e W3 (⟨rfl, hJ3, hk3⟩ | ⟨rfl, hJx3⟩)
      · have hb3 := Hbx.out.keeps hk3
        obtain ⟨d1, d2, d3, d4⟩ := hb3.cells
        have Hb3 := Lib.hid hb3; have HJ3 := Lib.hid hJ3; have Hk3 := Lib.hid hk3; clear hb3 hJ3 hk3
        gi_wp2
        go_roundw
        case rel => exact ⟨pre ++ [r.extract 0 i], r.extract (i + 1) r.size, by rw [Hz2.out]; simp, Hb3.out.set hp hv _, HL.out _ _ 0 _ HJ3.out, by rw [Hsz.out]; omega⟩
        case measure => rw [left_is (Hb3.out.set hp hv _), Hl.out, Hsz.out]; omega
      · gi_wp2
        refine bodyPost_ret (results_none rfl _ _ _) rfl ?_
        exact ⟨⟨_, rfl⟩, .inr ⟨_, pre_snoc Hz2.out, hJx3⟩⟩
end Go.Proofs.YtblkdcapampniaaDoor
