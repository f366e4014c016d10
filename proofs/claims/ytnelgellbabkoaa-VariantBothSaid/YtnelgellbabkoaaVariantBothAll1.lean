/- Walks and plain facts. Texts merged: Kit, CnfM, CnfW, Open, SortM, Mem, Row, Seq, TwiceM, Twice, VarM, VarN, IdxM, IdxStr. Condition: none beyond what each says. -/
import Derived.WalkKit
import Derived.WalkSpells
import Derived.WalkLawsBesides
import Derived.Lib.Hide
import Derived.BigQuiet
import Derived.Deep.QuietTactic
import Derived.StillTailTactics
import Derived.Deep.RegionLawGrows
import Derived.Lib.SlicesCompact
import Derived.Sort.LotA
import Derived.Lib.Small
import Derived.RowKit
import Derived.Sort.Grow
import Derived.Test.YtnelgellbabkoaaRows
import Derived.ProofKit
import Derived.Deep.Slices
import Derived.RangeFuncBox
import Derived.RangeFuncLeaves
import Derived.RangeFuncNested
import Derived.Shelf.Abstract
import Derived.OwnWalkIn
import Derived.TacticsInMore
import Derived.LoopNIn
import Derived.LoopIn
import Derived.Maps.AppendAt
import Derived.Sort.KeysCollected
import Derived.Test.YtnelgellbabkoaaShelf
import Derived.Lib.OwnBridge
import Derived.Lib.Strings
/- Small laws for walks: rows that a call owns, and slices that are read. No condition. -/
namespace Go.Proofs.Ytnelgellbabkoaa
open Go.RowKit

theorem ret_int {k : IntKind} {a b : Int} (h : a = b) : Ending.returned (.int k a) = .returned (.int k b) := by rw [h]
theorem ret_bool {a b : Bool} (h : a = b) : Ending.returned (.bool a) = .returned (.bool b) := by rw [h]
theorem ret_val {a b : Value} (h : a = b) : Ending.returned a = .returned b := by rw [h]

theorem wrap64_nat (m : Nat) (h : m ≤ 9223372036854775807) : wrap64 (m : Int) = m := IntWalk.wrap64_in _ (by omega)

theorem quiet_same {P : Program} {f : FuncId} {args : Array Value} {w : World} {n : Nat} {v : Value}
    (h : Calls P f args (w.drewN n) fun e w' => e = .returned v ∧ w.drewN n = w') : Calls P f args (w.drewN n) fun e w'' => e = .returned v ∧ ∃ m, w'' = w.drewN m :=
  h.mono fun _ _ ⟨he, hm⟩ => ⟨he, n, hm.symm⟩

theorem bel_drewN {B : Nat} {a w : World} (h : Below B a w) (n : Nat) : Below B a (w.drewN n) := ⟨h.os, h.tape, h.output, h.size, h.block⟩

/-- an element type and its slice type in a program's table -/
structure Elem (P : Program) (t e : TypeId) (z : Value) (size bytes : Nat) : Prop where
  slice : P.underlying t = some (.slice e)
  info : (P.info? e).map (fun i => (i.zero, i.size, i.bytes)) = some (some z, size, bytes)
  zero : z.cells.size = size
  pos : 0 < size

theorem grownBy_trans {w w1 w2 : World} {row : Option Nat} (h : w.grownBy w1 none) (k : w1.grownBy w2 row) : w.grownBy w2 row :=
  ⟨k.os.trans h.os, k.tape.trans h.tape, k.output.trans h.output, Nat.le_trans h.size k.size,
    fun b hb hr => (k.block b (Nat.lt_of_lt_of_le hb h.size) hr).trans (h.block b hb (by simp))⟩

theorem grownBy_of_below {w w' : World} (h : Below w.heap.size w w') : w.grownBy w' none :=
  ⟨h.os, h.tape, h.output, h.size, fun k hk _ => h.block k hk⟩

theorem grownBy_below {w w' : World} (h : w.grownBy w' none) : Below w.heap.size w w' := ⟨h.os, h.tape, h.output, h.size, fun k hk => h.block k hk (by simp)⟩

/-- append to an owned row: and the row lies where it lay, or in a new block -/
theorem run_append_where {P : Program} (w : World) (base : Nat) (t ty e : TypeId) (i : TypeInfo) (z : Value) (size bytes : Nat) (ht : P.underlying t = some (.slice e)) (hi : P.info? e = some i) (hz : i.zero = some z)
    (hsize : i.size = size) (hby : i.bytes = bytes) (hzs : z.cells.size = size) (hsz : 0 < size)
    (v : Value) (n : Nat) (xs : List Value) (hown : w.ownsRow base e size v n xs)
    (a : Addr) (m c : Nat) (news : List Value) (hl : news.length = m * size) (hnews : ∀ j u, news[j]? = some u → w.cell? (a.add j) = some u) (h1 : ∀ u ∈ news, u.oneCell' = true)
    (h63 : n + m ≤ maxLen) (hbytes : (n + m) * bytes ≤ 140737488355328) (hbase : base ≤ w.heap.size) :
    ∃ v' w', (Builtin.append_ #[t, t] ty #[v, .slice (some a) m c]).run P w = .ok v' w' ∧ w'.ownsRow base e size v' (n + m) (xs ++ news) ∧ w.grownBy w' v.ownBlock ∧ (v'.ownBlock = v.ownBlock ∨ v'.ownBlock = some w.heap.size) := by
  obtain ⟨v', w', hr, h2, h3, h4⟩ := run_append_own (P := P) w base t ty e i z size bytes ht hi hz hsize hby hzs hsz v n xs hown a m c news hl hnews h1 h63 hbytes hbase
  refine ⟨v', w', hr, h2, h3, ?_⟩
  subst hsize; subst hby
  have h63' : n + m ≤ 9223372036854775807 := by simp only [maxLen] at h63; omega
  rcases hown.2 with ⟨rfl, rfl⟩ | ⟨g, cap, cur, rfl, hbg, hg, hnc, hcm, hcs, htake⟩
  · by_cases hm : m = 0
    · left
      have := h4.2 ⟨rfl, hm⟩
      rw [this]
    · right
      have hr2 := run_append_nil (P := P) w t ty e i z ht hi hz a m c news hl hnews (by omega) (by omega) (by have hb := hbytes; simp only [Nat.zero_add] at hb; omega)
      rw [hr] at hr2
      simp only [Result.ok.injEq] at hr2
      rw [hr2.1]; rfl
  · by_cases hroom : n + m ≤ cap
    · left
      have hfit : n * i.size + news.length ≤ cur.size := by rw [hl, hcs, ← Nat.add_mul]; exact Nat.mul_le_mul_right _ hroom
      have hr2 := run_append_room (P := P) w t ty e i ht hi g n cap cur hg a m c news hl hnews h1 hroom hfit
      rw [hr] at hr2
      simp only [Result.ok.injEq] at hr2
      rw [hr2.1]; rfl
    · right
      have holds : ∀ j u, xs[j]? = some u → w.cell? ((⟨g, 0, none⟩ : Addr).add j) = some u := hown.cells (g := g) rfl
      have hr2 := run_append_grow (P := P) w t ty e i z ht hi hz ⟨g, 0, none⟩ n cap xs hown.1 holds a m c news hl hnews (by omega) (by omega) (growslice_fits (by omega) hbytes)
      rw [hr] at hr2
      simp only [Result.ok.injEq] at hr2
      rw [hr2.1]; rfl

/-- where a row lies behind an append: where it lay, or in a new block -/
def Moved (w : World) (v v' : Value) : Prop := ∀ k, v'.ownBlock = some k → v.ownBlock = some k ∨ w.heap.size ≤ k

theorem wp_append_lit {P : Program} {t e : TypeId} {z : Value} {size bytes : Nat} (E : Elem P t e z size bytes) {w : World} {o : Oper} {a : Act} {K : Act → World → Prop} {Q : Exit → Act → World → Prop}
    (s x : Operand) (ho : o.op = .call { callee := .builtin .append, args := #[s, x], argTypes := #[t, t] })
    (base : Nat) (v : Value) (n : Nat) (xs : List Value) (hs : a.eval s = v) (hown : w.ownsRow base e size v n xs)
    (m : Nat) (news : Array Value) (hx : a.eval x = .slice (some ⟨w.heap.size, 0, none⟩) m m) (hl : news.size = m * size) (h1 : ∀ u ∈ news.toList, u.oneCell' = true)
    (hb : (n + m) * bytes ≤ 140737488355328) (hb1 : n + m ≤ maxLen) (hbase : base ≤ w.heap.size)
    (h : ∀ v' w', w'.ownsRow base e size v' (n + m) (xs ++ news.toList) → w.grownBy w' v.ownBlock → Moved w v v' → K (a.put o.dst v') w') :
    o.wp P a (w.alloc (.cells news e)) K Q := by
  obtain ⟨i, hi, hz, hsz, hby⟩ := info_parts E.info
  obtain ⟨v', w', hr, h2, h3, h4⟩ := run_append_where (P := P) (w.alloc (.cells news e)) base t o.type e i z size bytes E.slice hi hz hsz hby E.zero E.pos v n xs (hown.alloc _) ⟨w.heap.size, 0, none⟩ m m news.toList (by simpa using hl) (by
    intro j u hu
    rw [Addr.add_lit, Nat.zero_add, World.cell?_alloc_new]
    simpa using hu) h1 hb1 hb (by simp; omega)
  unfold Oper.wp execOp
  simp only [ho, resolve, invoke, builtin, Sem.run_bind, Sem.run_pure, Result.andThen_ok, List.map_toArray, List.map_cons, List.map_nil, hs, hx, hr]
  refine h v' w' h2 (grownBy_trans (World.grownBy_alloc w _ none) h3) ?_
  intro k hk
  rcases h4 with h4 | h4
  · exact .inl (by rw [← h4]; exact hk)
  · right
    rw [h4] at hk
    simp at hk
    omega

/-- append of literal elements to an owned row -/
theorem wpList_append_lit {P : Program} {t e : TypeId} {z : Value} {size bytes : Nat} (E : Elem P t e z size bytes) {w : World} {ops : Array Oper} {rest : List Oper} {o : Oper} {a : Act} {Q : Exit → Act → World → Prop}
    (hgd : o.guard = none) (s x : Operand) (ho : o.op = .call { callee := .builtin .append, args := #[s, x], argTypes := #[t, t] })
    (base : Nat) (v : Value) (n : Nat) (xs : List Value) (hs : a.eval s = v) (hown : w.ownsRow base e size v n xs)
    (m : Nat) (news : Array Value) (hx : a.eval x = .slice (some ⟨w.heap.size, 0, none⟩) m m) (hl : news.size = m * size) (h1 : ∀ u ∈ news.toList, u.oneCell' = true)
    (hb : (n + m) * bytes ≤ 140737488355328) (hb1 : n + m ≤ maxLen) (hbase : base ≤ w.heap.size)
    (h : ∀ v' w', w'.ownsRow base e size v' (n + m) (xs ++ news.toList) → w.grownBy w' v.ownBlock → Moved w v v' → wpList P ops Q rest (a.put o.dst v') w') :
    wpList P ops Q (o :: rest) a (w.alloc (.cells news e)) :=
  wpList_plain hgd fun _ hK => wp_append_lit E s x ho base v n xs hs hown m news hx hl h1 hb hb1 hbase fun v' w' h2 h3 h4 => hK _ _ (h v' w' h2 h3 h4)

theorem bel_own {B base : Nat} {w0 w w' : World} {e : TypeId} {size : Nat} {v : Value} {n : Nat} {xs : List Value} (h : Below B w0 w) (hown : w.ownsRow base e size v n xs) (hB : B ≤ base) (hg : w.grownBy w' v.ownBlock) (hb : B ≤ w.heap.size) : Below B w0 w' :=
  h.grown hg hb fun k hk => Nat.le_trans hB (hown.lt k hk).1

theorem ownsRow_below {base : Nat} {w w' : World} {e : TypeId} {size : Nat} {v : Value} {n : Nat} {xs : List Value} (hown : w.ownsRow base e size v n xs) (hb : Below w.heap.size w w') : w'.ownsRow base e size v n xs :=
  hown.kept (grownBy_of_below hb) (by cases hv : v.ownBlock <;> simp)

theorem ownsRow_mono {B base : Nat} {w : World} {e : TypeId} {size : Nat} {v : Value} {n : Nat} {xs : List Value} (hown : w.ownsRow base e size v n xs) (hb : B ≤ base) : w.ownsRow B e size v n xs := by
  refine ⟨hown.1, ?_⟩
  rcases hown.2 with h | ⟨g, cap, cur, hv, hg, r⟩
  · exact .inl h
  · exact .inr ⟨g, cap, cur, hv, by omega, r⟩

theorem ownsRow_some {base : Nat} {w : World} {e : TypeId} {size : Nat} {v : Value} {n : Nat} {xs : List Value} (h : w.ownsRow base e size v n xs) (hn : 0 < n) :
    ∃ g cap, v = .slice (some ⟨g, 0, none⟩) n cap ∧ base ≤ g ∧ g < w.heap.size ∧ n ≤ cap ∧ cap ≤ maxLen ∧ ∀ j u, xs[j]? = some u → w.cell? ⟨g, j, none⟩ = some u := by
  rcases h.2 with ⟨_, rfl⟩ | ⟨g, cap, cur, rfl, hg, hh, hn', hm, hs, ht⟩
  · omega
  · refine ⟨g, cap, rfl, hg, (Array.getElem?_eq_some_iff.1 hh).1, hn', hm, fun j u hu => ?_⟩
    have := h.cells (g := g) rfl j u hu
    rwa [Addr.add_lit, Nat.zero_add] at this

/-- append of literal elements, at least one, to an owned row: the value is written out -/
theorem wpList_append_some {P : Program} {t e : TypeId} {z : Value} {size bytes : Nat} (E : Elem P t e z size bytes) {w : World} {ops : Array Oper} {rest : List Oper} {o : Oper} {a : Act} {Q : Exit → Act → World → Prop}
    (hgd : o.guard = none) (s x : Operand) (ho : o.op = .call { callee := .builtin .append, args := #[s, x], argTypes := #[t, t] })
    (base : Nat) (v : Value) (n : Nat) (xs : List Value) (hs : a.eval s = v) (hown : w.ownsRow base e size v n xs)
    (m : Nat) (hm : 0 < m) (news : Array Value) (hx : a.eval x = .slice (some ⟨w.heap.size, 0, none⟩) m m) (hl : news.size = m * size) (h1 : ∀ u ∈ news.toList, u.oneCell' = true)
    (hb : (n + m) * bytes ≤ 140737488355328) (hb1 : n + m ≤ maxLen) (hbase : base ≤ w.heap.size)
    (h : ∀ g cap w', w'.ownsRow base e size (.slice (some ⟨g, 0, none⟩) (n + m) cap) (n + m) (xs ++ news.toList) → w.grownBy w' v.ownBlock → Moved w v (.slice (some ⟨g, 0, none⟩) (n + m) cap) → wpList P ops Q rest (a.put o.dst (.slice (some ⟨g, 0, none⟩) (n + m) cap)) w') :
    wpList P ops Q (o :: rest) a (w.alloc (.cells news e)) := by
  refine wpList_append_lit E hgd s x ho base v n xs hs hown m news hx hl h1 hb hb1 hbase ?_
  intro v' w' h2 h3 h4
  obtain ⟨g, cap, rfl, _⟩ := ownsRow_some h2 (by omega)
  exact h g cap w' h2 h3 h4

/-- the same as one step of a region that draws its order -/
theorem step_append_some {P : Program} {t e : TypeId} {z : Value} {size bytes : Nat} (E : Elem P t e z size bytes) {w : World} {ops : Array Oper} {o : Oper} {a : Act} {K : Act → World → Prop} {Q : Exit → Act → World → Prop} {X : Prop}
    (hgd : o.guard = none) (s x : Operand) (ho : o.op = .call { callee := .builtin .append, args := #[s, x], argTypes := #[t, t] })
    (base : Nat) (v : Value) (n : Nat) (xs : List Value) (hs : a.eval s = v) (hown : w.ownsRow base e size v n xs)
    (m : Nat) (hm : 0 < m) (news : Array Value) (hx : a.eval x = .slice (some ⟨w.heap.size, 0, none⟩) m m) (hl : news.size = m * size) (h1 : ∀ u ∈ news.toList, u.oneCell' = true)
    (hb : (n + m) * bytes ≤ 140737488355328) (hb1 : n + m ≤ maxLen) (hbase : base ≤ w.heap.size)
    (h : ∀ g cap w', w'.ownsRow base e size (.slice (some ⟨g, 0, none⟩) (n + m) cap) (n + m) (xs ++ news.toList) → w.grownBy w' v.ownBlock → Moved w v (.slice (some ⟨g, 0, none⟩) (n + m) cap) → K (a.put o.dst (.slice (some ⟨g, 0, none⟩) (n + m) cap)) w') :
    if Region.wanted o (yielded ops a.tmps) = true then Oper.wp P o a (w.alloc (.cells news e)) K Q else X := by
  have hw : Region.wanted o (yielded ops a.tmps) = true := by simp [Region.wanted, hgd]
  rw [if_pos hw]
  refine wp_append_lit E s x ho base v n xs hs hown m news hx hl h1 hb hb1 hbase ?_
  intro v' w' h2 h3 h4
  obtain ⟨g, cap, rfl, _⟩ := ownsRow_some h2 (by omega)
  exact h g cap w' h2 h3 h4

/-- w' is w with new blocks, and with writes to the blocks of S alone -/
structure Frm (S : Nat → Prop) (w w' : World) : Prop where
  os : w'.os = w.os
  tape : w'.tape = w.tape
  output : w'.output = w.output
  size : w.heap.size ≤ w'.heap.size
  block : ∀ k, k < w.heap.size → ¬ S k → w'.heap[k]? = w.heap[k]?

theorem Frm.refl (S : Nat → Prop) (w : World) : Frm S w w := ⟨rfl, rfl, rfl, Nat.le_refl _, fun _ _ _ => rfl⟩
theorem Frm.trans {S T : Nat → Prop} {a b c : World} (h : Frm S a b) (k : Frm T b c) (hT : ∀ i, i < a.heap.size → T i → S i) : Frm S a c :=
  ⟨k.os.trans h.os, k.tape.trans h.tape, k.output.trans h.output, Nat.le_trans h.size k.size,
    fun i hi hS => (k.block i (Nat.lt_of_lt_of_le hi h.size) (fun ht => hS (hT i hi ht))).trans (h.block i hi hS)⟩
theorem Frm.mono {S T : Nat → Prop} {a b : World} (h : Frm S a b) (hT : ∀ i, i < a.heap.size → S i → T i) : Frm T a b :=
  (Frm.refl T a).trans h hT
theorem Frm.alloc {S : Nat → Prop} {a w : World} (h : Frm S a w) (o : Obj) : Frm S a (w.alloc o) :=
  h.trans (T := S) ⟨rfl, rfl, rfl, by simp, fun k hk _ => Below.heap_alloc _ _ _ hk⟩ (fun _ _ h => h)
theorem Frm.drewN {S : Nat → Prop} {a w : World} (h : Frm S a w) (n : Nat) : Frm S a (w.drewN n) := ⟨h.os, h.tape, h.output, h.size, h.block⟩
theorem Frm.drew {S : Nat → Prop} {a w : World} (h : Frm S a w) : Frm S a w.drew := ⟨h.os, h.tape, h.output, h.size, h.block⟩
theorem Frm.setCell {S : Nat → Prop} {a w : World} (h : Frm S a w) {p : Addr} (hp : a.heap.size ≤ p.block ∨ S p.block) (u : Value) : Frm S a (w.setCell p u) :=
  h.trans (T := fun k => k = p.block) ⟨rfl, rfl, rfl, by simp [World.setCell], fun k _ hk => Below.heap_setCell _ _ _ _ (by omega)⟩ (fun i hi e => by rcases hp with h | h; omega; rw [e]; exact h)
theorem Frm.grown {S : Nat → Prop} {a w w' : World} {row : Option Nat} (h : Frm S a w) (hg : w.grownBy w' row) (hr : ∀ k, row = some k → a.heap.size ≤ k ∨ S k) : Frm S a w' :=
  h.trans (T := fun k => some k = row) ⟨hg.os, hg.tape, hg.output, hg.size, fun k hk hne => hg.block k hk hne⟩ (fun i hi e => by rcases hr i e.symm with h | h; omega; exact h)
theorem Frm.below {S : Nat → Prop} {a w : World} (h : Frm S a w) {B : Nat} (hB : B ≤ a.heap.size) (hS : ∀ k, S k → B ≤ k) : Below B a w :=
  ⟨h.os, h.tape, h.output, h.size, fun k hk => h.block k (by omega) (fun hs => by have := hS k hs; omega)⟩
theorem Frm.of_below {S : Nat → Prop} {a w : World} (h : Below a.heap.size a w) : Frm S a w := ⟨h.os, h.tape, h.output, h.size, fun k hk _ => h.block k hk⟩
theorem Frm.cell {S : Nat → Prop} {w w' : World} (h : Frm S w w') {p : Addr} (hp : p.block < w.heap.size) (hS : ¬ S p.block) : w'.cell? p = w.cell? p := World.cell?_of_block (h.block p.block hp hS)
theorem Frm.keep {w w' : World} (h : Frm (fun _ => False) w w') {p : Addr} {u : Value} (hc : w.cell? p = some u) : w'.cell? p = some u := (h.cell (World.block_lt_of_cell? w p hc) (fun h => h)).trans hc
theorem Frm.owns {S : Nat → Prop} {w w' : World} (h : Frm S w w') {base : Nat} {e : TypeId} {size : Nat} {v : Value} {n : Nat} {xs : List Value} (ho : w.ownsRow base e size v n xs) (hS : ∀ k, v.ownBlock = some k → ¬ S k) : w'.ownsRow base e size v n xs := by
  refine ⟨ho.1, ?_⟩
  rcases ho.2 with hn | ⟨g, cap, cur, rfl, hb, hgg, rest⟩
  · exact .inl hn
  · exact .inr ⟨g, cap, cur, rfl, hb, by rw [h.block g (Array.getElem?_eq_some_iff.1 hgg).1 (hS g rfl)]; exact hgg, rest⟩

/-- what is read of a slice: n elements, and their cells in a row -/
def Sl (w : World) (v : Value) (n : Nat) (cells : List Value) : Prop :=
  ∃ a cap, v = .slice a n cap ∧ n ≤ cap ∧ cap ≤ maxLen ∧ ∀ j u, cells[j]? = some u → ∃ b off, a = some ⟨b, off, none⟩ ∧ w.cell? ⟨b, off + j, none⟩ = some u

theorem Sl.below {w w' : World} {v : Value} {n : Nat} {cells : List Value} (h : Sl w v n cells) (hb : Below w.heap.size w w') : Sl w' v n cells := by
  obtain ⟨a, cap, rfl, h1, h2, h3⟩ := h
  refine ⟨a, cap, rfl, h1, h2, fun j u hu => ?_⟩
  obtain ⟨b, off, rfl, hc⟩ := h3 j u hu
  exact ⟨b, off, rfl, cell_later hb hc⟩

theorem Sl.of_owns {base : Nat} {w : World} {e : TypeId} {size : Nat} {v : Value} {n : Nat} {xs : List Value} (h : w.ownsRow base e size v n xs) : Sl w v n xs := by
  rcases h.2 with ⟨rfl, rfl⟩ | ⟨g, cap, cur, rfl, hg, hh, hn, hm, hs, ht⟩
  · refine ⟨none, 0, rfl, Nat.le_refl _, Nat.zero_le _, fun j u hu => ?_⟩
    have hx : xs = [] := List.eq_nil_of_length_eq_zero (by simpa using h.1)
    subst hx
    simp at hu
  · refine ⟨some ⟨g, 0, none⟩, cap, rfl, hn, hm, fun j u hu => ⟨g, 0, rfl, ?_⟩⟩
    have := h.cells (g := g) rfl j u hu
    rwa [Addr.add_lit] at this

end Go.Proofs.Ytnelgellbabkoaa

/- Plain facts of clauses' forms: what sorting, and leaving out what stands twice, gives. No condition. -/
namespace Go.Proofs.Ytnelgellbabkoaa.CnfM
open Go.Lib Go.Sort Go.RowKit

/-- the least number -/
def low : Int := -9223372036854775808
def neg (x : Int) : Int := wrap64 (-x)
def ab (x : Int) : Int := max x (neg x)
def wrong (n : Int) : Bool := n == 0 || n == low
/-- how two literals stand to each other -/
def cf (a b : Int) : Int := if compareInt (ab a) (ab b) ≠ 0 then compareInt (ab a) (ab b) else compareInt a b
def lt (a b : Int) : Bool := decide (cf a b < 0)
theorem lt_iff (a b : Int) : lt a b = true ↔ ab a < ab b ∨ (ab a = ab b ∧ a < b) := by
  unfold lt cf compareInt
  rw [decide_eq_true_iff]
  repeat' split
  all_goals omega
theorem swo : SWO lt where
  irrefl x := by
    rw [Bool.eq_false_iff]; intro h; rw [lt_iff] at h; omega
  trans x y z h1 h2 := by rw [lt_iff] at *; omega
  ntrans x y z h1 h2 := by
    rw [Bool.eq_false_iff] at *
    simp only [ne_eq, lt_iff] at *
    omega
theorem total (x y : Int) (h1 : lt x y = false) (h2 : lt y x = false) : x = y := by
  rw [Bool.eq_false_iff] at *
  simp only [ne_eq, lt_iff] at *
  omega

/-- strictly rising -/
abbrev Up (l : List Int) : Prop := l.Pairwise fun a b => lt a b = true
theorem up_unique : ∀ (a b : List Int), Up a → Up b → (∀ x, x ∈ a ↔ x ∈ b) → a = b
  | [], [], _, _, _ => rfl
  | [], y :: b, _, _, h => by have := (h y).2 (by simp); simp at this
  | x :: a, [], _, _, h => by have := (h x).1 (by simp); simp at this
  | x :: a, y :: b, ha, hb, h => by
    have h1 := List.pairwise_cons.1 ha
    have h2 := List.pairwise_cons.1 hb
    have e : x = y := by
      have hx := (h x).1 (by simp)
      have hy := (h y).2 (by simp)
      rcases List.mem_cons.1 hx with e | hx
      · exact e
      · rcases List.mem_cons.1 hy with e | hy
        · exact e.symm
        · have q1 := h1.1 y hy
          have q2 := h2.1 x hx
          rw [lt_iff] at q1 q2
          omega
    subst e
    congr 1
    refine up_unique a b h1.2 h2.2 fun z => ⟨fun hz => ?_, fun hz => ?_⟩
    · rcases List.mem_cons.1 ((h z).1 (by simp [hz])) with e | q
      · subst e
        have := h1.1 z hz
        rw [lt_iff] at this; omega
      · exact q
    · rcases List.mem_cons.1 ((h z).2 (by simp [hz])) with e | q
      · subst e
        have := h2.1 z hz
        rw [lt_iff] at this; omega
      · exact q

def srt (l : List Int) : List Int := l.mergeSort fun x y => !lt y x
theorem srt_perm (l : List Int) : (srt l).Perm l := List.mergeSort_perm _ _
theorem srt_sorted (l : List Int) : (srt l).Pairwise fun x y => lt y x = false := by
  have := List.pairwise_mergeSort (le := fun x y => !lt y x) (fun a b c h1 h2 => by
    simp only [Bool.not_eq_true', Bool.eq_false_iff, ne_eq, lt_iff] at *; omega) (fun a b => by
    simp only [Bool.or_eq_true, Bool.not_eq_true', Bool.eq_false_iff, ne_eq, lt_iff]; omega) l
  exact this.imp fun h => by simpa using h
/-- without what stands twice -/
def cpt (l : List Int) : List Int := compactUpTo l.toArray l.length

theorem cpt_mem_upto (d : Array Int) : ∀ m, (∀ i, i < m → d[i]! ∈ compactUpTo d m) ∧ (∀ x ∈ compactUpTo d m, ∃ j, j < m ∧ x = d[j]!)
  | 0 => ⟨fun i h => by omega, fun x h => by simp [compactUpTo] at h⟩
  | m + 1 => by
    obtain ⟨h1, h2⟩ := cpt_mem_upto d m
    rw [compactUpTo_succ]
    refine ⟨fun i hi => ?_, fun x hx => ?_⟩
    · by_cases e : i = m
      · subst e
        by_cases hk : keeps d i = true
        · simp [hk]
        · have hi0 : i ≠ 0 := by
            intro h0; subst h0; simp [keeps] at hk
          have hd : d[i]! = d[i - 1]! := by
            simp [keeps, hi0] at hk
            exact hk
          rw [hd]
          exact List.mem_append_left _ (h1 (i - 1) (by omega))
      · exact List.mem_append_left _ (h1 i (by omega))
    · rcases List.mem_append.1 hx with hx | hx
      · obtain ⟨j, hj, e⟩ := h2 x hx
        exact ⟨j, by omega, e⟩
      · split at hx
        · simp at hx
          exact ⟨m, by omega, hx⟩
        · simp at hx
theorem cpt_mem (l : List Int) (x : Int) : x ∈ cpt l ↔ x ∈ l := by
  obtain ⟨h1, h2⟩ := cpt_mem_upto l.toArray l.length
  unfold cpt
  constructor
  · intro h
    obtain ⟨j, hj, e⟩ := h2 x h
    rw [e, getElem!_pos _ _ (by simpa using hj)]
    simp
  · intro h
    obtain ⟨j, hj, e⟩ := List.mem_iff_getElem.1 h
    have := h1 j hj
    rw [getElem!_pos _ _ (by simpa using hj)] at this
    simp only [List.getElem_toArray] at this
    rw [← e]; exact this
theorem cpt_up_upto (d : Array Int) (hs : ∀ i j, i < j → j < d.size → lt d[j]! d[i]! = false) : ∀ m, m ≤ d.size → Up (compactUpTo d m)
  | 0, _ => by simp [compactUpTo]
  | m + 1, hm => by
    have ih := cpt_up_upto d hs m (by omega)
    rw [compactUpTo_succ]
    split
    · rename_i hk
      refine List.pairwise_append.2 ⟨ih, by simp, fun a ha b hb => ?_⟩
      simp at hb
      subst hb
      obtain ⟨j, hj, e⟩ := (cpt_mem_upto d m).2 a ha
      subst e
      by_cases h0 : m = 0
      · omega
      · have hne : d[m]! ≠ d[m - 1]! := by
          unfold keeps at hk
          simp [h0] at hk
          exact hk
        have q1 := hs (m - 1) m (by omega) (by omega)
        have q3 : lt d[m - 1]! d[m]! = true := by
          cases hq : lt d[m - 1]! d[m]! with
          | true => rfl
          | false => exact absurd (total _ _ q1 hq) hne
        by_cases e : j = m - 1
        · rw [e]; exact q3
        · have q2 := hs j (m - 1) (by omega) (by omega)
          rw [Bool.eq_false_iff, ne_eq, lt_iff] at q2
          rw [lt_iff] at q3 ⊢
          omega
    · simpa using ih
theorem cpt_up (l : List Int) (hs : l.Pairwise fun x y => lt y x = false) : Up (cpt l) := by
  refine cpt_up_upto l.toArray (fun i j hij hj => ?_) _ (by simp)
  have hj' : j < l.length := by simpa using hj
  have e1 : l.toArray[j]! = l[j] := by rw [getElem!_pos l.toArray j hj]; simp
  have e2 : l.toArray[i]! = l[i] := by rw [getElem!_pos l.toArray i (by simp; omega)]; simp
  rw [e1, e2]
  exact List.pairwise_iff_getElem.1 hs i j (by omega) hj' hij

/-- two neighbours are opposite -/
def bad : List Int → Bool
  | a :: b :: l => b == neg a || bad (b :: l)
  | _ => false
/-- a clause's form -/
def form (l : List Int) : List Int × Bool := if l.any wrong then ([], false) else if bad (cpt (srt l)) then ([], false) else (cpt (srt l), true)
theorem row_up (l : List Int) : Up (cpt (srt l)) := cpt_up _ (srt_sorted l)
theorem row_mem (l : List Int) (x : Int) : x ∈ cpt (srt l) ↔ x ∈ l := by rw [cpt_mem]; exact (srt_perm l).mem_iff
theorem row_is (l r : List Int) (h1 : Up r) (h2 : ∀ x, x ∈ r ↔ x ∈ l) : cpt (srt l) = r := up_unique _ _ (row_up l) h1 fun x => (row_mem l x).trans (h2 x).symm
theorem form_same (l r : List Int) (h : ∀ x, x ∈ r ↔ x ∈ l) : form r = form l := by
  have e : cpt (srt r) = cpt (srt l) := up_unique _ _ (row_up r) (row_up l) fun x => (row_mem r x).trans ((h x).trans (row_mem l x).symm)
  have e2 : r.any wrong = l.any wrong := by
    rw [Bool.eq_iff_iff, List.any_eq_true, List.any_eq_true]
    exact ⟨fun ⟨x, h1, h2⟩ => ⟨x, (h x).1 h1, h2⟩, fun ⟨x, h1, h2⟩ => ⟨x, (h x).2 h1, h2⟩⟩
  unfold form
  rw [e, e2]
theorem srt_len (l : List Int) : (srt l).length = l.length := (srt_perm l).length_eq
theorem cptUpTo_len (d : Array Int) (m : Nat) : (compactUpTo d m).length ≤ m := by
  unfold compactUpTo
  rw [List.length_map]
  exact Nat.le_trans (List.length_filter_le _ _) (by simp)
theorem row_len (l : List Int) : (cpt (srt l)).length ≤ l.length := by rw [← srt_len l]; exact cptUpTo_len _ _
theorem form_len (l : List Int) : (form l).1.length ≤ l.length := by
  unfold form
  split
  · simp
  · split
    · simp
    · exact row_len l
theorem form_mem (l : List Int) (x : Int) (h : x ∈ (form l).1) : x ∈ l := by
  unfold form at h
  split at h
  · simp at h
  · split at h
    · simp at h
    · exact (row_mem l x).1 h
theorem form_ok (l : List Int) (h : (form l).2 = true) : (form l).1 = cpt (srt l) ∧ l.any wrong = false ∧ bad (cpt (srt l)) = false := by
  unfold form at h ⊢
  split at h
  · simp at h
  · rename_i hw
    split at h
    · simp at h
    · rename_i hb
      rw [if_neg hw, if_neg hb]
      exact ⟨rfl, by simpa using hw, by simpa using hb⟩
theorem form_no (l : List Int) (h : (form l).2 = false) : (form l).1 = [] := by
  unfold form at h ⊢
  split
  · rfl
  · rename_i hw
    split
    · rfl
    · rename_i hb
      rw [if_neg hw, if_neg hb] at h
      simp at h
theorem form_of_up (l r : List Int) (h1 : Up r) (h2 : ∀ x, x ∈ r ↔ x ∈ l) (hw : l.any wrong = false) (hb : bad r = false) : form l = (r, true) := by
  unfold form
  rw [row_is l r h1 h2, hw, hb]
  rfl
end Go.Proofs.Ytnelgellbabkoaa.CnfM

/- The walks of cnf: abs, wrong, the comparison of two literals. No condition. -/
namespace Go.Proofs.Ytnelgellbabkoaa
open Go.RowKit Go.Lib Go.Sort

theorem max_is (x y : Int) : (if x < y then y else x) = max x y := by omega
set_option maxRecDepth 10000 in
theorem abs_any (x : Int) (w : World) : Calls Try.prog 60 #[.int .i64 x] w fun e w' => e = .returned (.int .i64 (CnfM.ab x)) ∧ w = w' := by
  by_cases h : x < wrap64 (-x)
  · have e : CnfM.ab x = wrap64 (-x) := by unfold CnfM.ab CnfM.neg; omega
    have He := Lib.hid e; clear e
    go_enter Try.func60, Try.ntmps60
    go_wp2_with fail
    go_ret
    exact ⟨ret_int (by rw [He.out] <;> omega), rfl⟩
  · have e : CnfM.ab x = x := by unfold CnfM.ab CnfM.neg; omega
    have h : wrap64 (-x) ≤ x := by omega
    have He := Lib.hid e; clear e
    go_enter Try.func60, Try.ntmps60
    go_wp2_with fail
    go_ret
    exact ⟨ret_int (by rw [He.out] <;> omega), rfl⟩
set_option maxRecDepth 10000 in
theorem wrong_any (x : Int) (w : World) : Calls Try.prog 54 #[.int .i64 x] w fun e w' => e = .returned (.bool (CnfM.wrong x)) ∧ w = w' := by
  by_cases h0 : x = 0
  · have e1 : (x == 0) = true := by rw [h0]; rfl
    have e2 : CnfM.wrong x = true := by unfold CnfM.wrong; rw [e1]; rfl
    have He2 := Lib.hid e2; clear e2
    clear h0
    go_enter Try.func54, Try.ntmps54
    go_wp2_with fail
    go_ret
    exact ⟨ret_bool (by rw [He2.out]), rfl⟩
  · have e1 : (x == 0) = false := by simpa using h0
    have e2 : CnfM.wrong x = (x == -9223372036854775808) := by unfold CnfM.wrong; rw [e1]; rfl
    have He2 := Lib.hid e2; clear e2
    clear h0
    go_enter Try.func54, Try.ntmps54
    go_wp2_with fail
    go_ret
    exact ⟨ret_bool (by rw [He2.out]), rfl⟩
set_option maxRecDepth 10000 in
theorem compare_any (x y : Int) (w : World) : Calls Try.prog 59 #[.int .i64 x, .int .i64 y] w fun e w' => e = .returned (.int .i64 (compareInt x y)) ∧ w = w' := by
  by_cases h1 : x < y
  · have e : compareInt x y = -1 := by unfold compareInt; rw [if_pos h1]
    rw [e]
    clear e
    go_enter Try.func59, Try.ntmps59
    go_wp2
    go_ret
    exact ⟨rfl, rfl⟩
  · have h1' : y ≤ x := by omega
    by_cases h2 : y < x
    · have e : compareInt x y = 1 := by unfold compareInt; rw [if_neg h1, if_pos h2]
      rw [e]
      clear e h1
      go_enter Try.func59, Try.ntmps59
      go_wp2
      go_ret
      exact ⟨rfl, rfl⟩
    · have e : compareInt x y = 0 := by unfold compareInt; rw [if_neg h1, if_neg h2]
      obtain rfl : x = y := by omega
      rw [e]
      clear e h1 h2 h1'
      go_enter Try.func59, Try.ntmps59
      go_wp2
      go_ret
      exact ⟨rfl, rfl⟩
/-- the first of two that is not 0 -/
def orOf (l : List Int) : Int := match l with
  | [] => 0
  | x :: r => if x ≠ 0 then x else orOf r
theorem orOf_snoc (l : List Int) (k : Nat) (h : k < l.length) (h0 : orOf (l.take k) = 0) : orOf (l.take (k + 1)) = l[k] := by
  induction l generalizing k with
  | nil => simp at h
  | cons x r ih =>
    match k with
    | 0 => simp [orOf]; intro h; simp [h]
    | k + 1 =>
      have h1 : x = 0 := by
        rw [List.take_succ_cons, orOf] at h0
        split at h0
        · rename_i hx; exact absurd h0 hx
        · rename_i hx; simpa using hx
      subst h1
      have := ih k (by simpa using h) (by simpa [orOf] using h0)
      simpa [orOf] using this
theorem orOf_all (l : List Int) (k : Nat) (h : orOf (l.take k) ≠ 0) : orOf l = orOf (l.take k) := by
  induction l generalizing k with
  | nil => simp
  | cons x r ih =>
    match k with
    | 0 => simp [orOf] at h
    | k + 1 =>
      rw [List.take_succ_cons, orOf] at h ⊢
      rw [orOf]
      split
      · rfl
      · rename_i hx
        rw [if_neg hx] at h
        exact ih k h
set_option maxRecDepth 10000 in
set_option maxHeartbeats 400000 in
theorem or_any (b off cap : Nat) (l : List Int) (w : World) (hl : l.length ≤ 1000) (hc : ∀ i x, l[i]? = some x → w.cell? ⟨b, off + i, none⟩ = some (.int .i64 x)) :
    Calls Try.prog 58 #[.slice (some ⟨b, off, none⟩) l.length cap] w fun e w' => e = .returned (.int .i64 (orOf l)) ∧ w = w' := by
  obtain ⟨n, hn⟩ : ∃ n, n = l.length := ⟨_, rfl⟩
  rw [← hn] at hl ⊢
  have Hn := Lib.hid hn; have Hc := Lib.hid hc; clear hn hc
  go_enter Try.func58, Try.ntmps58
  go_wp2_with fail
  go_loop [8] (fun i => ∃ k : Nat, k ≤ n ∧ i = .int .i64 k ∧ orOf (l.take k) = 0) (fun i => n - (intOf i).toNat)
  case atStart => exact ⟨0, Nat.zero_le _, rfl, by simp [orOf]⟩
  case round =>
    obtain ⟨k, hk, rfl, h0⟩ := hrel
    by_cases hlt : k < n
    · have hkl : k < l.length := by have := Hn.out; omega
      obtain ⟨x, hx⟩ : ∃ x, x = l[k]'hkl := ⟨_, rfl⟩
      have c := Hc.out k x (by rw [hx]; exact List.getElem?_eq_getElem hkl)
      have hs := orOf_snoc l k hkl h0
      rw [← hx] at hs
      by_cases hz : x = 0
      · have e1 : (x != 0) = false := by rw [hz]; rfl
        have h1 : orOf (l.take (k + 1)) = 0 := by rw [hs, hz]
        have Hx := Lib.hid hx; have Hs := Lib.hid hs; have H0 := Lib.hid h0; have Hz := Lib.hid hz; have H1 := Lib.hid h1; clear hx hs h0 hz h1
        go_wp2_with fail
        go_round
        case rel => exact ⟨k + 1, by omega, by go_num, H1.out⟩
        case measure => simp [intOf]; omega
      · have e1 : (x != 0) = true := by simpa using hz
        have h1 : orOf l = x := by rw [orOf_all l (k + 1) (by rw [hs]; exact hz), hs]
        have Hx := Lib.hid hx; have Hs := Lib.hid hs; have H0 := Lib.hid h0; have Hz := Lib.hid hz; have H1 := Lib.hid h1; clear hx hs h0 hz h1
        go_wp2_with fail
        go_ret
        exact ⟨ret_int (by rw [H1.out]), rfl⟩
    · have h1 : orOf l = 0 := by
        rw [← h0, List.take_of_length_le (by have := Hn.out; omega)]
      have H0 := Lib.hid h0; have H1 := Lib.hid h1; clear h0 h1
      go_wp2_with fail
      go_ret
      exact ⟨ret_int (by rw [H1.out]), rfl⟩
set_option maxRecDepth 10000 in
set_option maxHeartbeats 400000 in
theorem closure_any (x y : Int) (W : World) : Calls Try.prog 57 #[.int .i64 x, .int .i64 y] W fun e w' => e = .returned (.int .i64 (CnfM.cf x y)) ∧ ∃ q os, w' = grow (W.drewN q) os := by
  obtain ⟨r, hr⟩ : ∃ r, r = CnfM.cf x y := ⟨_, rfl⟩
  obtain ⟨a, ha⟩ : ∃ a, a = CnfM.ab x := ⟨_, rfl⟩
  obtain ⟨b, hb⟩ : ∃ b, b = CnfM.ab y := ⟨_, rfl⟩
  obtain ⟨c, hcc⟩ : ∃ c, c = compareInt a b := ⟨_, rfl⟩
  obtain ⟨d, hdd⟩ : ∃ d, d = compareInt x y := ⟨_, rfl⟩
  have hA := fun W => abs_any x W
  have hB := fun W => abs_any y W
  have hC := fun W => compare_any a b W
  have hD := fun W => compare_any x y W
  have hO : orOf [c, d] = r := by
    rw [hr, hcc, hdd, ha, hb]
    unfold CnfM.cf orOf orOf orOf
    split <;> simp_all
  have hE := fun (W : World) h => or_any W.heap.size 0 2 [c, d] (W.alloc (.cells #[.int .i64 c, .int .i64 d] 3)) (by simp) h
  rw [hO] at hE
  rw [← hr]
  rw [← ha] at hA
  rw [← hb] at hB
  rw [← hcc] at hC
  rw [← hdd] at hD
  have hF := fun W : World => hE W (by
    intro i x hx
    rw [Nat.zero_add, World.cell?_alloc_new]
    match i, hx with
    | 0, hx => simpa using hx
    | 1, hx => simpa using hx)
  simp only [List.length_cons, List.length_nil, Nat.zero_add] at hF
  clear hE
  have HA := Lib.hid hA; have HB := Lib.hid hB; have HC := Lib.hid hC; have HD := Lib.hid hD; have HF := Lib.hid hF; have Hr := Lib.hid hr; have Ha := Lib.hid ha; have Hb := Lib.hid hb; have Hcc := Lib.hid hcc; have Hdd := Lib.hid hdd; have HO := Lib.hid hO; clear hA hB hC hD hF hr ha hb hcc hdd hO
  go_enter Try.func57, Try.ntmps57
  go_wp2_with fail
  refine (HA.out _).mono ?_
  rintro e w1 ⟨rfl, rfl⟩
  go_wp2_with fail
  refine (HB.out _).mono ?_
  rintro e w1 ⟨rfl, rfl⟩
  go_wp2_with fail
  refine (HC.out _).mono ?_
  rintro e w1 ⟨rfl, rfl⟩
  go_wp2_with fail
  refine (HD.out _).mono ?_
  rintro e w1 ⟨rfl, rfl⟩
  go_wp2_with fail
  refine (HF.out _).mono ?_
  rintro e w1 ⟨rfl, rfl⟩
  go_wp2_with fail
  go_ret
  exact ⟨rfl, 0, _, alloc_eq_grow _ _⟩
end Go.Proofs.Ytnelgellbabkoaa

/- Readings of plain data in memory, by shapes; each is opened out of the form's own reading, and stays where memory only grows. No condition. -/
namespace Go.Proofs.Ytnelgellbabkoaa
open Go.RowKit

abbrev Rd (α : Type) := World → List Value → α → Prop

def RInt (k : IntKind) : Rd Int := fun _ cs n => cs = [.int k n] ∧ (Lit.int k n).wf = true
def RBool : Rd Bool := fun _ cs b => cs = [.bool b]
def RStr : Rd ByteArray := fun _ cs s => cs = [.string s] ∧ s.size ≤ maxLen
/-- a slice: its elements, each of sz cells, in a row -/
def RSlice {α : Type} (sz : Nat) (R : Rd α) : Rd (List α) := fun w cs l =>
  ∃ a cap, cs = [.slice a l.length cap] ∧ l.length ≤ cap ∧ cap ≤ maxLen ∧
    ∀ i x, l[i]? = some x → ∃ b off ecs, a = some ⟨b, off, none⟩ ∧ ecs.length = sz ∧ (∀ j u, ecs[j]? = some u → w.cell? ⟨b, off + i * sz + j, none⟩ = some u) ∧ R w ecs x
def RNil : Rd Unit := fun _ cs _ => cs = []
def RCons {α β : Type} (sz : Nat) (R : Rd α) (S : Rd β) : Rd (α × β) := fun w cs x => ∃ c1 c2, cs = c1 ++ c2 ∧ c1.length = sz ∧ R w c1 x.1 ∧ S w c2 x.2

def Stays {α : Type} (R : Rd α) : Prop := ∀ w w' cs a, R w cs a → Below w.heap.size w w' → R w' cs a

theorem stays_int (k : IntKind) : Stays (RInt k) := fun _ _ _ _ h _ => h
theorem stays_bool : Stays RBool := fun _ _ _ _ h _ => h
theorem stays_str : Stays RStr := fun _ _ _ _ h _ => h
theorem stays_nil : Stays RNil := fun _ _ _ _ h _ => h
theorem stays_cons {α β : Type} {sz : Nat} {R : Rd α} {S : Rd β} (hR : Stays R) (hS : Stays S) : Stays (RCons sz R S) := by
  rintro w w' cs ⟨a, b⟩ ⟨c1, c2, h1, h2, h3, h4⟩ hb
  exact ⟨c1, c2, h1, h2, hR _ _ _ _ h3 hb, hS _ _ _ _ h4 hb⟩
theorem stays_slice {α : Type} {sz : Nat} {R : Rd α} (hR : Stays R) : Stays (RSlice sz R) := by
  rintro w w' cs l ⟨a, cap, rfl, h1, h2, h3⟩ hb
  refine ⟨a, cap, rfl, h1, h2, fun i x hi => ?_⟩
  obtain ⟨b, off, ecs, rfl, h4, h5, h6⟩ := h3 i x hi
  exact ⟨b, off, ecs, rfl, h4, fun j u hu => cell_later hb (h5 j u hu), hR _ _ _ _ h6 hb⟩

def Opens {α : Type} (P : Program) (t : TypeId) (R : Rd α) : Prop :=
  ∀ {H : Type} (enc : TypeId × Value → H) (w : World) (base : Nat) (spare : Nat → Bool) (held : Bool) (fuel : Nat) (cs : List Value) (x : DataW H × List MemPlace),
    DataW.trod enc P w base spare held fuel t cs = some x → ∃ a, R w cs a

theorem opens_int {P : Program} {t : TypeId} {k : IntKind} (ht : P.underlying t = some (.int k)) : Opens P t (RInt k) := by
  intro H enc w base spare held fuel cs x h
  obtain ⟨n, h1, _, h3⟩ := DataW.trod_int ht h
  exact ⟨n, h1, h3⟩
theorem opens_bool {P : Program} {t : TypeId} (ht : P.underlying t = some .bool) : Opens P t RBool := by
  intro H enc w base spare held fuel cs x h
  obtain ⟨n, h1, _⟩ := DataW.trod_bool ht h
  exact ⟨n, h1⟩
theorem opens_str {P : Program} {t : TypeId} (ht : P.underlying t = some .string) : Opens P t RStr := by
  intro H enc w base spare held fuel cs x h
  obtain ⟨n, h1, _, h3⟩ := DataW.trod_string ht h
  exact ⟨n, h1, h3⟩
theorem opens_slice {α : Type} {P : Program} {t e : TypeId} {R : Rd α} {sz : Nat} (ht : P.underlying t = some (.slice e)) (hc : P.cellsOf e = sz) (hz : 0 < sz) (he : Opens P e R) : Opens P t (RSlice sz R) := by
  intro H enc w base spare held fuel cs x h
  rcases Go.Deep.open_slice ht h with ⟨rfl, _⟩ | ⟨a, len, cap, m, n, D, Pl, rfl, hb, hl, hm, hmm, _, hx⟩
  · exact ⟨[], none, 0, rfl, Nat.le_refl _, Nat.zero_le _, fun i x hi => by simp at hi⟩
  · have hlm : len ≤ m := by rw [hmm]; split <;> omega
    have hex : ∀ i, i < len → ∃ y : α, ∃ cs', w.cells? base (a.add (i * P.cellsOf e)) (P.cellsOf e) = some cs' ∧ R w cs' y := by
      intro i hi
      obtain ⟨cs', h1, h2⟩ := hx i (by omega)
      obtain ⟨y, hy⟩ := he enc w base spare held n cs' _ h2
      exact ⟨y, cs', h1, hy⟩
    have build : ∀ k, k ≤ len → ∃ l : List α, l.length = k ∧ ∀ i y, l[i]? = some y → ∃ cs', w.cells? base (a.add (i * P.cellsOf e)) (P.cellsOf e) = some cs' ∧ R w cs' y := by
      intro k
      induction k with
      | zero => exact fun _ => ⟨[], rfl, fun i y hi => by simp at hi⟩
      | succ k ih =>
        intro hk
        obtain ⟨l, h1, h2⟩ := ih (by omega)
        obtain ⟨y, cs', h3, h4⟩ := hex k (by omega)
        refine ⟨l ++ [y], by simp [h1], fun i z hz => ?_⟩
        rw [List.getElem?_append] at hz
        split at hz
        · exact h2 i z hz
        · have hik : i = k := by
            have := (List.getElem?_eq_some_iff.1 hz).1
            simp at this; omega
          subst hik
          rw [h1, Nat.sub_self] at hz
          simp at hz
          subst hz
          exact ⟨cs', h3, h4⟩
    obtain ⟨l, h1, h2⟩ := build len (Nat.le_refl _)
    refine ⟨l, some a, cap, by rw [h1], by omega, hm, fun i y hi => ?_⟩
    obtain ⟨cs', h3, h4⟩ := h2 i y hi
    obtain ⟨_, h5, h6⟩ := World.cells?_some h3
    obtain ⟨b, off, spot⟩ := a
    have hspot : spot = none := by
      obtain ⟨cs0, g3, _⟩ := hx 0 (by have := (List.getElem?_eq_some_iff.1 hi).1; omega)
      obtain ⟨_, g5, g6⟩ := World.cells?_some g3
      have h0 := g6 0 (by omega)
      have : 0 < cs0.length := by omega
      rw [List.getElem?_eq_getElem this] at h0
      have := World.cell?_spot h0
      simpa [Addr.add] using this
    subst hspot
    refine ⟨b, off, cs', rfl, by omega, fun j u hu => ?_, h4⟩
    have hj : j < P.cellsOf e := by have := (List.getElem?_eq_some_iff.1 hu).1; omega
    have := h6 j hj
    rw [Addr.add_lit, Addr.add_lit, hu, hc] at this
    exact this

/-- the fields of a struct from one offset on read as S says -/
def FieldsOpen {β : Type} (P : Program) (N : Nat) (fs : List Field) (off : Nat) (S : Rd β) : Prop :=
  off ≤ N ∧ ∀ {H : Type} (enc : TypeId × Value → H) (w : World) (base : Nat) (spare : Nat → Bool) (held : Bool) (n : Nat) (cs : List Value), cs.length = N →
    (∀ f ∈ fs, ∃ x, DataW.trod enc P w base spare held n f.type ((cs.drop f.offset).take (P.cellsOf f.type)) = some x) → ∃ b, S w (cs.drop off) b

theorem fields_nil {P : Program} {N : Nat} : FieldsOpen P N [] N RNil :=
  ⟨Nat.le_refl _, fun _ _ _ _ _ _ cs hN _ => ⟨(), by simp [RNil, hN]⟩⟩
theorem fields_cons {P : Program} {N : Nat} {f : Field} {fs : List Field} {off sz : Nat} {α β : Type} {R : Rd α} {S : Rd β} (ho : f.offset = off) (hs : P.cellsOf f.type = sz) (hR : Opens P f.type R)
    (h : FieldsOpen P N fs (off + sz) S) : FieldsOpen P N (f :: fs) off (RCons sz R S) := by
  obtain ⟨hle, ih⟩ := h
  refine ⟨by omega, fun enc w base spare held n cs hN hf => ?_⟩
  obtain ⟨x, hx⟩ := hf f (by simp)
  obtain ⟨a, ha⟩ := hR enc w base spare held n _ _ hx
  obtain ⟨b, hb⟩ := ih enc w base spare held n cs hN (fun g hg => hf g (by simp [hg]))
  refine ⟨(a, b), (cs.drop off).take sz, cs.drop (off + sz), ?_, ?_, ?_, hb⟩
  · rw [← List.drop_drop, List.take_append_drop]
  · simp; omega
  · rw [ho, hs] at ha; exact ha

theorem opens_struct {P : Program} {t : TypeId} {fs : Array Field} {β : Type} {S : Rd β} (ht : P.underlying t = some (.struct fs)) (h : FieldsOpen P (P.cellsOf t) fs.toList 0 S) : Opens P t S := by
  intro H enc w base spare held fuel cs x hx
  obtain ⟨xs, n, _, _, hl, hlen, hf⟩ := DataW.trod_struct ht hx
  obtain ⟨b, hb⟩ := h.2 enc w base spare held n cs hl (by
    intro f hfm
    obtain ⟨i, hi⟩ := List.mem_iff_getElem?.1 hfm
    have h1 : fs[i]? = some f := by simpa using hi
    have h2 := hf i f h1
    have hlt : i < xs.length := by
      rw [hlen]
      have := (Array.getElem?_eq_some_iff.1 h1).1
      exact this
    exact ⟨xs[i], by rw [h2]; simp [hlt]⟩)
  exact ⟨b, by simpa using hb⟩

theorem opens_map {α β : Type} {P : Program} {t : TypeId} {R : Rd α} {S : Rd β} (hR : Opens P t R) (h : ∀ w cs a, R w cs a → ∃ b, S w cs b) : Opens P t S := by
  intro H enc w base spare held fuel cs x hx
  obtain ⟨a, ha⟩ := hR enc w base spare held fuel cs x hx
  exact h _ _ _ ha

theorem opens_ints_of {P : Program} {t e : TypeId} (ht : P.underlying t = some (.slice e)) (he : P.underlying e = some (.int .i64)) (hc : P.cellsOf e = 1) : Opens P t (RSlice 1 (RInt .i64)) := opens_slice ht hc (by decide) (opens_int he)
/-- one element of a slice of numbers -/
theorem ints_cell {w : World} {a : Option Addr} {l : List Int} (h : ∀ i x, l[i]? = some x → ∃ b off ecs, a = some ⟨b, off, none⟩ ∧ ecs.length = 1 ∧ (∀ j u, ecs[j]? = some u → w.cell? ⟨b, off + i * 1 + j, none⟩ = some u) ∧ RInt .i64 w ecs x) (i : Nat) (hi : i < l.length) :
    ∃ b off, a = some ⟨b, off, none⟩ ∧ w.cell? ⟨b, off + i, none⟩ = some (.int .i64 l[i]) ∧ -9223372036854775808 ≤ l[i] ∧ l[i] ≤ 9223372036854775807 := by
  obtain ⟨b, off, ecs, h1, h2, h3, h4, h5⟩ := h i l[i] (List.getElem?_eq_getElem hi)
  subst h4
  refine ⟨b, off, h1, by simpa using h3 0 _ rfl, ?_⟩
  simpa [Lit.wf, IntKind.min, IntKind.max, IntKind.signed, IntKind.bits] using h5
theorem okWide_agg {P : Program} {w : World} {r : Reach} {base : Nat} {t : TypeId} {v : Value} {fs : Array Field} (ht : P.underlying t = some (.struct fs)) (h : Value.okWide P w r base t v) : ∃ cs, v = .agg cs := by
  unfold Value.okWide at h
  rw [ht] at h
  obtain ⟨cs, h, _⟩ := h
  exact ⟨cs, h⟩
theorem wf_u8 {n : Int} (h : (Lit.int .u8 n).wf = true) : 0 ≤ n ∧ n ≤ 255 := by simpa [Lit.wf, IntKind.min, IntKind.max, IntKind.signed, IntKind.bits] using h
theorem wf_u16 {n : Int} (h : (Lit.int .u16 n).wf = true) : 0 ≤ n ∧ n ≤ 65535 := by simpa [Lit.wf, IntKind.min, IntKind.max, IntKind.signed, IntKind.bits] using h
theorem wf_i64 {n : Int} (h : (Lit.int .i64 n).wf = true) : -9223372036854775808 ≤ n ∧ n ≤ 9223372036854775807 := by simpa [Lit.wf, IntKind.min, IntKind.max, IntKind.signed, IntKind.bits] using h
end Go.Proofs.Ytnelgellbabkoaa

/- Plain facts on stable sorting: swaps of neighbours that stand the wrong way lead to one sorted row alone; parts that are sorted may be put together. Condition: a strict weak order. -/
namespace Go.Proofs.Ytnelgellbabkoaa.SortM
variable {α : Type}

structure Swo (lt : α → α → Bool) : Prop where
  asymm : ∀ a b, lt a b = true → lt b a = false
  ntrans : ∀ a b c, lt b a = false → lt c b = false → lt c a = false

/-- it comes of l by swaps of neighbours that stand the wrong way -/
inductive Sw (lt : α → α → Bool) (l : List α) : List α → Prop
  | refl : Sw lt l l
  | step (p : List α) (x y : α) (q : List α) : Sw lt l (p ++ x :: y :: q) → lt y x = true → Sw lt l (p ++ y :: x :: q)

def Sorted (lt : α → α → Bool) (l : List α) : Prop := l.Pairwise fun a b => lt b a = false

variable {lt : α → α → Bool}
theorem Sw.trans {a b c : List α} (h : Sw lt a b) (k : Sw lt b c) : Sw lt a c := by
  induction k with
  | refl => exact h
  | step p x y q _ hlt ih => exact .step p x y q ih hlt
theorem Sw.perm {a b : List α} (h : Sw lt a b) : a.Perm b := by
  induction h with
  | refl => exact List.Perm.refl _
  | step p x y q _ _ ih => exact ih.trans (List.Perm.append_left _ (List.Perm.swap _ _ _))
theorem Sw.ctx {a b : List α} (h : Sw lt a b) (u v : List α) : Sw lt (u ++ a ++ v) (u ++ b ++ v) := by
  induction h with
  | refl => exact .refl
  | step p x y q _ hlt ih =>
    have h1 : u ++ (p ++ x :: y :: q) ++ v = (u ++ p) ++ x :: y :: (q ++ v) := by simp
    have h2 : u ++ (p ++ y :: x :: q) ++ v = (u ++ p) ++ y :: x :: (q ++ v) := by simp
    rw [h1] at ih
    rw [h2]
    exact .step _ x y _ ih hlt
theorem Sw.app {a b c d : List α} (h : Sw lt a b) (k : Sw lt c d) : Sw lt (a ++ c) (b ++ d) := by
  have h1 := h.ctx [] c
  have h2 := k.ctx b []
  simp only [List.nil_append, List.append_nil] at h1 h2
  exact h1.trans h2
/-- one element is carried over a block -/
theorem Sw.over (x : α) : ∀ (b : List α), (∀ y ∈ b, lt y x = true) → Sw lt (x :: b) (b ++ [x]) := by
  intro b
  induction b with
  | nil => intro _; exact .refl
  | cons y b ih =>
    intro h
    have h1 : Sw lt (x :: y :: b) (y :: x :: b) := .step [] x y b .refl (h y (by simp))
    have h2 := (ih (fun z hz => h z (by simp [hz]))).ctx [y] []
    simp only [List.append_nil] at h2
    exact h1.trans h2
/-- two blocks are exchanged -/
theorem Sw.blocks : ∀ (a b : List α), (∀ x ∈ a, ∀ y ∈ b, lt y x = true) → Sw lt (a ++ b) (b ++ a) := by
  intro a
  induction a with
  | nil => intro b _; rw [List.append_nil]; exact .refl
  | cons x a ih =>
    intro b h
    have h1 := (ih b (fun z hz => h z (by simp [hz]))).ctx [x] []
    have h2 := (Sw.over x b (h x (by simp))).ctx [] a
    simp only [List.append_nil, List.nil_append] at h1 h2
    have e : x :: b ++ a = [x] ++ (b ++ a) := rfl
    rw [e] at h2
    refine h1.trans (h2.trans ?_)
    rw [List.append_assoc]
    exact .refl

def eqv (lt : α → α → Bool) (a x : α) : Bool := !lt a x && !lt x a
theorem eqv_of (h : Swo lt) {a x y : α} (hx : eqv lt a x = true) (hy : eqv lt a y = true) : lt y x = false := by
  unfold eqv at hx hy
  simp only [Bool.and_eq_true, Bool.not_eq_true'] at hx hy
  exact h.ntrans x a y hx.1 hy.2
theorem Sw.filter (h : Swo lt) {l m : List α} (k : Sw lt l m) (a : α) : l.filter (eqv lt a) = m.filter (eqv lt a) := by
  induction k with
  | refl => rfl
  | step p x y q _ hlt ih =>
    rw [ih]
    simp only [List.filter_append, List.filter_cons]
    cases hx : eqv lt a x <;> cases hy : eqv lt a y <;> simp
    rw [eqv_of h hx hy] at hlt
    cases hlt
theorem irrefl (h : Swo lt) (a : α) : lt a a = false := by
  cases e : lt a a
  · rfl
  · have := h.asymm a a e; rw [e] at this; exact this
theorem eqv_self (h : Swo lt) (a : α) : eqv lt a a = true := by unfold eqv; rw [irrefl h a]; rfl
theorem uniq (h : Swo lt) : ∀ (a b : List α), a.Perm b → (∀ x, a.filter (eqv lt x) = b.filter (eqv lt x)) → Sorted lt a → Sorted lt b → a = b := by
  intro a
  induction a with
  | nil => intro b hp _ _ _; exact hp.nil_eq
  | cons x a ih =>
    intro b hp hf ha hb
    match b with
    | [] => exact absurd hp.symm.nil_eq (by simp)
    | y :: b =>
      have h1 : lt y x = false := by
        have hy : y ∈ x :: a := hp.symm.subset (by simp)
        rcases List.mem_cons.1 hy with e | hy
        · rw [e]; exact irrefl h x
        · exact (List.pairwise_cons.1 ha).1 y hy
      have h2 : lt x y = false := by
        have hx : x ∈ y :: b := hp.subset (by simp)
        rcases List.mem_cons.1 hx with e | hx
        · rw [e]; exact irrefl h y
        · exact (List.pairwise_cons.1 hb).1 x hx
      have h3 : eqv lt x y = true := by unfold eqv; rw [h1, h2]; rfl
      have hx := hf x
      rw [List.filter_cons, List.filter_cons, if_pos (eqv_self h x), if_pos h3] at hx
      injection hx with hxy _
      subst hxy
      congr 1
      refine ih b (List.Perm.cons_inv hp) (fun z => ?_) (List.pairwise_cons.1 ha).2 (List.pairwise_cons.1 hb).2
      have := hf z
      rw [List.filter_cons, List.filter_cons] at this
      split at this
      · injection this
      · exact this
/-- x behind all that it is not ahead of, of a sorted row -/
def ins (lt : α → α → Bool) (x : α) : List α → List α
  | [] => [x]
  | y :: l => if lt x y = true then x :: y :: l else y :: ins lt x l
def ssort (lt : α → α → Bool) (l : List α) : List α := l.foldl (fun r x => ins lt x r) []
theorem mem_ins (x z : α) (l : List α) : z ∈ ins lt x l ↔ z = x ∨ z ∈ l := by
  induction l with
  | nil => simp [ins]
  | cons y l ih =>
    unfold ins
    split
    · simp
    · simp only [List.mem_cons, ih]
      constructor
      · rintro (h | h | h)
        · exact .inr (.inl h)
        · exact .inl h
        · exact .inr (.inr h)
      · rintro (h | h | h)
        · exact .inr (.inl h)
        · exact .inl h
        · exact .inr (.inr h)
theorem ins_sorted (h : Swo lt) (x : α) (l : List α) (hl : Sorted lt l) : Sorted lt (ins lt x l) := by
  induction l with
  | nil => simp [ins, Sorted]
  | cons y l ih =>
    have hl' := List.pairwise_cons.1 hl
    unfold ins
    split
    · rename_i hxy
      refine List.pairwise_cons.2 ⟨fun z hz => ?_, hl⟩
      rcases List.mem_cons.1 hz with e | hz
      · rw [e]; exact h.asymm _ _ hxy
      · exact h.ntrans x y z (h.asymm _ _ hxy) (hl'.1 z hz)
    · rename_i hxy
      refine List.pairwise_cons.2 ⟨fun z hz => ?_, ih hl'.2⟩
      rcases (mem_ins x z l).1 hz with e | hz
      · rw [e]; simpa using hxy
      · exact hl'.1 z hz
/-- the row with x behind it comes to that -/
theorem ins_sw (h : Swo lt) (x : α) (l : List α) (hl : Sorted lt l) : Sw lt (l ++ [x]) (ins lt x l) := by
  induction l with
  | nil => exact .refl
  | cons y l ih =>
    have hl' := List.pairwise_cons.1 hl
    unfold ins
    split
    · rename_i hxy
      have : ∀ z ∈ y :: l, lt x z = true := by
        intro z hz
        cases e : lt x z
        · have h1 : lt x y = false := by
            rcases List.mem_cons.1 hz with e2 | hz
            · rw [← e2]; exact e
            · exact h.ntrans y z x (hl'.1 z hz) e
          rw [hxy] at h1; cases h1
        · rfl
      have h2 := Sw.blocks (lt := lt) (y :: l) [x] (fun a ha b hb => by simp at hb; subst hb; exact this a ha)
      exact h2
    · have h2 := (ih hl'.2).ctx [y] []
      simp only [List.append_nil] at h2
      exact h2
theorem fold_sorted (h : Swo lt) : ∀ (l r : List α), Sorted lt r → Sorted lt (l.foldl (fun r x => ins lt x r) r) ∧ Sw lt (r ++ l) (l.foldl (fun r x => ins lt x r) r) := by
  intro l
  induction l with
  | nil => intro r hr; exact ⟨hr, by rw [List.append_nil]; exact .refl⟩
  | cons x l ih =>
    intro r hr
    obtain ⟨h1, h2⟩ := ih (ins lt x r) (ins_sorted h x r hr)
    refine ⟨h1, ?_⟩
    have h3 := (ins_sw h x r hr).ctx [] l
    simp only [List.nil_append] at h3
    have e : r ++ [x] ++ l = r ++ x :: l := by simp
    rw [e] at h3
    exact h3.trans h2
theorem ssort_sorted (h : Swo lt) (l : List α) : Sorted lt (ssort lt l) := (fold_sorted h l [] List.Pairwise.nil).1
theorem ssort_sw (h : Swo lt) (l : List α) : Sw lt l (ssort lt l) := by
  have := (fold_sorted h l [] List.Pairwise.nil).2
  rw [List.nil_append] at this
  exact this
/-- the one sorted row to which swaps lead -/
theorem ssort_eq (h : Swo lt) {l a : List α} (hs : Sw lt l a) (ha : Sorted lt a) : a = ssort lt l := by
  have h1 := ssort_sw h l
  exact uniq h a (ssort lt l) (hs.perm.symm.trans h1.perm) (fun x => (hs.filter h x).symm.trans (h1.filter h x)) ha (ssort_sorted h l)
theorem ssort_of_sw (h : Swo lt) {l a : List α} (hs : Sw lt l a) : ssort lt a = ssort lt l := ssort_eq h (hs.trans (ssort_sw h a)) (ssort_sorted h a)
theorem ssort_id (h : Swo lt) {l : List α} (hl : Sorted lt l) : ssort lt l = l := (ssort_eq h .refl hl).symm
theorem ssort_len (h : Swo lt) (l : List α) : (ssort lt l).length = l.length := (ssort_sw h l).perm.length_eq.symm
theorem mem_ssort (h : Swo lt) (l : List α) (x : α) : x ∈ ssort lt l ↔ x ∈ l := (ssort_sw h l).perm.symm.mem_iff
theorem ssort_app (h : Swo lt) (a b : List α) : ssort lt (ssort lt a ++ ssort lt b) = ssort lt (a ++ b) := ssort_of_sw h ((ssort_sw h a).app (ssort_sw h b))
theorem ssort_snoc (l : List α) (x : α) : ssort lt (l ++ [x]) = ins lt x (ssort lt l) := by unfold ssort; rw [List.foldl_append]; rfl
/-- a merge, cut in two -/
theorem ssort_cut (h : Swo lt) (l1 l2 r1 r2 : List α) (hx : ∀ x ∈ l2, ∀ y ∈ r1, lt y x = true) (h12 : ∀ a ∈ l1, ∀ b ∈ l2, lt b a = false) (hr : ∀ a ∈ r1, ∀ b ∈ r2, lt b a = false) (hlr : ∀ a ∈ l1, ∀ b ∈ r2, lt b a = false) :
    ssort lt (l1 ++ l2 ++ (r1 ++ r2)) = ssort lt (l1 ++ r1) ++ ssort lt (l2 ++ r2) := by
  symm
  apply ssort_eq h
  · have h1 := (Sw.blocks l2 r1 hx).ctx l1 r2
    have e1 : l1 ++ (l2 ++ r1) ++ r2 = l1 ++ l2 ++ (r1 ++ r2) := by simp
    have e2 : l1 ++ (r1 ++ l2) ++ r2 = (l1 ++ r1) ++ (l2 ++ r2) := by simp
    rw [e1, e2] at h1
    exact h1.trans ((ssort_sw h _).app (ssort_sw h _))
  · refine List.pairwise_append.2 ⟨ssort_sorted h _, ssort_sorted h _, fun a ha b hb => ?_⟩
    rw [mem_ssort h] at ha hb
    rcases List.mem_append.1 ha with ha | ha <;> rcases List.mem_append.1 hb with hb | hb
    · exact h12 a ha b hb
    · exact hlr a ha b hb
    · exact h.asymm _ _ (hx b hb a ha)
    · exact hr a ha b hb
/-- where x comes to stand -/
theorem ins_at (h : Swo lt) (x : α) : ∀ (S : List α), Sorted lt S → ∀ m, m ≤ S.length → (∀ y ∈ S.drop m, lt x y = true) → (∀ y, S[m - 1]? = some y → 0 < m → lt x y = false) → S.take m ++ x :: S.drop m = ins lt x S := by
  intro S
  induction S with
  | nil => intro _ m hm _ _; simp [ins]
  | cons y S ih =>
    intro hS m hm h1 h2
    have hS' := List.pairwise_cons.1 hS
    match m with
    | 0 =>
      have := h1 y (by simp)
      simp [ins, this]
    | m + 1 =>
      have hxy : lt x y = false := by
        have hl : m < (y :: S).length := by simp at hm ⊢; omega
        have hlast := h2 (y :: S)[m] (by simp [List.getElem?_eq_getElem hl]) (by omega)
        by_cases h0 : m = 0
        · subst h0; simpa using hlast
        · have hmem : (y :: S)[m] ∈ S := by
            obtain ⟨j, rfl⟩ : ∃ j, m = j + 1 := ⟨m - 1, by omega⟩
            simp
          exact h.ntrans y _ x (hS'.1 _ hmem) hlast
      unfold ins
      rw [if_neg (by rw [hxy]; simp)]
      simp only [List.take_succ_cons, List.drop_succ_cons, List.cons_append]
      congr 1
      refine ih hS'.2 m (by simpa using hm) h1 (fun z hz hm0 => ?_)
      refine h2 z ?_ (by omega)
      obtain ⟨j, rfl⟩ : ∃ j, m = j + 1 := ⟨m - 1, by omega⟩
      simpa using hz
end Go.Proofs.Ytnelgellbabkoaa.SortM

/- Laws for blocks and rows that a call owns. No condition. -/
namespace Go.Proofs.Ytnelgellbabkoaa
open Go.RowKit

theorem own_type {w : World} {B : Nat} {e : TypeId} {size : Nat} {v : Value} {n : Nat} {xs : List Value} (h : w.ownsRow B e size v n xs) : ∀ k, v.ownBlock = some k → ∃ cs, w.heap[k]? = some (.cells cs e (0, 0)) := by
  intro k hk
  rcases h.2 with ⟨h1, _⟩ | ⟨g, cap, cur, h1, _, hg, _⟩
  · rw [h1] at hk; simp [Value.ownBlock] at hk
  · rw [h1] at hk
    simp [Value.ownBlock] at hk
    subst hk
    exact ⟨_, hg⟩
theorem apart_type {w : World} {B B' : Nat} {e e' : TypeId} {size size' : Nat} {v v' : Value} {n n' : Nat} {xs xs' : List Value} (h : w.ownsRow B e size v n xs) (h' : w.ownsRow B' e' size' v' n' xs') (hne : e ≠ e') : ∀ k, v.ownBlock = some k → v'.ownBlock ≠ some k := by
  intro k hk hk'
  obtain ⟨c, hc⟩ := own_type h k hk
  obtain ⟨c', hc'⟩ := own_type h' k hk'
  rw [hc] at hc'
  simp at hc'
  exact hne hc'.2
theorem apart_block {w : World} {B : Nat} {e t : TypeId} {size : Nat} {v : Value} {n : Nat} {xs : List Value} {x : Nat} {cs : Array Value} {fr : Nat × Nat} (h : w.ownsRow B e size v n xs) (hx : w.heap[x]? = some (.cells cs t fr)) (hne : e ≠ t) : v.ownBlock ≠ some x := by
  intro hk
  obtain ⟨c, hc⟩ := own_type h x hk
  rw [hc] at hx
  simp at hx
  exact hne hx.2.1
theorem cells_at {w : World} {p : Nat} {cs : Array Value} {t : TypeId} {fr : Nat × Nat} (h : w.heap[p]? = some (.cells cs t fr)) (i : Nat) : w.cell? ⟨p, i, none⟩ = cs[i]? := cell_of_row w p i cs t fr h
theorem frozen_at {w : World} {p : Nat} {cs : Array Value} {t : TypeId} (h : w.heap[p]? = some (.cells cs t (0, 0))) (i : Nat) : w.frozen? ⟨p, i, none⟩ = false := frozen_of_row w p i cs t h
theorem heap_to {w w' : World} {S : Nat → Prop} {f : Nat} {o : Obj} (h : w.heap[f]? = some o) (hf : Frm S w w') (hS : ¬ S f) : w'.heap[f]? = some o :=
  (hf.block f (Array.getElem?_eq_some_iff.1 h).1 hS).trans h

theorem own_shape {w : World} {B : Nat} {e : TypeId} {size : Nat} {v : Value} {n : Nat} {xs : List Value} (h : w.ownsRow B e size v n xs) : ∃ a cap, v = .slice a n cap := by
  rcases h.2 with ⟨h1, h2⟩ | ⟨g, cap, _, h1, _⟩
  · exact ⟨none, 0, by rw [h1, h2]⟩
  · exact ⟨_, cap, h1⟩
theorem frm_cell {x : Nat} {a w : World} (h : Frm (fun k => k = x) a w) (i : Nat) (u : Value) : Frm (fun k => k = x) a (w.setCell ⟨x, i, none⟩ u) := Frm.setCell (S := fun k => k = x) h (p := ⟨x, i, none⟩) (.inr rfl) u
theorem grown_drew {w w' : World} {row : Option Nat} (h : w.drew.grownBy w' row) : w.grownBy w' row := ⟨h.os, h.tape, h.output, h.size, h.block⟩
/-- a block stays where memory only grows -/
theorem heap_below {w w' : World} (h : Below w.heap.size w w') {k : Nat} {o : Obj} (hk : w.heap[k]? = some o) : w'.heap[k]? = some o := (h.block k (Array.getElem?_eq_some_iff.1 hk).1).trans hk
/-- a row of one cell an element, that grows by one -/
theorem frm_of_grown {w w' : World} {v : Value} (h : w.grownBy w' v.ownBlock) : Frm (fun k => v.ownBlock = some k) w w' := ⟨h.os, h.tape, h.output, h.size, fun k hk hne => h.block k hk (fun e => hne e.symm)⟩
theorem below_alloc1 (w : World) (o : Obj) : Below w.heap.size w (w.alloc o) := (Below.refl _ _).alloc (Nat.le_refl _) _
/-- blocks of one type are as they were -/
def KeepT (t : TypeId) (w w' : World) : Prop := ∀ (k : Nat) (cs : Array Value) (fr : Nat × Nat), w.heap[k]? = some (.cells cs t fr) → w'.heap[k]? = some (.cells cs t fr)
theorem KeepT.refl (t : TypeId) (w : World) : KeepT t w w := fun _ _ _ h => h
theorem KeepT.trans {t : TypeId} {a b c : World} (h : KeepT t a b) (k : KeepT t b c) : KeepT t a c := fun i cs fr h1 => k i cs fr (h i cs fr h1)
theorem keepT_below {t : TypeId} {w w' : World} (h : Below w.heap.size w w') : KeepT t w w' := fun _ _ _ h1 => heap_below h h1
theorem keepT_grown {t e : TypeId} {w w' : World} {B size : Nat} {v : Value} {n : Nat} {xs : List Value} (hg : w.grownBy w' v.ownBlock) (hown : w.ownsRow B e size v n xs) (hne : e ≠ t) : KeepT t w w' :=
  fun k _ _ h => (hg.block k (Array.getElem?_eq_some_iff.1 h).1 (fun hk => apart_block hown h hne hk.symm)).trans h
theorem keepT_set {t e : TypeId} {w : World} {b : Nat} {cs : Array Value} {fr : Nat × Nat} (hb : w.heap[b]? = some (.cells cs e fr)) (hne : e ≠ t) (i : Nat) (u : Value) : KeepT t w (w.setCell ⟨b, i, none⟩ u) := by
  intro k cs' fr' h
  have hk : k ≠ b := by
    rintro rfl
    rw [hb] at h
    simp at h
    exact hne h.2.1
  rw [Below.heap_setCell _ _ _ _ hk]
  exact h
theorem heap_new_at {w : World} {o : Obj} {n : Nat} (h : w.heap.size = n) : (w.alloc o).heap[n]? = some o := by subst h; exact heap_alloc_new w o
end Go.Proofs.Ytnelgellbabkoaa

/- A slice's elements as values, and a row that a call owns read as a slice. No condition. -/
namespace Go.Proofs.Ytnelgellbabkoaa
open Go.RowKit

/-- the elements of a slice, one cell each, as values -/
theorem slice_vals {α : Type} {R : Rd α} {w : World} {v : Value} {l : List α} (h : RSlice 1 R w [v] l) : ∃ (a : Option Addr) (cap : Nat) (vs : List Value), v = .slice a l.length cap ∧ l.length ≤ cap ∧ cap ≤ maxLen ∧ vs.length = l.length ∧ (∀ (i : Nat) u, vs[i]? = some u → ∃ b off, a = some ⟨b, off, none⟩ ∧ w.cell? ⟨b, off + i, none⟩ = some u) ∧ ∀ (i : Nat) u x, vs[i]? = some u → l[i]? = some x → R w [u] x := by
  obtain ⟨a, cap, hv, hcap, hmax, hel⟩ := h
  simp only [List.cons.injEq, and_true] at hv
  have hex : ∀ i (hi : i < l.length), ∃ u, (∃ b off, a = some ⟨b, off, none⟩ ∧ w.cell? ⟨b, off + i, none⟩ = some u) ∧ R w [u] l[i] := by
    intro i hi
    obtain ⟨b, off, ecs, h1, h2, h3, h4⟩ := hel i l[i] (List.getElem?_eq_getElem hi)
    match ecs, h2 with
    | [u], _ => exact ⟨u, ⟨b, off, h1, by simpa using h3 0 u rfl⟩, h4⟩
  have build : ∀ k, k ≤ l.length → ∃ vs : List Value, vs.length = k ∧ (∀ (i : Nat) u, vs[i]? = some u → ∃ b off, a = some ⟨b, off, none⟩ ∧ w.cell? ⟨b, off + i, none⟩ = some u) ∧ ∀ (i : Nat) u x, vs[i]? = some u → l[i]? = some x → R w [u] x := by
    intro k
    induction k with
    | zero => exact fun _ => ⟨[], rfl, fun i u h => by simp at h, fun i u x h => by simp at h⟩
    | succ k ih =>
      intro hk
      obtain ⟨vs, h1, h2, h3⟩ := ih (by omega)
      obtain ⟨u, h4, h5⟩ := hex k (by omega)
      refine ⟨vs ++ [u], by simp [h1], fun i x hx => ?_, fun i x y hx hy => ?_⟩
      · by_cases hi : i < vs.length
        · rw [List.getElem?_append_left hi] at hx; exact h2 i x hx
        · have hlt := (List.getElem?_eq_some_iff.1 hx).1
          have e : i = vs.length := by simp at hlt; omega
          rw [List.getElem?_append_right (by omega), e, Nat.sub_self] at hx
          simp at hx; subst hx
          rw [e, h1]; exact h4
      · by_cases hi : i < vs.length
        · rw [List.getElem?_append_left hi] at hx; exact h3 i x y hx hy
        · have hlt := (List.getElem?_eq_some_iff.1 hx).1
          have e : i = vs.length := by simp at hlt; omega
          rw [List.getElem?_append_right (by omega), e, Nat.sub_self] at hx
          simp at hx; subst hx
          rw [e, h1, List.getElem?_eq_getElem (by omega)] at hy
          simp at hy; subst hy
          exact h5
  obtain ⟨vs, h1, h2, h3⟩ := build l.length (Nat.le_refl _)
  exact ⟨a, cap, vs, hv, hcap, hmax, h1, h2, h3⟩
/-- a row that the call owns, each of whose cells reads, reads as a slice -/
theorem slice_of_owns {α : Type} {R : Rd α} {w : World} {B : Nat} {e : TypeId} {v : Value} {vs : List Value} {l : List α} (hlen : vs.length = l.length) (h : w.ownsRow B e 1 v l.length vs) (hr : ∀ (i : Nat) u x, vs[i]? = some u → l[i]? = some x → R w [u] x) : RSlice 1 R w [v] l := by
  obtain ⟨a, cap, rfl, h1, h2, h3⟩ := Sl.of_owns h
  refine ⟨a, cap, rfl, h1, h2, fun i f hi => ?_⟩
  have hil := (List.getElem?_eq_some_iff.1 hi).1
  have hiv : i < vs.length := by omega
  obtain ⟨b, off, ha, hc⟩ := h3 i vs[i] (List.getElem?_eq_getElem hiv)
  refine ⟨b, off, [vs[i]], ha, rfl, fun j u hu => ?_, hr i _ f (List.getElem?_eq_getElem hiv) hi⟩
  have hj : j = 0 := by have := (List.getElem?_eq_some_iff.1 hu).1; simp at this; omega
  subst hj
  simp at hu
  subst hu
  simpa using hc
end Go.Proofs.Ytnelgellbabkoaa

/- The walks of slices.Values, AppendSeq, Collect, Sorted and Compact at texts: a sorted row without what stands twice. Condition: at most a million texts. -/
namespace Go.Proofs.Ytnelgellbabkoaa
open Go.RowKit Go.Shelf

attribute [local go_sem] Oper.semAt_some

abbrev RSs : Rd (List ByteArray) := RSlice 1 RStr
theorem strs_open {w : World} {v : Value} {l : List ByteArray} (h : RSs w [v] l) : ∃ a cap, v = .slice a l.length cap ∧ l.length ≤ 9223372036854775807 ∧ ∀ i (hi : i < l.length), ∃ b off, a = some ⟨b, off, none⟩ ∧ w.cell? ⟨b, off + i, none⟩ = some (.string l[i]) ∧ l[i].size ≤ maxLen := by
  obtain ⟨a, cap, hv, hcap, hmax, hel⟩ := h
  simp only [List.cons.injEq, and_true] at hv
  unfold maxLen at hmax
  refine ⟨a, cap, hv, by omega, fun i hi => ?_⟩
  obtain ⟨b, off, ecs, h1, h2, h3, h4, h5⟩ := hel i l[i] (List.getElem?_eq_getElem hi)
  subst h4
  exact ⟨b, off, h1, by simpa using h3 0 _ rfl, h5⟩
set_option maxRecDepth 100000 in
set_option maxHeartbeats 2000000 in
/-- the iterator's rounds -/
theorem vals_rounds (F : Fence) (n : Nat) (h7 : F.fn 154) (hro : F.round = none) (hn : 1 ≤ n) (l Bs n₀ len cap : Nat) (a : Option Addr) (zs : List ByteArray) (hz : len = zs.length) (hreach : len ≤ 1000000) (J Jx : List ByteArray → World → Prop)
    (hY : ∀ pre x W, J pre W → pre.length < len → YieldAt F (n - 1) Try.prog l #[.string x] W fun e W' =>
      (e = .returned (.bool true) ∧ J (pre ++ [x]) W' ∧ Below n₀ W W') ∨ (e = .returned (.bool false) ∧ Jx (pre ++ [x]) W'))
    (W : World) (hBs : W.cell? ⟨Bs, 0, none⟩ = some (.slice a len cap)) (hc : ∀ j (hj : j < zs.length), ∃ b off, a = some ⟨b, off, none⟩ ∧ b < n₀ ∧ W.cell? ⟨b, off + j, none⟩ = some (.string zs[j])) (h0 : J [] W) :
    CallsIn F n Try.prog 154 #[.func (.yield l) #[] #[], .pointer (some ⟨Bs, 0, none⟩)] W fun e W' => (∃ v, e = .returned v) ∧
      ((∃ ys, ys = zs ∧ J ys W') ∨ (∃ pre, pre <+: zs ∧ Jx pre W')) := by
  have HC := Lib.hid hc
  have HZ := Lib.hid hz
  clear hc hz
  refine callsIn_of_wp Try.func154 rfl h7 ?_ hro
  simp only [Try.ntmps154, List.size_toArray, List.length_cons, List.length_nil, Nat.reduceAdd, Nat.reduceSub, Array.replicate_succ, Array.replicate_zero, List.push_toArray, List.append_toArray, List.nil_append, List.cons_append]
  gi_wp2
  gi_loopw [7] (fun i wr => ∃ k : Nat, k ≤ len ∧ i = .int .i64 k ∧ J (zs.take k) wr ∧ Below n₀ W wr) (fun i _ => len - (intOf i).toNat)
  case atStart => exact ⟨0, Nat.zero_le _, rfl, by simpa using h0, Below.refl _ _⟩
  case round =>
    obtain ⟨k, hk, rfl, hJs, hnx⟩ := hrel
    by_cases hlt : k < len
    · have hkz : k < zs.length := by have := HZ.out; omega
      obtain ⟨b, off, rfl, hb, hcx⟩ := HC.out k hkz
      obtain ⟨x, hx⟩ : ∃ x, x = zs[k] := ⟨_, rfl⟩
      rw [← hx] at hcx
      have hcx' : wr.cell? ⟨b, off + k, none⟩ = some (.string x) := (hnx.cell (p := ⟨b, off + k, none⟩) hb).trans hcx
      have hsn : zs.take k ++ [x] = zs.take (k + 1) := by rw [List.take_succ_eq_append_getElem hkz, hx]
      obtain ⟨fn, tmps, assign, body, hy, hR⟩ := hY _ x wr hJs (by rw [List.length_take]; omega)
      rw [hsn] at hR
      have k5 : (0 : Int) ≤ (k : Int) := by omega
      have k6 : (k : Int) < (len : Int) := by omega
      clear hx hcx
      have HSN := Lib.hid hsn
      clear hsn hkz
      gi_wp2
      refine hR.mono ?_
      rintro e W3 (⟨rfl, hJ3, hk3⟩ | ⟨rfl, hJx3⟩)
      · gi_wp2
        go_roundw
        case rel => exact ⟨k + 1, by omega, by simp, hJ3, hnx.trans hk3⟩
        case measure => simp [intOf]; omega
      · gi_wp2
        refine bodyPost_ret (results_none rfl _ _ _) rfl ?_
        exact ⟨⟨_, rfl⟩, .inr ⟨_, List.take_prefix _ _, hJx3⟩⟩
    · obtain rfl : k = len := by omega
      have e : zs.take k = zs := List.take_of_length_le (by have := HZ.out; omega)
      rw [e] at hJs
      clear e
      gi_wp2
      go_end0
      exact ⟨⟨_, rfl⟩, .inl ⟨_, rfl, hJs⟩⟩
theorem vals_stops (F : Fence) (n : Nat) (h7 : F.fn 154) (hro : F.round = none) (hn : 1 ≤ n) (Bs n₀ : Nat) (sv : Value) (zs : List ByteArray) (hreach : zs.length ≤ 1000000) (w : World) (hBs : Bs < w.heap.size) (_ : n₀ ≤ w.heap.size)
    (hc : w.cell? ⟨Bs, 0, none⟩ = some sv) (w0 : World) (hw0 : w0.heap.size ≤ n₀) (hI : RSs w0 [sv] zs) (hb0 : Below w0.heap.size w0 w) :
    SeqStopsK F n Try.prog 154 #[.pointer (some ⟨Bs, 0, none⟩)] (fun x : ByteArray => #[Value.string x]) (Below n₀) (fun ys => ys = zs) (fun pre => pre <+: zs) zs.length w := fun l J Jx W hW _ _ hY h0 => by
  have hc' := (hW.cell (p := ⟨Bs, 0, none⟩) hBs).trans hc
  obtain ⟨a, cap, rfl, hz, g⟩ := strs_open hI
  refine vals_rounds F n h7 hro hn l Bs n₀ zs.length cap a zs rfl hreach J Jx hY W hc' (fun j hj => ?_) h0
  obtain ⟨b, off, h1, h2, _⟩ := g j hj
  have hlt := World.block_lt_of_cell? w0 _ h2
  exact ⟨b, off, h1, by simp at hlt; omega, cell_later (hb0.trans (hW.mono hb0.size)) h2⟩

theorem info_str : (Try.prog.info? 9).map (fun i => (i.zero, i.size, i.bytes)) = some (some (.string ⟨#[]⟩), 1, 16) := by kernel_rfl
abbrev strv : ByteArray → Value := Value.string
set_option maxRecDepth 100000 in
set_option maxHeartbeats 2000000 in
/-- slices.AppendSeq(nil, slices.Values(zs)) -/
theorem appendSeq_in (F : Fence) (n : Nat) (h3 : F.fn 158) (h5 : F.fn 154) (hro : F.round = none) (hn : 3 ≤ n) (Bs : Nat) (sv : Value) (zs : List ByteArray) (hreach : zs.length ≤ 1000000) (w : World) (hBs : Bs < w.heap.size) (hc : w.cell? ⟨Bs, 0, none⟩ = some sv) (hI : RSs w [sv] zs) :
    CallsIn F n Try.prog 158 #[.slice none 0 0, .func (.func 154) #[] #[.pointer (some ⟨Bs, 0, none⟩)]] w fun e W' => ∃ v, e = .returned v ∧ W'.ownsRow w.heap.size 9 1 v zs.length (zs.map strv) ∧ Below w.heap.size w W' := by
  have h1 : 1 ≤ n := by omega
  obtain ⟨i0, hi, hz0, hz1, hz2⟩ := info_parts info_str
  refine callsIn_of_wp_marks Try.func158 rfl h3 ?_ hro
  simp only [Try.ntmps158, List.size_toArray, List.length_cons, List.length_nil, Nat.reduceAdd, Nat.reduceSub, Array.replicate_succ, Array.replicate_zero, List.push_toArray, List.append_toArray, List.nil_append, List.cons_append]
  have HI := Lib.hid hI
  clear hI
  gi_wp2
  have bO := Boxed.new w 33 (.slice none 0 0)
  have hB0 : Below w.heap.size w (w.alloc (.cells #[.slice none 0 0] 33)) := (Below.refl _ w).alloc (Nat.le_refl _) _
  refine wpIn_rangeFunc_ownG hro h1 (gf := 154) (lb := #[.pointer (some ⟨Bs, 0, none⟩)]) rfl h5 (enters_of Try.func154 (by kernel_rfl) rfl)
    (vals_stops F (n - 1) h5 hro (by omega) Bs w.heap.size sv zs hreach _ (by simp; omega) (by simp) ((hB0.cell (p := ⟨Bs, 0, none⟩) hBs).trans hc) w (Nat.le_refl _) HI.out hB0) belowK_t (belowK_b (by simp)) (Below.refl _ _) (fun _ => rfl)
    (fun (pre : List ByteArray) W => (∃ v, Boxed W w.heap.size 33 v ∧ W.ownsRow w.heap.size 9 1 v pre.length (pre.map strv) ∧ True) ∧ Below w.heap.size w W)
    (fun _ _ _ => False)
    (OwnFrom.and (Own.from (holdsRow_own w.heap.size w.heap.size 33 9 1 (fun (pre : List ByteArray) => pre.length) (fun (pre : List ByteArray) => pre.map strv) (fun _ _ => True)) _) (ownFrom_below (Nat.le_refl _) (by simp)))
    (fun _ _ _ _ _ hs _ _ => hs)
    ⟨⟨_, bO, World.ownsRow_nil _ _ _ _, trivial⟩, hB0⟩
    (fun x => { tmps := #[.slice none 0 0, .func (.func 154) #[] #[.pointer (some ⟨Bs, 0, none⟩)], .pointer (some ⟨w.heap.size, 0, none⟩), undef, .slice none 0 0, .string x, .func (.func 154) #[] #[.pointer (some ⟨Bs, 0, none⟩)], .string x, undef, undef, undef, undef, undef], defers := [] }) ?assign ?body ?done ?stop
  case assign =>
    intro l x W K hK
    gi_wp2
    exact hK
  case body =>
    rintro l pre x W ⟨⟨v, hv, hrow, _⟩, hB⟩ hlt
    have hc1 := hv.cell
    gi_wp2_with (gi_at_builtin; refine wpListIn_append_own _ rfl _ _ 33 rfl w.heap.size 9 i0 (.string ⟨#[]⟩) 1 16 Try.underlying33 hi hz0 hz1 hz2 rfl (by decide) _ _ _ rfl (hrow.alloc _) ⟨W.heap.size, 0, none⟩ 1 1 [.string x] rfl rfl (cell_one_new _ _ _) (by simp [Value.oneCell']) (by unfold maxLen; omega) (by omega) (by have := hB.size; simp; omega) ?_; intro v' w1 hown' hgrow _; obtain ⟨g', cap', rfl⟩ := ownsRow_succ hown'; obtain ⟨hv1, hv2, hr2, hk2, hb2⟩ := hv.appended (by decide) hrow hB.size (Nat.le_refl _) hown' hgrow; have hc1 := hv1.cell; have hf1 := hv1.frozen)
    exact ⟨hk2.from _, hb2, ⟨_, hv2, by simpa using hr2, trivial⟩, hB.trans hb2⟩
  case done =>
    rintro D ys W hD rfl ⟨⟨v, hv, hrow, _⟩, hB⟩ hK
    have hc1 := hv.cell
    gi_wp2
    refine ⟨by simp, .inl ⟨_, _, rfl, run_takeDeferred hK, ?_⟩⟩
    exact ⟨_, results_tmp rfl _ _ _, v, rfl, ownsRow_putObj hrow _ hK rfl, hB.trans (belowK_b (w := w) (Nat.le_refl _) W D _ _ (by simp at hD; omega) hK rfl rfl)⟩
  case stop =>
    rintro D c pre W _ _ h _
    exact h.elim
end Go.Proofs.Ytnelgellbabkoaa

/- Plain facts: a sorted row without what stands twice is shorter just if two are alike. No condition. -/
namespace Go.Proofs.Ytnelgellbabkoaa.TwiceM
open Go.Lib

theorem compact_lt {α : Type} [Inhabited α] [DecidableEq α] (S : List α) : (compact S).length < S.length ↔ ∃ j, 0 < j ∧ j < S.length ∧ S.toArray[j]! = S.toArray[j - 1]! := by
  unfold compact compactUpTo
  rw [List.length_map]
  have h : (List.filter (keeps S.toArray) (List.range S.length)).length < (List.range S.length).length ↔ ∃ x ∈ List.range S.length, ¬ keeps S.toArray x = true := List.length_filter_lt_length_iff_exists
  rw [List.length_range] at h
  rw [h]
  constructor
  · rintro ⟨j, hj, hk⟩
    simp only [List.mem_range] at hj
    unfold keeps at hk
    simp only [decide_eq_true_eq, not_or, Classical.not_not] at hk
    exact ⟨j, by omega, hj, hk.2⟩
  · rintro ⟨j, h0, hj, he⟩
    refine ⟨j, by simpa using hj, ?_⟩
    unfold keeps
    simp only [decide_eq_true_eq, not_or, Classical.not_not]
    exact ⟨by omega, he⟩
abbrev leB (x y : List UInt8) : Bool := decide (x ≤ y)
theorem sorted (L : List (List UInt8)) : (L.mergeSort leB).Pairwise fun x y => x ≤ y := by
  have := List.pairwise_mergeSort (le := leB) (fun a b c h1 h2 => by simp only [leB, decide_eq_true_eq] at *; exact List.le_trans h1 h2) (fun a b => by simp only [leB, Bool.or_eq_true, decide_eq_true_eq]; exact List.le_total a b) L
  exact this.imp fun h => by simpa [leB] using h
theorem compact_sort (L : List (List UInt8)) : (compact (L.mergeSort leB)).length < L.length ↔ ¬ L.Nodup := by
  have hp : (L.mergeSort leB).Perm L := List.mergeSort_perm _ _
  obtain ⟨S, hS⟩ : ∃ S, S = L.mergeSort leB := ⟨_, rfl⟩
  have hs := sorted L
  rw [← hS] at hs hp ⊢
  rw [← hp.length_eq, compact_lt, ← hp.nodup_iff]
  constructor
  · rintro ⟨j, h0, hj, he⟩ hn
    rw [getElem!_pos S.toArray j (by simpa using hj), getElem!_pos S.toArray (j - 1) (by simp; omega)] at he
    simp only [List.getElem_toArray] at he
    have := List.pairwise_iff_getElem.1 hn (j - 1) j (by omega) hj (by omega)
    exact this he.symm
  · intro hn
    have hex : ∃ i j, ∃ (hi : i < S.length) (hj : j < S.length), i < j ∧ S[i] = S[j] := by
      apply Classical.byContradiction
      intro hno
      refine hn (List.pairwise_iff_getElem.2 fun i j hi hj hij e => hno ⟨i, j, hi, hj, hij, e⟩)
    obtain ⟨i, j, hi, hj, hij, e⟩ := hex
    refine ⟨j, by omega, hj, ?_⟩
    rw [getElem!_pos S.toArray j (by simpa using hj), getElem!_pos S.toArray (j - 1) (by simp; omega)]
    simp only [List.getElem_toArray]
    by_cases h1 : i = j - 1
    · subst h1; exact e.symm
    · have q1 := List.pairwise_iff_getElem.1 hs i (j - 1) hi (by omega) (by omega)
      have q2 := List.pairwise_iff_getElem.1 hs (j - 1) j (by omega) hj (by omega)
      rw [e] at q1
      exact List.le_antisymm q1 q2
/-- whether two of texts are alike -/
def twiceOf (l : List ByteArray) : Bool := decide ((compact ((l.map (·.data.toList)).mergeSort leB)).length < l.length)
theorem bytes_inj {a b : ByteArray} (h : a.data.toList = b.data.toList) : a = b := by
  cases a; cases b
  simp only [ByteArray.mk.injEq]
  exact Array.toList_inj.1 h
theorem twice_iff (l : List ByteArray) : twiceOf l = !decide l.Nodup := by
  unfold twiceOf
  have h := compact_sort (l.map (·.data.toList))
  rw [List.length_map] at h
  have h2 : (l.map (·.data.toList)).Nodup ↔ l.Nodup := by
    unfold List.Nodup
    rw [List.pairwise_map]
    constructor
    · exact fun h => h.imp fun h e => h (by rw [e])
    · exact fun h => h.imp fun h e => h (bytes_inj e)
  rw [h2] at h
  rw [Bool.eq_iff_iff]
  simp only [decide_eq_true_eq, Bool.not_eq_true', decide_eq_false_iff_not]
  exact h
end Go.Proofs.Ytnelgellbabkoaa.TwiceM

/- The walk of variant.twice: whether two of texts are alike. Condition: at most a million texts. -/
namespace Go.Proofs.Ytnelgellbabkoaa
open Go.RowKit Go.Lib Go.Sort Go.Shelf
open TwiceM (twiceOf leB)

theorem appendSeq_any (Bs : Nat) (sv : Value) (zs : List ByteArray) (hreach : zs.length ≤ 1000000) (w : World) (hBs : Bs < w.heap.size) (hc : w.cell? ⟨Bs, 0, none⟩ = some sv) (hI : RSs w [sv] zs) :
    Calls Try.prog 158 #[.slice none 0 0, .func (.func 154) #[] #[.pointer (some ⟨Bs, 0, none⟩)]] w fun e W' => ∃ v, e = .returned v ∧ W'.ownsRow w.heap.size 9 1 v zs.length (zs.map strv) ∧ Below w.heap.size w W' :=
  (callsIn_wide (n := 6)).1 (appendSeq_in Fence.wide 6 trivial trivial rfl (by omega) Bs sv zs hreach w hBs hc hI)
set_option maxRecDepth 10000 in
theorem collect_any (Bs : Nat) (sv : Value) (zs : List ByteArray) (hreach : zs.length ≤ 1000000) (w : World) (hBs : Bs < w.heap.size) (hc : w.cell? ⟨Bs, 0, none⟩ = some sv) (hI : RSs w [sv] zs) :
    Calls Try.prog 152 #[.func (.func 154) #[] #[.pointer (some ⟨Bs, 0, none⟩)]] w fun e W' => ∃ v, e = .returned v ∧ W'.ownsRow w.heap.size 9 1 v zs.length (zs.map strv) ∧ Below w.heap.size w W' := by
  have hA := appendSeq_any Bs sv zs hreach w hBs hc hI
  have HA := Lib.hid hA; have Hc := Lib.hid hc; have HI := Lib.hid hI; have HBs := Lib.hid hBs; clear hA hc hI hBs
  go_enter Try.func152, Try.ntmps152
  go_wp2_with fail
  refine HA.out.mono ?_
  rintro e w1 ⟨v, rfl, h1, h2⟩
  have H1 := Lib.hid h1; have H2 := Lib.hid h2; clear h1 h2
  go_wp2_with fail
  go_ret
  exact ⟨v, rfl, H1.out, H2.out⟩
theorem str_nil_or {w : World} {B : Nat} {v : Value} {n : Nat} {xs : List Value} (h : w.ownsRow B 9 1 v n xs) (hn : n = 0) : ∃ a cap, v = .slice a 0 cap := by
  rcases h.2 with ⟨h1, _⟩ | ⟨g, cap, cur, h1, _⟩
  · exact ⟨none, 0, h1⟩
  · exact ⟨_, cap, by rw [h1, hn]⟩
theorem grownBy_grow' {w w' : World} {row : Option Nat} (h : w.grownBy w' row) (os : Array Obj) : w.grownBy (grow w' os) row :=
  ⟨h.os, h.tape, h.output, by have := h.size; simp; omega, fun k hk hne => by rw [heap_grow_old w' os (by have := h.size; omega)]; exact h.block k hk hne⟩
theorem grownBy_put' {α : Type} [Inhabited α] (enc : α → Value) (w : World) (g q : Nat) (d : Array α) : w.grownBy (putRow enc (Sort.ahead w q) g 0 d) (some g) :=
  ⟨rfl, rfl, rfl, by simp [putRow, mapBlock, Sort.ahead], fun k _ hne => by
    have : g ≠ k := fun e => hne (by rw [e])
    simp [putRow, mapBlock, Sort.ahead, Array.getElem?_modify, this]⟩
theorem sortStr_own {W : World} {B : Nat} {v : Value} {L : List (List UInt8)} (hown : W.ownsRow B 9 1 v L.length (L.map encStr)) (hn : L.length ≤ 1000000) :
    Calls Try.prog 153 #[v] W fun e w' => e = .returned (.tuple #[]) ∧ w'.ownsRow B 9 1 v L.length ((L.mergeSort leB).map encStr) ∧ W.grownBy w' v.ownBlock := by
  by_cases h0 : L.length = 0
  · obtain ⟨a, cap, rfl⟩ := str_nil_or hown h0
    have hl : L = [] := List.eq_nil_of_length_eq_zero h0
    subst hl
    exact (Try.slices_Sort_string_none a cap W).mono fun e w' ⟨he, hw⟩ => ⟨he, by rw [hw]; simpa using hown, by rw [hw]; exact World.grownBy.refl _ _⟩
  · have hv : v ≠ .slice none 0 0 := by
      rintro rfl
      rcases hown.2 with ⟨_, h2⟩ | ⟨g, cap, cur, h1, _⟩
      · exact h0 (by simpa using h2)
      · cases h1
    obtain ⟨g, cap, rfl, hb, hlt, hnc, hcm, hl, hH⟩ := holds_of_ownsRow hown hv
    have hC := Try.slices_Sort_string g 0 cap L W hH hlt (by omega)
    have hlen : (L.mergeSort leB).length = L.length := (List.mergeSort_perm L leB).length_eq
    refine hC.mono fun e w' ⟨he, n, os, hw⟩ => ⟨he, ?_, ?_⟩
    · rw [hw]
      have h1 := ownsRow_putRow (q := n) (ys := L.mergeSort leB) hown hlen (Nat.le_refl _)
      rw [List.take_of_length_le (Nat.le_of_eq hlen)] at h1
      exact h1.kept (grownBy_grow' (World.grownBy.refl _ none) os) (.inr (by simp [Value.ownBlock]))
    · rw [hw]
      exact grownBy_grow' (grownBy_put' _ _ _ _ _) os
theorem compactStr_own {W : World} {B : Nat} {v : Value} {L : List (List UInt8)} (hown : W.ownsRow B 9 1 v L.length (L.map encStr)) (hn : L.length ≤ 1000000) :
    Calls Try.prog 137 #[v] W fun e w' => ∃ a c, e = .returned (.slice a (Lib.compact L).length c) ∧ W.grownBy w' v.ownBlock := by
  by_cases h0 : L.length = 0
  · have hl : L = [] := List.eq_nil_of_length_eq_zero h0
    subst hl
    obtain ⟨a, cap, rfl⟩ := str_nil_or hown rfl
    exact (Try.slices_Compact_string_empty a cap W).mono fun e w' ⟨he, hw⟩ => ⟨a, cap, he, by rw [hw]; exact World.grownBy.refl _ _⟩
  · have hv : v ≠ .slice none 0 0 := by
      rintro rfl
      rcases hown.2 with ⟨_, h2⟩ | ⟨g, cap, cur, h1, _⟩
      · exact h0 (by simpa using h2)
      · cases h1
    obtain ⟨g, cap, rfl, hb, hlt, hnc, hcm, hl, hH⟩ := holds_of_ownsRow hown hv
    exact (Try.slices_Compact_string g 0 cap L W hH (by omega) hnc).mono fun e w' ⟨he, q, hw⟩ => ⟨_, _, he, by rw [hw]; exact grownBy_put' _ _ _ _ _⟩
set_option maxRecDepth 10000 in
theorem sorted_any (Bs : Nat) (sv : Value) (zs : List ByteArray) (hreach : zs.length ≤ 1000000) (w : World) (hBs : Bs < w.heap.size) (hc : w.cell? ⟨Bs, 0, none⟩ = some sv) (hI : RSs w [sv] zs) :
    Calls Try.prog 135 #[.func (.func 154) #[] #[.pointer (some ⟨Bs, 0, none⟩)]] w fun e W' => ∃ v, e = .returned v ∧ W'.ownsRow w.heap.size 9 1 v zs.length (((zs.map (·.data.toList)).mergeSort leB).map encStr) ∧ Below w.heap.size w W' := by
  have hA := collect_any Bs sv zs hreach w hBs hc hI
  have HA := Lib.hid hA; have Hc := Lib.hid hc; have HI := Lib.hid hI; have HBs := Lib.hid hBs; clear hA hc hI hBs
  go_enter Try.func135, Try.ntmps135
  go_wp2_with fail
  refine HA.out.mono ?_
  rintro e w1 ⟨v, rfl, h1, h2⟩
  rw [← map_encStr] at h1
  have h1' : w1.ownsRow w.heap.size 9 1 v (zs.map (·.data.toList)).length ((zs.map (·.data.toList)).map encStr) := by rw [List.length_map]; exact h1
  have hS := sortStr_own h1' (by rw [List.length_map]; exact hreach)
  rw [List.length_map] at hS
  have H1 := Lib.hid h1; have H1' := Lib.hid h1'; have H2 := Lib.hid h2; have HS := Lib.hid hS; clear h1 h1' h2 hS
  go_wp2_with fail
  refine HS.out.mono ?_
  rintro e w2 ⟨rfl, h3, h4⟩
  have hb := bel_own H2.out H1'.out (Nat.le_refl _) h4 H2.out.size
  have H3 := Lib.hid h3; have H4 := Lib.hid h4; have Hb := Lib.hid hb; clear h3 h4 hb
  go_wp2_with fail
  go_ret
  exact ⟨v, rfl, H3.out, Hb.out⟩
set_option maxRecDepth 10000 in
theorem values_any (a : Option Addr) (n c : Nat) (w : World) : Calls Try.prog 136 #[.slice a n c] w fun e w' => e = .returned (.func (.func 154) #[] #[.pointer (some ⟨w.heap.size, 0, none⟩)]) ∧ w' = w.alloc (.cells #[.slice a n c] 33) := by
  go_enter Try.func136, Try.ntmps136
  go_wp2_with fail
  go_ret
  exact ⟨rfl, rfl⟩
set_option maxRecDepth 10000 in
theorem twice_any {w : World} {v : Value} {l : List ByteArray} (h : RSs w [v] l) (hn : l.length ≤ 1000000) : Calls Try.prog 105 #[v] w fun e w' => e = .returned (.bool (!decide l.Nodup)) ∧ Below w.heap.size w w' := by
  obtain ⟨a, cap, rfl, hz, g⟩ := strs_open h
  have hbx : Below w.heap.size w (w.alloc (.cells #[.slice a l.length cap] 33)) := below_alloc1 _ _
  have hS := sorted_any w.heap.size (.slice a l.length cap) l hn (w.alloc (.cells #[.slice a l.length cap] 33)) (by simp) (by rw [World.cell?_alloc_new]; rfl) (stays_slice stays_str _ _ _ _ h hbx)
  rw [← TwiceM.twice_iff]
  obtain ⟨n, hnn⟩ : ∃ n, n = l.length := ⟨_, rfl⟩
  obtain ⟨r, hr⟩ : ∃ r, r = twiceOf l := ⟨_, rfl⟩
  have hr2 : r = decide ((Lib.compact ((l.map (·.data.toList)).mergeSort leB)).length < n) := by rw [hr, hnn]; rfl
  rw [← hnn] at hS hn hz hbx ⊢
  rw [← hr]
  have Hh := Lib.hid h; have Hg := Lib.hid g; have HS := Lib.hid hS; have Hbx := Lib.hid hbx; have Hnn := Lib.hid hnn; have Hr := Lib.hid hr; have Hr2 := Lib.hid hr2; clear h g hS hbx hnn hr hr2
  go_enter Try.func105, Try.ntmps105
  go_wp2_with fail
  refine (values_any a n cap w).mono ?_
  rintro e w1 ⟨rfl, rfl⟩
  go_wp2_with fail
  refine HS.out.mono ?_
  rintro e w2 ⟨v2, rfl, h2, hb2⟩
  have hlen : ((l.map (·.data.toList)).mergeSort leB).length = n := by rw [(List.mergeSort_perm _ _).length_eq, List.length_map, Hnn.out]
  have h2' := h2
  rw [← hlen] at h2'
  have hC := compactStr_own h2' (by rw [hlen]; exact hn)
  obtain ⟨m, hm⟩ : ∃ m, m = (Lib.compact ((l.map (·.data.toList)).mergeSort leB)).length := ⟨_, rfl⟩
  rw [← hm] at hC
  have hr3 : r = decide (m < n) := by rw [hm]; exact Hr2.out
  have hbw := Hbx.out.trans (hb2.mono Hbx.out.size)
  have H2 := Lib.hid h2; have H2' := Lib.hid h2'; have Hb2 := Lib.hid hb2; have HC := Lib.hid hC; have Hm := Lib.hid hm; have Hlen := Lib.hid hlen; have Hr3 := Lib.hid hr3; have Hbw := Lib.hid hbw; clear h2 h2' hb2 hC hm hlen hr3 hbw
  go_wp2_with fail
  refine HC.out.mono ?_
  rintro e w3 ⟨a3, c3, rfl, hg3⟩
  have hb3 := bel_own Hbw.out (ownsRow_mono H2.out Hbx.out.size) (Nat.le_refl _) hg3 Hbw.out.size
  have Hg3 := Lib.hid hg3; have Hb3 := Lib.hid hb3; clear hg3 hb3
  go_wp2_with fail
  go_ret
  exact ⟨ret_bool (by rw [Hr3.out, decide_eq_decide]), Hb3.out⟩
end Go.Proofs.Ytnelgellbabkoaa

/- Plain facts: names and values of variants. No condition. -/
namespace Go.Proofs.Ytnelgellbabkoaa.VarM

def letN (n : Nat) : Bool := decide (97 ≤ n) && decide (n ≤ 122)
def digN (n : Nat) : Bool := decide (48 ≤ n) && decide (n ≤ 57)
def okN (n : Nat) : Bool := letN n || digN n || decide (n = 45)
abbrev Bs := List UInt8
def okB (c : UInt8) : Bool := okN c.toNat
def digB (c : UInt8) : Bool := digN c.toNat
def headN (l : Bs) : Nat := (l.headD 0).toNat
/-- whether a text is a name -/
def nameOf (l : Bs) : Bool := l.all okB && (decide (0 < l.length) && (decide (l.length ≤ 24) && letN (headN l)))
def digsOf (l : Bs) : Bool := l.all digB && decide (0 < l.length)
/-- whether a text may be a value -/
def valueOf (l : Bs) : Bool := nameOf l || (digsOf l && decide (l.length ≤ 3))
theorem all_succ {p : UInt8 → Bool} {l : Bs} {k : Nat} (h : k < l.length) (h1 : (l.take k).all p = true) (h2 : p l[k] = true) : (l.take (k + 1)).all p = true := by
  rw [List.take_succ_eq_append_getElem h, List.all_append, h1]; simp [h2]
theorem all_no {p : UInt8 → Bool} {l : Bs} {k : Nat} (h : k < l.length) (h2 : p l[k] = false) : l.all p = false := by
  rw [Bool.eq_false_iff]; intro h3
  have := List.all_eq_true.1 h3 _ (List.getElem_mem h)
  rw [h2] at this; cases this
theorem name_no {l : Bs} (h : l.all okB = false) : nameOf l = false := by unfold nameOf; rw [h]; rfl
theorem name_all {l : Bs} (h : l.all okB = true) : nameOf l = (decide (0 < l.length) && (decide (l.length ≤ 24) && letN (headN l))) := by unfold nameOf; rw [h]; rfl
theorem name_pos {l : Bs} (h : nameOf l = true) : 0 < l.length ∧ l.length ≤ 24 := by
  unfold nameOf at h
  simp only [Bool.and_eq_true, decide_eq_true_eq] at h
  exact ⟨h.2.1, h.2.2.1⟩
theorem okN_let {n : Nat} (h : letN n = true) : okN n = true := by unfold okN; rw [h]; rfl
theorem okN_dig {n : Nat} (h : digN n = true) : okN n = true := by unfold okN; rw [h]; simp
theorem okN_no {n : Nat} (h1 : letN n = false) (h2 : digN n = false) (h3 : n ≠ 45) : okN n = false := by unfold okN; rw [h1, h2]; simp [h3]
theorem name_head {l : Bs} (h : letN (headN l) = false) : nameOf l = false := by unfold nameOf; rw [h]; simp
end Go.Proofs.Ytnelgellbabkoaa.VarM

/- The walks of variant.Name, variant.Value and the reference's. Condition: the text's reach. -/
namespace Go.Proofs.Ytnelgellbabkoaa
open Go.RowKit
open VarM (letN digN okN okB digB nameOf valueOf digsOf headN)

theorem dl (s : ByteArray) : s.data.toList.length = s.size := by rw [Array.length_toList]; rfl
theorem dget (s : ByteArray) (k : Nat) (h : k < s.size) : s.data.toList[k]'(by rw [dl]; exact h) = s[k] := rfl
set_option maxRecDepth 10000 in
theorem letter_any (n : Nat) (h : n < 256) (w : World) : Calls Try.prog 63 #[.int .u8 (n : Int)] w fun e w' => e = .returned (.bool (letN n)) ∧ w = w' := by
  obtain ⟨r, hr⟩ : ∃ r, r = letN n := ⟨_, rfl⟩
  rw [← hr]
  rcases Nat.lt_or_ge n 97 with h1 | h1
  · have hf : r = false := by rw [hr]; unfold letN; rw [decide_eq_false (by omega)]; rfl
    have Hr := Lib.hid hr; have Hf := Lib.hid hf; clear hr hf
    go_enter Try.func63, Try.ntmps63
    go_wp2_with fail
    go_ret
    exact ⟨ret_bool Hf.out.symm, rfl⟩
  · rcases Nat.lt_or_ge 122 n with h2 | h2
    · have hf : r = false := by rw [hr]; unfold letN; rw [decide_eq_false (p := n ≤ 122) (by omega)]; simp
      have k2 : decide ((n : Int) ≤ 122) = false := by simp; omega
      have Hr := Lib.hid hr; have Hf := Lib.hid hf; clear hr hf
      go_enter Try.func63, Try.ntmps63
      go_wp2_with fail
      go_ret
      exact ⟨ret_bool Hf.out.symm, rfl⟩
    · have hf : r = true := by rw [hr]; unfold letN; rw [decide_eq_true h1, decide_eq_true h2]; rfl
      have k2 : decide ((n : Int) ≤ 122) = true := by simp; omega
      have Hr := Lib.hid hr; have Hf := Lib.hid hf; clear hr hf
      go_enter Try.func63, Try.ntmps63
      go_wp2_with fail
      go_ret
      exact ⟨ret_bool Hf.out.symm, rfl⟩
set_option maxRecDepth 10000 in
theorem digit_any (n : Nat) (h : n < 256) (w : World) : Calls Try.prog 64 #[.int .u8 (n : Int)] w fun e w' => e = .returned (.bool (digN n)) ∧ w = w' := by
  obtain ⟨r, hr⟩ : ∃ r, r = digN n := ⟨_, rfl⟩
  rw [← hr]
  rcases Nat.lt_or_ge n 48 with h1 | h1
  · have hf : r = false := by rw [hr]; unfold digN; rw [decide_eq_false (by omega)]; rfl
    have Hr := Lib.hid hr; have Hf := Lib.hid hf; clear hr hf
    go_enter Try.func64, Try.ntmps64
    go_wp2_with fail
    go_ret
    exact ⟨ret_bool Hf.out.symm, rfl⟩
  · rcases Nat.lt_or_ge 57 n with h2 | h2
    · have hf : r = false := by rw [hr]; unfold digN; rw [decide_eq_false (p := n ≤ 57) (by omega)]; simp
      have k2 : decide ((n : Int) ≤ 57) = false := by simp; omega
      have Hr := Lib.hid hr; have Hf := Lib.hid hf; clear hr hf
      go_enter Try.func64, Try.ntmps64
      go_wp2_with fail
      go_ret
      exact ⟨ret_bool Hf.out.symm, rfl⟩
    · have hf : r = true := by rw [hr]; unfold digN; rw [decide_eq_true h1, decide_eq_true h2]; rfl
      have k2 : decide ((n : Int) ≤ 57) = true := by simp; omega
      have Hr := Lib.hid hr; have Hf := Lib.hid hf; clear hr hf
      go_enter Try.func64, Try.ntmps64
      go_wp2_with fail
      go_ret
      exact ⟨ret_bool Hf.out.symm, rfl⟩
theorem head_is (s : ByteArray) (h : 0 < s.size) : headN s.data.toList = s[0].toNat := by
  unfold headN
  have e : s.data.toList = s[0] :: s.data.toList.drop 1 := by
    have := List.drop_eq_getElem_cons (l := s.data.toList) (i := 0) (by rw [dl]; exact h)
    rw [List.drop_zero] at this
    exact this
  rw [e]; rfl
set_option maxRecDepth 10000 in
set_option maxHeartbeats 1000000 in
theorem name_any (s : ByteArray) (hs : s.size ≤ 9223372036854775807) (w : World) : Calls Try.prog 17 #[.string s] w fun e w' => e = .returned (.bool (nameOf s.data.toList)) ∧ w = w' := by
  obtain ⟨l, hl⟩ : ∃ l, l = s.data.toList := ⟨_, rfl⟩
  have hln : l.length = s.size := by rw [hl]; exact dl s
  obtain ⟨r, hr⟩ : ∃ r, r = nameOf l := ⟨_, rfl⟩
  rw [← hl, ← hr]
  have hh := head_is s
  rw [← hl] at hh
  have Hl := Lib.hid hl; have Hln := Lib.hid hln; have Hr := Lib.hid hr; have Hh := Lib.hid hh; clear hl hln hr hh
  go_enter Try.func17, Try.ntmps17
  go_wp2_with fail
  go_loop [6] (fun i => ∃ k : Nat, k ≤ s.size ∧ i = .int .i64 k ∧ (l.take k).all okB = true) (fun i => s.size - (intOf i).toNat)
  case atStart => exact ⟨0, Nat.zero_le _, rfl, by simp⟩
  case round =>
    obtain ⟨k, hk, rfl, hall⟩ := hrel
    by_cases hlt : k < s.size
    · have hkl : k < l.length := by have := Hln.out; omega
      obtain ⟨n, hn⟩ : ∃ n, n = s[k].toNat := ⟨_, rfl⟩
      have hn256 : n < 256 := by rw [hn]; exact s[k].toNat_lt
      have hck : okB l[k] = okN n := by
        have e : l[k] = s[k] := by simp only [Hl.out]; rfl
        unfold okB
        rw [e, hn]
      have hL := fun W => letter_any n hn256 W
      have hD := fun W => digit_any n hn256 W
      have hsk : s[k].toNat = n := hn.symm
      have hyes : okN n = true → (l.take (k + 1)).all okB = true := fun h => VarM.all_succ hkl hall (by rw [hck]; exact h)
      have hno : okN n = false → r = false := fun h => by rw [Hr.out]; exact VarM.name_no (VarM.all_no hkl (by rw [hck]; exact h))
      clear hn hck
      clear hkl
      cases h1 : letN n with
      | true =>
        have hnext := hyes (VarM.okN_let h1)
        rw [h1] at hL
        have Hall := Lib.hid hall; have HL := Lib.hid hL; have HD := Lib.hid hD; have Hyes := Lib.hid hyes; have Hno := Lib.hid hno; have Hnext := Lib.hid hnext; have H1 := Lib.hid h1; clear hall hL hD hyes hno hnext h1
        go_wp2_with fail
        refine (HL.out _).mono ?_
        rintro e w1 ⟨rfl, rfl⟩
        go_wp2_with fail
        go_round
        case rel => exact ⟨k + 1, by omega, by go_num, Hnext.out⟩
        case measure => simp [intOf]; omega
      | false =>
        rw [h1] at hL
        cases h2 : digN n with
        | true =>
          have hnext := hyes (VarM.okN_dig h2)
          rw [h2] at hD
          have Hall := Lib.hid hall; have HL := Lib.hid hL; have HD := Lib.hid hD; have Hyes := Lib.hid hyes; have Hno := Lib.hid hno; have Hnext := Lib.hid hnext; have H1 := Lib.hid h1; have H2 := Lib.hid h2; clear hall hL hD hyes hno hnext h1 h2
          go_wp2_with fail
          refine (HL.out _).mono ?_
          rintro e w1 ⟨rfl, rfl⟩
          go_wp2_with fail
          refine (HD.out _).mono ?_
          rintro e w1 ⟨rfl, rfl⟩
          go_wp2_with fail
          go_round
          case rel => exact ⟨k + 1, by omega, by go_num, Hnext.out⟩
          case measure => simp [intOf]; omega
        | false =>
          rw [h2] at hD
          by_cases h3 : n = 45
          · have hnext := hyes (by unfold okN; simp [h3])
            have e3 : ((n : Int) != 45) = false := by rw [h3]; rfl
            have Hall := Lib.hid hall; have HL := Lib.hid hL; have HD := Lib.hid hD; have Hyes := Lib.hid hyes; have Hno := Lib.hid hno; have Hnext := Lib.hid hnext; have H1 := Lib.hid h1; have H2 := Lib.hid h2; have H3 := Lib.hid h3; clear hall hL hD hyes hno hnext h1 h2 h3
            go_wp2_with fail
            refine (HL.out _).mono ?_
            rintro e w1 ⟨rfl, rfl⟩
            go_wp2_with fail
            refine (HD.out _).mono ?_
            rintro e w1 ⟨rfl, rfl⟩
            go_wp2_with fail
            go_round
            case rel => exact ⟨k + 1, by omega, by go_num, Hnext.out⟩
            case measure => simp [intOf]; omega
          · have hf := hno (VarM.okN_no h1 h2 h3)
            have e3 : ((n : Int) != 45) = true := by rw [bne_iff_ne]; omega
            have Hall := Lib.hid hall; have HL := Lib.hid hL; have HD := Lib.hid hD; have Hyes := Lib.hid hyes; have Hno := Lib.hid hno; have Hf := Lib.hid hf; have H1 := Lib.hid h1; have H2 := Lib.hid h2; have H3 := Lib.hid h3; clear hall hL hD hyes hno hf h1 h2 h3
            go_wp2_with fail
            refine (HL.out _).mono ?_
            rintro e w1 ⟨rfl, rfl⟩
            go_wp2_with fail
            refine (HD.out _).mono ?_
            rintro e w1 ⟨rfl, rfl⟩
            go_wp2_with fail
            go_ret
            exact ⟨ret_bool Hf.out.symm, rfl⟩
    · obtain rfl : k = s.size := by omega
      have hall2 : l.all okB = true := by rw [List.take_of_length_le (by have := Hln.out; omega)] at hall; exact hall
      have hrr : r = (decide (0 < s.size) && (decide (s.size ≤ 24) && letN (headN l))) := by rw [Hr.out, VarM.name_all hall2, Hln.out]
      by_cases h0 : 0 < s.size
      · by_cases h24 : s.size ≤ 24
        · have hf : r = letN (headN l) := by rw [hrr, decide_eq_true h0, decide_eq_true h24]; rfl
          rw [Hh.out h0] at hf
          obtain ⟨n, hn⟩ : ∃ n, n = s[0].toNat := ⟨_, rfl⟩
          have hn256 : n < 256 := by rw [hn]; exact s[0].toNat_lt
          have hL := fun W => letter_any n hn256 W
          rw [← hn] at hf
          rw [← hf] at hL
          have hsk : s[0].toNat = n := hn.symm
          have k1 : (0 : Int) < (s.size : Int) := by omega
          have k2 : (s.size : Int) ≤ 24 := by omega
          have k3 : decide ((s.size : Int) ≤ 24) = true := by simpa using k2
          clear hn
          have Hall := Lib.hid hall; have Hall2 := Lib.hid hall2; have Hrr := Lib.hid hrr; have Hf := Lib.hid hf; have HL := Lib.hid hL; clear hall hall2 hrr hf hL
          go_wp2_with fail
          refine (HL.out _).mono ?_
          rintro e w1 ⟨rfl, rfl⟩
          go_wp2_with fail
          go_ret
          exact ⟨rfl, rfl⟩
        · have hf : r = false := by rw [hrr, decide_eq_false h24]; simp
          have k2 : (24 : Int) < (s.size : Int) := by omega
          have k3 : decide ((s.size : Int) ≤ 24) = false := by simpa using k2
          have Hall := Lib.hid hall; have Hall2 := Lib.hid hall2; have Hrr := Lib.hid hrr; have Hf := Lib.hid hf; clear hall hall2 hrr hf
          go_wp2_with fail
          go_ret
          exact ⟨ret_bool Hf.out.symm, rfl⟩
      · have hf : r = false := by rw [hrr, decide_eq_false h0]; rfl
        have k2 : s.size ≤ 0 := by omega
        have k3 : decide (0 < (s.size : Int)) = false := decide_eq_false (by omega)
        have Hall := Lib.hid hall; have Hall2 := Lib.hid hall2; have Hrr := Lib.hid hrr; have Hf := Lib.hid hf; clear hall hall2 hrr hf
        go_wp2_with fail
        go_ret
        exact ⟨ret_bool Hf.out.symm, rfl⟩
set_option maxRecDepth 10000 in
set_option maxHeartbeats 1000000 in
theorem value_any (s : ByteArray) (hs : s.size ≤ 9223372036854775807) (w : World) : Calls Try.prog 19 #[.string s] w fun e w' => e = .returned (.bool (valueOf s.data.toList)) ∧ w = w' := by
  have hN := fun W => name_any s hs W
  obtain ⟨l, hl⟩ : ∃ l, l = s.data.toList := ⟨_, rfl⟩
  have hln : l.length = s.size := by rw [hl]; exact dl s
  obtain ⟨r, hr⟩ : ∃ r, r = valueOf l := ⟨_, rfl⟩
  rw [← hl] at hN
  rw [← hl, ← hr]
  cases hq : nameOf l with
  | true =>
    rw [hq] at hN
    have hf : r = true := by rw [hr]; unfold valueOf; rw [hq]; rfl
    have Hl := Lib.hid hl; have Hln := Lib.hid hln; have Hr := Lib.hid hr; have HN := Lib.hid hN; have Hf := Lib.hid hf; have Hq := Lib.hid hq; clear hl hln hr hN hf hq
    go_enter Try.func19, Try.ntmps19
    go_wp2_with fail
    refine (HN.out _).mono ?_
    rintro e w1 ⟨rfl, rfl⟩
    go_wp2_with fail
    go_ret
    exact ⟨ret_bool Hf.out.symm, rfl⟩
  | false =>
    rw [hq] at hN
    have hv : r = (l.all digB && decide (0 < l.length) && decide (l.length ≤ 3)) := by rw [hr]; unfold valueOf digsOf; rw [hq]; rfl
    have Hl := Lib.hid hl; have Hln := Lib.hid hln; have Hr := Lib.hid hr; have HN := Lib.hid hN; have Hv := Lib.hid hv; have Hq := Lib.hid hq; clear hl hln hr hN hv hq
    go_enter Try.func19, Try.ntmps19
    go_wp2_with fail
    refine (HN.out _).mono ?_
    rintro e w1 ⟨rfl, rfl⟩
    go_wp2_with fail
    go_loop [8] (fun i => ∃ k : Nat, k ≤ s.size ∧ i = .int .i64 k ∧ (l.take k).all digB = true) (fun i => s.size - (intOf i).toNat)
    case atStart => exact ⟨0, Nat.zero_le _, rfl, by simp⟩
    case round =>
      obtain ⟨k, hk, rfl, hall⟩ := hrel
      by_cases hlt : k < s.size
      · have hkl : k < l.length := by have := Hln.out; omega
        obtain ⟨n, hn⟩ : ∃ n, n = s[k].toNat := ⟨_, rfl⟩
        have hn256 : n < 256 := by rw [hn]; exact s[k].toNat_lt
        have hck : digB l[k] = digN n := by
          have e : l[k] = s[k] := by simp only [Hl.out]; rfl
          unfold digB
          rw [e, hn]
        have hD := fun W => digit_any n hn256 W
        have hsk : s[k].toNat = n := hn.symm
        have hyes : digN n = true → (l.take (k + 1)).all digB = true := fun h => VarM.all_succ hkl hall (by rw [hck]; exact h)
        have hno : digN n = false → r = false := fun h => by rw [Hv.out, VarM.all_no hkl (by rw [hck]; exact h)]; rfl
        clear hn hck
        clear hkl
        cases h2 : digN n with
        | true =>
          have hnext := hyes h2
          rw [h2] at hD
          have Hall := Lib.hid hall; have HD := Lib.hid hD; have Hyes := Lib.hid hyes; have Hno := Lib.hid hno; have Hnext := Lib.hid hnext; have H2 := Lib.hid h2; clear hall hD hyes hno hnext h2
          go_wp2_with fail
          refine (HD.out _).mono ?_
          rintro e w1 ⟨rfl, rfl⟩
          go_wp2_with fail
          go_round
          case rel => exact ⟨k + 1, by omega, by go_num, Hnext.out⟩
          case measure => simp [intOf]; omega
        | false =>
          have hf := hno h2
          rw [h2] at hD
          have Hall := Lib.hid hall; have HD := Lib.hid hD; have Hyes := Lib.hid hyes; have Hno := Lib.hid hno; have Hf := Lib.hid hf; have H2 := Lib.hid h2; clear hall hD hyes hno hf h2
          go_wp2_with fail
          refine (HD.out _).mono ?_
          rintro e w1 ⟨rfl, rfl⟩
          go_wp2_with fail
          go_ret
          exact ⟨ret_bool Hf.out.symm, rfl⟩
      · obtain rfl : k = s.size := by omega
        have hall2 : l.all digB = true := by rw [List.take_of_length_le (by have := Hln.out; omega)] at hall; exact hall
        have hrr : r = (decide (0 < s.size) && decide (s.size ≤ 3)) := by rw [Hv.out, hall2, Hln.out]; rfl
        by_cases h0 : 0 < s.size
        · by_cases h3 : s.size ≤ 3
          · have hf : r = true := by rw [hrr, decide_eq_true h0, decide_eq_true h3]; rfl
            have k1 : (0 : Int) < (s.size : Int) := by omega
            have k2 : (s.size : Int) ≤ 3 := by omega
            have k3 : decide ((s.size : Int) ≤ 3) = true := by simpa using k2
            have Hall := Lib.hid hall; have Hall2 := Lib.hid hall2; have Hrr := Lib.hid hrr; have Hf := Lib.hid hf; clear hall hall2 hrr hf
            go_wp2_with fail
            go_ret
            exact ⟨ret_bool Hf.out.symm, rfl⟩
          · have hf : r = false := by rw [hrr, decide_eq_false h3]; simp
            have k2 : (3 : Int) < (s.size : Int) := by omega
            have k3 : decide ((s.size : Int) ≤ 3) = false := by simpa using k2
            have Hall := Lib.hid hall; have Hall2 := Lib.hid hall2; have Hrr := Lib.hid hrr; have Hf := Lib.hid hf; clear hall hall2 hrr hf
            go_wp2_with fail
            go_ret
            exact ⟨ret_bool Hf.out.symm, rfl⟩
        · have hf : r = false := by rw [hrr, decide_eq_false h0]; rfl
          have k2 : s.size ≤ 0 := by omega
          have k3 : decide (0 < (s.size : Int)) = false := decide_eq_false (by omega)
          have Hall := Lib.hid hall; have Hall2 := Lib.hid hall2; have Hrr := Lib.hid hrr; have Hf := Lib.hid hf; clear hall hall2 hrr hf
          go_wp2_with fail
          go_ret
          exact ⟨ret_bool Hf.out.symm, rfl⟩
theorem empty_iff (s : ByteArray) : s.toList = [] ↔ s.size = 0 := by
  rw [Lib.toList_data, ← dl]
  exact List.length_eq_zero_iff.symm
set_option maxRecDepth 10000 in
set_option maxHeartbeats 1000000 in
theorem digits_any (s : ByteArray) (hs : s.size ≤ 9223372036854775807) (w : World) : Calls Try.prog 65 #[.string s] w fun e w' => e = .returned (.bool (digsOf s.data.toList)) ∧ w = w' := by
  obtain ⟨l, hl⟩ : ∃ l, l = s.data.toList := ⟨_, rfl⟩
  have hln : l.length = s.size := by rw [hl]; exact dl s
  obtain ⟨r, hr⟩ : ∃ r, r = digsOf l := ⟨_, rfl⟩
  rw [← hl, ← hr]
  have hv : r = (l.all digB && decide (0 < l.length)) := hr
  have Hl := Lib.hid hl; have Hln := Lib.hid hln; have Hr := Lib.hid hr; have Hv := Lib.hid hv; clear hl hln hr hv
  go_enter Try.func65, Try.ntmps65
  go_wp2_with fail
  go_loop [3] (fun i => ∃ k : Nat, k ≤ s.size ∧ i = .int .i64 k ∧ (l.take k).all digB = true) (fun i => s.size - (intOf i).toNat)
  case atStart => exact ⟨0, Nat.zero_le _, rfl, by simp⟩
  case round =>
    obtain ⟨k, hk, rfl, hall⟩ := hrel
    by_cases hlt : k < s.size
    · have hkl : k < l.length := by have := Hln.out; omega
      obtain ⟨n, hn⟩ : ∃ n, n = s[k].toNat := ⟨_, rfl⟩
      have hn256 : n < 256 := by rw [hn]; exact s[k].toNat_lt
      have hck : digB l[k] = digN n := by
        have e : l[k] = s[k] := by simp only [Hl.out]; rfl
        unfold digB
        rw [e, hn]
      have hsk : s[k].toNat = n := hn.symm
      have hyes : digN n = true → (l.take (k + 1)).all digB = true := fun h => VarM.all_succ hkl hall (by rw [hck]; exact h)
      have hno : digN n = false → r = false := fun h => by rw [Hv.out, VarM.all_no hkl (by rw [hck]; exact h)]; rfl
      clear hn hck
      clear hkl
      rcases Nat.lt_or_ge n 48 with h1 | h1
      · have hf := hno (by unfold digN; rw [decide_eq_false (by omega)]; rfl)
        have k1 : decide ((n : Int) < 48) = true := decide_eq_true (by omega)
        have Hall := Lib.hid hall; have Hyes := Lib.hid hyes; have Hno := Lib.hid hno; have Hf := Lib.hid hf; clear hall hyes hno hf
        go_wp2_with fail
        go_ret
        exact ⟨ret_bool Hf.out.symm, rfl⟩
      · rcases Nat.lt_or_ge 57 n with h2 | h2
        · have hf := hno (by unfold digN; rw [decide_eq_false (p := n ≤ 57) (by omega)]; simp)
          have k1 : decide ((n : Int) < 48) = false := decide_eq_false (by omega)
          have k2 : decide (57 < (n : Int)) = true := decide_eq_true (by omega)
          have Hall := Lib.hid hall; have Hyes := Lib.hid hyes; have Hno := Lib.hid hno; have Hf := Lib.hid hf; clear hall hyes hno hf
          go_wp2_with fail
          go_ret
          exact ⟨ret_bool Hf.out.symm, rfl⟩
        · have hnext := hyes (by unfold digN; rw [decide_eq_true h1, decide_eq_true h2]; rfl)
          have k1 : decide ((n : Int) < 48) = false := decide_eq_false (by omega)
          have k2 : decide (57 < (n : Int)) = false := decide_eq_false (by omega)
          have Hall := Lib.hid hall; have Hyes := Lib.hid hyes; have Hno := Lib.hid hno; have Hnext := Lib.hid hnext; clear hall hyes hno hnext
          go_wp2_with fail
          go_round
          case rel => exact ⟨k + 1, by omega, by go_num, Hnext.out⟩
          case measure => simp [intOf]; omega
    · obtain rfl : k = s.size := by omega
      have hall2 : l.all digB = true := by rw [List.take_of_length_le (by have := Hln.out; omega)] at hall; exact hall
      have hrr : r = decide (0 < s.size) := by rw [Hv.out, hall2, Hln.out]; rfl
      by_cases h0 : 0 < s.size
      · have hf : r = true := by rw [hrr, decide_eq_true h0]
        have k1 : s.toList.isEmpty = false := by rw [Bool.eq_false_iff]; intro h; rw [List.isEmpty_iff, empty_iff] at h; omega
        have k2 : (!s.toList.isEmpty) = true := by rw [k1]; rfl
        have k3 : ¬ s.toList = [] := by rw [empty_iff]; omega
        have Hall := Lib.hid hall; have Hall2 := Lib.hid hall2; have Hrr := Lib.hid hrr; have Hf := Lib.hid hf; clear hall hall2 hrr hf
        go_wp2_with fail
        go_ret
        exact ⟨ret_bool Hf.out.symm, rfl⟩
      · have hf : r = false := by rw [hrr, decide_eq_false h0]
        have k3 : s.toList = [] := by rw [empty_iff]; omega
        have k1 : s.toList.isEmpty = true := by rw [k3]; rfl
        have Hall := Lib.hid hall; have Hall2 := Lib.hid hall2; have Hrr := Lib.hid hrr; have Hf := Lib.hid hf; clear hall hall2 hrr hf
        go_wp2_with fail
        go_ret
        exact ⟨ret_bool Hf.out.symm, rfl⟩
end Go.Proofs.Ytnelgellbabkoaa

/- Plain facts: the place of the first element of which a predicate holds. No condition. -/
namespace Go.Proofs.Ytnelgellbabkoaa

def idxOf {α : Type} (p : α → Bool) (l : List α) : Int := match l.findIdx? p with
  | some i => i
  | none => -1
/-- it holds of none of the first k -/
def NoneIn {α : Type} (p : α → Bool) (l : List α) (k : Nat) : Prop := ∀ i (h : i < l.length), i < k → p l[i] = false
theorem noneIn_zero {α : Type} (p : α → Bool) (l : List α) : NoneIn p l 0 := fun _ _ h => by omega
theorem noneIn_succ {α : Type} {p : α → Bool} {l : List α} {k : Nat} (h : k < l.length) (hn : NoneIn p l k) (hk : p l[k] = false) : NoneIn p l (k + 1) := fun i hi hik => by
  by_cases e : i = k
  · subst e; exact hk
  · exact hn i hi (by omega)
theorem idxOf_at {α : Type} {p : α → Bool} {l : List α} {k : Nat} (h : k < l.length) (hn : NoneIn p l k) (hk : p l[k] = true) : idxOf p l = k := by
  have : l.findIdx? p = some k := by
    rw [List.findIdx?_eq_some_iff_getElem]
    exact ⟨h, hk, fun j hj => by simpa using hn j (by omega) hj⟩
  unfold idxOf; rw [this]
theorem idxOf_none {α : Type} {p : α → Bool} {l : List α} {k : Nat} (h : l.length ≤ k) (hn : NoneIn p l k) : idxOf p l = -1 := by
  have : l.findIdx? p = none := by
    rw [List.findIdx?_eq_none_iff]
    intro x hx
    obtain ⟨i, hi, e⟩ := List.mem_iff_getElem.1 hx
    rw [← e]; exact hn i hi (by omega)
  unfold idxOf; rw [this]
theorem idxOf_any {α : Type} (p : α → Bool) (l : List α) : l.any p = true ↔ 0 ≤ idxOf p l := by
  unfold idxOf
  cases h : l.findIdx? p with
  | none =>
    rw [List.findIdx?_eq_none_iff] at h
    simp only [List.any_eq_true]
    constructor
    · rintro ⟨x, hx, hp⟩; rw [h x hx] at hp; cases hp
    · intro h2; omega
  | some i =>
    rw [List.findIdx?_eq_some_iff_getElem] at h
    obtain ⟨hi, hp, _⟩ := h
    simp only [List.any_eq_true]
    exact ⟨fun _ => by omega, fun _ => ⟨l[i], List.getElem_mem hi, hp⟩⟩
theorem idxOf_bd {α : Type} (p : α → Bool) (l : List α) : -1 ≤ idxOf p l ∧ idxOf p l < l.length + 1 := by
  unfold idxOf
  cases h : l.findIdx? p with
  | none => simp; omega
  | some i =>
    rw [List.findIdx?_eq_some_iff_getElem] at h
    obtain ⟨hi, _⟩ := h
    simp only; omega
end Go.Proofs.Ytnelgellbabkoaa

/- The walks of slices.IndexFunc and slices.ContainsFunc at Str: the first element of which a predicate holds; whether it holds of one. Condition: what the predicate gives is read off its contract. -/
namespace Go.Proofs.Ytnelgellbabkoaa
open Go.RowKit
namespace IdxStr
theorem cells_1 {ecs : List Value} (h : ecs.length = 1) : ∃ u0, ecs = [u0] := by
  match ecs, h with
  | [u0], _ => exact ⟨u0, rfl⟩

/-- what the predicate is -/
def Pred {α : Type} (R : Rd α) (p : α → Bool) (g : Nat) (cb : Array Value) (l : List α) (w : World) : Prop :=
  ∀ W u0 x, Below w.heap.size w W → x ∈ l → R W [u0] x → Calls Try.prog g (#[u0] ++ cb) W fun e w' => e = .returned (.bool (p x)) ∧ Below W.heap.size W w'
set_option maxRecDepth 10000 in
set_option maxHeartbeats 400000 in
theorem idx_any {α : Type} {R : Rd α} (hR : Stays R) (p : α → Bool) (g : Nat) (cb : Array Value) (eg : ∀ args w, (callFunc g args).run Try.prog w = .ok (.enter g args) w) {w : World} {v : Value} {l : List α} (hl : RSlice 1 R w [v] l) (hp : Pred R p g cb l w) :
    Calls Try.prog 143 #[v, .func (.func g) #[] cb] w fun e w' => e = .returned (.int .i64 (idxOf p l)) ∧ Below w.heap.size w w' := by
  obtain ⟨a, cap, hv, hcap, hmax, hel⟩ := hl
  simp only [List.cons.injEq, and_true] at hv
  subst hv
  unfold maxLen at hmax
  obtain ⟨n, hn⟩ : ∃ n, n = l.length := ⟨_, rfl⟩
  rw [← hn] at hcap ⊢
  have hn63 : n ≤ 9223372036854775807 := by omega
  have Hn := Lib.hid hn; have Hel := Lib.hid hel; have Hp := Lib.hid hp; clear hn hel hp
  go_enter Try.func143, Try.ntmps143
  go_wp2_with fail
  go_loopw [8] (fun i wr => ∃ k : Nat, k ≤ n ∧ i = .int .i64 k ∧ NoneIn p l k ∧ Below w.heap.size w wr) (fun i _ => n - (intOf i).toNat)
  case atStart => exact ⟨0, Nat.zero_le _, rfl, noneIn_zero p l, Below.refl _ _⟩
  case round =>
    obtain ⟨k, hk, rfl, hno, hb⟩ := hrel
    by_cases hlt : k < n
    · have hkl : k < l.length := by have := Hn.out; omega
      obtain ⟨x, hx⟩ : ∃ x, x = l[k]'hkl := ⟨_, rfl⟩
      obtain ⟨b, off, ecs, rfl, h4, h5, h6⟩ := Hel.out k x (by rw [hx]; exact List.getElem?_eq_getElem hkl)
      obtain ⟨u0, rfl⟩ : ∃ u0, ecs = [u0] := cells_1 h4
      have hxl : x ∈ l := by rw [hx]; exact List.getElem_mem hkl
      have c0 : wr.cell? ⟨b, off + k, none⟩ = some u0 := cell_later hb (by simpa using h5 0 u0 rfl)
      have hcall := Hp.out wr u0 x hb hxl (hR _ _ _ _ h6 hb)
      have q0 : (0 : Int) ≤ (k : Int) := by omega
      have q1 : (k : Int) < (n : Int) := by omega
      by_cases hpx : p x = true
      · rw [hpx] at hcall
        have hi : idxOf p l = k := idxOf_at hkl hno (by rw [← hx]; exact hpx)
        have Hx := Lib.hid hx; have Hno := Lib.hid hno; have Hcall := Lib.hid hcall; have H5 := Lib.hid h5; have H6 := Lib.hid h6; have Hpx := Lib.hid hpx; have Hi := Lib.hid hi; have Hb := Lib.hid hb; have Hxl := Lib.hid hxl; clear hx hno hcall h5 h6 hpx hi hb hxl
        clear h4
        go_wp2_with fail
        refine Hcall.out.mono ?_
        rintro e w2 ⟨rfl, hb2⟩
        have hb3 := Hb.out.trans (hb2.mono Hb.out.size)
        have Hb2 := Lib.hid hb2; have Hb3 := Lib.hid hb3; clear hb2 hb3
        go_wp2_with fail
        go_ret
        exact ⟨ret_int Hi.out.symm, Hb3.out⟩
      · have hpx' : p x = false := by simpa using hpx
        rw [hpx'] at hcall
        have hno2 := noneIn_succ hkl hno (by rw [← hx]; exact hpx')
        have Hx := Lib.hid hx; have Hno := Lib.hid hno; have Hcall := Lib.hid hcall; have H5 := Lib.hid h5; have H6 := Lib.hid h6; have Hpx := Lib.hid hpx; have Hpx' := Lib.hid hpx'; have Hno2 := Lib.hid hno2; have Hb := Lib.hid hb; have Hxl := Lib.hid hxl; clear hx hno hcall h5 h6 hpx hpx' hno2 hb hxl
        clear h4
        go_wp2_with fail
        refine Hcall.out.mono ?_
        rintro e w2 ⟨rfl, hb2⟩
        have hb3 := Hb.out.trans (hb2.mono Hb.out.size)
        have Hb2 := Lib.hid hb2; have Hb3 := Lib.hid hb3; clear hb2 hb3
        go_wp2_with fail
        go_roundw
        case rel => exact ⟨k + 1, by omega, by go_num, Hno2.out, Hb3.out⟩
        case measure => simp [intOf]; omega
    · have hi : idxOf p l = -1 := idxOf_none (by have := Hn.out; omega) hno
      have Hno := Lib.hid hno; have Hi := Lib.hid hi; have Hb := Lib.hid hb; clear hno hi hb
      go_wp2_with fail
      go_ret
      exact ⟨ret_int Hi.out.symm, Hb.out⟩
set_option maxRecDepth 10000 in
set_option maxHeartbeats 400000 in
theorem has_any {α : Type} {R : Rd α} (hR : Stays R) (p : α → Bool) (g : Nat) (cb : Array Value) (eg : ∀ args w, (callFunc g args).run Try.prog w = .ok (.enter g args) w) {w : World} {v : Value} {l : List α} (hl : RSlice 1 R w [v] l) (hp : Pred R p g cb l w) :
    Calls Try.prog 115 #[v, .func (.func g) #[] cb] w fun e w' => e = .returned (.bool (l.any p)) ∧ Below w.heap.size w w' := by
  have hI := idx_any hR p g cb eg hl hp
  have hab := idxOf_any p l
  obtain ⟨i, hi⟩ : ∃ i, i = idxOf p l := ⟨_, rfl⟩
  rw [← hi] at hI hab
  have Hl := Lib.hid hl; have Hp := Lib.hid hp; have HI := Lib.hid hI; have Hi := Lib.hid hi; have HR := Lib.hid hR; clear hl hp hI hi hR
  cases hq : l.any p with
  | true =>
    have hpos : 0 ≤ i := hab.1 hq
    have Hq := Lib.hid hq; have Hab := Lib.hid hab; clear hq hab
    go_enter Try.func115, Try.ntmps115
    go_wp2_with fail
    refine HI.out.mono ?_
    rintro e w2 ⟨rfl, hb2⟩
    have Hb2 := Lib.hid hb2; clear hb2
    go_wp2_with fail
    go_ret
    exact ⟨rfl, Hb2.out⟩
  | false =>
    have hneg : i < 0 := by
      rcases Int.lt_or_le i 0 with h | h
      · exact h
      · have := hab.2 h; rw [hq] at this; cases this
    have Hq := Lib.hid hq; have Hab := Lib.hid hab; clear hq hab
    go_enter Try.func115, Try.ntmps115
    go_wp2_with fail
    refine HI.out.mono ?_
    rintro e w2 ⟨rfl, hb2⟩
    have Hb2 := Lib.hid hb2; clear hb2
    go_wp2_with fail
    go_ret
    exact ⟨ret_bool (by simpa using hneg), Hb2.out⟩
end IdxStr
end Go.Proofs.Ytnelgellbabkoaa
