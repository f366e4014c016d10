/- Walks and plain facts. Texts merged: Kit, Open, Mem, Row, Seq, TwiceM, Twice, VarM, VarN, IdxM, IdxStr, VarO, VarP, VarU. Condition: none beyond what each says. -/
import Derived.WalkKit
import Derived.WalkSpells
import Derived.WalkLawsBesides
import Derived.Lib.Hide
import Derived.BigQuiet
import Derived.Deep.QuietTactic
import Derived.StillTailTactics
import Derived.Deep.RegionLawGrows
import Derived.ProofKit
import Derived.Deep.Slices
import Derived.RangeFuncBox
import Derived.RangeFuncLeaves
import Derived.RangeFuncNested
import Derived.Shelf.Abstract
import Derived.OwnWalkIn
import Derived.TacticsInMore
import Derived.LoopNIn
import Derived.LoopIn
import Derived.Maps.AppendAt
import Derived.Test.YtnelgellbabkoaaRows
import Derived.Lib.SlicesCompact
import Derived.Sort.KeysCollected
import Derived.Test.YtnelgellbabkoaaShelf
import Derived.Lib.OwnBridge
import Derived.Lib.Small
import Derived.Lib.Strings
import Derived.Deep.Cut
/- Small laws for walks: rows that a call owns, and slices that are read. No condition. -/
namespace Go.Proofs.Ytnelgellbabkoaa
open Go.RowKit

theorem ret_int {k : IntKind} {a b : Int} (h : a = b) : Ending.returned (.int k a) = .returned (.int k b) := by rw [h]
theorem ret_bool {a b : Bool} (h : a = b) : Ending.returned (.bool a) = .returned (.bool b) := by rw [h]
theorem ret_val {a b : Value} (h : a = b) : Ending.returned a = .returned b := by rw [h]

theorem wrap64_nat (m : Nat) (h : m ≤ 9223372036854775807) : wrap64 (m : Int) = m := IntWalk.wrap64_in _ (by omega)

theorem quiet_same {P : Program} {f : FuncId} {args : Array Value} {w : World} {n : Nat} {v : Value}
    (h : Calls P f args (w.drewN n) fun e w' => e = .returned v ∧ w.drewN n = w') : Calls P f args (w.drewN n) fun e w'' => e = .returned v ∧ ∃ m, w'' = w.drewN m :=
  h.mono fun _ _ ⟨he, hm⟩ => ⟨he, n, hm.symm⟩

theorem bel_drewN {B : Nat} {a w : World} (h : Below B a w) (n : Nat) : Below B a (w.drewN n) := ⟨h.os, h.tape, h.output, h.size, h.block⟩

/-- an element type and its slice type in a program's table -/
structure Elem (P : Program) (t e : TypeId) (z : Value) (size bytes : Nat) : Prop where
  slice : P.underlying t = some (.slice e)
  info : (P.info? e).map (fun i => (i.zero, i.size, i.bytes)) = some (some z, size, bytes)
  zero : z.cells.size = size
  pos : 0 < size

theorem grownBy_trans {w w1 w2 : World} {row : Option Nat} (h : w.grownBy w1 none) (k : w1.grownBy w2 row) : w.grownBy w2 row :=
  ⟨k.os.trans h.os, k.tape.trans h.tape, k.output.trans h.output, Nat.le_trans h.size k.size,
    fun b hb hr => (k.block b (Nat.lt_of_lt_of_le hb h.size) hr).trans (h.block b hb (by simp))⟩

theorem grownBy_of_below {w w' : World} (h : Below w.heap.size w w') : w.grownBy w' none :=
  ⟨h.os, h.tape, h.output, h.size, fun k hk _ => h.block k hk⟩

theorem grownBy_below {w w' : World} (h : w.grownBy w' none) : Below w.heap.size w w' := ⟨h.os, h.tape, h.output, h.size, fun k hk => h.block k hk (by simp)⟩

/-- append to an owned row: and the row lies where it lay, or in a new block -/
theorem run_append_where {P : Program} (w : World) (base : Nat) (t ty e : TypeId) (i : TypeInfo) (z : Value) (size bytes : Nat) (ht : P.underlying t = some (.slice e)) (hi : P.info? e = some i) (hz : i.zero = some z)
    (hsize : i.size = size) (hby : i.bytes = bytes) (hzs : z.cells.size = size) (hsz : 0 < size)
    (v : Value) (n : Nat) (xs : List Value) (hown : w.ownsRow base e size v n xs)
    (a : Addr) (m c : Nat) (news : List Value) (hl : news.length = m * size) (hnews : ∀ j u, news[j]? = some u → w.cell? (a.add j) = some u) (h1 : ∀ u ∈ news, u.oneCell' = true)
    (h63 : n + m ≤ maxLen) (hbytes : (n + m) * bytes ≤ 140737488355328) (hbase : base ≤ w.heap.size) :
    ∃ v' w', (Builtin.append_ #[t, t] ty #[v, .slice (some a) m c]).run P w = .ok v' w' ∧ w'.ownsRow base e size v' (n + m) (xs ++ news) ∧ w.grownBy w' v.ownBlock ∧ (v'.ownBlock = v.ownBlock ∨ v'.ownBlock = some w.heap.size) := by
  obtain ⟨v', w', hr, h2, h3, h4⟩ := run_append_own (P := P) w base t ty e i z size bytes ht hi hz hsize hby hzs hsz v n xs hown a m c news hl hnews h1 h63 hbytes hbase
  refine ⟨v', w', hr, h2, h3, ?_⟩
  subst hsize; subst hby
  have h63' : n + m ≤ 9223372036854775807 := by simp only [maxLen] at h63; omega
  rcases hown.2 with ⟨rfl, rfl⟩ | ⟨g, cap, cur, rfl, hbg, hg, hnc, hcm, hcs, htake⟩
  · by_cases hm : m = 0
    · left
      have := h4.2 ⟨rfl, hm⟩
      rw [this]
    · right
      have hr2 := run_append_nil (P := P) w t ty e i z ht hi hz a m c news hl hnews (by omega) (by omega) (by have hb := hbytes; simp only [Nat.zero_add] at hb; omega)
      rw [hr] at hr2
      simp only [Result.ok.injEq] at hr2
      rw [hr2.1]; rfl
  · by_cases hroom : n + m ≤ cap
    · left
      have hfit : n * i.size + news.length ≤ cur.size := by rw [hl, hcs, ← Nat.add_mul]; exact Nat.mul_le_mul_right _ hroom
      have hr2 := run_append_room (P := P) w t ty e i ht hi g n cap cur hg a m c news hl hnews h1 hroom hfit
      rw [hr] at hr2
      simp only [Result.ok.injEq] at hr2
      rw [hr2.1]; rfl
    · right
      have holds : ∀ j u, xs[j]? = some u → w.cell? ((⟨g, 0, none⟩ : Addr).add j) = some u := hown.cells (g := g) rfl
      have hr2 := run_append_grow (P := P) w t ty e i z ht hi hz ⟨g, 0, none⟩ n cap xs hown.1 holds a m c news hl hnews (by omega) (by omega) (growslice_fits (by omega) hbytes)
      rw [hr] at hr2
      simp only [Result.ok.injEq] at hr2
      rw [hr2.1]; rfl

/-- where a row lies behind an append: where it lay, or in a new block -/
def Moved (w : World) (v v' : Value) : Prop := ∀ k, v'.ownBlock = some k → v.ownBlock = some k ∨ w.heap.size ≤ k

theorem wp_append_lit {P : Program} {t e : TypeId} {z : Value} {size bytes : Nat} (E : Elem P t e z size bytes) {w : World} {o : Oper} {a : Act} {K : Act → World → Prop} {Q : Exit → Act → World → Prop}
    (s x : Operand) (ho : o.op = .call { callee := .builtin .append, args := #[s, x], argTypes := #[t, t] })
    (base : Nat) (v : Value) (n : Nat) (xs : List Value) (hs : a.eval s = v) (hown : w.ownsRow base e size v n xs)
    (m : Nat) (news : Array Value) (hx : a.eval x = .slice (some ⟨w.heap.size, 0, none⟩) m m) (hl : news.size = m * size) (h1 : ∀ u ∈ news.toList, u.oneCell' = true)
    (hb : (n + m) * bytes ≤ 140737488355328) (hb1 : n + m ≤ maxLen) (hbase : base ≤ w.heap.size)
    (h : ∀ v' w', w'.ownsRow base e size v' (n + m) (xs ++ news.toList) → w.grownBy w' v.ownBlock → Moved w v v' → K (a.put o.dst v') w') :
    o.wp P a (w.alloc (.cells news e)) K Q := by
  obtain ⟨i, hi, hz, hsz, hby⟩ := info_parts E.info
  obtain ⟨v', w', hr, h2, h3, h4⟩ := run_append_where (P := P) (w.alloc (.cells news e)) base t o.type e i z size bytes E.slice hi hz hsz hby E.zero E.pos v n xs (hown.alloc _) ⟨w.heap.size, 0, none⟩ m m news.toList (by simpa using hl) (by
    intro j u hu
    rw [Addr.add_lit, Nat.zero_add, World.cell?_alloc_new]
    simpa using hu) h1 hb1 hb (by simp; omega)
  unfold Oper.wp execOp
  simp only [ho, resolve, invoke, builtin, Sem.run_bind, Sem.run_pure, Result.andThen_ok, List.map_toArray, List.map_cons, List.map_nil, hs, hx, hr]
  refine h v' w' h2 (grownBy_trans (World.grownBy_alloc w _ none) h3) ?_
  intro k hk
  rcases h4 with h4 | h4
  · exact .inl (by rw [← h4]; exact hk)
  · right
    rw [h4] at hk
    simp at hk
    omega

/-- append of literal elements to an owned row -/
theorem wpList_append_lit {P : Program} {t e : TypeId} {z : Value} {size bytes : Nat} (E : Elem P t e z size bytes) {w : World} {ops : Array Oper} {rest : List Oper} {o : Oper} {a : Act} {Q : Exit → Act → World → Prop}
    (hgd : o.guard = none) (s x : Operand) (ho : o.op = .call { callee := .builtin .append, args := #[s, x], argTypes := #[t, t] })
    (base : Nat) (v : Value) (n : Nat) (xs : List Value) (hs : a.eval s = v) (hown : w.ownsRow base e size v n xs)
    (m : Nat) (news : Array Value) (hx : a.eval x = .slice (some ⟨w.heap.size, 0, none⟩) m m) (hl : news.size = m * size) (h1 : ∀ u ∈ news.toList, u.oneCell' = true)
    (hb : (n + m) * bytes ≤ 140737488355328) (hb1 : n + m ≤ maxLen) (hbase : base ≤ w.heap.size)
    (h : ∀ v' w', w'.ownsRow base e size v' (n + m) (xs ++ news.toList) → w.grownBy w' v.ownBlock → Moved w v v' → wpList P ops Q rest (a.put o.dst v') w') :
    wpList P ops Q (o :: rest) a (w.alloc (.cells news e)) :=
  wpList_plain hgd fun _ hK => wp_append_lit E s x ho base v n xs hs hown m news hx hl h1 hb hb1 hbase fun v' w' h2 h3 h4 => hK _ _ (h v' w' h2 h3 h4)

theorem bel_own {B base : Nat} {w0 w w' : World} {e : TypeId} {size : Nat} {v : Value} {n : Nat} {xs : List Value} (h : Below B w0 w) (hown : w.ownsRow base e size v n xs) (hB : B ≤ base) (hg : w.grownBy w' v.ownBlock) (hb : B ≤ w.heap.size) : Below B w0 w' :=
  h.grown hg hb fun k hk => Nat.le_trans hB (hown.lt k hk).1

theorem ownsRow_below {base : Nat} {w w' : World} {e : TypeId} {size : Nat} {v : Value} {n : Nat} {xs : List Value} (hown : w.ownsRow base e size v n xs) (hb : Below w.heap.size w w') : w'.ownsRow base e size v n xs :=
  hown.kept (grownBy_of_below hb) (by cases hv : v.ownBlock <;> simp)

theorem ownsRow_mono {B base : Nat} {w : World} {e : TypeId} {size : Nat} {v : Value} {n : Nat} {xs : List Value} (hown : w.ownsRow base e size v n xs) (hb : B ≤ base) : w.ownsRow B e size v n xs := by
  refine ⟨hown.1, ?_⟩
  rcases hown.2 with h | ⟨g, cap, cur, hv, hg, r⟩
  · exact .inl h
  · exact .inr ⟨g, cap, cur, hv, by omega, r⟩

theorem ownsRow_some {base : Nat} {w : World} {e : TypeId} {size : Nat} {v : Value} {n : Nat} {xs : List Value} (h : w.ownsRow base e size v n xs) (hn : 0 < n) :
    ∃ g cap, v = .slice (some ⟨g, 0, none⟩) n cap ∧ base ≤ g ∧ g < w.heap.size ∧ n ≤ cap ∧ cap ≤ maxLen ∧ ∀ j u, xs[j]? = some u → w.cell? ⟨g, j, none⟩ = some u := by
  rcases h.2 with ⟨_, rfl⟩ | ⟨g, cap, cur, rfl, hg, hh, hn', hm, hs, ht⟩
  · omega
  · refine ⟨g, cap, rfl, hg, (Array.getElem?_eq_some_iff.1 hh).1, hn', hm, fun j u hu => ?_⟩
    have := h.cells (g := g) rfl j u hu
    rwa [Addr.add_lit, Nat.zero_add] at this

/-- append of literal elements, at least one, to an owned row: the value is written out -/
theorem wpList_append_some {P : Program} {t e : TypeId} {z : Value} {size bytes : Nat} (E : Elem P t e z size bytes) {w : World} {ops : Array Oper} {rest : List Oper} {o : Oper} {a : Act} {Q : Exit → Act → World → Prop}
    (hgd : o.guard = none) (s x : Operand) (ho : o.op = .call { callee := .builtin .append, args := #[s, x], argTypes := #[t, t] })
    (base : Nat) (v : Value) (n : Nat) (xs : List Value) (hs : a.eval s = v) (hown : w.ownsRow base e size v n xs)
    (m : Nat) (hm : 0 < m) (news : Array Value) (hx : a.eval x = .slice (some ⟨w.heap.size, 0, none⟩) m m) (hl : news.size = m * size) (h1 : ∀ u ∈ news.toList, u.oneCell' = true)
    (hb : (n + m) * bytes ≤ 140737488355328) (hb1 : n + m ≤ maxLen) (hbase : base ≤ w.heap.size)
    (h : ∀ g cap w', w'.ownsRow base e size (.slice (some ⟨g, 0, none⟩) (n + m) cap) (n + m) (xs ++ news.toList) → w.grownBy w' v.ownBlock → Moved w v (.slice (some ⟨g, 0, none⟩) (n + m) cap) → wpList P ops Q rest (a.put o.dst (.slice (some ⟨g, 0, none⟩) (n + m) cap)) w') :
    wpList P ops Q (o :: rest) a (w.alloc (.cells news e)) := by
  refine wpList_append_lit E hgd s x ho base v n xs hs hown m news hx hl h1 hb hb1 hbase ?_
  intro v' w' h2 h3 h4
  obtain ⟨g, cap, rfl, _⟩ := ownsRow_some h2 (by omega)
  exact h g cap w' h2 h3 h4

/-- the same as one step of a region that draws its order -/
theorem step_append_some {P : Program} {t e : TypeId} {z : Value} {size bytes : Nat} (E : Elem P t e z size bytes) {w : World} {ops : Array Oper} {o : Oper} {a : Act} {K : Act → World → Prop} {Q : Exit → Act → World → Prop} {X : Prop}
    (hgd : o.guard = none) (s x : Operand) (ho : o.op = .call { callee := .builtin .append, args := #[s, x], argTypes := #[t, t] })
    (base : Nat) (v : Value) (n : Nat) (xs : List Value) (hs : a.eval s = v) (hown : w.ownsRow base e size v n xs)
    (m : Nat) (hm : 0 < m) (news : Array Value) (hx : a.eval x = .slice (some ⟨w.heap.size, 0, none⟩) m m) (hl : news.size = m * size) (h1 : ∀ u ∈ news.toList, u.oneCell' = true)
    (hb : (n + m) * bytes ≤ 140737488355328) (hb1 : n + m ≤ maxLen) (hbase : base ≤ w.heap.size)
    (h : ∀ g cap w', w'.ownsRow base e size (.slice (some ⟨g, 0, none⟩) (n + m) cap) (n + m) (xs ++ news.toList) → w.grownBy w' v.ownBlock → Moved w v (.slice (some ⟨g, 0, none⟩) (n + m) cap) → K (a.put o.dst (.slice (some ⟨g, 0, none⟩) (n + m) cap)) w') :
    if Region.wanted o (yielded ops a.tmps) = true then Oper.wp P o a (w.alloc (.cells news e)) K Q else X := by
  have hw : Region.wanted o (yielded ops a.tmps) = true := by simp [Region.wanted, hgd]
  rw [if_pos hw]
  refine wp_append_lit E s x ho base v n xs hs hown m news hx hl h1 hb hb1 hbase ?_
  intro v' w' h2 h3 h4
  obtain ⟨g, cap, rfl, _⟩ := ownsRow_some h2 (by omega)
  exact h g cap w' h2 h3 h4

/-- w' is w with new blocks, and with writes to the blocks of S alone -/
structure Frm (S : Nat → Prop) (w w' : World) : Prop where
  os : w'.os = w.os
  tape : w'.tape = w.tape
  output : w'.output = w.output
  size : w.heap.size ≤ w'.heap.size
  block : ∀ k, k < w.heap.size → ¬ S k → w'.heap[k]? = w.heap[k]?

theorem Frm.refl (S : Nat → Prop) (w : World) : Frm S w w := ⟨rfl, rfl, rfl, Nat.le_refl _, fun _ _ _ => rfl⟩
theorem Frm.trans {S T : Nat → Prop} {a b c : World} (h : Frm S a b) (k : Frm T b c) (hT : ∀ i, i < a.heap.size → T i → S i) : Frm S a c :=
  ⟨k.os.trans h.os, k.tape.trans h.tape, k.output.trans h.output, Nat.le_trans h.size k.size,
    fun i hi hS => (k.block i (Nat.lt_of_lt_of_le hi h.size) (fun ht => hS (hT i hi ht))).trans (h.block i hi hS)⟩
theorem Frm.mono {S T : Nat → Prop} {a b : World} (h : Frm S a b) (hT : ∀ i, i < a.heap.size → S i → T i) : Frm T a b :=
  (Frm.refl T a).trans h hT
theorem Frm.alloc {S : Nat → Prop} {a w : World} (h : Frm S a w) (o : Obj) : Frm S a (w.alloc o) :=
  h.trans (T := S) ⟨rfl, rfl, rfl, by simp, fun k hk _ => Below.heap_alloc _ _ _ hk⟩ (fun _ _ h => h)
theorem Frm.drewN {S : Nat → Prop} {a w : World} (h : Frm S a w) (n : Nat) : Frm S a (w.drewN n) := ⟨h.os, h.tape, h.output, h.size, h.block⟩
theorem Frm.drew {S : Nat → Prop} {a w : World} (h : Frm S a w) : Frm S a w.drew := ⟨h.os, h.tape, h.output, h.size, h.block⟩
theorem Frm.setCell {S : Nat → Prop} {a w : World} (h : Frm S a w) {p : Addr} (hp : a.heap.size ≤ p.block ∨ S p.block) (u : Value) : Frm S a (w.setCell p u) :=
  h.trans (T := fun k => k = p.block) ⟨rfl, rfl, rfl, by simp [World.setCell], fun k _ hk => Below.heap_setCell _ _ _ _ (by omega)⟩ (fun i hi e => by rcases hp with h | h; omega; rw [e]; exact h)
theorem Frm.grown {S : Nat → Prop} {a w w' : World} {row : Option Nat} (h : Frm S a w) (hg : w.grownBy w' row) (hr : ∀ k, row = some k → a.heap.size ≤ k ∨ S k) : Frm S a w' :=
  h.trans (T := fun k => some k = row) ⟨hg.os, hg.tape, hg.output, hg.size, fun k hk hne => hg.block k hk hne⟩ (fun i hi e => by rcases hr i e.symm with h | h; omega; exact h)
theorem Frm.below {S : Nat → Prop} {a w : World} (h : Frm S a w) {B : Nat} (hB : B ≤ a.heap.size) (hS : ∀ k, S k → B ≤ k) : Below B a w :=
  ⟨h.os, h.tape, h.output, h.size, fun k hk => h.block k (by omega) (fun hs => by have := hS k hs; omega)⟩
theorem Frm.of_below {S : Nat → Prop} {a w : World} (h : Below a.heap.size a w) : Frm S a w := ⟨h.os, h.tape, h.output, h.size, fun k hk _ => h.block k hk⟩
theorem Frm.cell {S : Nat → Prop} {w w' : World} (h : Frm S w w') {p : Addr} (hp : p.block < w.heap.size) (hS : ¬ S p.block) : w'.cell? p = w.cell? p := World.cell?_of_block (h.block p.block hp hS)
theorem Frm.keep {w w' : World} (h : Frm (fun _ => False) w w') {p : Addr} {u : Value} (hc : w.cell? p = some u) : w'.cell? p = some u := (h.cell (World.block_lt_of_cell? w p hc) (fun h => h)).trans hc
theorem Frm.owns {S : Nat → Prop} {w w' : World} (h : Frm S w w') {base : Nat} {e : TypeId} {size : Nat} {v : Value} {n : Nat} {xs : List Value} (ho : w.ownsRow base e size v n xs) (hS : ∀ k, v.ownBlock = some k → ¬ S k) : w'.ownsRow base e size v n xs := by
  refine ⟨ho.1, ?_⟩
  rcases ho.2 with hn | ⟨g, cap, cur, rfl, hb, hgg, rest⟩
  · exact .inl hn
  · exact .inr ⟨g, cap, cur, rfl, hb, by rw [h.block g (Array.getElem?_eq_some_iff.1 hgg).1 (hS g rfl)]; exact hgg, rest⟩

/-- what is read of a slice: n elements, and their cells in a row -/
def Sl (w : World) (v : Value) (n : Nat) (cells : List Value) : Prop :=
  ∃ a cap, v = .slice a n cap ∧ n ≤ cap ∧ cap ≤ maxLen ∧ ∀ j u, cells[j]? = some u → ∃ b off, a = some ⟨b, off, none⟩ ∧ w.cell? ⟨b, off + j, none⟩ = some u

theorem Sl.below {w w' : World} {v : Value} {n : Nat} {cells : List Value} (h : Sl w v n cells) (hb : Below w.heap.size w w') : Sl w' v n cells := by
  obtain ⟨a, cap, rfl, h1, h2, h3⟩ := h
  refine ⟨a, cap, rfl, h1, h2, fun j u hu => ?_⟩
  obtain ⟨b, off, rfl, hc⟩ := h3 j u hu
  exact ⟨b, off, rfl, cell_later hb hc⟩

theorem Sl.of_owns {base : Nat} {w : World} {e : TypeId} {size : Nat} {v : Value} {n : Nat} {xs : List Value} (h : w.ownsRow base e size v n xs) : Sl w v n xs := by
  rcases h.2 with ⟨rfl, rfl⟩ | ⟨g, cap, cur, rfl, hg, hh, hn, hm, hs, ht⟩
  · refine ⟨none, 0, rfl, Nat.le_refl _, Nat.zero_le _, fun j u hu => ?_⟩
    have hx : xs = [] := List.eq_nil_of_length_eq_zero (by simpa using h.1)
    subst hx
    simp at hu
  · refine ⟨some ⟨g, 0, none⟩, cap, rfl, hn, hm, fun j u hu => ⟨g, 0, rfl, ?_⟩⟩
    have := h.cells (g := g) rfl j u hu
    rwa [Addr.add_lit] at this

end Go.Proofs.Ytnelgellbabkoaa

/- Readings of plain data in memory, by shapes; each is opened out of the form's own reading, and stays where memory only grows. No condition. -/
namespace Go.Proofs.Ytnelgellbabkoaa
open Go.RowKit

abbrev Rd (α : Type) := World → List Value → α → Prop

def RInt (k : IntKind) : Rd Int := fun _ cs n => cs = [.int k n] ∧ (Lit.int k n).wf = true
def RBool : Rd Bool := fun _ cs b => cs = [.bool b]
def RStr : Rd ByteArray := fun _ cs s => cs = [.string s] ∧ s.size ≤ maxLen
/-- a slice: its elements, each of sz cells, in a row -/
def RSlice {α : Type} (sz : Nat) (R : Rd α) : Rd (List α) := fun w cs l =>
  ∃ a cap, cs = [.slice a l.length cap] ∧ l.length ≤ cap ∧ cap ≤ maxLen ∧
    ∀ i x, l[i]? = some x → ∃ b off ecs, a = some ⟨b, off, none⟩ ∧ ecs.length = sz ∧ (∀ j u, ecs[j]? = some u → w.cell? ⟨b, off + i * sz + j, none⟩ = some u) ∧ R w ecs x
def RNil : Rd Unit := fun _ cs _ => cs = []
def RCons {α β : Type} (sz : Nat) (R : Rd α) (S : Rd β) : Rd (α × β) := fun w cs x => ∃ c1 c2, cs = c1 ++ c2 ∧ c1.length = sz ∧ R w c1 x.1 ∧ S w c2 x.2

def Stays {α : Type} (R : Rd α) : Prop := ∀ w w' cs a, R w cs a → Below w.heap.size w w' → R w' cs a

theorem stays_int (k : IntKind) : Stays (RInt k) := fun _ _ _ _ h _ => h
theorem stays_bool : Stays RBool := fun _ _ _ _ h _ => h
theorem stays_str : Stays RStr := fun _ _ _ _ h _ => h
theorem stays_nil : Stays RNil := fun _ _ _ _ h _ => h
theorem stays_cons {α β : Type} {sz : Nat} {R : Rd α} {S : Rd β} (hR : Stays R) (hS : Stays S) : Stays (RCons sz R S) := by
  rintro w w' cs ⟨a, b⟩ ⟨c1, c2, h1, h2, h3, h4⟩ hb
  exact ⟨c1, c2, h1, h2, hR _ _ _ _ h3 hb, hS _ _ _ _ h4 hb⟩
theorem stays_slice {α : Type} {sz : Nat} {R : Rd α} (hR : Stays R) : Stays (RSlice sz R) := by
  rintro w w' cs l ⟨a, cap, rfl, h1, h2, h3⟩ hb
  refine ⟨a, cap, rfl, h1, h2, fun i x hi => ?_⟩
  obtain ⟨b, off, ecs, rfl, h4, h5, h6⟩ := h3 i x hi
  exact ⟨b, off, ecs, rfl, h4, fun j u hu => cell_later hb (h5 j u hu), hR _ _ _ _ h6 hb⟩

def Opens {α : Type} (P : Program) (t : TypeId) (R : Rd α) : Prop :=
  ∀ {H : Type} (enc : TypeId × Value → H) (w : World) (base : Nat) (spare : Nat → Bool) (held : Bool) (fuel : Nat) (cs : List Value) (x : DataW H × List MemPlace),
    DataW.trod enc P w base spare held fuel t cs = some x → ∃ a, R w cs a

theorem opens_int {P : Program} {t : TypeId} {k : IntKind} (ht : P.underlying t = some (.int k)) : Opens P t (RInt k) := by
  intro H enc w base spare held fuel cs x h
  obtain ⟨n, h1, _, h3⟩ := DataW.trod_int ht h
  exact ⟨n, h1, h3⟩
theorem opens_bool {P : Program} {t : TypeId} (ht : P.underlying t = some .bool) : Opens P t RBool := by
  intro H enc w base spare held fuel cs x h
  obtain ⟨n, h1, _⟩ := DataW.trod_bool ht h
  exact ⟨n, h1⟩
theorem opens_str {P : Program} {t : TypeId} (ht : P.underlying t = some .string) : Opens P t RStr := by
  intro H enc w base spare held fuel cs x h
  obtain ⟨n, h1, _, h3⟩ := DataW.trod_string ht h
  exact ⟨n, h1, h3⟩
theorem opens_slice {α : Type} {P : Program} {t e : TypeId} {R : Rd α} {sz : Nat} (ht : P.underlying t = some (.slice e)) (hc : P.cellsOf e = sz) (hz : 0 < sz) (he : Opens P e R) : Opens P t (RSlice sz R) := by
  intro H enc w base spare held fuel cs x h
  rcases Go.Deep.open_slice ht h with ⟨rfl, _⟩ | ⟨a, len, cap, m, n, D, Pl, rfl, hb, hl, hm, hmm, _, hx⟩
  · exact ⟨[], none, 0, rfl, Nat.le_refl _, Nat.zero_le _, fun i x hi => by simp at hi⟩
  · have hlm : len ≤ m := by rw [hmm]; split <;> omega
    have hex : ∀ i, i < len → ∃ y : α, ∃ cs', w.cells? base (a.add (i * P.cellsOf e)) (P.cellsOf e) = some cs' ∧ R w cs' y := by
      intro i hi
      obtain ⟨cs', h1, h2⟩ := hx i (by omega)
      obtain ⟨y, hy⟩ := he enc w base spare held n cs' _ h2
      exact ⟨y, cs', h1, hy⟩
    have build : ∀ k, k ≤ len → ∃ l : List α, l.length = k ∧ ∀ i y, l[i]? = some y → ∃ cs', w.cells? base (a.add (i * P.cellsOf e)) (P.cellsOf e) = some cs' ∧ R w cs' y := by
      intro k
      induction k with
      | zero => exact fun _ => ⟨[], rfl, fun i y hi => by simp at hi⟩
      | succ k ih =>
        intro hk
        obtain ⟨l, h1, h2⟩ := ih (by omega)
        obtain ⟨y, cs', h3, h4⟩ := hex k (by omega)
        refine ⟨l ++ [y], by simp [h1], fun i z hz => ?_⟩
        rw [List.getElem?_append] at hz
        split at hz
        · exact h2 i z hz
        · have hik : i = k := by
            have := (List.getElem?_eq_some_iff.1 hz).1
            simp at this; omega
          subst hik
          rw [h1, Nat.sub_self] at hz
          simp at hz
          subst hz
          exact ⟨cs', h3, h4⟩
    obtain ⟨l, h1, h2⟩ := build len (Nat.le_refl _)
    refine ⟨l, some a, cap, by rw [h1], by omega, hm, fun i y hi => ?_⟩
    obtain ⟨cs', h3, h4⟩ := h2 i y hi
    obtain ⟨_, h5, h6⟩ := World.cells?_some h3
    obtain ⟨b, off, spot⟩ := a
    have hspot : spot = none := by
      obtain ⟨cs0, g3, _⟩ := hx 0 (by have := (List.getElem?_eq_some_iff.1 hi).1; omega)
      obtain ⟨_, g5, g6⟩ := World.cells?_some g3
      have h0 := g6 0 (by omega)
      have : 0 < cs0.length := by omega
      rw [List.getElem?_eq_getElem this] at h0
      have := World.cell?_spot h0
      simpa [Addr.add] using this
    subst hspot
    refine ⟨b, off, cs', rfl, by omega, fun j u hu => ?_, h4⟩
    have hj : j < P.cellsOf e := by have := (List.getElem?_eq_some_iff.1 hu).1; omega
    have := h6 j hj
    rw [Addr.add_lit, Addr.add_lit, hu, hc] at this
    exact this

/-- the fields of a struct from one offset on read as S says -/
def FieldsOpen {β : Type} (P : Program) (N : Nat) (fs : List Field) (off : Nat) (S : Rd β) : Prop :=
  off ≤ N ∧ ∀ {H : Type} (enc : TypeId × Value → H) (w : World) (base : Nat) (spare : Nat → Bool) (held : Bool) (n : Nat) (cs : List Value), cs.length = N →
    (∀ f ∈ fs, ∃ x, DataW.trod enc P w base spare held n f.type ((cs.drop f.offset).take (P.cellsOf f.type)) = some x) → ∃ b, S w (cs.drop off) b

theorem fields_nil {P : Program} {N : Nat} : FieldsOpen P N [] N RNil :=
  ⟨Nat.le_refl _, fun _ _ _ _ _ _ cs hN _ => ⟨(), by simp [RNil, hN]⟩⟩
theorem fields_cons {P : Program} {N : Nat} {f : Field} {fs : List Field} {off sz : Nat} {α β : Type} {R : Rd α} {S : Rd β} (ho : f.offset = off) (hs : P.cellsOf f.type = sz) (hR : Opens P f.type R)
    (h : FieldsOpen P N fs (off + sz) S) : FieldsOpen P N (f :: fs) off (RCons sz R S) := by
  obtain ⟨hle, ih⟩ := h
  refine ⟨by omega, fun enc w base spare held n cs hN hf => ?_⟩
  obtain ⟨x, hx⟩ := hf f (by simp)
  obtain ⟨a, ha⟩ := hR enc w base spare held n _ _ hx
  obtain ⟨b, hb⟩ := ih enc w base spare held n cs hN (fun g hg => hf g (by simp [hg]))
  refine ⟨(a, b), (cs.drop off).take sz, cs.drop (off + sz), ?_, ?_, ?_, hb⟩
  · rw [← List.drop_drop, List.take_append_drop]
  · simp; omega
  · rw [ho, hs] at ha; exact ha

theorem opens_struct {P : Program} {t : TypeId} {fs : Array Field} {β : Type} {S : Rd β} (ht : P.underlying t = some (.struct fs)) (h : FieldsOpen P (P.cellsOf t) fs.toList 0 S) : Opens P t S := by
  intro H enc w base spare held fuel cs x hx
  obtain ⟨xs, n, _, _, hl, hlen, hf⟩ := DataW.trod_struct ht hx
  obtain ⟨b, hb⟩ := h.2 enc w base spare held n cs hl (by
    intro f hfm
    obtain ⟨i, hi⟩ := List.mem_iff_getElem?.1 hfm
    have h1 : fs[i]? = some f := by simpa using hi
    have h2 := hf i f h1
    have hlt : i < xs.length := by
      rw [hlen]
      have := (Array.getElem?_eq_some_iff.1 h1).1
      exact this
    exact ⟨xs[i], by rw [h2]; simp [hlt]⟩)
  exact ⟨b, by simpa using hb⟩

theorem opens_map {α β : Type} {P : Program} {t : TypeId} {R : Rd α} {S : Rd β} (hR : Opens P t R) (h : ∀ w cs a, R w cs a → ∃ b, S w cs b) : Opens P t S := by
  intro H enc w base spare held fuel cs x hx
  obtain ⟨a, ha⟩ := hR enc w base spare held fuel cs x hx
  exact h _ _ _ ha

theorem opens_ints_of {P : Program} {t e : TypeId} (ht : P.underlying t = some (.slice e)) (he : P.underlying e = some (.int .i64)) (hc : P.cellsOf e = 1) : Opens P t (RSlice 1 (RInt .i64)) := opens_slice ht hc (by decide) (opens_int he)
/-- one element of a slice of numbers -/
theorem ints_cell {w : World} {a : Option Addr} {l : List Int} (h : ∀ i x, l[i]? = some x → ∃ b off ecs, a = some ⟨b, off, none⟩ ∧ ecs.length = 1 ∧ (∀ j u, ecs[j]? = some u → w.cell? ⟨b, off + i * 1 + j, none⟩ = some u) ∧ RInt .i64 w ecs x) (i : Nat) (hi : i < l.length) :
    ∃ b off, a = some ⟨b, off, none⟩ ∧ w.cell? ⟨b, off + i, none⟩ = some (.int .i64 l[i]) ∧ -9223372036854775808 ≤ l[i] ∧ l[i] ≤ 9223372036854775807 := by
  obtain ⟨b, off, ecs, h1, h2, h3, h4, h5⟩ := h i l[i] (List.getElem?_eq_getElem hi)
  subst h4
  refine ⟨b, off, h1, by simpa using h3 0 _ rfl, ?_⟩
  simpa [Lit.wf, IntKind.min, IntKind.max, IntKind.signed, IntKind.bits] using h5
theorem okWide_agg {P : Program} {w : World} {r : Reach} {base : Nat} {t : TypeId} {v : Value} {fs : Array Field} (ht : P.underlying t = some (.struct fs)) (h : Value.okWide P w r base t v) : ∃ cs, v = .agg cs := by
  unfold Value.okWide at h
  rw [ht] at h
  obtain ⟨cs, h, _⟩ := h
  exact ⟨cs, h⟩
theorem wf_u8 {n : Int} (h : (Lit.int .u8 n).wf = true) : 0 ≤ n ∧ n ≤ 255 := by simpa [Lit.wf, IntKind.min, IntKind.max, IntKind.signed, IntKind.bits] using h
theorem wf_u16 {n : Int} (h : (Lit.int .u16 n).wf = true) : 0 ≤ n ∧ n ≤ 65535 := by simpa [Lit.wf, IntKind.min, IntKind.max, IntKind.signed, IntKind.bits] using h
theorem wf_i64 {n : Int} (h : (Lit.int .i64 n).wf = true) : -9223372036854775808 ≤ n ∧ n ≤ 9223372036854775807 := by simpa [Lit.wf, IntKind.min, IntKind.max, IntKind.signed, IntKind.bits] using h
end Go.Proofs.Ytnelgellbabkoaa

/- Laws for blocks and rows that a call owns. No condition. -/
namespace Go.Proofs.Ytnelgellbabkoaa
open Go.RowKit

theorem own_type {w : World} {B : Nat} {e : TypeId} {size : Nat} {v : Value} {n : Nat} {xs : List Value} (h : w.ownsRow B e size v n xs) : ∀ k, v.ownBlock = some k → ∃ cs, w.heap[k]? = some (.cells cs e (0, 0)) := by
  intro k hk
  rcases h.2 with ⟨h1, _⟩ | ⟨g, cap, cur, h1, _, hg, _⟩
  · rw [h1] at hk; simp [Value.ownBlock] at hk
  · rw [h1] at hk
    simp [Value.ownBlock] at hk
    subst hk
    exact ⟨_, hg⟩
theorem apart_type {w : World} {B B' : Nat} {e e' : TypeId} {size size' : Nat} {v v' : Value} {n n' : Nat} {xs xs' : List Value} (h : w.ownsRow B e size v n xs) (h' : w.ownsRow B' e' size' v' n' xs') (hne : e ≠ e') : ∀ k, v.ownBlock = some k → v'.ownBlock ≠ some k := by
  intro k hk hk'
  obtain ⟨c, hc⟩ := own_type h k hk
  obtain ⟨c', hc'⟩ := own_type h' k hk'
  rw [hc] at hc'
  simp at hc'
  exact hne hc'.2
theorem apart_block {w : World} {B : Nat} {e t : TypeId} {size : Nat} {v : Value} {n : Nat} {xs : List Value} {x : Nat} {cs : Array Value} {fr : Nat × Nat} (h : w.ownsRow B e size v n xs) (hx : w.heap[x]? = some (.cells cs t fr)) (hne : e ≠ t) : v.ownBlock ≠ some x := by
  intro hk
  obtain ⟨c, hc⟩ := own_type h x hk
  rw [hc] at hx
  simp at hx
  exact hne hx.2.1
theorem cells_at {w : World} {p : Nat} {cs : Array Value} {t : TypeId} {fr : Nat × Nat} (h : w.heap[p]? = some (.cells cs t fr)) (i : Nat) : w.cell? ⟨p, i, none⟩ = cs[i]? := cell_of_row w p i cs t fr h
theorem frozen_at {w : World} {p : Nat} {cs : Array Value} {t : TypeId} (h : w.heap[p]? = some (.cells cs t (0, 0))) (i : Nat) : w.frozen? ⟨p, i, none⟩ = false := frozen_of_row w p i cs t h
theorem heap_to {w w' : World} {S : Nat → Prop} {f : Nat} {o : Obj} (h : w.heap[f]? = some o) (hf : Frm S w w') (hS : ¬ S f) : w'.heap[f]? = some o :=
  (hf.block f (Array.getElem?_eq_some_iff.1 h).1 hS).trans h

theorem own_shape {w : World} {B : Nat} {e : TypeId} {size : Nat} {v : Value} {n : Nat} {xs : List Value} (h : w.ownsRow B e size v n xs) : ∃ a cap, v = .slice a n cap := by
  rcases h.2 with ⟨h1, h2⟩ | ⟨g, cap, _, h1, _⟩
  · exact ⟨none, 0, by rw [h1, h2]⟩
  · exact ⟨_, cap, h1⟩
theorem frm_cell {x : Nat} {a w : World} (h : Frm (fun k => k = x) a w) (i : Nat) (u : Value) : Frm (fun k => k = x) a (w.setCell ⟨x, i, none⟩ u) := Frm.setCell (S := fun k => k = x) h (p := ⟨x, i, none⟩) (.inr rfl) u
theorem grown_drew {w w' : World} {row : Option Nat} (h : w.drew.grownBy w' row) : w.grownBy w' row := ⟨h.os, h.tape, h.output, h.size, h.block⟩
/-- a block stays where memory only grows -/
theorem heap_below {w w' : World} (h : Below w.heap.size w w') {k : Nat} {o : Obj} (hk : w.heap[k]? = some o) : w'.heap[k]? = some o := (h.block k (Array.getElem?_eq_some_iff.1 hk).1).trans hk
/-- a row of one cell an element, that grows by one -/
theorem frm_of_grown {w w' : World} {v : Value} (h : w.grownBy w' v.ownBlock) : Frm (fun k => v.ownBlock = some k) w w' := ⟨h.os, h.tape, h.output, h.size, fun k hk hne => h.block k hk (fun e => hne e.symm)⟩
theorem below_alloc1 (w : World) (o : Obj) : Below w.heap.size w (w.alloc o) := (Below.refl _ _).alloc (Nat.le_refl _) _
/-- blocks of one type are as they were -/
def KeepT (t : TypeId) (w w' : World) : Prop := ∀ (k : Nat) (cs : Array Value) (fr : Nat × Nat), w.heap[k]? = some (.cells cs t fr) → w'.heap[k]? = some (.cells cs t fr)
theorem KeepT.refl (t : TypeId) (w : World) : KeepT t w w := fun _ _ _ h => h
theorem KeepT.trans {t : TypeId} {a b c : World} (h : KeepT t a b) (k : KeepT t b c) : KeepT t a c := fun i cs fr h1 => k i cs fr (h i cs fr h1)
theorem keepT_below {t : TypeId} {w w' : World} (h : Below w.heap.size w w') : KeepT t w w' := fun _ _ _ h1 => heap_below h h1
theorem keepT_grown {t e : TypeId} {w w' : World} {B size : Nat} {v : Value} {n : Nat} {xs : List Value} (hg : w.grownBy w' v.ownBlock) (hown : w.ownsRow B e size v n xs) (hne : e ≠ t) : KeepT t w w' :=
  fun k _ _ h => (hg.block k (Array.getElem?_eq_some_iff.1 h).1 (fun hk => apart_block hown h hne hk.symm)).trans h
theorem keepT_set {t e : TypeId} {w : World} {b : Nat} {cs : Array Value} {fr : Nat × Nat} (hb : w.heap[b]? = some (.cells cs e fr)) (hne : e ≠ t) (i : Nat) (u : Value) : KeepT t w (w.setCell ⟨b, i, none⟩ u) := by
  intro k cs' fr' h
  have hk : k ≠ b := by
    rintro rfl
    rw [hb] at h
    simp at h
    exact hne h.2.1
  rw [Below.heap_setCell _ _ _ _ hk]
  exact h
theorem heap_new_at {w : World} {o : Obj} {n : Nat} (h : w.heap.size = n) : (w.alloc o).heap[n]? = some o := by subst h; exact heap_alloc_new w o
end Go.Proofs.Ytnelgellbabkoaa

/- A slice's elements as values, and a row that a call owns read as a slice. No condition. -/
namespace Go.Proofs.Ytnelgellbabkoaa
open Go.RowKit

/-- the elements of a slice, one cell each, as values -/
theorem slice_vals {α : Type} {R : Rd α} {w : World} {v : Value} {l : List α} (h : RSlice 1 R w [v] l) : ∃ (a : Option Addr) (cap : Nat) (vs : List Value), v = .slice a l.length cap ∧ l.length ≤ cap ∧ cap ≤ maxLen ∧ vs.length = l.length ∧ (∀ (i : Nat) u, vs[i]? = some u → ∃ b off, a = some ⟨b, off, none⟩ ∧ w.cell? ⟨b, off + i, none⟩ = some u) ∧ ∀ (i : Nat) u x, vs[i]? = some u → l[i]? = some x → R w [u] x := by
  obtain ⟨a, cap, hv, hcap, hmax, hel⟩ := h
  simp only [List.cons.injEq, and_true] at hv
  have hex : ∀ i (hi : i < l.length), ∃ u, (∃ b off, a = some ⟨b, off, none⟩ ∧ w.cell? ⟨b, off + i, none⟩ = some u) ∧ R w [u] l[i] := by
    intro i hi
    obtain ⟨b, off, ecs, h1, h2, h3, h4⟩ := hel i l[i] (List.getElem?_eq_getElem hi)
    match ecs, h2 with
    | [u], _ => exact ⟨u, ⟨b, off, h1, by simpa using h3 0 u rfl⟩, h4⟩
  have build : ∀ k, k ≤ l.length → ∃ vs : List Value, vs.length = k ∧ (∀ (i : Nat) u, vs[i]? = some u → ∃ b off, a = some ⟨b, off, none⟩ ∧ w.cell? ⟨b, off + i, none⟩ = some u) ∧ ∀ (i : Nat) u x, vs[i]? = some u → l[i]? = some x → R w [u] x := by
    intro k
    induction k with
    | zero => exact fun _ => ⟨[], rfl, fun i u h => by simp at h, fun i u x h => by simp at h⟩
    | succ k ih =>
      intro hk
      obtain ⟨vs, h1, h2, h3⟩ := ih (by omega)
      obtain ⟨u, h4, h5⟩ := hex k (by omega)
      refine ⟨vs ++ [u], by simp [h1], fun i x hx => ?_, fun i x y hx hy => ?_⟩
      · by_cases hi : i < vs.length
        · rw [List.getElem?_append_left hi] at hx; exact h2 i x hx
        · have hlt := (List.getElem?_eq_some_iff.1 hx).1
          have e : i = vs.length := by simp at hlt; omega
          rw [List.getElem?_append_right (by omega), e, Nat.sub_self] at hx
          simp at hx; subst hx
          rw [e, h1]; exact h4
      · by_cases hi : i < vs.length
        · rw [List.getElem?_append_left hi] at hx; exact h3 i x y hx hy
        · have hlt := (List.getElem?_eq_some_iff.1 hx).1
          have e : i = vs.length := by simp at hlt; omega
          rw [List.getElem?_append_right (by omega), e, Nat.sub_self] at hx
          simp at hx; subst hx
          rw [e, h1, List.getElem?_eq_getElem (by omega)] at hy
          simp at hy; subst hy
          exact h5
  obtain ⟨vs, h1, h2, h3⟩ := build l.length (Nat.le_refl _)
  exact ⟨a, cap, vs, hv, hcap, hmax, h1, h2, h3⟩
/-- a row that the call owns, each of whose cells reads, reads as a slice -/
theorem slice_of_owns {α : Type} {R : Rd α} {w : World} {B : Nat} {e : TypeId} {v : Value} {vs : List Value} {l : List α} (hlen : vs.length = l.length) (h : w.ownsRow B e 1 v l.length vs) (hr : ∀ (i : Nat) u x, vs[i]? = some u → l[i]? = some x → R w [u] x) : RSlice 1 R w [v] l := by
  obtain ⟨a, cap, rfl, h1, h2, h3⟩ := Sl.of_owns h
  refine ⟨a, cap, rfl, h1, h2, fun i f hi => ?_⟩
  have hil := (List.getElem?_eq_some_iff.1 hi).1
  have hiv : i < vs.length := by omega
  obtain ⟨b, off, ha, hc⟩ := h3 i vs[i] (List.getElem?_eq_getElem hiv)
  refine ⟨b, off, [vs[i]], ha, rfl, fun j u hu => ?_, hr i _ f (List.getElem?_eq_getElem hiv) hi⟩
  have hj : j = 0 := by have := (List.getElem?_eq_some_iff.1 hu).1; simp at this; omega
  subst hj
  simp at hu
  subst hu
  simpa using hc
end Go.Proofs.Ytnelgellbabkoaa

/- The walks of slices.Values, AppendSeq, Collect, Sorted and Compact at texts: a sorted row without what stands twice. Condition: at most a million texts. -/
namespace Go.Proofs.Ytnelgellbabkoaa
open Go.RowKit Go.Shelf

attribute [local go_sem] Oper.semAt_some

abbrev RSs : Rd (List ByteArray) := RSlice 1 RStr
theorem strs_open {w : World} {v : Value} {l : List ByteArray} (h : RSs w [v] l) : ∃ a cap, v = .slice a l.length cap ∧ l.length ≤ 9223372036854775807 ∧ ∀ i (hi : i < l.length), ∃ b off, a = some ⟨b, off, none⟩ ∧ w.cell? ⟨b, off + i, none⟩ = some (.string l[i]) ∧ l[i].size ≤ maxLen := by
  obtain ⟨a, cap, hv, hcap, hmax, hel⟩ := h
  simp only [List.cons.injEq, and_true] at hv
  unfold maxLen at hmax
  refine ⟨a, cap, hv, by omega, fun i hi => ?_⟩
  obtain ⟨b, off, ecs, h1, h2, h3, h4, h5⟩ := hel i l[i] (List.getElem?_eq_getElem hi)
  subst h4
  exact ⟨b, off, h1, by simpa using h3 0 _ rfl, h5⟩
set_option maxRecDepth 100000 in
set_option maxHeartbeats 2000000 in
/-- the iterator's rounds -/
theorem vals_rounds (F : Fence) (n : Nat) (h7 : F.fn 154) (hro : F.round = none) (hn : 1 ≤ n) (l Bs n₀ len cap : Nat) (a : Option Addr) (zs : List ByteArray) (hz : len = zs.length) (hreach : len ≤ 1000000) (J Jx : List ByteArray → World → Prop)
    (hY : ∀ pre x W, J pre W → pre.length < len → YieldAt F (n - 1) Try.prog l #[.string x] W fun e W' =>
      (e = .returned (.bool true) ∧ J (pre ++ [x]) W' ∧ Below n₀ W W') ∨ (e = .returned (.bool false) ∧ Jx (pre ++ [x]) W'))
    (W : World) (hBs : W.cell? ⟨Bs, 0, none⟩ = some (.slice a len cap)) (hc : ∀ j (hj : j < zs.length), ∃ b off, a = some ⟨b, off, none⟩ ∧ b < n₀ ∧ W.cell? ⟨b, off + j, none⟩ = some (.string zs[j])) (h0 : J [] W) :
    CallsIn F n Try.prog 154 #[.func (.yield l) #[] #[], .pointer (some ⟨Bs, 0, none⟩)] W fun e W' => (∃ v, e = .returned v) ∧
      ((∃ ys, ys = zs ∧ J ys W') ∨ (∃ pre, pre <+: zs ∧ Jx pre W')) := by
  have HC := Lib.hid hc
  have HZ := Lib.hid hz
  clear hc hz
  refine callsIn_of_wp Try.func154 rfl h7 ?_ hro
  simp only [Try.ntmps154, List.size_toArray, List.length_cons, List.length_nil, Nat.reduceAdd, Nat.reduceSub, Array.replicate_succ, Array.replicate_zero, List.push_toArray, List.append_toArray, List.nil_append, List.cons_append]
  gi_wp2
  gi_loopw [7] (fun i wr => ∃ k : Nat, k ≤ len ∧ i = .int .i64 k ∧ J (zs.take k) wr ∧ Below n₀ W wr) (fun i _ => len - (intOf i).toNat)
  case atStart => exact ⟨0, Nat.zero_le _, rfl, by simpa using h0, Below.refl _ _⟩
  case round =>
    obtain ⟨k, hk, rfl, hJs, hnx⟩ := hrel
    by_cases hlt : k < len
    · have hkz : k < zs.length := by have := HZ.out; omega
      obtain ⟨b, off, rfl, hb, hcx⟩ := HC.out k hkz
      obtain ⟨x, hx⟩ : ∃ x, x = zs[k] := ⟨_, rfl⟩
      rw [← hx] at hcx
      have hcx' : wr.cell? ⟨b, off + k, none⟩ = some (.string x) := (hnx.cell (p := ⟨b, off + k, none⟩) hb).trans hcx
      have hsn : zs.take k ++ [x] = zs.take (k + 1) := by rw [List.take_succ_eq_append_getElem hkz, hx]
      obtain ⟨fn, tmps, assign, body, hy, hR⟩ := hY _ x wr hJs (by rw [List.length_take]; omega)
      rw [hsn] at hR
      have k5 : (0 : Int) ≤ (k : Int) := by omega
      have k6 : (k : Int) < (len : Int) := by omega
      clear hx hcx
      have HSN := Lib.hid hsn
      clear hsn hkz
      gi_wp2
      refine hR.mono ?_
      rintro e W3 (⟨rfl, hJ3, hk3⟩ | ⟨rfl, hJx3⟩)
      · gi_wp2
        go_roundw
        case rel => exact ⟨k + 1, by omega, by simp, hJ3, hnx.trans hk3⟩
        case measure => simp [intOf]; omega
      · gi_wp2
        refine bodyPost_ret (results_none rfl _ _ _) rfl ?_
        exact ⟨⟨_, rfl⟩, .inr ⟨_, List.take_prefix _ _, hJx3⟩⟩
    · obtain rfl : k = len := by omega
      have e : zs.take k = zs := List.take_of_length_le (by have := HZ.out; omega)
      rw [e] at hJs
      clear e
      gi_wp2
      go_end0
      exact ⟨⟨_, rfl⟩, .inl ⟨_, rfl, hJs⟩⟩
theorem vals_stops (F : Fence) (n : Nat) (h7 : F.fn 154) (hro : F.round = none) (hn : 1 ≤ n) (Bs n₀ : Nat) (sv : Value) (zs : List ByteArray) (hreach : zs.length ≤ 1000000) (w : World) (hBs : Bs < w.heap.size) (_ : n₀ ≤ w.heap.size)
    (hc : w.cell? ⟨Bs, 0, none⟩ = some sv) (w0 : World) (hw0 : w0.heap.size ≤ n₀) (hI : RSs w0 [sv] zs) (hb0 : Below w0.heap.size w0 w) :
    SeqStopsK F n Try.prog 154 #[.pointer (some ⟨Bs, 0, none⟩)] (fun x : ByteArray => #[Value.string x]) (Below n₀) (fun ys => ys = zs) (fun pre => pre <+: zs) zs.length w := fun l J Jx W hW _ _ hY h0 => by
  have hc' := (hW.cell (p := ⟨Bs, 0, none⟩) hBs).trans hc
  obtain ⟨a, cap, rfl, hz, g⟩ := strs_open hI
  refine vals_rounds F n h7 hro hn l Bs n₀ zs.length cap a zs rfl hreach J Jx hY W hc' (fun j hj => ?_) h0
  obtain ⟨b, off, h1, h2, _⟩ := g j hj
  have hlt := World.block_lt_of_cell? w0 _ h2
  exact ⟨b, off, h1, by simp at hlt; omega, cell_later (hb0.trans (hW.mono hb0.size)) h2⟩

theorem info_str : (Try.prog.info? 9).map (fun i => (i.zero, i.size, i.bytes)) = some (some (.string ⟨#[]⟩), 1, 16) := by kernel_rfl
abbrev strv : ByteArray → Value := Value.string
set_option maxRecDepth 100000 in
set_option maxHeartbeats 2000000 in
/-- slices.AppendSeq(nil, slices.Values(zs)) -/
theorem appendSeq_in (F : Fence) (n : Nat) (h3 : F.fn 158) (h5 : F.fn 154) (hro : F.round = none) (hn : 3 ≤ n) (Bs : Nat) (sv : Value) (zs : List ByteArray) (hreach : zs.length ≤ 1000000) (w : World) (hBs : Bs < w.heap.size) (hc : w.cell? ⟨Bs, 0, none⟩ = some sv) (hI : RSs w [sv] zs) :
    CallsIn F n Try.prog 158 #[.slice none 0 0, .func (.func 154) #[] #[.pointer (some ⟨Bs, 0, none⟩)]] w fun e W' => ∃ v, e = .returned v ∧ W'.ownsRow w.heap.size 9 1 v zs.length (zs.map strv) ∧ Below w.heap.size w W' := by
  have h1 : 1 ≤ n := by omega
  obtain ⟨i0, hi, hz0, hz1, hz2⟩ := info_parts info_str
  refine callsIn_of_wp_marks Try.func158 rfl h3 ?_ hro
  simp only [Try.ntmps158, List.size_toArray, List.length_cons, List.length_nil, Nat.reduceAdd, Nat.reduceSub, Array.replicate_succ, Array.replicate_zero, List.push_toArray, List.append_toArray, List.nil_append, List.cons_append]
  have HI := Lib.hid hI
  clear hI
  gi_wp2
  have bO := Boxed.new w 33 (.slice none 0 0)
  have hB0 : Below w.heap.size w (w.alloc (.cells #[.slice none 0 0] 33)) := (Below.refl _ w).alloc (Nat.le_refl _) _
  refine wpIn_rangeFunc_ownG hro h1 (gf := 154) (lb := #[.pointer (some ⟨Bs, 0, none⟩)]) rfl h5 (enters_of Try.func154 (by kernel_rfl) rfl)
    (vals_stops F (n - 1) h5 hro (by omega) Bs w.heap.size sv zs hreach _ (by simp; omega) (by simp) ((hB0.cell (p := ⟨Bs, 0, none⟩) hBs).trans hc) w (Nat.le_refl _) HI.out hB0) belowK_t (belowK_b (by simp)) (Below.refl _ _) (fun _ => rfl)
    (fun (pre : List ByteArray) W => (∃ v, Boxed W w.heap.size 33 v ∧ W.ownsRow w.heap.size 9 1 v pre.length (pre.map strv) ∧ True) ∧ Below w.heap.size w W)
    (fun _ _ _ => False)
    (OwnFrom.and (Own.from (holdsRow_own w.heap.size w.heap.size 33 9 1 (fun (pre : List ByteArray) => pre.length) (fun (pre : List ByteArray) => pre.map strv) (fun _ _ => True)) _) (ownFrom_below (Nat.le_refl _) (by simp)))
    (fun _ _ _ _ _ hs _ _ => hs)
    ⟨⟨_, bO, World.ownsRow_nil _ _ _ _, trivial⟩, hB0⟩
    (fun x => { tmps := #[.slice none 0 0, .func (.func 154) #[] #[.pointer (some ⟨Bs, 0, none⟩)], .pointer (some ⟨w.heap.size, 0, none⟩), undef, .slice none 0 0, .string x, .func (.func 154) #[] #[.pointer (some ⟨Bs, 0, none⟩)], .string x, undef, undef, undef, undef, undef], defers := [] }) ?assign ?body ?done ?stop
  case assign =>
    intro l x W K hK
    gi_wp2
    exact hK
  case body =>
    rintro l pre x W ⟨⟨v, hv, hrow, _⟩, hB⟩ hlt
    have hc1 := hv.cell
    gi_wp2_with (gi_at_builtin; refine wpListIn_append_own _ rfl _ _ 33 rfl w.heap.size 9 i0 (.string ⟨#[]⟩) 1 16 Try.underlying33 hi hz0 hz1 hz2 rfl (by decide) _ _ _ rfl (hrow.alloc _) ⟨W.heap.size, 0, none⟩ 1 1 [.string x] rfl rfl (cell_one_new _ _ _) (by simp [Value.oneCell']) (by unfold maxLen; omega) (by omega) (by have := hB.size; simp; omega) ?_; intro v' w1 hown' hgrow _; obtain ⟨g', cap', rfl⟩ := ownsRow_succ hown'; obtain ⟨hv1, hv2, hr2, hk2, hb2⟩ := hv.appended (by decide) hrow hB.size (Nat.le_refl _) hown' hgrow; have hc1 := hv1.cell; have hf1 := hv1.frozen)
    exact ⟨hk2.from _, hb2, ⟨_, hv2, by simpa using hr2, trivial⟩, hB.trans hb2⟩
  case done =>
    rintro D ys W hD rfl ⟨⟨v, hv, hrow, _⟩, hB⟩ hK
    have hc1 := hv.cell
    gi_wp2
    refine ⟨by simp, .inl ⟨_, _, rfl, run_takeDeferred hK, ?_⟩⟩
    exact ⟨_, results_tmp rfl _ _ _, v, rfl, ownsRow_putObj hrow _ hK rfl, hB.trans (belowK_b (w := w) (Nat.le_refl _) W D _ _ (by simp at hD; omega) hK rfl rfl)⟩
  case stop =>
    rintro D c pre W _ _ h _
    exact h.elim
end Go.Proofs.Ytnelgellbabkoaa

/- Plain facts: a sorted row without what stands twice is shorter just if two are alike. No condition. -/
namespace Go.Proofs.Ytnelgellbabkoaa.TwiceM
open Go.Lib

theorem compact_lt {α : Type} [Inhabited α] [DecidableEq α] (S : List α) : (compact S).length < S.length ↔ ∃ j, 0 < j ∧ j < S.length ∧ S.toArray[j]! = S.toArray[j - 1]! := by
  unfold compact compactUpTo
  rw [List.length_map]
  have h : (List.filter (keeps S.toArray) (List.range S.length)).length < (List.range S.length).length ↔ ∃ x ∈ List.range S.length, ¬ keeps S.toArray x = true := List.length_filter_lt_length_iff_exists
  rw [List.length_range] at h
  rw [h]
  constructor
  · rintro ⟨j, hj, hk⟩
    simp only [List.mem_range] at hj
    unfold keeps at hk
    simp only [decide_eq_true_eq, not_or, Classical.not_not] at hk
    exact ⟨j, by omega, hj, hk.2⟩
  · rintro ⟨j, h0, hj, he⟩
    refine ⟨j, by simpa using hj, ?_⟩
    unfold keeps
    simp only [decide_eq_true_eq, not_or, Classical.not_not]
    exact ⟨by omega, he⟩
abbrev leB (x y : List UInt8) : Bool := decide (x ≤ y)
theorem sorted (L : List (List UInt8)) : (L.mergeSort leB).Pairwise fun x y => x ≤ y := by
  have := List.pairwise_mergeSort (le := leB) (fun a b c h1 h2 => by simp only [leB, decide_eq_true_eq] at *; exact List.le_trans h1 h2) (fun a b => by simp only [leB, Bool.or_eq_true, decide_eq_true_eq]; exact List.le_total a b) L
  exact this.imp fun h => by simpa [leB] using h
theorem compact_sort (L : List (List UInt8)) : (compact (L.mergeSort leB)).length < L.length ↔ ¬ L.Nodup := by
  have hp : (L.mergeSort leB).Perm L := List.mergeSort_perm _ _
  obtain ⟨S, hS⟩ : ∃ S, S = L.mergeSort leB := ⟨_, rfl⟩
  have hs := sorted L
  rw [← hS] at hs hp ⊢
  rw [← hp.length_eq, compact_lt, ← hp.nodup_iff]
  constructor
  · rintro ⟨j, h0, hj, he⟩ hn
    rw [getElem!_pos S.toArray j (by simpa using hj), getElem!_pos S.toArray (j - 1) (by simp; omega)] at he
    simp only [List.getElem_toArray] at he
    have := List.pairwise_iff_getElem.1 hn (j - 1) j (by omega) hj (by omega)
    exact this he.symm
  · intro hn
    have hex : ∃ i j, ∃ (hi : i < S.length) (hj : j < S.length), i < j ∧ S[i] = S[j] := by
      apply Classical.byContradiction
      intro hno
      refine hn (List.pairwise_iff_getElem.2 fun i j hi hj hij e => hno ⟨i, j, hi, hj, hij, e⟩)
    obtain ⟨i, j, hi, hj, hij, e⟩ := hex
    refine ⟨j, by omega, hj, ?_⟩
    rw [getElem!_pos S.toArray j (by simpa using hj), getElem!_pos S.toArray (j - 1) (by simp; omega)]
    simp only [List.getElem_toArray]
    by_cases h1 : i = j - 1
    · subst h1; exact e.symm
    · have q1 := List.pairwise_iff_getElem.1 hs i (j - 1) hi (by omega) (by omega)
      have q2 := List.pairwise_iff_getElem.1 hs (j - 1) j (by omega) hj (by omega)
      rw [e] at q1
      exact List.le_antisymm q1 q2
/-- whether two of texts are alike -/
def twiceOf (l : List ByteArray) : Bool := decide ((compact ((l.map (·.data.toList)).mergeSort leB)).length < l.length)
theorem bytes_inj {a b : ByteArray} (h : a.data.toList = b.data.toList) : a = b := by
  cases a; cases b
  simp only [ByteArray.mk.injEq]
  exact Array.toList_inj.1 h
theorem twice_iff (l : List ByteArray) : twiceOf l = !decide l.Nodup := by
  unfold twiceOf
  have h := compact_sort (l.map (·.data.toList))
  rw [List.length_map] at h
  have h2 : (l.map (·.data.toList)).Nodup ↔ l.Nodup := by
    unfold List.Nodup
    rw [List.pairwise_map]
    constructor
    · exact fun h => h.imp fun h e => h (by rw [e])
    · exact fun h => h.imp fun h e => h (bytes_inj e)
  rw [h2] at h
  rw [Bool.eq_iff_iff]
  simp only [decide_eq_true_eq, Bool.not_eq_true', decide_eq_false_iff_not]
  exact h
end Go.Proofs.Ytnelgellbabkoaa.TwiceM

/- The walk of variant.twice: whether two of texts are alike. Condition: at most a million texts. -/
namespace Go.Proofs.Ytnelgellbabkoaa
open Go.RowKit Go.Lib Go.Sort Go.Shelf
open TwiceM (twiceOf leB)

theorem appendSeq_any (Bs : Nat) (sv : Value) (zs : List ByteArray) (hreach : zs.length ≤ 1000000) (w : World) (hBs : Bs < w.heap.size) (hc : w.cell? ⟨Bs, 0, none⟩ = some sv) (hI : RSs w [sv] zs) :
    Calls Try.prog 158 #[.slice none 0 0, .func (.func 154) #[] #[.pointer (some ⟨Bs, 0, none⟩)]] w fun e W' => ∃ v, e = .returned v ∧ W'.ownsRow w.heap.size 9 1 v zs.length (zs.map strv) ∧ Below w.heap.size w W' :=
  (callsIn_wide (n := 6)).1 (appendSeq_in Fence.wide 6 trivial trivial rfl (by omega) Bs sv zs hreach w hBs hc hI)
set_option maxRecDepth 10000 in
theorem collect_any (Bs : Nat) (sv : Value) (zs : List ByteArray) (hreach : zs.length ≤ 1000000) (w : World) (hBs : Bs < w.heap.size) (hc : w.cell? ⟨Bs, 0, none⟩ = some sv) (hI : RSs w [sv] zs) :
    Calls Try.prog 152 #[.func (.func 154) #[] #[.pointer (some ⟨Bs, 0, none⟩)]] w fun e W' => ∃ v, e = .returned v ∧ W'.ownsRow w.heap.size 9 1 v zs.length (zs.map strv) ∧ Below w.heap.size w W' := by
  have hA := appendSeq_any Bs sv zs hreach w hBs hc hI
  have HA := Lib.hid hA; have Hc := Lib.hid hc; have HI := Lib.hid hI; have HBs := Lib.hid hBs; clear hA hc hI hBs
  go_enter Try.func152, Try.ntmps152
  go_wp2_with fail
  refine HA.out.mono ?_
  rintro e w1 ⟨v, rfl, h1, h2⟩
  have H1 := Lib.hid h1; have H2 := Lib.hid h2; clear h1 h2
  go_wp2_with fail
  go_ret
  exact ⟨v, rfl, H1.out, H2.out⟩
theorem str_nil_or {w : World} {B : Nat} {v : Value} {n : Nat} {xs : List Value} (h : w.ownsRow B 9 1 v n xs) (hn : n = 0) : ∃ a cap, v = .slice a 0 cap := by
  rcases h.2 with ⟨h1, _⟩ | ⟨g, cap, cur, h1, _⟩
  · exact ⟨none, 0, h1⟩
  · exact ⟨_, cap, by rw [h1, hn]⟩
theorem grownBy_grow' {w w' : World} {row : Option Nat} (h : w.grownBy w' row) (os : Array Obj) : w.grownBy (grow w' os) row :=
  ⟨h.os, h.tape, h.output, by have := h.size; simp; omega, fun k hk hne => by rw [heap_grow_old w' os (by have := h.size; omega)]; exact h.block k hk hne⟩
theorem grownBy_put' {α : Type} [Inhabited α] (enc : α → Value) (w : World) (g q : Nat) (d : Array α) : w.grownBy (putRow enc (Sort.ahead w q) g 0 d) (some g) :=
  ⟨rfl, rfl, rfl, by simp [putRow, mapBlock, Sort.ahead], fun k _ hne => by
    have : g ≠ k := fun e => hne (by rw [e])
    simp [putRow, mapBlock, Sort.ahead, Array.getElem?_modify, this]⟩
theorem sortStr_own {W : World} {B : Nat} {v : Value} {L : List (List UInt8)} (hown : W.ownsRow B 9 1 v L.length (L.map encStr)) (hn : L.length ≤ 1000000) :
    Calls Try.prog 153 #[v] W fun e w' => e = .returned (.tuple #[]) ∧ w'.ownsRow B 9 1 v L.length ((L.mergeSort leB).map encStr) ∧ W.grownBy w' v.ownBlock := by
  by_cases h0 : L.length = 0
  · obtain ⟨a, cap, rfl⟩ := str_nil_or hown h0
    have hl : L = [] := List.eq_nil_of_length_eq_zero h0
    subst hl
    exact (Try.slices_Sort_string_none a cap W).mono fun e w' ⟨he, hw⟩ => ⟨he, by rw [hw]; simpa using hown, by rw [hw]; exact World.grownBy.refl _ _⟩
  · have hv : v ≠ .slice none 0 0 := by
      rintro rfl
      rcases hown.2 with ⟨_, h2⟩ | ⟨g, cap, cur, h1, _⟩
      · exact h0 (by simpa using h2)
      · cases h1
    obtain ⟨g, cap, rfl, hb, hlt, hnc, hcm, hl, hH⟩ := holds_of_ownsRow hown hv
    have hC := Try.slices_Sort_string g 0 cap L W hH hlt (by omega)
    have hlen : (L.mergeSort leB).length = L.length := (List.mergeSort_perm L leB).length_eq
    refine hC.mono fun e w' ⟨he, n, os, hw⟩ => ⟨he, ?_, ?_⟩
    · rw [hw]
      have h1 := ownsRow_putRow (q := n) (ys := L.mergeSort leB) hown hlen (Nat.le_refl _)
      rw [List.take_of_length_le (Nat.le_of_eq hlen)] at h1
      exact h1.kept (grownBy_grow' (World.grownBy.refl _ none) os) (.inr (by simp [Value.ownBlock]))
    · rw [hw]
      exact grownBy_grow' (grownBy_put' _ _ _ _ _) os
theorem compactStr_own {W : World} {B : Nat} {v : Value} {L : List (List UInt8)} (hown : W.ownsRow B 9 1 v L.length (L.map encStr)) (hn : L.length ≤ 1000000) :
    Calls Try.prog 137 #[v] W fun e w' => ∃ a c, e = .returned (.slice a (Lib.compact L).length c) ∧ W.grownBy w' v.ownBlock := by
  by_cases h0 : L.length = 0
  · have hl : L = [] := List.eq_nil_of_length_eq_zero h0
    subst hl
    obtain ⟨a, cap, rfl⟩ := str_nil_or hown rfl
    exact (Try.slices_Compact_string_empty a cap W).mono fun e w' ⟨he, hw⟩ => ⟨a, cap, he, by rw [hw]; exact World.grownBy.refl _ _⟩
  · have hv : v ≠ .slice none 0 0 := by
      rintro rfl
      rcases hown.2 with ⟨_, h2⟩ | ⟨g, cap, cur, h1, _⟩
      · exact h0 (by simpa using h2)
      · cases h1
    obtain ⟨g, cap, rfl, hb, hlt, hnc, hcm, hl, hH⟩ := holds_of_ownsRow hown hv
    exact (Try.slices_Compact_string g 0 cap L W hH (by omega) hnc).mono fun e w' ⟨he, q, hw⟩ => ⟨_, _, he, by rw [hw]; exact grownBy_put' _ _ _ _ _⟩
set_option maxRecDepth 10000 in
theorem sorted_any (Bs : Nat) (sv : Value) (zs : List ByteArray) (hreach : zs.length ≤ 1000000) (w : World) (hBs : Bs < w.heap.size) (hc : w.cell? ⟨Bs, 0, none⟩ = some sv) (hI : RSs w [sv] zs) :
    Calls Try.prog 135 #[.func (.func 154) #[] #[.pointer (some ⟨Bs, 0, none⟩)]] w fun e W' => ∃ v, e = .returned v ∧ W'.ownsRow w.heap.size 9 1 v zs.length (((zs.map (·.data.toList)).mergeSort leB).map encStr) ∧ Below w.heap.size w W' := by
  have hA := collect_any Bs sv zs hreach w hBs hc hI
  have HA := Lib.hid hA; have Hc := Lib.hid hc; have HI := Lib.hid hI; have HBs := Lib.hid hBs; clear hA hc hI hBs
  go_enter Try.func135, Try.ntmps135
  go_wp2_with fail
  refine HA.out.mono ?_
  rintro e w1 ⟨v, rfl, h1, h2⟩
  rw [← map_encStr] at h1
  have h1' : w1.ownsRow w.heap.size 9 1 v (zs.map (·.data.toList)).length ((zs.map (·.data.toList)).map encStr) := by rw [List.length_map]; exact h1
  have hS := sortStr_own h1' (by rw [List.length_map]; exact hreach)
  rw [List.length_map] at hS
  have H1 := Lib.hid h1; have H1' := Lib.hid h1'; have H2 := Lib.hid h2; have HS := Lib.hid hS; clear h1 h1' h2 hS
  go_wp2_with fail
  refine HS.out.mono ?_
  rintro e w2 ⟨rfl, h3, h4⟩
  have hb := bel_own H2.out H1'.out (Nat.le_refl _) h4 H2.out.size
  have H3 := Lib.hid h3; have H4 := Lib.hid h4; have Hb := Lib.hid hb; clear h3 h4 hb
  go_wp2_with fail
  go_ret
  exact ⟨v, rfl, H3.out, Hb.out⟩
set_option maxRecDepth 10000 in
theorem values_any (a : Option Addr) (n c : Nat) (w : World) : Calls Try.prog 136 #[.slice a n c] w fun e w' => e = .returned (.func (.func 154) #[] #[.pointer (some ⟨w.heap.size, 0, none⟩)]) ∧ w' = w.alloc (.cells #[.slice a n c] 33) := by
  go_enter Try.func136, Try.ntmps136
  go_wp2_with fail
  go_ret
  exact ⟨rfl, rfl⟩
set_option maxRecDepth 10000 in
theorem twice_any {w : World} {v : Value} {l : List ByteArray} (h : RSs w [v] l) (hn : l.length ≤ 1000000) : Calls Try.prog 105 #[v] w fun e w' => e = .returned (.bool (!decide l.Nodup)) ∧ Below w.heap.size w w' := by
  obtain ⟨a, cap, rfl, hz, g⟩ := strs_open h
  have hbx : Below w.heap.size w (w.alloc (.cells #[.slice a l.length cap] 33)) := below_alloc1 _ _
  have hS := sorted_any w.heap.size (.slice a l.length cap) l hn (w.alloc (.cells #[.slice a l.length cap] 33)) (by simp) (by rw [World.cell?_alloc_new]; rfl) (stays_slice stays_str _ _ _ _ h hbx)
  rw [← TwiceM.twice_iff]
  obtain ⟨n, hnn⟩ : ∃ n, n = l.length := ⟨_, rfl⟩
  obtain ⟨r, hr⟩ : ∃ r, r = twiceOf l := ⟨_, rfl⟩
  have hr2 : r = decide ((Lib.compact ((l.map (·.data.toList)).mergeSort leB)).length < n) := by rw [hr, hnn]; rfl
  rw [← hnn] at hS hn hz hbx ⊢
  rw [← hr]
  have Hh := Lib.hid h; have Hg := Lib.hid g; have HS := Lib.hid hS; have Hbx := Lib.hid hbx; have Hnn := Lib.hid hnn; have Hr := Lib.hid hr; have Hr2 := Lib.hid hr2; clear h g hS hbx hnn hr hr2
  go_enter Try.func105, Try.ntmps105
  go_wp2_with fail
  refine (values_any a n cap w).mono ?_
  rintro e w1 ⟨rfl, rfl⟩
  go_wp2_with fail
  refine HS.out.mono ?_
  rintro e w2 ⟨v2, rfl, h2, hb2⟩
  have hlen : ((l.map (·.data.toList)).mergeSort leB).length = n := by rw [(List.mergeSort_perm _ _).length_eq, List.length_map, Hnn.out]
  have h2' := h2
  rw [← hlen] at h2'
  have hC := compactStr_own h2' (by rw [hlen]; exact hn)
  obtain ⟨m, hm⟩ : ∃ m, m = (Lib.compact ((l.map (·.data.toList)).mergeSort leB)).length := ⟨_, rfl⟩
  rw [← hm] at hC
  have hr3 : r = decide (m < n) := by rw [hm]; exact Hr2.out
  have hbw := Hbx.out.trans (hb2.mono Hbx.out.size)
  have H2 := Lib.hid h2; have H2' := Lib.hid h2'; have Hb2 := Lib.hid hb2; have HC := Lib.hid hC; have Hm := Lib.hid hm; have Hlen := Lib.hid hlen; have Hr3 := Lib.hid hr3; have Hbw := Lib.hid hbw; clear h2 h2' hb2 hC hm hlen hr3 hbw
  go_wp2_with fail
  refine HC.out.mono ?_
  rintro e w3 ⟨a3, c3, rfl, hg3⟩
  have hb3 := bel_own Hbw.out (ownsRow_mono H2.out Hbx.out.size) (Nat.le_refl _) hg3 Hbw.out.size
  have Hg3 := Lib.hid hg3; have Hb3 := Lib.hid hb3; clear hg3 hb3
  go_wp2_with fail
  go_ret
  exact ⟨ret_bool (by rw [Hr3.out, decide_eq_decide]), Hb3.out⟩
end Go.Proofs.Ytnelgellbabkoaa

/- Plain facts: names and values of variants. No condition. -/
namespace Go.Proofs.Ytnelgellbabkoaa.VarM

def letN (n : Nat) : Bool := decide (97 ≤ n) && decide (n ≤ 122)
def digN (n : Nat) : Bool := decide (48 ≤ n) && decide (n ≤ 57)
def okN (n : Nat) : Bool := letN n || digN n || decide (n = 45)
abbrev Bs := List UInt8
def okB (c : UInt8) : Bool := okN c.toNat
def digB (c : UInt8) : Bool := digN c.toNat
def headN (l : Bs) : Nat := (l.headD 0).toNat
/-- whether a text is a name -/
def nameOf (l : Bs) : Bool := l.all okB && (decide (0 < l.length) && (decide (l.length ≤ 24) && letN (headN l)))
def digsOf (l : Bs) : Bool := l.all digB && decide (0 < l.length)
/-- whether a text may be a value -/
def valueOf (l : Bs) : Bool := nameOf l || (digsOf l && decide (l.length ≤ 3))
theorem all_succ {p : UInt8 → Bool} {l : Bs} {k : Nat} (h : k < l.length) (h1 : (l.take k).all p = true) (h2 : p l[k] = true) : (l.take (k + 1)).all p = true := by
  rw [List.take_succ_eq_append_getElem h, List.all_append, h1]; simp [h2]
theorem all_no {p : UInt8 → Bool} {l : Bs} {k : Nat} (h : k < l.length) (h2 : p l[k] = false) : l.all p = false := by
  rw [Bool.eq_false_iff]; intro h3
  have := List.all_eq_true.1 h3 _ (List.getElem_mem h)
  rw [h2] at this; cases this
theorem name_no {l : Bs} (h : l.all okB = false) : nameOf l = false := by unfold nameOf; rw [h]; rfl
theorem name_all {l : Bs} (h : l.all okB = true) : nameOf l = (decide (0 < l.length) && (decide (l.length ≤ 24) && letN (headN l))) := by unfold nameOf; rw [h]; rfl
theorem name_pos {l : Bs} (h : nameOf l = true) : 0 < l.length ∧ l.length ≤ 24 := by
  unfold nameOf at h
  simp only [Bool.and_eq_true, decide_eq_true_eq] at h
  exact ⟨h.2.1, h.2.2.1⟩
theorem okN_let {n : Nat} (h : letN n = true) : okN n = true := by unfold okN; rw [h]; rfl
theorem okN_dig {n : Nat} (h : digN n = true) : okN n = true := by unfold okN; rw [h]; simp
theorem okN_no {n : Nat} (h1 : letN n = false) (h2 : digN n = false) (h3 : n ≠ 45) : okN n = false := by unfold okN; rw [h1, h2]; simp [h3]
theorem name_head {l : Bs} (h : letN (headN l) = false) : nameOf l = false := by unfold nameOf; rw [h]; simp
end Go.Proofs.Ytnelgellbabkoaa.VarM

/- The walks of variant.Name, variant.Value and the reference's. Condition: the text's reach. -/
namespace Go.Proofs.Ytnelgellbabkoaa
open Go.RowKit
open VarM (letN digN okN okB digB nameOf valueOf digsOf headN)

theorem dl (s : ByteArray) : s.data.toList.length = s.size := by rw [Array.length_toList]; rfl
theorem dget (s : ByteArray) (k : Nat) (h : k < s.size) : s.data.toList[k]'(by rw [dl]; exact h) = s[k] := rfl
set_option maxRecDepth 10000 in
theorem letter_any (n : Nat) (h : n < 256) (w : World) : Calls Try.prog 63 #[.int .u8 (n : Int)] w fun e w' => e = .returned (.bool (letN n)) ∧ w = w' := by
  obtain ⟨r, hr⟩ : ∃ r, r = letN n := ⟨_, rfl⟩
  rw [← hr]
  rcases Nat.lt_or_ge n 97 with h1 | h1
  · have hf : r = false := by rw [hr]; unfold letN; rw [decide_eq_false (by omega)]; rfl
    have Hr := Lib.hid hr; have Hf := Lib.hid hf; clear hr hf
    go_enter Try.func63, Try.ntmps63
    go_wp2_with fail
    go_ret
    exact ⟨ret_bool Hf.out.symm, rfl⟩
  · rcases Nat.lt_or_ge 122 n with h2 | h2
    · have hf : r = false := by rw [hr]; unfold letN; rw [decide_eq_false (p := n ≤ 122) (by omega)]; simp
      have k2 : decide ((n : Int) ≤ 122) = false := by simp; omega
      have Hr := Lib.hid hr; have Hf := Lib.hid hf; clear hr hf
      go_enter Try.func63, Try.ntmps63
      go_wp2_with fail
      go_ret
      exact ⟨ret_bool Hf.out.symm, rfl⟩
    · have hf : r = true := by rw [hr]; unfold letN; rw [decide_eq_true h1, decide_eq_true h2]; rfl
      have k2 : decide ((n : Int) ≤ 122) = true := by simp; omega
      have Hr := Lib.hid hr; have Hf := Lib.hid hf; clear hr hf
      go_enter Try.func63, Try.ntmps63
      go_wp2_with fail
      go_ret
      exact ⟨ret_bool Hf.out.symm, rfl⟩
set_option maxRecDepth 10000 in
theorem digit_any (n : Nat) (h : n < 256) (w : World) : Calls Try.prog 64 #[.int .u8 (n : Int)] w fun e w' => e = .returned (.bool (digN n)) ∧ w = w' := by
  obtain ⟨r, hr⟩ : ∃ r, r = digN n := ⟨_, rfl⟩
  rw [← hr]
  rcases Nat.lt_or_ge n 48 with h1 | h1
  · have hf : r = false := by rw [hr]; unfold digN; rw [decide_eq_false (by omega)]; rfl
    have Hr := Lib.hid hr; have Hf := Lib.hid hf; clear hr hf
    go_enter Try.func64, Try.ntmps64
    go_wp2_with fail
    go_ret
    exact ⟨ret_bool Hf.out.symm, rfl⟩
  · rcases Nat.lt_or_ge 57 n with h2 | h2
    · have hf : r = false := by rw [hr]; unfold digN; rw [decide_eq_false (p := n ≤ 57) (by omega)]; simp
      have k2 : decide ((n : Int) ≤ 57) = false := by simp; omega
      have Hr := Lib.hid hr; have Hf := Lib.hid hf; clear hr hf
      go_enter Try.func64, Try.ntmps64
      go_wp2_with fail
      go_ret
      exact ⟨ret_bool Hf.out.symm, rfl⟩
    · have hf : r = true := by rw [hr]; unfold digN; rw [decide_eq_true h1, decide_eq_true h2]; rfl
      have k2 : decide ((n : Int) ≤ 57) = true := by simp; omega
      have Hr := Lib.hid hr; have Hf := Lib.hid hf; clear hr hf
      go_enter Try.func64, Try.ntmps64
      go_wp2_with fail
      go_ret
      exact ⟨ret_bool Hf.out.symm, rfl⟩
theorem head_is (s : ByteArray) (h : 0 < s.size) : headN s.data.toList = s[0].toNat := by
  unfold headN
  have e : s.data.toList = s[0] :: s.data.toList.drop 1 := by
    have := List.drop_eq_getElem_cons (l := s.data.toList) (i := 0) (by rw [dl]; exact h)
    rw [List.drop_zero] at this
    exact this
  rw [e]; rfl
set_option maxRecDepth 10000 in
set_option maxHeartbeats 1000000 in
theorem name_any (s : ByteArray) (hs : s.size ≤ 9223372036854775807) (w : World) : Calls Try.prog 17 #[.string s] w fun e w' => e = .returned (.bool (nameOf s.data.toList)) ∧ w = w' := by
  obtain ⟨l, hl⟩ : ∃ l, l = s.data.toList := ⟨_, rfl⟩
  have hln : l.length = s.size := by rw [hl]; exact dl s
  obtain ⟨r, hr⟩ : ∃ r, r = nameOf l := ⟨_, rfl⟩
  rw [← hl, ← hr]
  have hh := head_is s
  rw [← hl] at hh
  have Hl := Lib.hid hl; have Hln := Lib.hid hln; have Hr := Lib.hid hr; have Hh := Lib.hid hh; clear hl hln hr hh
  go_enter Try.func17, Try.ntmps17
  go_wp2_with fail
  go_loop [6] (fun i => ∃ k : Nat, k ≤ s.size ∧ i = .int .i64 k ∧ (l.take k).all okB = true) (fun i => s.size - (intOf i).toNat)
  case atStart => exact ⟨0, Nat.zero_le _, rfl, by simp⟩
  case round =>
    obtain ⟨k, hk, rfl, hall⟩ := hrel
    by_cases hlt : k < s.size
    · have hkl : k < l.length := by have := Hln.out; omega
      obtain ⟨n, hn⟩ : ∃ n, n = s[k].toNat := ⟨_, rfl⟩
      have hn256 : n < 256 := by rw [hn]; exact s[k].toNat_lt
      have hck : okB l[k] = okN n := by
        have e : l[k] = s[k] := by simp only [Hl.out]; rfl
        unfold okB
        rw [e, hn]
      have hL := fun W => letter_any n hn256 W
      have hD := fun W => digit_any n hn256 W
      have hsk : s[k].toNat = n := hn.symm
      have hyes : okN n = true → (l.take (k + 1)).all okB = true := fun h => VarM.all_succ hkl hall (by rw [hck]; exact h)
      have hno : okN n = false → r = false := fun h => by rw [Hr.out]; exact VarM.name_no (VarM.all_no hkl (by rw [hck]; exact h))
      clear hn hck
      clear hkl
      cases h1 : letN n with
      | true =>
        have hnext := hyes (VarM.okN_let h1)
        rw [h1] at hL
        have Hall := Lib.hid hall; have HL := Lib.hid hL; have HD := Lib.hid hD; have Hyes := Lib.hid hyes; have Hno := Lib.hid hno; have Hnext := Lib.hid hnext; have H1 := Lib.hid h1; clear hall hL hD hyes hno hnext h1
        go_wp2_with fail
        refine (HL.out _).mono ?_
        rintro e w1 ⟨rfl, rfl⟩
        go_wp2_with fail
        go_round
        case rel => exact ⟨k + 1, by omega, by go_num, Hnext.out⟩
        case measure => simp [intOf]; omega
      | false =>
        rw [h1] at hL
        cases h2 : digN n with
        | true =>
          have hnext := hyes (VarM.okN_dig h2)
          rw [h2] at hD
          have Hall := Lib.hid hall; have HL := Lib.hid hL; have HD := Lib.hid hD; have Hyes := Lib.hid hyes; have Hno := Lib.hid hno; have Hnext := Lib.hid hnext; have H1 := Lib.hid h1; have H2 := Lib.hid h2; clear hall hL hD hyes hno hnext h1 h2
          go_wp2_with fail
          refine (HL.out _).mono ?_
          rintro e w1 ⟨rfl, rfl⟩
          go_wp2_with fail
          refine (HD.out _).mono ?_
          rintro e w1 ⟨rfl, rfl⟩
          go_wp2_with fail
          go_round
          case rel => exact ⟨k + 1, by omega, by go_num, Hnext.out⟩
          case measure => simp [intOf]; omega
        | false =>
          rw [h2] at hD
          by_cases h3 : n = 45
          · have hnext := hyes (by unfold okN; simp [h3])
            have e3 : ((n : Int) != 45) = false := by rw [h3]; rfl
            have Hall := Lib.hid hall; have HL := Lib.hid hL; have HD := Lib.hid hD; have Hyes := Lib.hid hyes; have Hno := Lib.hid hno; have Hnext := Lib.hid hnext; have H1 := Lib.hid h1; have H2 := Lib.hid h2; have H3 := Lib.hid h3; clear hall hL hD hyes hno hnext h1 h2 h3
            go_wp2_with fail
            refine (HL.out _).mono ?_
            rintro e w1 ⟨rfl, rfl⟩
            go_wp2_with fail
            refine (HD.out _).mono ?_
            rintro e w1 ⟨rfl, rfl⟩
            go_wp2_with fail
            go_round
            case rel => exact ⟨k + 1, by omega, by go_num, Hnext.out⟩
            case measure => simp [intOf]; omega
          · have hf := hno (VarM.okN_no h1 h2 h3)
            have e3 : ((n : Int) != 45) = true := by rw [bne_iff_ne]; omega
            have Hall := Lib.hid hall; have HL := Lib.hid hL; have HD := Lib.hid hD; have Hyes := Lib.hid hyes; have Hno := Lib.hid hno; have Hf := Lib.hid hf; have H1 := Lib.hid h1; have H2 := Lib.hid h2; have H3 := Lib.hid h3; clear hall hL hD hyes hno hf h1 h2 h3
            go_wp2_with fail
            refine (HL.out _).mono ?_
            rintro e w1 ⟨rfl, rfl⟩
            go_wp2_with fail
            refine (HD.out _).mono ?_
            rintro e w1 ⟨rfl, rfl⟩
            go_wp2_with fail
            go_ret
            exact ⟨ret_bool Hf.out.symm, rfl⟩
    · obtain rfl : k = s.size := by omega
      have hall2 : l.all okB = true := by rw [List.take_of_length_le (by have := Hln.out; omega)] at hall; exact hall
      have hrr : r = (decide (0 < s.size) && (decide (s.size ≤ 24) && letN (headN l))) := by rw [Hr.out, VarM.name_all hall2, Hln.out]
      by_cases h0 : 0 < s.size
      · by_cases h24 : s.size ≤ 24
        · have hf : r = letN (headN l) := by rw [hrr, decide_eq_true h0, decide_eq_true h24]; rfl
          rw [Hh.out h0] at hf
          obtain ⟨n, hn⟩ : ∃ n, n = s[0].toNat := ⟨_, rfl⟩
          have hn256 : n < 256 := by rw [hn]; exact s[0].toNat_lt
          have hL := fun W => letter_any n hn256 W
          rw [← hn] at hf
          rw [← hf] at hL
          have hsk : s[0].toNat = n := hn.symm
          have k1 : (0 : Int) < (s.size : Int) := by omega
          have k2 : (s.size : Int) ≤ 24 := by omega
          have k3 : decide ((s.size : Int) ≤ 24) = true := by simpa using k2
          clear hn
          have Hall := Lib.hid hall; have Hall2 := Lib.hid hall2; have Hrr := Lib.hid hrr; have Hf := Lib.hid hf; have HL := Lib.hid hL; clear hall hall2 hrr hf hL
          go_wp2_with fail
          refine (HL.out _).mono ?_
          rintro e w1 ⟨rfl, rfl⟩
          go_wp2_with fail
          go_ret
          exact ⟨rfl, rfl⟩
        · have hf : r = false := by rw [hrr, decide_eq_false h24]; simp
          have k2 : (24 : Int) < (s.size : Int) := by omega
          have k3 : decide ((s.size : Int) ≤ 24) = false := by simpa using k2
          have Hall := Lib.hid hall; have Hall2 := Lib.hid hall2; have Hrr := Lib.hid hrr; have Hf := Lib.hid hf; clear hall hall2 hrr hf
          go_wp2_with fail
          go_ret
          exact ⟨ret_bool Hf.out.symm, rfl⟩
      · have hf : r = false := by rw [hrr, decide_eq_false h0]; rfl
        have k2 : s.size ≤ 0 := by omega
        have k3 : decide (0 < (s.size : Int)) = false := decide_eq_false (by omega)
        have Hall := Lib.hid hall; have Hall2 := Lib.hid hall2; have Hrr := Lib.hid hrr; have Hf := Lib.hid hf; clear hall hall2 hrr hf
        go_wp2_with fail
        go_ret
        exact ⟨ret_bool Hf.out.symm, rfl⟩
set_option maxRecDepth 10000 in
set_option maxHeartbeats 1000000 in
theorem value_any (s : ByteArray) (hs : s.size ≤ 9223372036854775807) (w : World) : Calls Try.prog 19 #[.string s] w fun e w' => e = .returned (.bool (valueOf s.data.toList)) ∧ w = w' := by
  have hN := fun W => name_any s hs W
  obtain ⟨l, hl⟩ : ∃ l, l = s.data.toList := ⟨_, rfl⟩
  have hln : l.length = s.size := by rw [hl]; exact dl s
  obtain ⟨r, hr⟩ : ∃ r, r = valueOf l := ⟨_, rfl⟩
  rw [← hl] at hN
  rw [← hl, ← hr]
  cases hq : nameOf l with
  | true =>
    rw [hq] at hN
    have hf : r = true := by rw [hr]; unfold valueOf; rw [hq]; rfl
    have Hl := Lib.hid hl; have Hln := Lib.hid hln; have Hr := Lib.hid hr; have HN := Lib.hid hN; have Hf := Lib.hid hf; have Hq := Lib.hid hq; clear hl hln hr hN hf hq
    go_enter Try.func19, Try.ntmps19
    go_wp2_with fail
    refine (HN.out _).mono ?_
    rintro e w1 ⟨rfl, rfl⟩
    go_wp2_with fail
    go_ret
    exact ⟨ret_bool Hf.out.symm, rfl⟩
  | false =>
    rw [hq] at hN
    have hv : r = (l.all digB && decide (0 < l.length) && decide (l.length ≤ 3)) := by rw [hr]; unfold valueOf digsOf; rw [hq]; rfl
    have Hl := Lib.hid hl; have Hln := Lib.hid hln; have Hr := Lib.hid hr; have HN := Lib.hid hN; have Hv := Lib.hid hv; have Hq := Lib.hid hq; clear hl hln hr hN hv hq
    go_enter Try.func19, Try.ntmps19
    go_wp2_with fail
    refine (HN.out _).mono ?_
    rintro e w1 ⟨rfl, rfl⟩
    go_wp2_with fail
    go_loop [8] (fun i => ∃ k : Nat, k ≤ s.size ∧ i = .int .i64 k ∧ (l.take k).all digB = true) (fun i => s.size - (intOf i).toNat)
    case atStart => exact ⟨0, Nat.zero_le _, rfl, by simp⟩
    case round =>
      obtain ⟨k, hk, rfl, hall⟩ := hrel
      by_cases hlt : k < s.size
      · have hkl : k < l.length := by have := Hln.out; omega
        obtain ⟨n, hn⟩ : ∃ n, n = s[k].toNat := ⟨_, rfl⟩
        have hn256 : n < 256 := by rw [hn]; exact s[k].toNat_lt
        have hck : digB l[k] = digN n := by
          have e : l[k] = s[k] := by simp only [Hl.out]; rfl
          unfold digB
          rw [e, hn]
        have hD := fun W => digit_any n hn256 W
        have hsk : s[k].toNat = n := hn.symm
        have hyes : digN n = true → (l.take (k + 1)).all digB = true := fun h => VarM.all_succ hkl hall (by rw [hck]; exact h)
        have hno : digN n = false → r = false := fun h => by rw [Hv.out, VarM.all_no hkl (by rw [hck]; exact h)]; rfl
        clear hn hck
        clear hkl
        cases h2 : digN n with
        | true =>
          have hnext := hyes h2
          rw [h2] at hD
          have Hall := Lib.hid hall; have HD := Lib.hid hD; have Hyes := Lib.hid hyes; have Hno := Lib.hid hno; have Hnext := Lib.hid hnext; have H2 := Lib.hid h2; clear hall hD hyes hno hnext h2
          go_wp2_with fail
          refine (HD.out _).mono ?_
          rintro e w1 ⟨rfl, rfl⟩
          go_wp2_with fail
          go_round
          case rel => exact ⟨k + 1, by omega, by go_num, Hnext.out⟩
          case measure => simp [intOf]; omega
        | false =>
          have hf := hno h2
          rw [h2] at hD
          have Hall := Lib.hid hall; have HD := Lib.hid hD; have Hyes := Lib.hid hyes; have Hno := Lib.hid hno; have Hf := Lib.hid hf; have H2 := Lib.hid h2; clear hall hD hyes hno hf h2
          go_wp2_with fail
          refine (HD.out _).mono ?_
          rintro e w1 ⟨rfl, rfl⟩
          go_wp2_with fail
          go_ret
          exact ⟨ret_bool Hf.out.symm, rfl⟩
      · obtain rfl : k = s.size := by omega
        have hall2 : l.all digB = true := by rw [List.take_of_length_le (by have := Hln.out; omega)] at hall; exact hall
        have hrr : r = (decide (0 < s.size) && decide (s.size ≤ 3)) := by rw [Hv.out, hall2, Hln.out]; rfl
        by_cases h0 : 0 < s.size
        · by_cases h3 : s.size ≤ 3
          · have hf : r = true := by rw [hrr, decide_eq_true h0, decide_eq_true h3]; rfl
            have k1 : (0 : Int) < (s.size : Int) := by omega
            have k2 : (s.size : Int) ≤ 3 := by omega
            have k3 : decide ((s.size : Int) ≤ 3) = true := by simpa using k2
            have Hall := Lib.hid hall; have Hall2 := Lib.hid hall2; have Hrr := Lib.hid hrr; have Hf := Lib.hid hf; clear hall hall2 hrr hf
            go_wp2_with fail
            go_ret
            exact ⟨ret_bool Hf.out.symm, rfl⟩
          · have hf : r = false := by rw [hrr, decide_eq_false h3]; simp
            have k2 : (3 : Int) < (s.size : Int) := by omega
            have k3 : decide ((s.size : Int) ≤ 3) = false := by simpa using k2
            have Hall := Lib.hid hall; have Hall2 := Lib.hid hall2; have Hrr := Lib.hid hrr; have Hf := Lib.hid hf; clear hall hall2 hrr hf
            go_wp2_with fail
            go_ret
            exact ⟨ret_bool Hf.out.symm, rfl⟩
        · have hf : r = false := by rw [hrr, decide_eq_false h0]; rfl
          have k2 : s.size ≤ 0 := by omega
          have k3 : decide (0 < (s.size : Int)) = false := decide_eq_false (by omega)
          have Hall := Lib.hid hall; have Hall2 := Lib.hid hall2; have Hrr := Lib.hid hrr; have Hf := Lib.hid hf; clear hall hall2 hrr hf
          go_wp2_with fail
          go_ret
          exact ⟨ret_bool Hf.out.symm, rfl⟩
theorem empty_iff (s : ByteArray) : s.toList = [] ↔ s.size = 0 := by
  rw [Lib.toList_data, ← dl]
  exact List.length_eq_zero_iff.symm
set_option maxRecDepth 10000 in
set_option maxHeartbeats 1000000 in
theorem digits_any (s : ByteArray) (hs : s.size ≤ 9223372036854775807) (w : World) : Calls Try.prog 65 #[.string s] w fun e w' => e = .returned (.bool (digsOf s.data.toList)) ∧ w = w' := by
  obtain ⟨l, hl⟩ : ∃ l, l = s.data.toList := ⟨_, rfl⟩
  have hln : l.length = s.size := by rw [hl]; exact dl s
  obtain ⟨r, hr⟩ : ∃ r, r = digsOf l := ⟨_, rfl⟩
  rw [← hl, ← hr]
  have hv : r = (l.all digB && decide (0 < l.length)) := hr
  have Hl := Lib.hid hl; have Hln := Lib.hid hln; have Hr := Lib.hid hr; have Hv := Lib.hid hv; clear hl hln hr hv
  go_enter Try.func65, Try.ntmps65
  go_wp2_with fail
  go_loop [3] (fun i => ∃ k : Nat, k ≤ s.size ∧ i = .int .i64 k ∧ (l.take k).all digB = true) (fun i => s.size - (intOf i).toNat)
  case atStart => exact ⟨0, Nat.zero_le _, rfl, by simp⟩
  case round =>
    obtain ⟨k, hk, rfl, hall⟩ := hrel
    by_cases hlt : k < s.size
    · have hkl : k < l.length := by have := Hln.out; omega
      obtain ⟨n, hn⟩ : ∃ n, n = s[k].toNat := ⟨_, rfl⟩
      have hn256 : n < 256 := by rw [hn]; exact s[k].toNat_lt
      have hck : digB l[k] = digN n := by
        have e : l[k] = s[k] := by simp only [Hl.out]; rfl
        unfold digB
        rw [e, hn]
      have hsk : s[k].toNat = n := hn.symm
      have hyes : digN n = true → (l.take (k + 1)).all digB = true := fun h => VarM.all_succ hkl hall (by rw [hck]; exact h)
      have hno : digN n = false → r = false := fun h => by rw [Hv.out, VarM.all_no hkl (by rw [hck]; exact h)]; rfl
      clear hn hck
      clear hkl
      rcases Nat.lt_or_ge n 48 with h1 | h1
      · have hf := hno (by unfold digN; rw [decide_eq_false (by omega)]; rfl)
        have k1 : decide ((n : Int) < 48) = true := decide_eq_true (by omega)
        have Hall := Lib.hid hall; have Hyes := Lib.hid hyes; have Hno := Lib.hid hno; have Hf := Lib.hid hf; clear hall hyes hno hf
        go_wp2_with fail
        go_ret
        exact ⟨ret_bool Hf.out.symm, rfl⟩
      · rcases Nat.lt_or_ge 57 n with h2 | h2
        · have hf := hno (by unfold digN; rw [decide_eq_false (p := n ≤ 57) (by omega)]; simp)
          have k1 : decide ((n : Int) < 48) = false := decide_eq_false (by omega)
          have k2 : decide (57 < (n : Int)) = true := decide_eq_true (by omega)
          have Hall := Lib.hid hall; have Hyes := Lib.hid hyes; have Hno := Lib.hid hno; have Hf := Lib.hid hf; clear hall hyes hno hf
          go_wp2_with fail
          go_ret
          exact ⟨ret_bool Hf.out.symm, rfl⟩
        · have hnext := hyes (by unfold digN; rw [decide_eq_true h1, decide_eq_true h2]; rfl)
          have k1 : decide ((n : Int) < 48) = false := decide_eq_false (by omega)
          have k2 : decide (57 < (n : Int)) = false := decide_eq_false (by omega)
          have Hall := Lib.hid hall; have Hyes := Lib.hid hyes; have Hno := Lib.hid hno; have Hnext := Lib.hid hnext; clear hall hyes hno hnext
          go_wp2_with fail
          go_round
          case rel => exact ⟨k + 1, by omega, by go_num, Hnext.out⟩
          case measure => simp [intOf]; omega
    · obtain rfl : k = s.size := by omega
      have hall2 : l.all digB = true := by rw [List.take_of_length_le (by have := Hln.out; omega)] at hall; exact hall
      have hrr : r = decide (0 < s.size) := by rw [Hv.out, hall2, Hln.out]; rfl
      by_cases h0 : 0 < s.size
      · have hf : r = true := by rw [hrr, decide_eq_true h0]
        have k1 : s.toList.isEmpty = false := by rw [Bool.eq_false_iff]; intro h; rw [List.isEmpty_iff, empty_iff] at h; omega
        have k2 : (!s.toList.isEmpty) = true := by rw [k1]; rfl
        have k3 : ¬ s.toList = [] := by rw [empty_iff]; omega
        have Hall := Lib.hid hall; have Hall2 := Lib.hid hall2; have Hrr := Lib.hid hrr; have Hf := Lib.hid hf; clear hall hall2 hrr hf
        go_wp2_with fail
        go_ret
        exact ⟨ret_bool Hf.out.symm, rfl⟩
      · have hf : r = false := by rw [hrr, decide_eq_false h0]
        have k3 : s.toList = [] := by rw [empty_iff]; omega
        have k1 : s.toList.isEmpty = true := by rw [k3]; rfl
        have Hall := Lib.hid hall; have Hall2 := Lib.hid hall2; have Hrr := Lib.hid hrr; have Hf := Lib.hid hf; clear hall hall2 hrr hf
        go_wp2_with fail
        go_ret
        exact ⟨ret_bool Hf.out.symm, rfl⟩
end Go.Proofs.Ytnelgellbabkoaa

/- Plain facts: the place of the first element of which a predicate holds. No condition. -/
namespace Go.Proofs.Ytnelgellbabkoaa

def idxOf {α : Type} (p : α → Bool) (l : List α) : Int := match l.findIdx? p with
  | some i => i
  | none => -1
/-- it holds of none of the first k -/
def NoneIn {α : Type} (p : α → Bool) (l : List α) (k : Nat) : Prop := ∀ i (h : i < l.length), i < k → p l[i] = false
theorem noneIn_zero {α : Type} (p : α → Bool) (l : List α) : NoneIn p l 0 := fun _ _ h => by omega
theorem noneIn_succ {α : Type} {p : α → Bool} {l : List α} {k : Nat} (h : k < l.length) (hn : NoneIn p l k) (hk : p l[k] = false) : NoneIn p l (k + 1) := fun i hi hik => by
  by_cases e : i = k
  · subst e; exact hk
  · exact hn i hi (by omega)
theorem idxOf_at {α : Type} {p : α → Bool} {l : List α} {k : Nat} (h : k < l.length) (hn : NoneIn p l k) (hk : p l[k] = true) : idxOf p l = k := by
  have : l.findIdx? p = some k := by
    rw [List.findIdx?_eq_some_iff_getElem]
    exact ⟨h, hk, fun j hj => by simpa using hn j (by omega) hj⟩
  unfold idxOf; rw [this]
theorem idxOf_none {α : Type} {p : α → Bool} {l : List α} {k : Nat} (h : l.length ≤ k) (hn : NoneIn p l k) : idxOf p l = -1 := by
  have : l.findIdx? p = none := by
    rw [List.findIdx?_eq_none_iff]
    intro x hx
    obtain ⟨i, hi, e⟩ := List.mem_iff_getElem.1 hx
    rw [← e]; exact hn i hi (by omega)
  unfold idxOf; rw [this]
theorem idxOf_any {α : Type} (p : α → Bool) (l : List α) : l.any p = true ↔ 0 ≤ idxOf p l := by
  unfold idxOf
  cases h : l.findIdx? p with
  | none =>
    rw [List.findIdx?_eq_none_iff] at h
    simp only [List.any_eq_true]
    constructor
    · rintro ⟨x, hx, hp⟩; rw [h x hx] at hp; cases hp
    · intro h2; omega
  | some i =>
    rw [List.findIdx?_eq_some_iff_getElem] at h
    obtain ⟨hi, hp, _⟩ := h
    simp only [List.any_eq_true]
    exact ⟨fun _ => by omega, fun _ => ⟨l[i], List.getElem_mem hi, hp⟩⟩
theorem idxOf_bd {α : Type} (p : α → Bool) (l : List α) : -1 ≤ idxOf p l ∧ idxOf p l < l.length + 1 := by
  unfold idxOf
  cases h : l.findIdx? p with
  | none => simp; omega
  | some i =>
    rw [List.findIdx?_eq_some_iff_getElem] at h
    obtain ⟨hi, _⟩ := h
    simp only; omega
end Go.Proofs.Ytnelgellbabkoaa

/- The walks of slices.IndexFunc and slices.ContainsFunc at Str: the first element of which a predicate holds; whether it holds of one. Condition: what the predicate gives is read off its contract. -/
namespace Go.Proofs.Ytnelgellbabkoaa
open Go.RowKit
namespace IdxStr
theorem cells_1 {ecs : List Value} (h : ecs.length = 1) : ∃ u0, ecs = [u0] := by
  match ecs, h with
  | [u0], _ => exact ⟨u0, rfl⟩

/-- what the predicate is -/
def Pred {α : Type} (R : Rd α) (p : α → Bool) (g : Nat) (cb : Array Value) (l : List α) (w : World) : Prop :=
  ∀ W u0 x, Below w.heap.size w W → x ∈ l → R W [u0] x → Calls Try.prog g (#[u0] ++ cb) W fun e w' => e = .returned (.bool (p x)) ∧ Below W.heap.size W w'
set_option maxRecDepth 10000 in
set_option maxHeartbeats 400000 in
theorem idx_any {α : Type} {R : Rd α} (hR : Stays R) (p : α → Bool) (g : Nat) (cb : Array Value) (eg : ∀ args w, (callFunc g args).run Try.prog w = .ok (.enter g args) w) {w : World} {v : Value} {l : List α} (hl : RSlice 1 R w [v] l) (hp : Pred R p g cb l w) :
    Calls Try.prog 143 #[v, .func (.func g) #[] cb] w fun e w' => e = .returned (.int .i64 (idxOf p l)) ∧ Below w.heap.size w w' := by
  obtain ⟨a, cap, hv, hcap, hmax, hel⟩ := hl
  simp only [List.cons.injEq, and_true] at hv
  subst hv
  unfold maxLen at hmax
  obtain ⟨n, hn⟩ : ∃ n, n = l.length := ⟨_, rfl⟩
  rw [← hn] at hcap ⊢
  have hn63 : n ≤ 9223372036854775807 := by omega
  have Hn := Lib.hid hn; have Hel := Lib.hid hel; have Hp := Lib.hid hp; clear hn hel hp
  go_enter Try.func143, Try.ntmps143
  go_wp2_with fail
  go_loopw [8] (fun i wr => ∃ k : Nat, k ≤ n ∧ i = .int .i64 k ∧ NoneIn p l k ∧ Below w.heap.size w wr) (fun i _ => n - (intOf i).toNat)
  case atStart => exact ⟨0, Nat.zero_le _, rfl, noneIn_zero p l, Below.refl _ _⟩
  case round =>
    obtain ⟨k, hk, rfl, hno, hb⟩ := hrel
    by_cases hlt : k < n
    · have hkl : k < l.length := by have := Hn.out; omega
      obtain ⟨x, hx⟩ : ∃ x, x = l[k]'hkl := ⟨_, rfl⟩
      obtain ⟨b, off, ecs, rfl, h4, h5, h6⟩ := Hel.out k x (by rw [hx]; exact List.getElem?_eq_getElem hkl)
      obtain ⟨u0, rfl⟩ : ∃ u0, ecs = [u0] := cells_1 h4
      have hxl : x ∈ l := by rw [hx]; exact List.getElem_mem hkl
      have c0 : wr.cell? ⟨b, off + k, none⟩ = some u0 := cell_later hb (by simpa using h5 0 u0 rfl)
      have hcall := Hp.out wr u0 x hb hxl (hR _ _ _ _ h6 hb)
      have q0 : (0 : Int) ≤ (k : Int) := by omega
      have q1 : (k : Int) < (n : Int) := by omega
      by_cases hpx : p x = true
      · rw [hpx] at hcall
        have hi : idxOf p l = k := idxOf_at hkl hno (by rw [← hx]; exact hpx)
        have Hx := Lib.hid hx; have Hno := Lib.hid hno; have Hcall := Lib.hid hcall; have H5 := Lib.hid h5; have H6 := Lib.hid h6; have Hpx := Lib.hid hpx; have Hi := Lib.hid hi; have Hb := Lib.hid hb; have Hxl := Lib.hid hxl; clear hx hno hcall h5 h6 hpx hi hb hxl
        clear h4
        go_wp2_with fail
        refine Hcall.out.mono ?_
        rintro e w2 ⟨rfl, hb2⟩
        have hb3 := Hb.out.trans (hb2.mono Hb.out.size)
        have Hb2 := Lib.hid hb2; have Hb3 := Lib.hid hb3; clear hb2 hb3
        go_wp2_with fail
        go_ret
        exact ⟨ret_int Hi.out.symm, Hb3.out⟩
      · have hpx' : p x = false := by simpa using hpx
        rw [hpx'] at hcall
        have hno2 := noneIn_succ hkl hno (by rw [← hx]; exact hpx')
        have Hx := Lib.hid hx; have Hno := Lib.hid hno; have Hcall := Lib.hid hcall; have H5 := Lib.hid h5; have H6 := Lib.hid h6; have Hpx := Lib.hid hpx; have Hpx' := Lib.hid hpx'; have Hno2 := Lib.hid hno2; have Hb := Lib.hid hb; have Hxl := Lib.hid hxl; clear hx hno hcall h5 h6 hpx hpx' hno2 hb hxl
        clear h4
        go_wp2_with fail
        refine Hcall.out.mono ?_
        rintro e w2 ⟨rfl, hb2⟩
        have hb3 := Hb.out.trans (hb2.mono Hb.out.size)
        have Hb2 := Lib.hid hb2; have Hb3 := Lib.hid hb3; clear hb2 hb3
        go_wp2_with fail
        go_roundw
        case rel => exact ⟨k + 1, by omega, by go_num, Hno2.out, Hb3.out⟩
        case measure => simp [intOf]; omega
    · have hi : idxOf p l = -1 := idxOf_none (by have := Hn.out; omega) hno
      have Hno := Lib.hid hno; have Hi := Lib.hid hi; have Hb := Lib.hid hb; clear hno hi hb
      go_wp2_with fail
      go_ret
      exact ⟨ret_int Hi.out.symm, Hb.out⟩
set_option maxRecDepth 10000 in
set_option maxHeartbeats 400000 in
theorem has_any {α : Type} {R : Rd α} (hR : Stays R) (p : α → Bool) (g : Nat) (cb : Array Value) (eg : ∀ args w, (callFunc g args).run Try.prog w = .ok (.enter g args) w) {w : World} {v : Value} {l : List α} (hl : RSlice 1 R w [v] l) (hp : Pred R p g cb l w) :
    Calls Try.prog 115 #[v, .func (.func g) #[] cb] w fun e w' => e = .returned (.bool (l.any p)) ∧ Below w.heap.size w w' := by
  have hI := idx_any hR p g cb eg hl hp
  have hab := idxOf_any p l
  obtain ⟨i, hi⟩ : ∃ i, i = idxOf p l := ⟨_, rfl⟩
  rw [← hi] at hI hab
  have Hl := Lib.hid hl; have Hp := Lib.hid hp; have HI := Lib.hid hI; have Hi := Lib.hid hi; have HR := Lib.hid hR; clear hl hp hI hi hR
  cases hq : l.any p with
  | true =>
    have hpos : 0 ≤ i := hab.1 hq
    have Hq := Lib.hid hq; have Hab := Lib.hid hab; clear hq hab
    go_enter Try.func115, Try.ntmps115
    go_wp2_with fail
    refine HI.out.mono ?_
    rintro e w2 ⟨rfl, hb2⟩
    have Hb2 := Lib.hid hb2; clear hb2
    go_wp2_with fail
    go_ret
    exact ⟨rfl, Hb2.out⟩
  | false =>
    have hneg : i < 0 := by
      rcases Int.lt_or_le i 0 with h | h
      · exact h
      · have := hab.2 h; rw [hq] at this; cases this
    have Hq := Lib.hid hq; have Hab := Lib.hid hab; clear hq hab
    go_enter Try.func115, Try.ntmps115
    go_wp2_with fail
    refine HI.out.mono ?_
    rintro e w2 ⟨rfl, hb2⟩
    have Hb2 := Lib.hid hb2; clear hb2
    go_wp2_with fail
    go_ret
    exact ⟨ret_bool (by simpa using hneg), Hb2.out⟩
end IdxStr
end Go.Proofs.Ytnelgellbabkoaa

/- The walk of variant.one: whether a variant may be. Condition: few values. -/
namespace Go.Proofs.Ytnelgellbabkoaa
open Go.RowKit Go.Shelf
open VarM (nameOf valueOf)

abbrev Var := ByteArray × List ByteArray
/-- a variant's two cells -/
def RVar : Rd Var := fun w cs x => ∃ v, cs = [.string x.1, v] ∧ x.1.size ≤ maxLen ∧ RSs w [v] x.2
theorem stays_var : Stays RVar := by
  rintro w w' cs x ⟨v, h1, h2, h3⟩ hb
  exact ⟨v, h1, h2, stays_slice stays_str _ _ _ _ h3 hb⟩
abbrev RVars : Rd (List Var) := RSlice 2 RVar
def isName (s : ByteArray) : Bool := nameOf s.data.toList
def isValue (s : ByteArray) : Bool := valueOf s.data.toList
/-- whether a variant may be -/
def oneOf (x : Var) : Bool := isName x.1 && (decide (0 < x.2.length) && (decide (x.2.length ≤ 4) && (x.2.all isValue && decide x.2.Nodup)))
set_option maxRecDepth 10000 in
theorem badValue_any (s : ByteArray) (hs : s.size ≤ 9223372036854775807) (w : World) : Calls Try.prog 134 #[.string s] w fun e w' => e = .returned (.bool (!isValue s)) ∧ w = w' := by
  have hV := value_any s hs w
  obtain ⟨r, hr⟩ : ∃ r, r = isValue s := ⟨_, rfl⟩
  have hr2 : r = valueOf s.data.toList := hr
  rw [← hr2] at hV
  rw [← hr]
  have HV := Lib.hid hV; have Hr := Lib.hid hr; have Hr2 := Lib.hid hr2; clear hV hr hr2
  go_enter Try.func134, Try.ntmps134
  go_wp2_with fail
  refine HV.out.mono ?_
  rintro e w1 ⟨rfl, rfl⟩
  go_wp2_with fail
  go_ret
  exact ⟨rfl, rfl⟩
theorem enters_badValue : ∀ args w, (callFunc 134 args).run Try.prog w = .ok (.enter 134 args) w := enters_of Try.func134 (by kernel_rfl) rfl
theorem badValue_pred (l : List ByteArray) (w : World) : IdxStr.Pred RStr (fun s => !isValue s) 134 #[] l w := by
  intro W u0 x _ _ h
  obtain ⟨h1, h2⟩ := h
  simp only [List.cons.injEq, and_true] at h1
  subst h1
  unfold maxLen at h2
  exact (badValue_any x (by omega) W).mono fun e w' ⟨he, hw⟩ => ⟨he, hw ▸ Below.refl _ _⟩
theorem any_bad (l : List ByteArray) : (l.any fun s => !isValue s) = !(l.all isValue) := by rw [List.not_all_eq_any_not]
set_option maxRecDepth 10000 in
set_option maxHeartbeats 1000000 in
theorem one_any {w : World} {s : ByteArray} {v : Value} {l : List ByteArray} (hs : s.size ≤ maxLen) (h : RSs w [v] l) (hl : l.length ≤ 1000000) : Calls Try.prog 104 #[.agg #[.string s, v]] w fun e w' => e = .returned (.bool (oneOf (s, l))) ∧ Below w.heap.size w w' := by
  unfold maxLen at hs
  obtain ⟨a, cap, rfl, hz, _⟩ := strs_open h
  obtain ⟨m, hm⟩ : ∃ m, m = l.length := ⟨_, rfl⟩
  obtain ⟨r, hr⟩ : ∃ r, r = oneOf (s, l) := ⟨_, rfl⟩
  have hv : r = (isName s && (decide (0 < m) && (decide (m ≤ 4) && (l.all isValue && decide l.Nodup)))) := by rw [hr, hm]; rfl
  have hN := fun W => name_any s (by omega) W
  have hb1 : Below w.heap.size w (w.alloc (.cells #[.string s, .slice a l.length cap] 35)) := below_alloc1 _ _
  have hR := stays_slice stays_str _ _ _ _ h hb1
  have hC := IdxStr.has_any stays_str (fun s => !isValue s) 134 #[] enters_badValue hR (badValue_pred l _)
  rw [any_bad] at hC
  have hT := fun W (hb : Below (w.alloc (.cells #[.string s, .slice a l.length cap] 35)).heap.size (w.alloc (.cells #[.string s, .slice a l.length cap] 35)) W) => twice_any (stays_slice stays_str _ _ _ _ hR hb) hl
  obtain ⟨p, hp⟩ : ∃ p, p = isName s := ⟨_, rfl⟩
  have hp2 : p = nameOf s.data.toList := hp
  obtain ⟨q, hq⟩ : ∃ q, q = l.all isValue := ⟨_, rfl⟩
  obtain ⟨d, hd⟩ : ∃ d, d = decide l.Nodup := ⟨_, rfl⟩
  rw [← hp2] at hN
  rw [← hq] at hC
  rw [← hd] at hT
  rw [← hp, ← hq, ← hd] at hv
  rw [← hr]
  rw [← hm] at h hz hb1 hR hC hT hl ⊢
  cases p with
  | false =>
    have hf : r = false := by rw [hv]; rfl
    have Hh := Lib.hid h; have Hm := Lib.hid hm; have Hr := Lib.hid hr; have Hv := Lib.hid hv; have HN := Lib.hid hN; have Hb1 := Lib.hid hb1; have HR := Lib.hid hR; have HC := Lib.hid hC; have HT := Lib.hid hT; have Hp := Lib.hid hp; have Hp2 := Lib.hid hp2; have Hq := Lib.hid hq; have Hd := Lib.hid hd; have Hf := Lib.hid hf; clear h hm hr hv hN hb1 hR hC hT hp hp2 hq hd hf
    go_enter Try.func104, Try.ntmps104
    go_wp2_with fail
    refine (HN.out _).mono ?_
    rintro e w1 ⟨rfl, rfl⟩
    go_wp2_with fail
    go_ret
    exact ⟨ret_bool Hf.out.symm, Hb1.out⟩
  | true =>
    by_cases h0 : 0 < m
    · by_cases h4 : m ≤ 4
      · have k1 : (0 : Int) < (m : Int) := by omega
        have k2 : (m : Int) ≤ 4 := by omega
        have k3 : decide ((m : Int) ≤ 4) = true := by simpa using k2
        cases q with
        | false =>
          have hf : r = false := by rw [hv]; simp
          have Hh := Lib.hid h; have Hm := Lib.hid hm; have Hr := Lib.hid hr; have Hv := Lib.hid hv; have HN := Lib.hid hN; have Hb1 := Lib.hid hb1; have HR := Lib.hid hR; have HC := Lib.hid hC; have HT := Lib.hid hT; have Hp := Lib.hid hp; have Hp2 := Lib.hid hp2; have Hq := Lib.hid hq; have Hd := Lib.hid hd; have Hf := Lib.hid hf; clear h hm hr hv hN hb1 hR hC hT hp hp2 hq hd hf
          go_enter Try.func104, Try.ntmps104
          go_wp2_with fail
          refine (HN.out _).mono ?_
          rintro e w1 ⟨rfl, rfl⟩
          go_wp2_with fail
          refine HC.out.mono ?_
          rintro e w2 ⟨rfl, hb2⟩
          have hb3 := Hb1.out.trans (hb2.mono Hb1.out.size)
          have Hb2 := Lib.hid hb2; have Hb3 := Lib.hid hb3; clear hb2 hb3
          go_wp2_with fail
          go_ret
          exact ⟨ret_bool Hf.out.symm, Hb3.out⟩
        | true =>
          have hf : r = d := by rw [hv, decide_eq_true h0, decide_eq_true h4]; rfl
          have Hh := Lib.hid h; have Hm := Lib.hid hm; have Hr := Lib.hid hr; have Hv := Lib.hid hv; have HN := Lib.hid hN; have Hb1 := Lib.hid hb1; have HR := Lib.hid hR; have HC := Lib.hid hC; have HT := Lib.hid hT; have Hp := Lib.hid hp; have Hp2 := Lib.hid hp2; have Hq := Lib.hid hq; have Hd := Lib.hid hd; have Hf := Lib.hid hf; clear h hm hr hv hN hb1 hR hC hT hp hp2 hq hd hf
          go_enter Try.func104, Try.ntmps104
          go_wp2_with fail
          refine (HN.out _).mono ?_
          rintro e w1 ⟨rfl, rfl⟩
          go_wp2_with fail
          refine HC.out.mono ?_
          rintro e w2 ⟨rfl, hb2⟩
          have hb3 := Hb1.out.trans (hb2.mono Hb1.out.size)
          have hT2 := HT.out w2 hb2
          have c1 : w2.cell? ⟨w.heap.size, 1, none⟩ = some (.slice a m cap) := by
            have := cells_at (heap_below hb2 (heap_alloc_new w (.cells #[.string s, .slice a m cap] 35))) 1
            simpa using this
          have Hb2 := Lib.hid hb2; have Hb3 := Lib.hid hb3; have HT2 := Lib.hid hT2; clear hb2 hb3 hT2
          go_wp2_with fail
          refine HT2.out.mono ?_
          rintro e w3 ⟨rfl, hb4⟩
          have hb5 := Hb3.out.trans (hb4.mono Hb3.out.size)
          have Hb4 := Lib.hid hb4; have Hb5 := Lib.hid hb5; clear hb4 hb5
          go_wp2_with fail
          go_ret
          exact ⟨ret_bool (by rw [Hf.out]), Hb5.out⟩
      · have hf : r = false := by rw [hv, decide_eq_false h4]; simp
        have k1 : (0 : Int) < (m : Int) := by omega
        have k2 : (4 : Int) < (m : Int) := by omega
        have k3 : decide ((m : Int) ≤ 4) = false := by simpa using k2
        have Hh := Lib.hid h; have Hm := Lib.hid hm; have Hr := Lib.hid hr; have Hv := Lib.hid hv; have HN := Lib.hid hN; have Hb1 := Lib.hid hb1; have HR := Lib.hid hR; have HC := Lib.hid hC; have HT := Lib.hid hT; have Hp := Lib.hid hp; have Hp2 := Lib.hid hp2; have Hq := Lib.hid hq; have Hd := Lib.hid hd; have Hf := Lib.hid hf; clear h hm hr hv hN hb1 hR hC hT hp hp2 hq hd hf
        go_enter Try.func104, Try.ntmps104
        go_wp2_with fail
        refine (HN.out _).mono ?_
        rintro e w1 ⟨rfl, rfl⟩
        go_wp2_with fail
        go_ret
        exact ⟨ret_bool Hf.out.symm, Hb1.out⟩
    · have hf : r = false := by rw [hv, decide_eq_false h0]; rfl
      have k1 : decide (0 < (m : Int)) = false := decide_eq_false (by omega)
      have k2 : m ≤ 0 := by omega
      have Hh := Lib.hid h; have Hm := Lib.hid hm; have Hr := Lib.hid hr; have Hv := Lib.hid hv; have HN := Lib.hid hN; have Hb1 := Lib.hid hb1; have HR := Lib.hid hR; have HC := Lib.hid hC; have HT := Lib.hid hT; have Hp := Lib.hid hp; have Hp2 := Lib.hid hp2; have Hq := Lib.hid hq; have Hd := Lib.hid hd; have Hf := Lib.hid hf; clear h hm hr hv hN hb1 hR hC hT hp hp2 hq hd hf
      go_enter Try.func104, Try.ntmps104
      go_wp2_with fail
      refine (HN.out _).mono ?_
      rintro e w1 ⟨rfl, rfl⟩
      go_wp2_with fail
      go_ret
      exact ⟨ret_bool Hf.out.symm, Hb1.out⟩
end Go.Proofs.Ytnelgellbabkoaa

/- The walk of variant.May: whether variants may be. Condition: few values. -/
namespace Go.Proofs.Ytnelgellbabkoaa
open Go.RowKit Go.Shelf

theorem elem_str : Elem Try.prog 33 9 (.string ⟨#[]⟩) 1 16 := ⟨Try.underlying33, by kernel_rfl, rfl, by decide⟩
theorem vars_open {w : World} {v : Value} {l : List Var} (h : RVars w [v] l) : ∃ a cap, v = .slice a l.length cap ∧ l.length ≤ 9223372036854775807 ∧ ∀ i (hi : i < l.length), ∃ b off u, a = some ⟨b, off, none⟩ ∧ w.cell? ⟨b, off + i * 2, none⟩ = some (.string l[i].1) ∧ w.cell? ⟨b, off + i * 2 + 1, none⟩ = some u ∧ l[i].1.size ≤ 9223372036854775807 ∧ RSs w [u] l[i].2 := by
  obtain ⟨a, cap, hv, hcap, hmax, hel⟩ := h
  simp only [List.cons.injEq, and_true] at hv
  unfold maxLen at hmax
  refine ⟨a, cap, hv, by omega, fun i hi => ?_⟩
  obtain ⟨b, off, ecs, h1, h2, h3, u, h4, h5, h6⟩ := hel i l[i] (List.getElem?_eq_getElem hi)
  subst h4
  unfold maxLen at h5
  exact ⟨b, off, u, h1, by simpa using h3 0 _ rfl, by simpa using h3 1 _ rfl, by omega, h6⟩
theorem strs_reads {w : World} {B : Nat} {v : Value} {f : List ByteArray} (hw : ∀ x ∈ f, x.size ≤ maxLen) (h : w.ownsRow B 9 1 v f.length (f.map strv)) : RSs w [v] f :=
  slice_of_owns (vs := f.map strv) (by simp) h (fun i u x hu hx => by
    rw [List.getElem?_map, hx] at hu
    simp at hu
    subst hu
    exact ⟨rfl, hw x (List.mem_of_getElem? hx)⟩)
/-- whether variants may be -/
def mayOf (l : List Var) : Bool := l.all oneOf && (decide (l.length ≤ 4) && decide ((l.map (·.1)).Nodup))
theorem allv_succ {α : Type} {p : α → Bool} {l : List α} {k : Nat} (h : k < l.length) (h1 : (l.take k).all p = true) (h2 : p l[k] = true) : (l.take (k + 1)).all p = true := by
  rw [List.take_succ_eq_append_getElem h, List.all_append, h1]; simp [h2]
theorem allv_no {α : Type} {p : α → Bool} {l : List α} {k : Nat} (h : k < l.length) (hp : p l[k] = false) : l.all p = false := by
  rw [Bool.eq_false_iff]; intro h2
  have := List.all_eq_true.1 h2 _ (List.getElem_mem h)
  rw [hp] at this; cases this
set_option maxRecDepth 10000 in
set_option maxHeartbeats 1000000 in
theorem may_any {w : World} {v : Value} {l : List Var} (h : RVars w [v] l) (hl : l.length ≤ 1000000) (hv : ∀ x ∈ l, x.2.length ≤ 1000000) : Calls Try.prog 67 #[v] w fun e w' => e = .returned (.bool (mayOf l)) ∧ Below w.heap.size w w' := by
  obtain ⟨a, cap, rfl, hz, g⟩ := vars_open h
  obtain ⟨n, hn⟩ : ∃ n, n = l.length := ⟨_, rfl⟩
  obtain ⟨r, hr⟩ : ∃ r, r = mayOf l := ⟨_, rfl⟩
  have hsz : ∀ x ∈ l, x.1.size ≤ 9223372036854775807 := fun x hx => by
    obtain ⟨i, hi, e⟩ := List.mem_iff_getElem.1 hx
    obtain ⟨_, _, _, _, _, _, h1, _⟩ := g i hi
    rw [e] at h1; exact h1
  rw [← hr]
  rw [← hn] at hz hl h ⊢
  have Hh := Lib.hid h; have Hg := Lib.hid g; have Hn := Lib.hid hn; have Hr := Lib.hid hr; have Hv := Lib.hid hv; have Hsz := Lib.hid hsz; clear h g hn hr hv hsz
  go_enter Try.func67, Try.ntmps67
  go_wp2_with fail
  go_loopw [3, 8] (fun o i wr => ∃ k : Nat, k ≤ n ∧ i = .int .i64 k ∧ wr.ownsRow w.heap.size 9 1 o k ((l.take k).map fun x => strv x.1) ∧ (l.take k).all oneOf = true ∧ Below w.heap.size w wr) (fun _ i _ => n - (intOf i).toNat)
  case atStart => exact ⟨0, Nat.zero_le _, rfl, World.ownsRow_nil _ _ _ _, by simp, Below.refl _ _⟩
  case round =>
    obtain ⟨k, hk, rfl, ho, hall, hb⟩ := hrel
    obtain ⟨oa, oc, rfl⟩ := own_shape ho
    have hB := hb.size
    by_cases hlt : k < n
    · have hkl : k < l.length := by have := Hn.out; omega
      obtain ⟨b, off, u, rfl, d0, d1, hsx, hu⟩ := Hg.out k hkl
      obtain ⟨x, hx⟩ : ∃ x, x = l[k] := ⟨_, rfl⟩
      rw [← hx] at d0 hu hsx
      have hxl : x ∈ l := by rw [hx]; exact List.getElem_mem hkl
      have hxv := Hv.out x hxl
      obtain ⟨ua, uc, rfl, hz2, _⟩ := strs_open hu
      obtain ⟨m, hm⟩ : ∃ m, m = x.2.length := ⟨_, rfl⟩
      have e0 := cell_later hb d0
      have e1 := cell_later hb d1
      have hO := fun (W : World) (hW : Below wr.heap.size wr W) => one_any (s := x.1) (by unfold maxLen; omega) (stays_slice stays_str _ _ _ _ hu (hb.trans (hW.mono hB))) hxv
      rw [← hm] at e1 d1 hu hz2 hxv hO
      have hyes : oneOf x = true → (l.take (k + 1)).all oneOf = true := fun h => allv_succ hkl hall (by rw [← hx]; exact h)
      have hno : oneOf x = false → r = false := fun h => by rw [Hr.out]; unfold mayOf; rw [allv_no hkl (by rw [← hx]; exact h)]; rfl
      have htk : (l.take (k + 1)).map (fun x => strv x.1) = (l.take k).map (fun x => strv x.1) ++ [strv x.1] := by rw [List.take_succ_eq_append_getElem hkl, ← hx, List.map_append]; rfl
      obtain ⟨s, hs⟩ : ∃ s, s = x.1 := ⟨_, rfl⟩
      obtain ⟨p, hp⟩ : ∃ p, p = oneOf x := ⟨_, rfl⟩
      have hpx : oneOf (x.1, x.2) = p := by rw [hp]
      rw [hpx] at hO
      rw [← hp] at hyes hno
      rw [← hs] at e0 d0 hsx hO htk
      have k5 : (0 : Int) ≤ (k : Int) := by omega
      have k6 : (k : Int) < (n : Int) := by omega
      clear hpx
      clear hx hkl
      have hkm : k ≤ 1000000 := by omega
      cases p with
      | false =>
        have hf := hno rfl
        have Ho := Lib.hid ho; have Hall := Lib.hid hall; have Hb := Lib.hid hb; have Hd0 := Lib.hid d0; have Hd1 := Lib.hid d1; have Hu := Lib.hid hu; have HO := Lib.hid hO; have Hyes := Lib.hid hyes; have Hno := Lib.hid hno; have Hf := Lib.hid hf; have Hm := Lib.hid hm; have Hs := Lib.hid hs; have Hp := Lib.hid hp; have Htk := Lib.hid htk; have Hxl := Lib.hid hxl; clear ho hall hb d0 d1 hu hO hyes hno hf hm hs hp htk hxl
        go_wp2_with fail
        refine (HO.out _ ?c1).mono ?_
        case c1 => exact below_alloc1 _ _
        rintro e w1 ⟨rfl, hb1⟩
        have hb2 := Hb.out.trans (((below_alloc1 wr (.cells #[.string s, .slice ua m uc] 35)).trans (hb1.mono (by simp))).mono hB)
        have Hb1 := Lib.hid hb1; have Hb2 := Lib.hid hb2; clear hb1 hb2
        go_wp2_with fail
        go_ret
        exact ⟨ret_bool Hf.out.symm, Hb2.out⟩
      | true =>
        have hnext := hyes rfl
        have Ho := Lib.hid ho; have Hall := Lib.hid hall; have Hb := Lib.hid hb; have Hd0 := Lib.hid d0; have Hd1 := Lib.hid d1; have Hu := Lib.hid hu; have HO := Lib.hid hO; have Hyes := Lib.hid hyes; have Hno := Lib.hid hno; have Hnext := Lib.hid hnext; have Hm := Lib.hid hm; have Hs := Lib.hid hs; have Hp := Lib.hid hp; have Htk := Lib.hid htk; have Hxl := Lib.hid hxl; clear ho hall hb d0 d1 hu hO hyes hno hnext hm hs hp htk hxl
        go_wp2_with fail
        refine (HO.out _ ?c1).mono ?_
        case c1 => exact below_alloc1 _ _
        rintro e w1 ⟨rfl, hb1⟩
        have hb2 := Hb.out.trans (((below_alloc1 wr (.cells #[.string s, .slice ua m uc] 35)).trans (hb1.mono (by simp))).mono hB)
        have hbr := (below_alloc1 wr (.cells #[.string s, .slice ua m uc] 35)).trans (hb1.mono (by simp))
        have c0 : w1.cell? ⟨wr.heap.size, 0, none⟩ = some (.string s) := by
          have := cells_at (heap_below hb1 (heap_alloc_new wr (.cells #[.string s, .slice ua m uc] 35))) 0
          simpa using this
        have cc0 : ∀ o : Obj, (w1.alloc o).cell? ⟨wr.heap.size, 0, none⟩ = some (.string s) := fun o => ((Frm.refl _ w1).alloc o).keep c0
        have ho1 := ownsRow_below Ho.out hbr
        have hB1 : w.heap.size ≤ w1.heap.size := hb2.size
        have Hb1 := Lib.hid hb1; have Hb2 := Lib.hid hb2; have Hbr := Lib.hid hbr; have Ho1 := Lib.hid ho1; clear hb1 hb2 hbr ho1
        go_wp2_with (at_builtin; (refine wpList_append_some elem_str rfl (.tmp 15) (.tmp 18) rfl w.heap.size (.slice oa k oc) k _ rfl Ho1.out 1 (by decide) #[.string s] rfl rfl (by simp [Value.oneCell']) (by omega) (by unfold maxLen; omega) hB1 ?_; intro g8 c8 w8 hown8 hg8 hm8))
        have hbel8 := bel_own Hb2.out Ho1.out (Nat.le_refl _) hg8 hB1
        have hown9 : w8.ownsRow w.heap.size 9 1 (.slice (some ⟨g8, 0, none⟩) (k + 1) c8) (k + 1) ((l.take (k + 1)).map fun x => strv x.1) := by rw [Htk.out]; exact hown8
        have Hown8 := Lib.hid hown8; have Hg8 := Lib.hid hg8; have Hbel8 := Lib.hid hbel8; have Hown9 := Lib.hid hown9; clear hown8 hg8 hbel8 hown9
        clear hm8
        go_wp2_with fail
        go_roundw
        case rel => exact ⟨k + 1, by omega, by go_num, Hown9.out, Hnext.out, Hbel8.out⟩
        case measure => simp [intOf]; omega
    · obtain rfl : k = n := by omega
      have e : l.take k = l := List.take_of_length_le (by have := Hn.out; omega)
      rw [e] at hall ho
      have hrr : r = (decide (k ≤ 4) && decide ((l.map (·.1)).Nodup)) := by rw [Hr.out]; unfold mayOf; rw [hall, ← Hn.out]; rfl
      by_cases h4 : k ≤ 4
      · have hnm : RSs wr [.slice oa k oc] (l.map (·.1)) := by
          have hkk : k = (l.map (·.1)).length := by rw [List.length_map]; exact Hn.out
          have h9 := ho
          rw [hkk] at h9 ⊢
          refine strs_reads (fun x hx => ?_) (by rw [List.map_map]; exact h9)
          obtain ⟨y, hy, rfl⟩ := List.mem_map.1 hx
          have := Hsz.out y hy
          unfold maxLen; omega
        have hT := twice_any hnm (by rw [List.length_map]; have := Hn.out; omega)
        obtain ⟨d, hd⟩ : ∃ d, d = decide ((l.map (·.1)).Nodup) := ⟨_, rfl⟩
        rw [← hd] at hT
        have hf : r = d := by rw [hrr, decide_eq_true h4, ← hd]; rfl
        have k2 : (k : Int) ≤ 4 := by omega
        have k3 : decide ((k : Int) ≤ 4) = true := by simpa using k2
        have Ho := Lib.hid ho; have Hall := Lib.hid hall; have Hb := Lib.hid hb; have Hrr := Lib.hid hrr; have Hnm := Lib.hid hnm; have HT := Lib.hid hT; have Hd := Lib.hid hd; have Hf := Lib.hid hf; clear ho hall hb hrr hnm hT hd hf
        clear e
        go_wp2_with fail
        refine HT.out.mono ?_
        rintro e w1 ⟨rfl, hb1⟩
        have hb2 := Hb.out.trans (hb1.mono hB)
        have Hb1 := Lib.hid hb1; have Hb2 := Lib.hid hb2; clear hb1 hb2
        go_wp2_with fail
        go_ret
        exact ⟨ret_bool (by rw [Hf.out]), Hb2.out⟩
      · have hf : r = false := by rw [hrr, decide_eq_false h4]; rfl
        have k2 : (4 : Int) < (k : Int) := by omega
        have k3 : decide ((k : Int) ≤ 4) = false := by simpa using k2
        have Ho := Lib.hid ho; have Hall := Lib.hid hall; have Hb := Lib.hid hb; have Hrr := Lib.hid hrr; have Hf := Lib.hid hf; clear ho hall hb hrr hf
        clear e
        go_wp2_with fail
        go_ret
        exact ⟨ret_bool Hf.out.symm, Hb.out⟩
end Go.Proofs.Ytnelgellbabkoaa

/- The walk of variant.Usual: the settings with the usual values. Condition: few variants. -/
namespace Go.Proofs.Ytnelgellbabkoaa
open Go.RowKit Go.Shelf

abbrev Setg := ByteArray × ByteArray
def setCells (x : Setg) : List Value := [.string x.1, .string x.2]
theorem elem_set : Elem Try.prog 36 38 (.agg #[.string ⟨#[]⟩, .string ⟨#[]⟩]) 2 32 := ⟨Try.underlying36, by kernel_rfl, rfl, by decide⟩
def usual1 (x : Var) : Option Setg := x.2.head?.map fun y => (x.1, y)
def usualOf (l : List Var) : List Setg := l.filterMap usual1
theorem usual_succ {l : List Var} {k : Nat} (h : k < l.length) : usualOf (l.take (k + 1)) = usualOf (l.take k) ++ (match usual1 l[k] with | some y => [y] | none => []) := by
  unfold usualOf
  rw [List.take_succ_eq_append_getElem h, List.filterMap_append]
  cases hq : usual1 l[k] <;> simp [hq]
theorem usual_len (l : List Var) : (usualOf l).length ≤ l.length := List.length_filterMap_le _ _
set_option maxRecDepth 10000 in
set_option maxHeartbeats 2000000 in
theorem usual_any {w : World} {v : Value} {l : List Var} (h : RVars w [v] l) (hl : l.length ≤ 1000000) : Calls Try.prog 62 #[v] w fun e w' => ∃ o, e = .returned o ∧ w'.ownsRow w.heap.size 38 2 o (usualOf l).length ((usualOf l).flatMap setCells) ∧ Below w.heap.size w w' := by
  obtain ⟨a, cap, rfl, hz, g⟩ := vars_open h
  obtain ⟨n, hn⟩ : ∃ n, n = l.length := ⟨_, rfl⟩
  rw [← hn] at hz hl h ⊢
  have Hh := Lib.hid h; have Hg := Lib.hid g; have Hn := Lib.hid hn; clear h g hn
  go_enter Try.func62, Try.ntmps62
  go_wp2_with fail
  go_loopw [3, 8] (fun o i wr => ∃ k m : Nat, k ≤ n ∧ i = .int .i64 k ∧ m = (usualOf (l.take k)).length ∧ m ≤ k ∧ wr.ownsRow w.heap.size 38 2 o m ((usualOf (l.take k)).flatMap setCells) ∧ Below w.heap.size w wr) (fun _ i _ => n - (intOf i).toNat)
  case atStart => exact ⟨0, 0, Nat.zero_le _, rfl, rfl, Nat.le_refl _, World.ownsRow_nil _ _ _ _, Below.refl _ _⟩
  case round =>
    obtain ⟨k, m, hk, rfl, hm, hmk, ho, hb⟩ := hrel
    obtain ⟨oa, oc, rfl⟩ := own_shape ho
    have hB := hb.size
    by_cases hlt : k < n
    · have hkl : k < l.length := by have := Hn.out; omega
      obtain ⟨b, off, u, rfl, d0, d1, hsx, hu⟩ := Hg.out k hkl
      obtain ⟨x, hx⟩ : ∃ x, x = l[k] := ⟨_, rfl⟩
      rw [← hx] at d0 hu hsx
      obtain ⟨ua, uc, rfl, hz2, g2⟩ := strs_open hu
      obtain ⟨m2, hm2⟩ : ∃ m, m = x.2.length := ⟨_, rfl⟩
      have e0 := cell_later hb d0
      have e1 := cell_later hb d1
      have hus := usual_succ hkl
      rw [← hx] at hus
      rw [← hm2] at e1 d1 hu hz2
      obtain ⟨s, hs⟩ : ∃ s, s = x.1 := ⟨_, rfl⟩
      rw [← hs] at e0 d0 hsx
      have k5 : (0 : Int) ≤ (k : Int) := by omega
      have k6 : (k : Int) < (n : Int) := by omega
      clear hx hkl
      by_cases h0 : 0 < m2
      · have h0l : 0 < x.2.length := by omega
        obtain ⟨b2, off2, rfl, d2, hxx⟩ := g2 0 h0l
        clear hxx
        obtain ⟨y, hy⟩ : ∃ y, y = x.2[0] := ⟨_, rfl⟩
        rw [← hy, Nat.add_zero] at d2
        have hu1 : usual1 x = some (s, y) := by
          unfold usual1
          rw [List.head?_eq_getElem?, List.getElem?_eq_getElem h0l, ← hy, ← hs]; rfl
        have hus2 : usualOf (l.take (k + 1)) = usualOf (l.take k) ++ [(s, y)] := by rw [hus, hu1]
        have d3 := cell_later hb d2
        have k7 : (0 : Int) < (m2 : Int) := by omega
        have hnl : (usualOf (l.take (k + 1))).length = m + 1 := by rw [hus2, List.length_append, ← hm]; rfl
        clear hy d2
        have Ho := Lib.hid ho; have Hb := Lib.hid hb; have Hd0 := Lib.hid d0; have Hd1 := Lib.hid d1; have Hu := Lib.hid hu; have Hus := Lib.hid hus; have Hus2 := Lib.hid hus2; have Hu1 := Lib.hid hu1; have Hm2 := Lib.hid hm2; have Hs := Lib.hid hs; have Hg2 := Lib.hid g2; have Hm := Lib.hid hm; have Hd3 := Lib.hid d3; have Hnl := Lib.hid hnl; clear ho hb d0 d1 hu hus hus2 hu1 hm2 hs g2 hm d3 hnl
        clear h0l
        go_upto_region 6 with (fail)
        obtain ⟨W1, hW1⟩ : ∃ W1, W1 = wr.alloc (.cells #[.string s, .slice (some ⟨b2, off2, none⟩) m2 uc] 35) := ⟨_, rfl⟩
        have hcW : W1.heap[wr.heap.size]? = some (.cells #[.string s, .slice (some ⟨b2, off2, none⟩) m2 uc] 35 (0, 0)) := by rw [hW1]; exact heap_alloc_new _ _
        have c0 := cells_at hcW 0
        have c1 := cells_at hcW 1
        simp only [List.getElem?_toArray, List.getElem?_cons_succ, List.getElem?_cons_zero] at c0 c1
        have d4 : W1.cell? ⟨b2, off2, none⟩ = some (.string y) := by rw [hW1]; exact cell_later (below_alloc1 _ _) Hd3.out
        have hown2 : W1.drew.ownsRow w.heap.size 38 2 (.slice oa m oc) m ((usualOf (l.take k)).flatMap setCells) := by rw [hW1]; exact Ho.out.alloc _
        have hB2 : w.heap.size ≤ W1.drew.heap.size := by rw [hW1]; show w.heap.size ≤ (wr.alloc _).heap.size; simp; omega
        have hbW : Below w.heap.size w W1 := by rw [hW1]; exact Hb.out.alloc hB _
        rw [← hW1]
        clear hcW
        have Hown2 := Lib.hid hown2; have HbW := Lib.hid hbW; have HW1 := Lib.hid hW1; clear hown2 hbW hW1
        go_region_law (refine step_append_some elem_set (w := W1.drew) rfl (.tmp 16) (.tmp 24) rfl w.heap.size (.slice oa m oc) m ((usualOf (l.take k)).flatMap setCells) rfl Hown2.out 1 (by decide) #[.string s, .string y] rfl rfl (by simp [Value.oneCell']) (by omega) (by unfold maxLen; omega) hB2 ?_; intro g8 c8 w8 hown8 hg8 hm8)
        all_goals
          have hbel8 := bel_own (bel_drewN HbW.out 1) Hown2.out (Nat.le_refl _) hg8 hB2
          have hown9 : w8.ownsRow w.heap.size 38 2 (.slice (some ⟨g8, 0, none⟩) (m + 1) c8) (m + 1) ((usualOf (l.take (k + 1))).flatMap setCells) := by
            rw [Hus2.out, List.flatMap_append]
            simpa [setCells] using hown8
          have Hown8 := Lib.hid hown8; have Hg8 := Lib.hid hg8; have Hbel8 := Lib.hid hbel8; have Hown9 := Lib.hid hown9; clear hown8 hg8 hbel8 hown9
          clear hm8
          go_wp2_with fail
          go_roundw
          case rel => exact ⟨k + 1, m + 1, by omega, by go_num, Hnl.out.symm, by omega, Hown9.out, Hbel8.out⟩
          case measure => simp [intOf]; omega
      · have hz0 : m2 = 0 := by omega
        have hu1 : usual1 x = none := by
          unfold usual1
          rw [List.eq_nil_of_length_eq_zero (l := x.2) (by omega)]; rfl
        have hus2 : usualOf (l.take (k + 1)) = usualOf (l.take k) := by rw [hus, hu1]; simp
        have k7 : decide (0 < (m2 : Int)) = false := decide_eq_false (by omega)
        have k8 : m2 ≤ 0 := by omega
        rw [← hus2] at ho hm
        have hb2 := hb.alloc hB (.cells #[.string s, .slice ua m2 uc] 35)
        have ho2 := ho.alloc (.cells #[.string s, .slice ua m2 uc] 35)
        clear h0
        have Ho := Lib.hid ho; have Hb := Lib.hid hb; have Hd0 := Lib.hid d0; have Hd1 := Lib.hid d1; have Hu := Lib.hid hu; have Hus := Lib.hid hus; have Hus2 := Lib.hid hus2; have Hu1 := Lib.hid hu1; have Hm2 := Lib.hid hm2; have Hs := Lib.hid hs; have Hg2 := Lib.hid g2; have Hm := Lib.hid hm; have Hz0 := Lib.hid hz0; have Hb2 := Lib.hid hb2; have Ho2 := Lib.hid ho2; clear ho hb d0 d1 hu hus hus2 hu1 hm2 hs g2 hm hz0 hb2 ho2
        go_wp2_with fail
        go_roundw
        case rel => exact ⟨k + 1, m, by omega, by go_num, Hm.out, by omega, Ho2.out, Hb2.out⟩
        case measure => simp [intOf]; omega
    · obtain rfl : k = n := by omega
      have e : l.take k = l := List.take_of_length_le (by have := Hn.out; omega)
      rw [e] at ho hm
      have Ho := Lib.hid ho; have Hb := Lib.hid hb; have Hm := Lib.hid hm; have He := Lib.hid e; clear ho hb hm e
      go_wp2_with fail
      go_ret
      exact ⟨_, rfl, by have := Ho.out; rw [Hm.out] at this ⊢; exact this, Hb.out⟩
end Go.Proofs.Ytnelgellbabkoaa
