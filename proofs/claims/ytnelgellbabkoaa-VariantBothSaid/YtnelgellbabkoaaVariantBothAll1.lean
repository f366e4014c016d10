/- Walks and plain facts. Texts merged: Kit, Open, SortM, StbA, StbB, StbSetK, StbSetR, StbSetM, StbSetN1, StbSetN2. Condition: none beyond what each says. -/
import Derived.WalkKit
import Derived.WalkSpells
import Derived.WalkLawsBesides
import Derived.Lib.Hide
import Derived.BigQuiet
import Derived.Deep.QuietTactic
import Derived.StillTailTactics
import Derived.Deep.RegionLawGrows
import Derived.ProofKit
import Derived.Deep.Slices
import Derived.Sort.LotA
import Derived.Sort.WalkA
import Derived.Shelf.SlSortCmp.KitK
import Derived.Deep.LoopGhost
import Derived.BigRegion
import Derived.Test.YtnelgellbabkoaaRows
import Derived.Shelf.SlSortCmp.QuietGrown
/- Small laws for walks: rows that a call owns, and slices that are read. No condition. -/
namespace Go.Proofs.Ytnelgellbabkoaa
open Go.RowKit

theorem ret_int {k : IntKind} {a b : Int} (h : a = b) : Ending.returned (.int k a) = .returned (.int k b) := by rw [h]
theorem ret_bool {a b : Bool} (h : a = b) : Ending.returned (.bool a) = .returned (.bool b) := by rw [h]
theorem ret_val {a b : Value} (h : a = b) : Ending.returned a = .returned b := by rw [h]

theorem wrap64_nat (m : Nat) (h : m ≤ 9223372036854775807) : wrap64 (m : Int) = m := IntWalk.wrap64_in _ (by omega)

theorem quiet_same {P : Program} {f : FuncId} {args : Array Value} {w : World} {n : Nat} {v : Value}
    (h : Calls P f args (w.drewN n) fun e w' => e = .returned v ∧ w.drewN n = w') : Calls P f args (w.drewN n) fun e w'' => e = .returned v ∧ ∃ m, w'' = w.drewN m :=
  h.mono fun _ _ ⟨he, hm⟩ => ⟨he, n, hm.symm⟩

theorem bel_drewN {B : Nat} {a w : World} (h : Below B a w) (n : Nat) : Below B a (w.drewN n) := ⟨h.os, h.tape, h.output, h.size, h.block⟩

/-- an element type and its slice type in a program's table -/
structure Elem (P : Program) (t e : TypeId) (z : Value) (size bytes : Nat) : Prop where
  slice : P.underlying t = some (.slice e)
  info : (P.info? e).map (fun i => (i.zero, i.size, i.bytes)) = some (some z, size, bytes)
  zero : z.cells.size = size
  pos : 0 < size

theorem grownBy_trans {w w1 w2 : World} {row : Option Nat} (h : w.grownBy w1 none) (k : w1.grownBy w2 row) : w.grownBy w2 row :=
  ⟨k.os.trans h.os, k.tape.trans h.tape, k.output.trans h.output, Nat.le_trans h.size k.size,
    fun b hb hr => (k.block b (Nat.lt_of_lt_of_le hb h.size) hr).trans (h.block b hb (by simp))⟩

theorem grownBy_of_below {w w' : World} (h : Below w.heap.size w w') : w.grownBy w' none :=
  ⟨h.os, h.tape, h.output, h.size, fun k hk _ => h.block k hk⟩

theorem grownBy_below {w w' : World} (h : w.grownBy w' none) : Below w.heap.size w w' := ⟨h.os, h.tape, h.output, h.size, fun k hk => h.block k hk (by simp)⟩

/-- append to an owned row: and the row lies where it lay, or in a new block -/
theorem run_append_where {P : Program} (w : World) (base : Nat) (t ty e : TypeId) (i : TypeInfo) (z : Value) (size bytes : Nat) (ht : P.underlying t = some (.slice e)) (hi : P.info? e = some i) (hz : i.zero = some z)
    (hsize : i.size = size) (hby : i.bytes = bytes) (hzs : z.cells.size = size) (hsz : 0 < size)
    (v : Value) (n : Nat) (xs : List Value) (hown : w.ownsRow base e size v n xs)
    (a : Addr) (m c : Nat) (news : List Value) (hl : news.length = m * size) (hnews : ∀ j u, news[j]? = some u → w.cell? (a.add j) = some u) (h1 : ∀ u ∈ news, u.oneCell' = true)
    (h63 : n + m ≤ maxLen) (hbytes : (n + m) * bytes ≤ 140737488355328) (hbase : base ≤ w.heap.size) :
    ∃ v' w', (Builtin.append_ #[t, t] ty #[v, .slice (some a) m c]).run P w = .ok v' w' ∧ w'.ownsRow base e size v' (n + m) (xs ++ news) ∧ w.grownBy w' v.ownBlock ∧ (v'.ownBlock = v.ownBlock ∨ v'.ownBlock = some w.heap.size) := by
  obtain ⟨v', w', hr, h2, h3, h4⟩ := run_append_own (P := P) w base t ty e i z size bytes ht hi hz hsize hby hzs hsz v n xs hown a m c news hl hnews h1 h63 hbytes hbase
  refine ⟨v', w', hr, h2, h3, ?_⟩
  subst hsize; subst hby
  have h63' : n + m ≤ 9223372036854775807 := by simp only [maxLen] at h63; omega
  rcases hown.2 with ⟨rfl, rfl⟩ | ⟨g, cap, cur, rfl, hbg, hg, hnc, hcm, hcs, htake⟩
  · by_cases hm : m = 0
    · left
      have := h4.2 ⟨rfl, hm⟩
      rw [this]
    · right
      have hr2 := run_append_nil (P := P) w t ty e i z ht hi hz a m c news hl hnews (by omega) (by omega) (by have hb := hbytes; simp only [Nat.zero_add] at hb; omega)
      rw [hr] at hr2
      simp only [Result.ok.injEq] at hr2
      rw [hr2.1]; rfl
  · by_cases hroom : n + m ≤ cap
    · left
      have hfit : n * i.size + news.length ≤ cur.size := by rw [hl, hcs, ← Nat.add_mul]; exact Nat.mul_le_mul_right _ hroom
      have hr2 := run_append_room (P := P) w t ty e i ht hi g n cap cur hg a m c news hl hnews h1 hroom hfit
      rw [hr] at hr2
      simp only [Result.ok.injEq] at hr2
      rw [hr2.1]; rfl
    · right
      have holds : ∀ j u, xs[j]? = some u → w.cell? ((⟨g, 0, none⟩ : Addr).add j) = some u := hown.cells (g := g) rfl
      have hr2 := run_append_grow (P := P) w t ty e i z ht hi hz ⟨g, 0, none⟩ n cap xs hown.1 holds a m c news hl hnews (by omega) (by omega) (growslice_fits (by omega) hbytes)
      rw [hr] at hr2
      simp only [Result.ok.injEq] at hr2
      rw [hr2.1]; rfl

/-- where a row lies behind an append: where it lay, or in a new block -/
def Moved (w : World) (v v' : Value) : Prop := ∀ k, v'.ownBlock = some k → v.ownBlock = some k ∨ w.heap.size ≤ k

theorem wp_append_lit {P : Program} {t e : TypeId} {z : Value} {size bytes : Nat} (E : Elem P t e z size bytes) {w : World} {o : Oper} {a : Act} {K : Act → World → Prop} {Q : Exit → Act → World → Prop}
    (s x : Operand) (ho : o.op = .call { callee := .builtin .append, args := #[s, x], argTypes := #[t, t] })
    (base : Nat) (v : Value) (n : Nat) (xs : List Value) (hs : a.eval s = v) (hown : w.ownsRow base e size v n xs)
    (m : Nat) (news : Array Value) (hx : a.eval x = .slice (some ⟨w.heap.size, 0, none⟩) m m) (hl : news.size = m * size) (h1 : ∀ u ∈ news.toList, u.oneCell' = true)
    (hb : (n + m) * bytes ≤ 140737488355328) (hb1 : n + m ≤ maxLen) (hbase : base ≤ w.heap.size)
    (h : ∀ v' w', w'.ownsRow base e size v' (n + m) (xs ++ news.toList) → w.grownBy w' v.ownBlock → Moved w v v' → K (a.put o.dst v') w') :
    o.wp P a (w.alloc (.cells news e)) K Q := by
  obtain ⟨i, hi, hz, hsz, hby⟩ := info_parts E.info
  obtain ⟨v', w', hr, h2, h3, h4⟩ := run_append_where (P := P) (w.alloc (.cells news e)) base t o.type e i z size bytes E.slice hi hz hsz hby E.zero E.pos v n xs (hown.alloc _) ⟨w.heap.size, 0, none⟩ m m news.toList (by simpa using hl) (by
    intro j u hu
    rw [Addr.add_lit, Nat.zero_add, World.cell?_alloc_new]
    simpa using hu) h1 hb1 hb (by simp; omega)
  unfold Oper.wp execOp
  simp only [ho, resolve, invoke, builtin, Sem.run_bind, Sem.run_pure, Result.andThen_ok, List.map_toArray, List.map_cons, List.map_nil, hs, hx, hr]
  refine h v' w' h2 (grownBy_trans (World.grownBy_alloc w _ none) h3) ?_
  intro k hk
  rcases h4 with h4 | h4
  · exact .inl (by rw [← h4]; exact hk)
  · right
    rw [h4] at hk
    simp at hk
    omega

/-- append of literal elements to an owned row -/
theorem wpList_append_lit {P : Program} {t e : TypeId} {z : Value} {size bytes : Nat} (E : Elem P t e z size bytes) {w : World} {ops : Array Oper} {rest : List Oper} {o : Oper} {a : Act} {Q : Exit → Act → World → Prop}
    (hgd : o.guard = none) (s x : Operand) (ho : o.op = .call { callee := .builtin .append, args := #[s, x], argTypes := #[t, t] })
    (base : Nat) (v : Value) (n : Nat) (xs : List Value) (hs : a.eval s = v) (hown : w.ownsRow base e size v n xs)
    (m : Nat) (news : Array Value) (hx : a.eval x = .slice (some ⟨w.heap.size, 0, none⟩) m m) (hl : news.size = m * size) (h1 : ∀ u ∈ news.toList, u.oneCell' = true)
    (hb : (n + m) * bytes ≤ 140737488355328) (hb1 : n + m ≤ maxLen) (hbase : base ≤ w.heap.size)
    (h : ∀ v' w', w'.ownsRow base e size v' (n + m) (xs ++ news.toList) → w.grownBy w' v.ownBlock → Moved w v v' → wpList P ops Q rest (a.put o.dst v') w') :
    wpList P ops Q (o :: rest) a (w.alloc (.cells news e)) :=
  wpList_plain hgd fun _ hK => wp_append_lit E s x ho base v n xs hs hown m news hx hl h1 hb hb1 hbase fun v' w' h2 h3 h4 => hK _ _ (h v' w' h2 h3 h4)

theorem bel_own {B base : Nat} {w0 w w' : World} {e : TypeId} {size : Nat} {v : Value} {n : Nat} {xs : List Value} (h : Below B w0 w) (hown : w.ownsRow base e size v n xs) (hB : B ≤ base) (hg : w.grownBy w' v.ownBlock) (hb : B ≤ w.heap.size) : Below B w0 w' :=
  h.grown hg hb fun k hk => Nat.le_trans hB (hown.lt k hk).1

theorem ownsRow_below {base : Nat} {w w' : World} {e : TypeId} {size : Nat} {v : Value} {n : Nat} {xs : List Value} (hown : w.ownsRow base e size v n xs) (hb : Below w.heap.size w w') : w'.ownsRow base e size v n xs :=
  hown.kept (grownBy_of_below hb) (by cases hv : v.ownBlock <;> simp)

theorem ownsRow_mono {B base : Nat} {w : World} {e : TypeId} {size : Nat} {v : Value} {n : Nat} {xs : List Value} (hown : w.ownsRow base e size v n xs) (hb : B ≤ base) : w.ownsRow B e size v n xs := by
  refine ⟨hown.1, ?_⟩
  rcases hown.2 with h | ⟨g, cap, cur, hv, hg, r⟩
  · exact .inl h
  · exact .inr ⟨g, cap, cur, hv, by omega, r⟩

theorem ownsRow_some {base : Nat} {w : World} {e : TypeId} {size : Nat} {v : Value} {n : Nat} {xs : List Value} (h : w.ownsRow base e size v n xs) (hn : 0 < n) :
    ∃ g cap, v = .slice (some ⟨g, 0, none⟩) n cap ∧ base ≤ g ∧ g < w.heap.size ∧ n ≤ cap ∧ cap ≤ maxLen ∧ ∀ j u, xs[j]? = some u → w.cell? ⟨g, j, none⟩ = some u := by
  rcases h.2 with ⟨_, rfl⟩ | ⟨g, cap, cur, rfl, hg, hh, hn', hm, hs, ht⟩
  · omega
  · refine ⟨g, cap, rfl, hg, (Array.getElem?_eq_some_iff.1 hh).1, hn', hm, fun j u hu => ?_⟩
    have := h.cells (g := g) rfl j u hu
    rwa [Addr.add_lit, Nat.zero_add] at this

/-- append of literal elements, at least one, to an owned row: the value is written out -/
theorem wpList_append_some {P : Program} {t e : TypeId} {z : Value} {size bytes : Nat} (E : Elem P t e z size bytes) {w : World} {ops : Array Oper} {rest : List Oper} {o : Oper} {a : Act} {Q : Exit → Act → World → Prop}
    (hgd : o.guard = none) (s x : Operand) (ho : o.op = .call { callee := .builtin .append, args := #[s, x], argTypes := #[t, t] })
    (base : Nat) (v : Value) (n : Nat) (xs : List Value) (hs : a.eval s = v) (hown : w.ownsRow base e size v n xs)
    (m : Nat) (hm : 0 < m) (news : Array Value) (hx : a.eval x = .slice (some ⟨w.heap.size, 0, none⟩) m m) (hl : news.size = m * size) (h1 : ∀ u ∈ news.toList, u.oneCell' = true)
    (hb : (n + m) * bytes ≤ 140737488355328) (hb1 : n + m ≤ maxLen) (hbase : base ≤ w.heap.size)
    (h : ∀ g cap w', w'.ownsRow base e size (.slice (some ⟨g, 0, none⟩) (n + m) cap) (n + m) (xs ++ news.toList) → w.grownBy w' v.ownBlock → Moved w v (.slice (some ⟨g, 0, none⟩) (n + m) cap) → wpList P ops Q rest (a.put o.dst (.slice (some ⟨g, 0, none⟩) (n + m) cap)) w') :
    wpList P ops Q (o :: rest) a (w.alloc (.cells news e)) := by
  refine wpList_append_lit E hgd s x ho base v n xs hs hown m news hx hl h1 hb hb1 hbase ?_
  intro v' w' h2 h3 h4
  obtain ⟨g, cap, rfl, _⟩ := ownsRow_some h2 (by omega)
  exact h g cap w' h2 h3 h4

/-- the same as one step of a region that draws its order -/
theorem step_append_some {P : Program} {t e : TypeId} {z : Value} {size bytes : Nat} (E : Elem P t e z size bytes) {w : World} {ops : Array Oper} {o : Oper} {a : Act} {K : Act → World → Prop} {Q : Exit → Act → World → Prop} {X : Prop}
    (hgd : o.guard = none) (s x : Operand) (ho : o.op = .call { callee := .builtin .append, args := #[s, x], argTypes := #[t, t] })
    (base : Nat) (v : Value) (n : Nat) (xs : List Value) (hs : a.eval s = v) (hown : w.ownsRow base e size v n xs)
    (m : Nat) (hm : 0 < m) (news : Array Value) (hx : a.eval x = .slice (some ⟨w.heap.size, 0, none⟩) m m) (hl : news.size = m * size) (h1 : ∀ u ∈ news.toList, u.oneCell' = true)
    (hb : (n + m) * bytes ≤ 140737488355328) (hb1 : n + m ≤ maxLen) (hbase : base ≤ w.heap.size)
    (h : ∀ g cap w', w'.ownsRow base e size (.slice (some ⟨g, 0, none⟩) (n + m) cap) (n + m) (xs ++ news.toList) → w.grownBy w' v.ownBlock → Moved w v (.slice (some ⟨g, 0, none⟩) (n + m) cap) → K (a.put o.dst (.slice (some ⟨g, 0, none⟩) (n + m) cap)) w') :
    if Region.wanted o (yielded ops a.tmps) = true then Oper.wp P o a (w.alloc (.cells news e)) K Q else X := by
  have hw : Region.wanted o (yielded ops a.tmps) = true := by simp [Region.wanted, hgd]
  rw [if_pos hw]
  refine wp_append_lit E s x ho base v n xs hs hown m news hx hl h1 hb hb1 hbase ?_
  intro v' w' h2 h3 h4
  obtain ⟨g, cap, rfl, _⟩ := ownsRow_some h2 (by omega)
  exact h g cap w' h2 h3 h4

/-- w' is w with new blocks, and with writes to the blocks of S alone -/
structure Frm (S : Nat → Prop) (w w' : World) : Prop where
  os : w'.os = w.os
  tape : w'.tape = w.tape
  output : w'.output = w.output
  size : w.heap.size ≤ w'.heap.size
  block : ∀ k, k < w.heap.size → ¬ S k → w'.heap[k]? = w.heap[k]?

theorem Frm.refl (S : Nat → Prop) (w : World) : Frm S w w := ⟨rfl, rfl, rfl, Nat.le_refl _, fun _ _ _ => rfl⟩
theorem Frm.trans {S T : Nat → Prop} {a b c : World} (h : Frm S a b) (k : Frm T b c) (hT : ∀ i, i < a.heap.size → T i → S i) : Frm S a c :=
  ⟨k.os.trans h.os, k.tape.trans h.tape, k.output.trans h.output, Nat.le_trans h.size k.size,
    fun i hi hS => (k.block i (Nat.lt_of_lt_of_le hi h.size) (fun ht => hS (hT i hi ht))).trans (h.block i hi hS)⟩
theorem Frm.mono {S T : Nat → Prop} {a b : World} (h : Frm S a b) (hT : ∀ i, i < a.heap.size → S i → T i) : Frm T a b :=
  (Frm.refl T a).trans h hT
theorem Frm.alloc {S : Nat → Prop} {a w : World} (h : Frm S a w) (o : Obj) : Frm S a (w.alloc o) :=
  h.trans (T := S) ⟨rfl, rfl, rfl, by simp, fun k hk _ => Below.heap_alloc _ _ _ hk⟩ (fun _ _ h => h)
theorem Frm.drewN {S : Nat → Prop} {a w : World} (h : Frm S a w) (n : Nat) : Frm S a (w.drewN n) := ⟨h.os, h.tape, h.output, h.size, h.block⟩
theorem Frm.drew {S : Nat → Prop} {a w : World} (h : Frm S a w) : Frm S a w.drew := ⟨h.os, h.tape, h.output, h.size, h.block⟩
theorem Frm.setCell {S : Nat → Prop} {a w : World} (h : Frm S a w) {p : Addr} (hp : a.heap.size ≤ p.block ∨ S p.block) (u : Value) : Frm S a (w.setCell p u) :=
  h.trans (T := fun k => k = p.block) ⟨rfl, rfl, rfl, by simp [World.setCell], fun k _ hk => Below.heap_setCell _ _ _ _ (by omega)⟩ (fun i hi e => by rcases hp with h | h; omega; rw [e]; exact h)
theorem Frm.grown {S : Nat → Prop} {a w w' : World} {row : Option Nat} (h : Frm S a w) (hg : w.grownBy w' row) (hr : ∀ k, row = some k → a.heap.size ≤ k ∨ S k) : Frm S a w' :=
  h.trans (T := fun k => some k = row) ⟨hg.os, hg.tape, hg.output, hg.size, fun k hk hne => hg.block k hk hne⟩ (fun i hi e => by rcases hr i e.symm with h | h; omega; exact h)
theorem Frm.below {S : Nat → Prop} {a w : World} (h : Frm S a w) {B : Nat} (hB : B ≤ a.heap.size) (hS : ∀ k, S k → B ≤ k) : Below B a w :=
  ⟨h.os, h.tape, h.output, h.size, fun k hk => h.block k (by omega) (fun hs => by have := hS k hs; omega)⟩
theorem Frm.of_below {S : Nat → Prop} {a w : World} (h : Below a.heap.size a w) : Frm S a w := ⟨h.os, h.tape, h.output, h.size, fun k hk _ => h.block k hk⟩
theorem Frm.cell {S : Nat → Prop} {w w' : World} (h : Frm S w w') {p : Addr} (hp : p.block < w.heap.size) (hS : ¬ S p.block) : w'.cell? p = w.cell? p := World.cell?_of_block (h.block p.block hp hS)
theorem Frm.keep {w w' : World} (h : Frm (fun _ => False) w w') {p : Addr} {u : Value} (hc : w.cell? p = some u) : w'.cell? p = some u := (h.cell (World.block_lt_of_cell? w p hc) (fun h => h)).trans hc
theorem Frm.owns {S : Nat → Prop} {w w' : World} (h : Frm S w w') {base : Nat} {e : TypeId} {size : Nat} {v : Value} {n : Nat} {xs : List Value} (ho : w.ownsRow base e size v n xs) (hS : ∀ k, v.ownBlock = some k → ¬ S k) : w'.ownsRow base e size v n xs := by
  refine ⟨ho.1, ?_⟩
  rcases ho.2 with hn | ⟨g, cap, cur, rfl, hb, hgg, rest⟩
  · exact .inl hn
  · exact .inr ⟨g, cap, cur, rfl, hb, by rw [h.block g (Array.getElem?_eq_some_iff.1 hgg).1 (hS g rfl)]; exact hgg, rest⟩

/-- what is read of a slice: n elements, and their cells in a row -/
def Sl (w : World) (v : Value) (n : Nat) (cells : List Value) : Prop :=
  ∃ a cap, v = .slice a n cap ∧ n ≤ cap ∧ cap ≤ maxLen ∧ ∀ j u, cells[j]? = some u → ∃ b off, a = some ⟨b, off, none⟩ ∧ w.cell? ⟨b, off + j, none⟩ = some u

theorem Sl.below {w w' : World} {v : Value} {n : Nat} {cells : List Value} (h : Sl w v n cells) (hb : Below w.heap.size w w') : Sl w' v n cells := by
  obtain ⟨a, cap, rfl, h1, h2, h3⟩ := h
  refine ⟨a, cap, rfl, h1, h2, fun j u hu => ?_⟩
  obtain ⟨b, off, rfl, hc⟩ := h3 j u hu
  exact ⟨b, off, rfl, cell_later hb hc⟩

theorem Sl.of_owns {base : Nat} {w : World} {e : TypeId} {size : Nat} {v : Value} {n : Nat} {xs : List Value} (h : w.ownsRow base e size v n xs) : Sl w v n xs := by
  rcases h.2 with ⟨rfl, rfl⟩ | ⟨g, cap, cur, rfl, hg, hh, hn, hm, hs, ht⟩
  · refine ⟨none, 0, rfl, Nat.le_refl _, Nat.zero_le _, fun j u hu => ?_⟩
    have hx : xs = [] := List.eq_nil_of_length_eq_zero (by simpa using h.1)
    subst hx
    simp at hu
  · refine ⟨some ⟨g, 0, none⟩, cap, rfl, hn, hm, fun j u hu => ⟨g, 0, rfl, ?_⟩⟩
    have := h.cells (g := g) rfl j u hu
    rwa [Addr.add_lit] at this

end Go.Proofs.Ytnelgellbabkoaa

/- Readings of plain data in memory, by shapes; each is opened out of the form's own reading, and stays where memory only grows. No condition. -/
namespace Go.Proofs.Ytnelgellbabkoaa
open Go.RowKit

abbrev Rd (α : Type) := World → List Value → α → Prop

def RInt (k : IntKind) : Rd Int := fun _ cs n => cs = [.int k n] ∧ (Lit.int k n).wf = true
def RBool : Rd Bool := fun _ cs b => cs = [.bool b]
def RStr : Rd ByteArray := fun _ cs s => cs = [.string s] ∧ s.size ≤ maxLen
/-- a slice: its elements, each of sz cells, in a row -/
def RSlice {α : Type} (sz : Nat) (R : Rd α) : Rd (List α) := fun w cs l =>
  ∃ a cap, cs = [.slice a l.length cap] ∧ l.length ≤ cap ∧ cap ≤ maxLen ∧
    ∀ i x, l[i]? = some x → ∃ b off ecs, a = some ⟨b, off, none⟩ ∧ ecs.length = sz ∧ (∀ j u, ecs[j]? = some u → w.cell? ⟨b, off + i * sz + j, none⟩ = some u) ∧ R w ecs x
def RNil : Rd Unit := fun _ cs _ => cs = []
def RCons {α β : Type} (sz : Nat) (R : Rd α) (S : Rd β) : Rd (α × β) := fun w cs x => ∃ c1 c2, cs = c1 ++ c2 ∧ c1.length = sz ∧ R w c1 x.1 ∧ S w c2 x.2

def Stays {α : Type} (R : Rd α) : Prop := ∀ w w' cs a, R w cs a → Below w.heap.size w w' → R w' cs a

theorem stays_int (k : IntKind) : Stays (RInt k) := fun _ _ _ _ h _ => h
theorem stays_bool : Stays RBool := fun _ _ _ _ h _ => h
theorem stays_str : Stays RStr := fun _ _ _ _ h _ => h
theorem stays_nil : Stays RNil := fun _ _ _ _ h _ => h
theorem stays_cons {α β : Type} {sz : Nat} {R : Rd α} {S : Rd β} (hR : Stays R) (hS : Stays S) : Stays (RCons sz R S) := by
  rintro w w' cs ⟨a, b⟩ ⟨c1, c2, h1, h2, h3, h4⟩ hb
  exact ⟨c1, c2, h1, h2, hR _ _ _ _ h3 hb, hS _ _ _ _ h4 hb⟩
theorem stays_slice {α : Type} {sz : Nat} {R : Rd α} (hR : Stays R) : Stays (RSlice sz R) := by
  rintro w w' cs l ⟨a, cap, rfl, h1, h2, h3⟩ hb
  refine ⟨a, cap, rfl, h1, h2, fun i x hi => ?_⟩
  obtain ⟨b, off, ecs, rfl, h4, h5, h6⟩ := h3 i x hi
  exact ⟨b, off, ecs, rfl, h4, fun j u hu => cell_later hb (h5 j u hu), hR _ _ _ _ h6 hb⟩

def Opens {α : Type} (P : Program) (t : TypeId) (R : Rd α) : Prop :=
  ∀ {H : Type} (enc : TypeId × Value → H) (w : World) (base : Nat) (spare : Nat → Bool) (held : Bool) (fuel : Nat) (cs : List Value) (x : DataW H × List MemPlace),
    DataW.trod enc P w base spare held fuel t cs = some x → ∃ a, R w cs a

theorem opens_int {P : Program} {t : TypeId} {k : IntKind} (ht : P.underlying t = some (.int k)) : Opens P t (RInt k) := by
  intro H enc w base spare held fuel cs x h
  obtain ⟨n, h1, _, h3⟩ := DataW.trod_int ht h
  exact ⟨n, h1, h3⟩
theorem opens_bool {P : Program} {t : TypeId} (ht : P.underlying t = some .bool) : Opens P t RBool := by
  intro H enc w base spare held fuel cs x h
  obtain ⟨n, h1, _⟩ := DataW.trod_bool ht h
  exact ⟨n, h1⟩
theorem opens_str {P : Program} {t : TypeId} (ht : P.underlying t = some .string) : Opens P t RStr := by
  intro H enc w base spare held fuel cs x h
  obtain ⟨n, h1, _, h3⟩ := DataW.trod_string ht h
  exact ⟨n, h1, h3⟩
theorem opens_slice {α : Type} {P : Program} {t e : TypeId} {R : Rd α} {sz : Nat} (ht : P.underlying t = some (.slice e)) (hc : P.cellsOf e = sz) (hz : 0 < sz) (he : Opens P e R) : Opens P t (RSlice sz R) := by
  intro H enc w base spare held fuel cs x h
  rcases Go.Deep.open_slice ht h with ⟨rfl, _⟩ | ⟨a, len, cap, m, n, D, Pl, rfl, hb, hl, hm, hmm, _, hx⟩
  · exact ⟨[], none, 0, rfl, Nat.le_refl _, Nat.zero_le _, fun i x hi => by simp at hi⟩
  · have hlm : len ≤ m := by rw [hmm]; split <;> omega
    have hex : ∀ i, i < len → ∃ y : α, ∃ cs', w.cells? base (a.add (i * P.cellsOf e)) (P.cellsOf e) = some cs' ∧ R w cs' y := by
      intro i hi
      obtain ⟨cs', h1, h2⟩ := hx i (by omega)
      obtain ⟨y, hy⟩ := he enc w base spare held n cs' _ h2
      exact ⟨y, cs', h1, hy⟩
    have build : ∀ k, k ≤ len → ∃ l : List α, l.length = k ∧ ∀ i y, l[i]? = some y → ∃ cs', w.cells? base (a.add (i * P.cellsOf e)) (P.cellsOf e) = some cs' ∧ R w cs' y := by
      intro k
      induction k with
      | zero => exact fun _ => ⟨[], rfl, fun i y hi => by simp at hi⟩
      | succ k ih =>
        intro hk
        obtain ⟨l, h1, h2⟩ := ih (by omega)
        obtain ⟨y, cs', h3, h4⟩ := hex k (by omega)
        refine ⟨l ++ [y], by simp [h1], fun i z hz => ?_⟩
        rw [List.getElem?_append] at hz
        split at hz
        · exact h2 i z hz
        · have hik : i = k := by
            have := (List.getElem?_eq_some_iff.1 hz).1
            simp at this; omega
          subst hik
          rw [h1, Nat.sub_self] at hz
          simp at hz
          subst hz
          exact ⟨cs', h3, h4⟩
    obtain ⟨l, h1, h2⟩ := build len (Nat.le_refl _)
    refine ⟨l, some a, cap, by rw [h1], by omega, hm, fun i y hi => ?_⟩
    obtain ⟨cs', h3, h4⟩ := h2 i y hi
    obtain ⟨_, h5, h6⟩ := World.cells?_some h3
    obtain ⟨b, off, spot⟩ := a
    have hspot : spot = none := by
      obtain ⟨cs0, g3, _⟩ := hx 0 (by have := (List.getElem?_eq_some_iff.1 hi).1; omega)
      obtain ⟨_, g5, g6⟩ := World.cells?_some g3
      have h0 := g6 0 (by omega)
      have : 0 < cs0.length := by omega
      rw [List.getElem?_eq_getElem this] at h0
      have := World.cell?_spot h0
      simpa [Addr.add] using this
    subst hspot
    refine ⟨b, off, cs', rfl, by omega, fun j u hu => ?_, h4⟩
    have hj : j < P.cellsOf e := by have := (List.getElem?_eq_some_iff.1 hu).1; omega
    have := h6 j hj
    rw [Addr.add_lit, Addr.add_lit, hu, hc] at this
    exact this

/-- the fields of a struct from one offset on read as S says -/
def FieldsOpen {β : Type} (P : Program) (N : Nat) (fs : List Field) (off : Nat) (S : Rd β) : Prop :=
  off ≤ N ∧ ∀ {H : Type} (enc : TypeId × Value → H) (w : World) (base : Nat) (spare : Nat → Bool) (held : Bool) (n : Nat) (cs : List Value), cs.length = N →
    (∀ f ∈ fs, ∃ x, DataW.trod enc P w base spare held n f.type ((cs.drop f.offset).take (P.cellsOf f.type)) = some x) → ∃ b, S w (cs.drop off) b

theorem fields_nil {P : Program} {N : Nat} : FieldsOpen P N [] N RNil :=
  ⟨Nat.le_refl _, fun _ _ _ _ _ _ cs hN _ => ⟨(), by simp [RNil, hN]⟩⟩
theorem fields_cons {P : Program} {N : Nat} {f : Field} {fs : List Field} {off sz : Nat} {α β : Type} {R : Rd α} {S : Rd β} (ho : f.offset = off) (hs : P.cellsOf f.type = sz) (hR : Opens P f.type R)
    (h : FieldsOpen P N fs (off + sz) S) : FieldsOpen P N (f :: fs) off (RCons sz R S) := by
  obtain ⟨hle, ih⟩ := h
  refine ⟨by omega, fun enc w base spare held n cs hN hf => ?_⟩
  obtain ⟨x, hx⟩ := hf f (by simp)
  obtain ⟨a, ha⟩ := hR enc w base spare held n _ _ hx
  obtain ⟨b, hb⟩ := ih enc w base spare held n cs hN (fun g hg => hf g (by simp [hg]))
  refine ⟨(a, b), (cs.drop off).take sz, cs.drop (off + sz), ?_, ?_, ?_, hb⟩
  · rw [← List.drop_drop, List.take_append_drop]
  · simp; omega
  · rw [ho, hs] at ha; exact ha

theorem opens_struct {P : Program} {t : TypeId} {fs : Array Field} {β : Type} {S : Rd β} (ht : P.underlying t = some (.struct fs)) (h : FieldsOpen P (P.cellsOf t) fs.toList 0 S) : Opens P t S := by
  intro H enc w base spare held fuel cs x hx
  obtain ⟨xs, n, _, _, hl, hlen, hf⟩ := DataW.trod_struct ht hx
  obtain ⟨b, hb⟩ := h.2 enc w base spare held n cs hl (by
    intro f hfm
    obtain ⟨i, hi⟩ := List.mem_iff_getElem?.1 hfm
    have h1 : fs[i]? = some f := by simpa using hi
    have h2 := hf i f h1
    have hlt : i < xs.length := by
      rw [hlen]
      have := (Array.getElem?_eq_some_iff.1 h1).1
      exact this
    exact ⟨xs[i], by rw [h2]; simp [hlt]⟩)
  exact ⟨b, by simpa using hb⟩

theorem opens_map {α β : Type} {P : Program} {t : TypeId} {R : Rd α} {S : Rd β} (hR : Opens P t R) (h : ∀ w cs a, R w cs a → ∃ b, S w cs b) : Opens P t S := by
  intro H enc w base spare held fuel cs x hx
  obtain ⟨a, ha⟩ := hR enc w base spare held fuel cs x hx
  exact h _ _ _ ha

theorem opens_ints_of {P : Program} {t e : TypeId} (ht : P.underlying t = some (.slice e)) (he : P.underlying e = some (.int .i64)) (hc : P.cellsOf e = 1) : Opens P t (RSlice 1 (RInt .i64)) := opens_slice ht hc (by decide) (opens_int he)
/-- one element of a slice of numbers -/
theorem ints_cell {w : World} {a : Option Addr} {l : List Int} (h : ∀ i x, l[i]? = some x → ∃ b off ecs, a = some ⟨b, off, none⟩ ∧ ecs.length = 1 ∧ (∀ j u, ecs[j]? = some u → w.cell? ⟨b, off + i * 1 + j, none⟩ = some u) ∧ RInt .i64 w ecs x) (i : Nat) (hi : i < l.length) :
    ∃ b off, a = some ⟨b, off, none⟩ ∧ w.cell? ⟨b, off + i, none⟩ = some (.int .i64 l[i]) ∧ -9223372036854775808 ≤ l[i] ∧ l[i] ≤ 9223372036854775807 := by
  obtain ⟨b, off, ecs, h1, h2, h3, h4, h5⟩ := h i l[i] (List.getElem?_eq_getElem hi)
  subst h4
  refine ⟨b, off, h1, by simpa using h3 0 _ rfl, ?_⟩
  simpa [Lit.wf, IntKind.min, IntKind.max, IntKind.signed, IntKind.bits] using h5
theorem okWide_agg {P : Program} {w : World} {r : Reach} {base : Nat} {t : TypeId} {v : Value} {fs : Array Field} (ht : P.underlying t = some (.struct fs)) (h : Value.okWide P w r base t v) : ∃ cs, v = .agg cs := by
  unfold Value.okWide at h
  rw [ht] at h
  obtain ⟨cs, h, _⟩ := h
  exact ⟨cs, h⟩
theorem wf_u8 {n : Int} (h : (Lit.int .u8 n).wf = true) : 0 ≤ n ∧ n ≤ 255 := by simpa [Lit.wf, IntKind.min, IntKind.max, IntKind.signed, IntKind.bits] using h
theorem wf_u16 {n : Int} (h : (Lit.int .u16 n).wf = true) : 0 ≤ n ∧ n ≤ 65535 := by simpa [Lit.wf, IntKind.min, IntKind.max, IntKind.signed, IntKind.bits] using h
theorem wf_i64 {n : Int} (h : (Lit.int .i64 n).wf = true) : -9223372036854775808 ≤ n ∧ n ≤ 9223372036854775807 := by simpa [Lit.wf, IntKind.min, IntKind.max, IntKind.signed, IntKind.bits] using h
end Go.Proofs.Ytnelgellbabkoaa

/- Plain facts on stable sorting: swaps of neighbours that stand the wrong way lead to one sorted row alone; parts that are sorted may be put together. Condition: a strict weak order. -/
namespace Go.Proofs.Ytnelgellbabkoaa.SortM
variable {α : Type}

structure Swo (lt : α → α → Bool) : Prop where
  asymm : ∀ a b, lt a b = true → lt b a = false
  ntrans : ∀ a b c, lt b a = false → lt c b = false → lt c a = false

/-- it comes of l by swaps of neighbours that stand the wrong way -/
inductive Sw (lt : α → α → Bool) (l : List α) : List α → Prop
  | refl : Sw lt l l
  | step (p : List α) (x y : α) (q : List α) : Sw lt l (p ++ x :: y :: q) → lt y x = true → Sw lt l (p ++ y :: x :: q)

def Sorted (lt : α → α → Bool) (l : List α) : Prop := l.Pairwise fun a b => lt b a = false

variable {lt : α → α → Bool}
theorem Sw.trans {a b c : List α} (h : Sw lt a b) (k : Sw lt b c) : Sw lt a c := by
  induction k with
  | refl => exact h
  | step p x y q _ hlt ih => exact .step p x y q ih hlt
theorem Sw.perm {a b : List α} (h : Sw lt a b) : a.Perm b := by
  induction h with
  | refl => exact List.Perm.refl _
  | step p x y q _ _ ih => exact ih.trans (List.Perm.append_left _ (List.Perm.swap _ _ _))
theorem Sw.ctx {a b : List α} (h : Sw lt a b) (u v : List α) : Sw lt (u ++ a ++ v) (u ++ b ++ v) := by
  induction h with
  | refl => exact .refl
  | step p x y q _ hlt ih =>
    have h1 : u ++ (p ++ x :: y :: q) ++ v = (u ++ p) ++ x :: y :: (q ++ v) := by simp
    have h2 : u ++ (p ++ y :: x :: q) ++ v = (u ++ p) ++ y :: x :: (q ++ v) := by simp
    rw [h1] at ih
    rw [h2]
    exact .step _ x y _ ih hlt
theorem Sw.app {a b c d : List α} (h : Sw lt a b) (k : Sw lt c d) : Sw lt (a ++ c) (b ++ d) := by
  have h1 := h.ctx [] c
  have h2 := k.ctx b []
  simp only [List.nil_append, List.append_nil] at h1 h2
  exact h1.trans h2
/-- one element is carried over a block -/
theorem Sw.over (x : α) : ∀ (b : List α), (∀ y ∈ b, lt y x = true) → Sw lt (x :: b) (b ++ [x]) := by
  intro b
  induction b with
  | nil => intro _; exact .refl
  | cons y b ih =>
    intro h
    have h1 : Sw lt (x :: y :: b) (y :: x :: b) := .step [] x y b .refl (h y (by simp))
    have h2 := (ih (fun z hz => h z (by simp [hz]))).ctx [y] []
    simp only [List.append_nil] at h2
    exact h1.trans h2
/-- two blocks are exchanged -/
theorem Sw.blocks : ∀ (a b : List α), (∀ x ∈ a, ∀ y ∈ b, lt y x = true) → Sw lt (a ++ b) (b ++ a) := by
  intro a
  induction a with
  | nil => intro b _; rw [List.append_nil]; exact .refl
  | cons x a ih =>
    intro b h
    have h1 := (ih b (fun z hz => h z (by simp [hz]))).ctx [x] []
    have h2 := (Sw.over x b (h x (by simp))).ctx [] a
    simp only [List.append_nil, List.nil_append] at h1 h2
    have e : x :: b ++ a = [x] ++ (b ++ a) := rfl
    rw [e] at h2
    refine h1.trans (h2.trans ?_)
    rw [List.append_assoc]
    exact .refl

def eqv (lt : α → α → Bool) (a x : α) : Bool := !lt a x && !lt x a
theorem eqv_of (h : Swo lt) {a x y : α} (hx : eqv lt a x = true) (hy : eqv lt a y = true) : lt y x = false := by
  unfold eqv at hx hy
  simp only [Bool.and_eq_true, Bool.not_eq_true'] at hx hy
  exact h.ntrans x a y hx.1 hy.2
theorem Sw.filter (h : Swo lt) {l m : List α} (k : Sw lt l m) (a : α) : l.filter (eqv lt a) = m.filter (eqv lt a) := by
  induction k with
  | refl => rfl
  | step p x y q _ hlt ih =>
    rw [ih]
    simp only [List.filter_append, List.filter_cons]
    cases hx : eqv lt a x <;> cases hy : eqv lt a y <;> simp
    rw [eqv_of h hx hy] at hlt
    cases hlt
theorem irrefl (h : Swo lt) (a : α) : lt a a = false := by
  cases e : lt a a
  · rfl
  · have := h.asymm a a e; rw [e] at this; exact this
theorem eqv_self (h : Swo lt) (a : α) : eqv lt a a = true := by unfold eqv; rw [irrefl h a]; rfl
theorem uniq (h : Swo lt) : ∀ (a b : List α), a.Perm b → (∀ x, a.filter (eqv lt x) = b.filter (eqv lt x)) → Sorted lt a → Sorted lt b → a = b := by
  intro a
  induction a with
  | nil => intro b hp _ _ _; exact hp.nil_eq
  | cons x a ih =>
    intro b hp hf ha hb
    match b with
    | [] => exact absurd hp.symm.nil_eq (by simp)
    | y :: b =>
      have h1 : lt y x = false := by
        have hy : y ∈ x :: a := hp.symm.subset (by simp)
        rcases List.mem_cons.1 hy with e | hy
        · rw [e]; exact irrefl h x
        · exact (List.pairwise_cons.1 ha).1 y hy
      have h2 : lt x y = false := by
        have hx : x ∈ y :: b := hp.subset (by simp)
        rcases List.mem_cons.1 hx with e | hx
        · rw [e]; exact irrefl h y
        · exact (List.pairwise_cons.1 hb).1 x hx
      have h3 : eqv lt x y = true := by unfold eqv; rw [h1, h2]; rfl
      have hx := hf x
      rw [List.filter_cons, List.filter_cons, if_pos (eqv_self h x), if_pos h3] at hx
      injection hx with hxy _
      subst hxy
      congr 1
      refine ih b (List.Perm.cons_inv hp) (fun z => ?_) (List.pairwise_cons.1 ha).2 (List.pairwise_cons.1 hb).2
      have := hf z
      rw [List.filter_cons, List.filter_cons] at this
      split at this
      · injection this
      · exact this
/-- x behind all that it is not ahead of, of a sorted row -/
def ins (lt : α → α → Bool) (x : α) : List α → List α
  | [] => [x]
  | y :: l => if lt x y = true then x :: y :: l else y :: ins lt x l
def ssort (lt : α → α → Bool) (l : List α) : List α := l.foldl (fun r x => ins lt x r) []
theorem mem_ins (x z : α) (l : List α) : z ∈ ins lt x l ↔ z = x ∨ z ∈ l := by
  induction l with
  | nil => simp [ins]
  | cons y l ih =>
    unfold ins
    split
    · simp
    · simp only [List.mem_cons, ih]
      constructor
      · rintro (h | h | h)
        · exact .inr (.inl h)
        · exact .inl h
        · exact .inr (.inr h)
      · rintro (h | h | h)
        · exact .inr (.inl h)
        · exact .inl h
        · exact .inr (.inr h)
theorem ins_sorted (h : Swo lt) (x : α) (l : List α) (hl : Sorted lt l) : Sorted lt (ins lt x l) := by
  induction l with
  | nil => simp [ins, Sorted]
  | cons y l ih =>
    have hl' := List.pairwise_cons.1 hl
    unfold ins
    split
    · rename_i hxy
      refine List.pairwise_cons.2 ⟨fun z hz => ?_, hl⟩
      rcases List.mem_cons.1 hz with e | hz
      · rw [e]; exact h.asymm _ _ hxy
      · exact h.ntrans x y z (h.asymm _ _ hxy) (hl'.1 z hz)
    · rename_i hxy
      refine List.pairwise_cons.2 ⟨fun z hz => ?_, ih hl'.2⟩
      rcases (mem_ins x z l).1 hz with e | hz
      · rw [e]; simpa using hxy
      · exact hl'.1 z hz
/-- the row with x behind it comes to that -/
theorem ins_sw (h : Swo lt) (x : α) (l : List α) (hl : Sorted lt l) : Sw lt (l ++ [x]) (ins lt x l) := by
  induction l with
  | nil => exact .refl
  | cons y l ih =>
    have hl' := List.pairwise_cons.1 hl
    unfold ins
    split
    · rename_i hxy
      have : ∀ z ∈ y :: l, lt x z = true := by
        intro z hz
        cases e : lt x z
        · have h1 : lt x y = false := by
            rcases List.mem_cons.1 hz with e2 | hz
            · rw [← e2]; exact e
            · exact h.ntrans y z x (hl'.1 z hz) e
          rw [hxy] at h1; cases h1
        · rfl
      have h2 := Sw.blocks (lt := lt) (y :: l) [x] (fun a ha b hb => by simp at hb; subst hb; exact this a ha)
      exact h2
    · have h2 := (ih hl'.2).ctx [y] []
      simp only [List.append_nil] at h2
      exact h2
theorem fold_sorted (h : Swo lt) : ∀ (l r : List α), Sorted lt r → Sorted lt (l.foldl (fun r x => ins lt x r) r) ∧ Sw lt (r ++ l) (l.foldl (fun r x => ins lt x r) r) := by
  intro l
  induction l with
  | nil => intro r hr; exact ⟨hr, by rw [List.append_nil]; exact .refl⟩
  | cons x l ih =>
    intro r hr
    obtain ⟨h1, h2⟩ := ih (ins lt x r) (ins_sorted h x r hr)
    refine ⟨h1, ?_⟩
    have h3 := (ins_sw h x r hr).ctx [] l
    simp only [List.nil_append] at h3
    have e : r ++ [x] ++ l = r ++ x :: l := by simp
    rw [e] at h3
    exact h3.trans h2
theorem ssort_sorted (h : Swo lt) (l : List α) : Sorted lt (ssort lt l) := (fold_sorted h l [] List.Pairwise.nil).1
theorem ssort_sw (h : Swo lt) (l : List α) : Sw lt l (ssort lt l) := by
  have := (fold_sorted h l [] List.Pairwise.nil).2
  rw [List.nil_append] at this
  exact this
/-- the one sorted row to which swaps lead -/
theorem ssort_eq (h : Swo lt) {l a : List α} (hs : Sw lt l a) (ha : Sorted lt a) : a = ssort lt l := by
  have h1 := ssort_sw h l
  exact uniq h a (ssort lt l) (hs.perm.symm.trans h1.perm) (fun x => (hs.filter h x).symm.trans (h1.filter h x)) ha (ssort_sorted h l)
theorem ssort_of_sw (h : Swo lt) {l a : List α} (hs : Sw lt l a) : ssort lt a = ssort lt l := ssort_eq h (hs.trans (ssort_sw h a)) (ssort_sorted h a)
theorem ssort_id (h : Swo lt) {l : List α} (hl : Sorted lt l) : ssort lt l = l := (ssort_eq h .refl hl).symm
theorem ssort_len (h : Swo lt) (l : List α) : (ssort lt l).length = l.length := (ssort_sw h l).perm.length_eq.symm
theorem mem_ssort (h : Swo lt) (l : List α) (x : α) : x ∈ ssort lt l ↔ x ∈ l := (ssort_sw h l).perm.symm.mem_iff
theorem ssort_app (h : Swo lt) (a b : List α) : ssort lt (ssort lt a ++ ssort lt b) = ssort lt (a ++ b) := ssort_of_sw h ((ssort_sw h a).app (ssort_sw h b))
theorem ssort_snoc (l : List α) (x : α) : ssort lt (l ++ [x]) = ins lt x (ssort lt l) := by unfold ssort; rw [List.foldl_append]; rfl
/-- a merge, cut in two -/
theorem ssort_cut (h : Swo lt) (l1 l2 r1 r2 : List α) (hx : ∀ x ∈ l2, ∀ y ∈ r1, lt y x = true) (h12 : ∀ a ∈ l1, ∀ b ∈ l2, lt b a = false) (hr : ∀ a ∈ r1, ∀ b ∈ r2, lt b a = false) (hlr : ∀ a ∈ l1, ∀ b ∈ r2, lt b a = false) :
    ssort lt (l1 ++ l2 ++ (r1 ++ r2)) = ssort lt (l1 ++ r1) ++ ssort lt (l2 ++ r2) := by
  symm
  apply ssort_eq h
  · have h1 := (Sw.blocks l2 r1 hx).ctx l1 r2
    have e1 : l1 ++ (l2 ++ r1) ++ r2 = l1 ++ l2 ++ (r1 ++ r2) := by simp
    have e2 : l1 ++ (r1 ++ l2) ++ r2 = (l1 ++ r1) ++ (l2 ++ r2) := by simp
    rw [e1, e2] at h1
    exact h1.trans ((ssort_sw h _).app (ssort_sw h _))
  · refine List.pairwise_append.2 ⟨ssort_sorted h _, ssort_sorted h _, fun a ha b hb => ?_⟩
    rw [mem_ssort h] at ha hb
    rcases List.mem_append.1 ha with ha | ha <;> rcases List.mem_append.1 hb with hb | hb
    · exact h12 a ha b hb
    · exact hlr a ha b hb
    · exact h.asymm _ _ (hx b hb a ha)
    · exact hr a ha b hb
/-- where x comes to stand -/
theorem ins_at (h : Swo lt) (x : α) : ∀ (S : List α), Sorted lt S → ∀ m, m ≤ S.length → (∀ y ∈ S.drop m, lt x y = true) → (∀ y, S[m - 1]? = some y → 0 < m → lt x y = false) → S.take m ++ x :: S.drop m = ins lt x S := by
  intro S
  induction S with
  | nil => intro _ m hm _ _; simp [ins]
  | cons y S ih =>
    intro hS m hm h1 h2
    have hS' := List.pairwise_cons.1 hS
    match m with
    | 0 =>
      have := h1 y (by simp)
      simp [ins, this]
    | m + 1 =>
      have hxy : lt x y = false := by
        have hl : m < (y :: S).length := by simp at hm ⊢; omega
        have hlast := h2 (y :: S)[m] (by simp [List.getElem?_eq_getElem hl]) (by omega)
        by_cases h0 : m = 0
        · subst h0; simpa using hlast
        · have hmem : (y :: S)[m] ∈ S := by
            obtain ⟨j, rfl⟩ : ∃ j, m = j + 1 := ⟨m - 1, by omega⟩
            simp
          exact h.ntrans y _ x (hS'.1 _ hmem) hlast
      unfold ins
      rw [if_neg (by rw [hxy]; simp)]
      simp only [List.take_succ_cons, List.drop_succ_cons, List.cons_append]
      congr 1
      refine ih hS'.2 m (by simpa using hm) h1 (fun z hz hm0 => ?_)
      refine h2 z ?_ (by omega)
      obtain ⟨j, rfl⟩ : ∃ j, m = j + 1 := ⟨m - 1, by omega⟩
      simpa using hz
end Go.Proofs.Ytnelgellbabkoaa.SortM

/- Plain facts: what the walks of the stable sort do to an array, told by lists: swaps, exchanges of runs, rotations, binary search, symMerge. -/
namespace Go.Proofs.Ytnelgellbabkoaa.StbA
open Go.Sort Go.Proofs.Ytnelgellbabkoaa.SortM
variable {α : Type} [Inhabited α]

theorem get_of {d : Array α} {p q : List α} {x : α} (h : d.toList = p ++ x :: q) {i : Nat} (hi : i = p.length) : d[i]! = x := by
  subst hi
  have hl : p.length < d.size := by rw [← Array.length_toList, h]; simp
  rw [getElem!_pos d _ hl, ← Array.getElem_toList]
  simp [h]
theorem get_list (d : Array α) (i : Nat) : d[i]! = d.toList[i]! := by
  by_cases h : i < d.size
  · rw [getElem!_pos d _ h, getElem!_pos d.toList _ (by simpa using h), Array.getElem_toList]
  · rw [getElem!_neg d _ h, getElem!_neg d.toList _ (by simpa using h)]
theorem toList_swp (d : Array α) (i j : Nat) : (swp d i j).toList = (d.toList.set i d[j]!).set j d[i]! := by simp [swp]
theorem set_mid (p q : List α) (x y : α) (i : Nat) (hi : i = p.length) : (p ++ x :: q).set i y = p ++ y :: q := by subst hi; simp
theorem swp_split {d : Array α} {p m q : List α} {x y : α} (h : d.toList = p ++ x :: (m ++ y :: q)) {i j : Nat} (hi : i = p.length) (hj : j = p.length + 1 + m.length) : (swp d i j).toList = p ++ y :: (m ++ x :: q) := by
  have h1 : d[i]! = x := get_of h hi
  have h2 : d[j]! = y := get_of (p := p ++ x :: m) (q := q) (by rw [h]; simp) (by simp; omega)
  rw [toList_swp, h1, h2, h, set_mid p _ x y i hi]
  have e : p ++ y :: (m ++ y :: q) = (p ++ y :: m) ++ y :: q := by simp
  rw [e, set_mid _ _ _ _ _ (by simp; omega)]
  simp
theorem swp_comm (d : Array α) (i j : Nat) : swp d i j = swp d j i := by
  apply Array.ext'
  rw [toList_swp, toList_swp]
  by_cases h : i = j
  · subst h; rfl
  · exact List.set_comm _ _ h
theorem swp_split' {d : Array α} {p m q : List α} {x y : α} (h : d.toList = p ++ x :: (m ++ y :: q)) {i j : Nat} (hi : i = p.length) (hj : j = p.length + 1 + m.length) : (swp d j i).toList = p ++ y :: (m ++ x :: q) := by
  rw [swp_comm]; exact swp_split h hi hj

/-- n exchanges: a with b, a + 1 with b + 1, .. -/
def swr (d : Array α) (a b : Nat) : Nat → Array α
  | 0 => d
  | i + 1 => swp (swr d a b i) (a + i) (b + i)
theorem size_swr (d : Array α) (a b n : Nat) : (swr d a b n).size = d.size := by
  induction n with
  | zero => rfl
  | succ n ih => rw [swr, size_swp, ih]
theorem swr_rev (d : Array α) : ∀ (x y p m q : List α), x.length = y.length → d.toList = p ++ x.reverse ++ m ++ y.reverse ++ q → (swr d p.length (p.length + x.length + m.length) x.length).toList = p ++ y.reverse ++ m ++ x.reverse ++ q := by
  intro x
  induction x with
  | nil =>
    intro y p m q hl h
    obtain rfl : y = [] := List.eq_nil_of_length_eq_zero hl.symm
    exact h
  | cons u x ih =>
    intro y p m q hl h
    match y with
    | [] => simp at hl
    | v :: y =>
      have hl' : x.length = y.length := by simpa using hl
      have h1 := ih y p (u :: m) (v :: q) hl' (by rw [h]; simp)
      have e : p.length + (u :: x).length + m.length = p.length + x.length + (u :: m).length := by simp; omega
      rw [e, show (u :: x).length = x.length + 1 from rfl, swr]
      have h2 := swp_split (d := swr d p.length (p.length + x.length + (u :: m).length) x.length) (p := p ++ y.reverse) (m := m ++ x.reverse) (q := q) (x := u) (y := v) (by rw [h1]; simp) (i := p.length + x.length) (j := p.length + x.length + (u :: m).length + x.length) (by simp; omega) (by simp; omega)
      rw [h2]; simp
theorem swr_split {d : Array α} {p x m y q : List α} (hl : x.length = y.length) (h : d.toList = p ++ x ++ m ++ y ++ q) {a b n : Nat} (ha : a = p.length) (hb : b = p.length + x.length + m.length) (hn : n = x.length) : (swr d a b n).toList = p ++ y ++ m ++ x ++ q := by
  subst ha hb hn
  have := swr_rev d x.reverse y.reverse p m q (by simpa using hl) (by simpa using h)
  simpa using this

/-- where a rotation stands: i elements ahead of m and j behind it are still to be exchanged -/
def RInv (tgt : List α) (m i j : Nat) (d : Array α) : Prop := ∃ p u v q, d.toList = p ++ u ++ v ++ q ∧ u.length = i ∧ v.length = j ∧ p.length + i = m ∧ tgt = p ++ v ++ u ++ q
theorem RInv.start {d : Array α} {p u v q : List α} (h : d.toList = p ++ u ++ v ++ q) {m i j : Nat} (hi : i = u.length) (hj : j = v.length) (hm : m = p.length + u.length) : RInv (p ++ v ++ u ++ q) m i j d := ⟨p, u, v, q, h, hi.symm, hj.symm, by omega, rfl⟩
theorem RInv.gt {tgt : List α} {m i j : Nat} {d : Array α} (h : RInv tgt m i j d) (hij : j < i) : RInv tgt m (i - j) j (swr d (m - i) m j) := by
  obtain ⟨p, u, v, q, h1, h2, h3, h4, h5⟩ := h
  have hu : u = u.take j ++ u.drop j := (List.take_append_drop _ _).symm
  have hx : (u.take j).length = j := by simp; omega
  have hy : (u.drop j).length = i - j := by simp; omega
  generalize u.take j = x at hu hx
  generalize u.drop j = y at hu hy
  subst hu
  refine ⟨p ++ v, y, x, q, ?_, hy, hx, by simp; omega, by rw [h5]; simp⟩
  have := swr_split (d := d) (p := p) (x := x) (m := y) (y := v) (q := q) (by omega) (by rw [h1]; simp) (a := m - i) (b := m) (n := j) (by omega) (by simp at h2; omega) hx.symm
  rw [this]
theorem RInv.lt {tgt : List α} {m i j : Nat} {d : Array α} (h : RInv tgt m i j d) (hij : i < j) : RInv tgt m i (j - i) (swr d (m - i) (m + j - i) i) := by
  obtain ⟨p, u, v, q, h1, h2, h3, h4, h5⟩ := h
  have hv : v = v.take (j - i) ++ v.drop (j - i) := (List.take_append_drop _ _).symm
  have hx : (v.take (j - i)).length = j - i := by simp; omega
  have hy : (v.drop (j - i)).length = i := by simp; omega
  generalize v.take (j - i) = x at hv hx
  generalize v.drop (j - i) = y at hv hy
  subst hv
  refine ⟨p, y, x, u ++ q, ?_, hy, hx, by omega, by rw [h5]; simp⟩
  have := swr_split (d := d) (p := p) (x := u) (m := x) (y := y) (q := q) (by omega) (by rw [h1]; simp) (a := m - i) (b := m + j - i) (n := i) (by omega) (by omega) h2.symm
  rw [this]; simp
theorem RInv.eq {tgt : List α} {m i : Nat} {d : Array α} (h : RInv tgt m i i d) : (swr d (m - i) m i).toList = tgt := by
  obtain ⟨p, u, v, q, h1, h2, h3, h4, h5⟩ := h
  rw [h5]
  have := swr_split (d := d) (p := p) (x := u) (m := []) (y := v) (q := q) (by omega) (by rw [h1]; simp) (a := m - i) (b := m) (n := i) (by omega) (by simp; omega) h2.symm
  rw [this]; simp
theorem RInv.size {tgt : List α} {m i j : Nat} {d : Array α} (h : RInv tgt m i j d) : d.size = tgt.length := by
  obtain ⟨p, u, v, q, h1, _, _, _, h5⟩ := h
  rw [← Array.length_toList, h1, h5]; simp; omega
theorem RInv.le {tgt : List α} {m i j : Nat} {d : Array α} (h : RInv tgt m i j d) : i ≤ m ∧ m + j ≤ d.size := by
  obtain ⟨p, u, v, q, h1, h2, h3, h4, h5⟩ := h
  rw [← Array.length_toList, h1]; simp; omega

/-- an element is carried n places up, or down -/
def upN (d : Array α) (a : Nat) : Nat → Array α
  | 0 => d
  | n + 1 => swp (upN d a n) (a + n) (a + n + 1)
def dnN (d : Array α) (m : Nat) : Nat → Array α
  | 0 => d
  | n + 1 => swp (dnN d m n) (m - n) (m - n - 1)
theorem size_upN (d : Array α) (a n : Nat) : (upN d a n).size = d.size := by
  induction n with
  | zero => rfl
  | succ n ih => rw [upN, size_swp, ih]
theorem size_dnN (d : Array α) (a n : Nat) : (dnN d a n).size = d.size := by
  induction n with
  | zero => rfl
  | succ n ih => rw [dnN, size_swp, ih]
theorem upN_rev (d : Array α) (x : α) (p : List α) : ∀ (v q : List α), d.toList = p ++ x :: (v.reverse ++ q) → (upN d p.length v.length).toList = p ++ v.reverse ++ x :: q := by
  intro v
  induction v with
  | nil => intro q h; simpa [upN] using h
  | cons y v ih =>
    intro q h
    have h1 := ih (y :: q) (by rw [h]; simp)
    have h2 := swp_split (d := upN d p.length v.length) (p := p ++ v.reverse) (m := []) (q := q) (x := x) (y := y) (by rw [h1]; simp) (i := p.length + v.length) (j := p.length + v.length + 1) (by simp) (by simp)
    rw [show (y :: v).length = v.length + 1 from rfl, upN, h2]; simp
theorem upN_split {d : Array α} {x : α} {p v q : List α} (h : d.toList = p ++ x :: (v ++ q)) {a n : Nat} (ha : a = p.length) (hn : n = v.length) : (upN d a n).toList = p ++ v ++ x :: q := by
  subst ha hn
  have := upN_rev d x p v.reverse q (by simpa using h)
  simpa using this
theorem dnN_split' (d : Array α) (x : α) (q : List α) (m : Nat) : ∀ (v p : List α), m = p.length + v.length → d.toList = p ++ v ++ x :: q → (dnN d m v.length).toList = p ++ x :: (v ++ q) := by
  intro v
  induction v with
  | nil => intro p _ h; simpa [dnN] using h
  | cons y v ih =>
    intro p hm h
    have hm' : m = p.length + (v.length + 1) := by simpa using hm
    have h1 := ih (p ++ [y]) (by simp; omega) (by rw [h]; simp)
    have h2 := swp_split' (d := dnN d m v.length) (p := p) (m := []) (q := v ++ q) (x := y) (y := x) (by rw [h1]; simp) (i := m - v.length - 1) (j := m - v.length) (by omega) (by simp; omega)
    rw [show (y :: v).length = v.length + 1 from rfl, dnN, h2]; simp
theorem dnN_split {d : Array α} {x : α} {p v q : List α} (h : d.toList = p ++ v ++ x :: q) {m n : Nat} (hm : m = p.length + v.length) (hn : n = v.length) : (dnN d m n).toList = p ++ x :: (v ++ q) := by
  subst hn; exact dnN_split' d x q m v p hm h

/-- where a binary search stands -/
structure BS (f : Nat → Bool) (lo hi i j : Nat) : Prop where
  l1 : lo ≤ i
  l2 : i ≤ j
  l3 : j ≤ hi
  yes : ∀ c, lo ≤ c → c < i → f c = true
  no : ∀ c, j ≤ c → c < hi → f c = false
def Mono (f : Nat → Bool) (lo hi : Nat) : Prop := ∀ c c', lo ≤ c' → c' ≤ c → c < hi → f c = true → f c' = true
theorem BS.start (f : Nat → Bool) {lo hi : Nat} (h : lo ≤ hi) : BS f lo hi lo hi := ⟨Nat.le_refl _, h, Nat.le_refl _, fun _ _ _ => by omega, fun _ _ _ => by omega⟩
theorem BS.left {f : Nat → Bool} {lo hi i j h : Nat} (hM : Mono f lo hi) (hB : BS f lo hi i j) (h1 : i ≤ h) (h2 : h < j) (hf : f h = true) : BS f lo hi (h + 1) j :=
  ⟨by have := hB.l1; omega, h2, hB.l3, fun c hc1 hc2 => hM h c hc1 (by omega) (by have := hB.l3; omega) hf, hB.no⟩
theorem BS.right {f : Nat → Bool} {lo hi i j h : Nat} (hM : Mono f lo hi) (hB : BS f lo hi i j) (h1 : i ≤ h) (h2 : h < j) (hf : f h = false) : BS f lo hi i h :=
  ⟨hB.l1, h1, by have := hB.l3; omega, hB.yes, fun c hc1 hc2 => by
    cases e : f c
    · rfl
    · have := hM c h (by have := hB.l1; omega) hc1 hc2 e; rw [hf] at this; cases this⟩

variable {lt : α → α → Bool}
/-- a part of the row that is sorted -/
def SortedIx (lt : α → α → Bool) (a b : Nat) (d : Array α) : Prop := ∀ i j, a ≤ i → i ≤ j → j < b → lt d[j]! d[i]! = false
theorem sortedIx_of (h : Swo lt) {d : Array α} {p u q : List α} (hd : d.toList = p ++ u ++ q) (hu : Sorted lt u) {a b : Nat} (ha : a = p.length) (hb : b = p.length + u.length) : SortedIx lt a b d := by
  intro i j hi hij hj
  rcases Nat.lt_or_eq_of_le hij with hij | rfl
  · have hs := List.pairwise_iff_getElem.1 hu (i - a) (j - a) (by omega) (by omega) (by omega)
    have g : ∀ k, (hk : k - a < u.length) → a ≤ k → d[k]! = u[k - a] := fun k hk h1 => by
      refine get_of (p := p ++ u.take (k - a)) (q := u.drop (k - a + 1) ++ q) ?_ (by simp; omega)
      rw [hd]
      conv => lhs; rw [← List.take_append_drop (k - a) u, List.drop_eq_getElem_cons hk]
      simp only [List.append_assoc, List.cons_append]
    rw [g i (by omega) hi, g j (by omega) (by omega)]; exact hs
  · exact irrefl h _
theorem get_in {d : Array α} {p u q : List α} (hd : d.toList = p ++ u ++ q) (k : Nat) (hk : k < u.length) : d[p.length + k]! = u[k] := by
  refine get_of (p := p ++ u.take k) (q := u.drop (k + 1) ++ q) ?_ (by simp; omega)
  rw [hd]
  conv => lhs; rw [← List.take_append_drop k u, List.drop_eq_getElem_cons hk]
  simp only [List.append_assoc, List.cons_append]

/-! one element ahead of a sorted run -/
theorem mono_left (h : Swo lt) {d : Array α} {a m b : Nat} (hs : SortedIx lt m b d) : Mono (fun c => lt d[c]! d[a]!) m b := by
  intro c c' h1 h2 h3 hc
  show lt d[c']! d[a]! = true
  cases e : lt d[c']! d[a]!
  · have := h.ntrans _ _ _ e (hs c' c h1 h2 h3)
    rw [show lt d[c]! d[a]! = true from hc] at this; cases this
  · rfl
theorem one_left (h : Swo lt) {d : Array α} {p v q : List α} {x : α} (hd : d.toList = p ++ x :: (v ++ q)) (hv : Sorted lt v) {a m b i : Nat} (ha : a = p.length) (hm : m = a + 1) (hb : b = m + v.length) (hB : BS (fun c => lt d[c]! d[a]!) m b i i) :
    (upN d a (i - 1 - a)).toList = p ++ ssort lt (x :: v) ++ q := by
  have hx : d[a]! = x := get_of hd ha
  have hd2 : d.toList = (p ++ [x]) ++ v ++ q := by rw [hd]; simp
  have hg : ∀ k, (hk : k < v.length) → d[m + k]! = v[k] := fun k hk => by
    have := get_in hd2 k hk
    rw [show (p ++ [x]).length + k = m + k from by simp; omega] at this; exact this
  have hi1 := hB.l1
  have hi2 := hB.l3
  have e1 : ∀ y ∈ v.take (i - m), lt y x = true := fun y hy => by
    obtain ⟨k, hk, rfl⟩ := List.getElem_of_mem hy
    simp only [List.length_take] at hk
    have := hB.yes (m + k) (by omega) (by omega)
    rw [hg k (by omega), hx] at this
    simpa using this
  have e2 : ∀ y ∈ v.drop (i - m), lt y x = false := fun y hy => by
    obtain ⟨k, hk, rfl⟩ := List.getElem_of_mem hy
    simp only [List.length_drop] at hk
    have := hB.no (m + (i - m + k)) (by omega) (by omega)
    rw [hg _ (by omega), hx] at this
    simpa using this
  have hsplit : v = v.take (i - m) ++ v.drop (i - m) := (List.take_append_drop _ _).symm
  have hl : (v.take (i - m)).length = i - m := by simp; omega
  generalize v.take (i - m) = v1 at *
  generalize v.drop (i - m) = v2 at *
  subst hsplit
  have hu := upN_split (d := d) (x := x) (p := p) (v := v1) (q := v2 ++ q) (by rw [hd]; simp) (a := a) (n := i - 1 - a) ha (by omega)
  rw [hu]
  have hp := List.pairwise_append.1 hv
  have : v1 ++ x :: v2 = ssort lt (x :: (v1 ++ v2)) := by
    apply ssort_eq h
    · have := (Sw.over (lt := lt) x v1 e1).ctx [] v2
      simpa using this
    · refine List.pairwise_append.2 ⟨hp.1, List.pairwise_cons.2 ⟨e2, hp.2.1⟩, fun y hy z hz => ?_⟩
      rcases List.mem_cons.1 hz with e | hz
      · rw [e]; exact h.asymm _ _ (e1 y hy)
      · exact hp.2.2 y hy z hz
  rw [← this]; simp
/-! one element behind a sorted run -/
theorem mono_right (h : Swo lt) {d : Array α} {a m : Nat} (hs : SortedIx lt a m d) : Mono (fun c => !lt d[m]! d[c]!) a m := by
  intro c c' h1 h2 h3 hc
  have hc' : lt d[m]! d[c]! = false := by simpa using hc
  show (!lt d[m]! d[c']!) = true
  rw [h.ntrans _ _ _ (hs c' c h1 h2 h3) hc']; rfl
theorem one_right (h : Swo lt) {d : Array α} {p u q : List α} {x : α} (hd : d.toList = p ++ u ++ x :: q) (hu : Sorted lt u) {a m i : Nat} (ha : a = p.length) (hm : m = a + u.length) (hB : BS (fun c => !lt d[m]! d[c]!) a m i i) :
    (dnN d m (m - i)).toList = p ++ ssort lt (u ++ [x]) ++ q := by
  have hx : d[m]! = x := get_of hd (by simp; omega)
  have hg : ∀ k, (hk : k < u.length) → d[a + k]! = u[k] := fun k hk => by
    have := get_in (q := x :: q) hd k hk
    rw [ha]; exact this
  have hi1 := hB.l1
  have hi2 := hB.l3
  have e1 : ∀ y ∈ u.take (i - a), lt x y = false := fun y hy => by
    obtain ⟨k, hk, rfl⟩ := List.getElem_of_mem hy
    simp only [List.length_take] at hk
    have := hB.yes (a + k) (by omega) (by omega)
    simp only [hg k (by omega), hx] at this
    simpa using this
  have e2 : ∀ y ∈ u.drop (i - a), lt x y = true := fun y hy => by
    obtain ⟨k, hk, rfl⟩ := List.getElem_of_mem hy
    simp only [List.length_drop] at hk
    have := hB.no (a + (i - a + k)) (by omega) (by omega)
    simp only [hg _ (show i - a + k < u.length by omega), hx] at this
    simpa using this
  have hsplit : u = u.take (i - a) ++ u.drop (i - a) := (List.take_append_drop _ _).symm
  have hl : (u.take (i - a)).length = i - a := by simp; omega
  have hl2 : (u.drop (i - a)).length = m - i := by simp; omega
  generalize u.take (i - a) = v1 at *
  generalize u.drop (i - a) = v2 at *
  subst hsplit
  have hdn := dnN_split (d := d) (x := x) (p := p ++ v1) (v := v2) (q := q) (by rw [hd]; simp) (m := m) (n := m - i) (by simp; omega) hl2.symm
  rw [hdn]
  have hp := List.pairwise_append.1 hu
  have : v1 ++ x :: v2 = ssort lt (v1 ++ v2 ++ [x]) := by
    apply ssort_eq h
    · have := (Sw.blocks (lt := lt) v2 [x] (fun a ha b hb => by simp at hb; subst hb; exact e2 a ha)).ctx v1 []
      simpa using this
    · refine List.pairwise_append.2 ⟨hp.1, List.pairwise_cons.2 ⟨fun y hy => h.asymm _ _ (e2 y hy), hp.2.1⟩, fun y hy z hz => ?_⟩
      rcases List.mem_cons.1 hz with e | hz
      · rw [e]; exact e1 y hy
      · exact hp.2.2 y hy z hz
  rw [← this]; simp
/-! the general cut -/
theorem mono_sym (h : Swo lt) {d : Array α} {a m b n lo hi : Nat} (hs1 : SortedIx lt a m d) (hs2 : SortedIx lt m b d) (h1 : a ≤ lo) (h2 : hi ≤ m) (h3 : n - hi ≥ m) (h4 : n - 1 - lo < b) (h5 : hi ≤ n) : Mono (fun c => !lt d[n - 1 - c]! d[c]!) lo hi := by
  intro c c' k1 k2 k3 hc
  have hc' : lt d[n - 1 - c]! d[c]! = false := by simpa using hc
  show (!lt d[n - 1 - c']! d[c']!) = true
  have e1 : lt d[c]! d[c']! = false := hs1 c' c (by omega) k2 (by omega)
  have e2 : lt d[n - 1 - c']! d[n - 1 - c]! = false := hs2 (n - 1 - c) (n - 1 - c') (by omega) (by omega) (by omega)
  rw [h.ntrans _ _ _ (h.ntrans _ _ _ e1 hc') e2]; rfl
theorem sym_cut (h : Swo lt) {d : Array α} {p u v q : List α} (hd : d.toList = p ++ u ++ v ++ q) (hu : Sorted lt u) (hv : Sorted lt v) {a m b mid n lo hi s : Nat} (ha : a = p.length) (hm : m = a + u.length) (hb : b = m + v.length)
    (hmid : mid = (a + b) / 2) (hn : n = mid + m) (hab : a < b) (hlo : (mid < m → lo = n - b ∧ hi = mid) ∧ (¬ mid < m → lo = a ∧ hi = m)) (hB : BS (fun c => !lt d[n - 1 - c]! d[c]!) lo hi s s) :
    ∃ l1 l2 r1 r2, u = l1 ++ l2 ∧ v = r1 ++ r2 ∧ a + l1.length = s ∧ m + r1.length = n - s ∧ ssort lt (u ++ v) = ssort lt (l1 ++ r1) ++ ssort lt (l2 ++ r2) := by
  have hs1 := hB.l1
  have hs3 := hB.l3
  have b1 : a ≤ s ∧ s ≤ m ∧ m ≤ n - s ∧ n - s ≤ b := by
    by_cases hc : mid < m
    · obtain ⟨rfl, rfl⟩ := hlo.1 hc; omega
    · obtain ⟨rfl, rfl⟩ := hlo.2 hc; omega
  have gu : ∀ k, (hk : k < u.length) → d[a + k]! = u[k] := fun k hk => by
    have := get_in (q := v ++ q) (by rw [hd]; simp : d.toList = p ++ u ++ (v ++ q)) k hk
    rw [ha]; exact this
  have gv : ∀ k, (hk : k < v.length) → d[m + k]! = v[k] := fun k hk => by
    have := get_in hd k hk
    rw [show (p ++ u).length + k = m + k from by simp; omega] at this; exact this
  refine ⟨u.take (s - a), u.drop (s - a), v.take (n - s - m), v.drop (n - s - m), (List.take_append_drop _ _).symm, (List.take_append_drop _ _).symm, by simp; omega, by simp; omega, ?_⟩
  have hsU : ∀ i j (hi : i < u.length) (hj : j < u.length), i ≤ j → lt u[j] u[i] = false := fun i j hi hj hij => by
    rcases Nat.lt_or_eq_of_le hij with hij | rfl
    · exact List.pairwise_iff_getElem.1 hu i j hi hj hij
    · exact irrefl h _
  have hsV : ∀ i j (hi : i < v.length) (hj : j < v.length), i ≤ j → lt v[j] v[i] = false := fun i j hi hj hij => by
    rcases Nat.lt_or_eq_of_le hij with hij | rfl
    · exact List.pairwise_iff_getElem.1 hv i j hi hj hij
    · exact irrefl h _
  have hpu : Sorted lt (u.take (s - a) ++ u.drop (s - a)) := by rw [List.take_append_drop]; exact hu
  have hpv : Sorted lt (v.take (n - s - m) ++ v.drop (n - s - m)) := by rw [List.take_append_drop]; exact hv
  have key := ssort_cut h (u.take (s - a)) (u.drop (s - a)) (v.take (n - s - m)) (v.drop (n - s - m)) ?_ (fun x hx y hy => (List.pairwise_append.1 hpu).2.2 x hx y hy) (fun x hx y hy => (List.pairwise_append.1 hpv).2.2 x hx y hy) ?_
  · rw [List.take_append_drop, List.take_append_drop] at key; exact key
  · -- l2 over r1
    intro x hx y hy
    obtain ⟨k, hk, rfl⟩ := List.getElem_of_mem hx
    obtain ⟨j, hj, rfl⟩ := List.getElem_of_mem hy
    simp only [List.length_drop] at hk
    simp only [List.length_take] at hj
    simp only [List.getElem_drop, List.getElem_take]
    -- s < hi
    have hsh : s < hi := by
      by_cases hc : mid < m
      · have := hlo.1 hc; omega
      · have := hlo.2 hc; omega
    have hN := hB.no s (Nat.le_refl _) hsh
    have hN' : lt d[n - 1 - s]! d[s]! = true := by simpa using hN
    have e1 : d[s]! = u[s - a]'(by omega) := by rw [← gu (s - a) (by omega)]; congr 1; omega
    have e2 : d[n - 1 - s]! = v[n - 1 - s - m]'(by omega) := by rw [← gv (n - 1 - s - m) (by omega)]; congr 1; omega
    rw [e1, e2] at hN'
    cases e : lt v[j] u[s - a + k]
    · have h1 := hsU (s - a) (s - a + k) (by omega) (by omega) (by omega)
      have h2 := hsV j (n - 1 - s - m) (by omega) (by omega) (by omega)
      have h3 := h.ntrans _ _ _ (h.ntrans _ _ _ h1 e) h2
      rw [hN'] at h3; cases h3
    · rfl
  · -- l1 over r2
    intro x hx y hy
    obtain ⟨k, hk, rfl⟩ := List.getElem_of_mem hx
    obtain ⟨j, hj, rfl⟩ := List.getElem_of_mem hy
    simp only [List.length_take] at hk
    simp only [List.length_drop] at hj
    simp only [List.getElem_drop, List.getElem_take]
    have hsh : lo < s := by
      by_cases hc : mid < m
      · have := hlo.1 hc; omega
      · have := hlo.2 hc; omega
    have hN := hB.yes (s - 1) (by omega) (by omega)
    have hN' : lt d[n - 1 - (s - 1)]! d[s - 1]! = false := by simpa using hN
    have e1 : d[s - 1]! = u[s - 1 - a]'(by omega) := by rw [← gu (s - 1 - a) (by omega)]; congr 1; omega
    have e2 : d[n - 1 - (s - 1)]! = v[n - s - m]'(by omega) := by rw [← gv (n - s - m) (by omega)]; congr 1; omega
    rw [e1, e2] at hN'
    have h1 := hsU k (s - 1 - a) (by omega) (by omega) (by omega)
    have h2 := hsV (n - s - m) (n - s - m + j) (by omega) (by omega) (by omega)
    exact h.ntrans _ _ _ (h.ntrans _ _ _ h1 hN') h2

/-! insertion -/
theorem insInner_sw (lt : α → α → Bool) (p q x0 : List α) : ∀ (j : Nat) (d : Array α), j < p.length + x0.length → (∃ x, d.toList = p ++ x ++ q ∧ Sw lt x0 x) → ∃ x, (insInner lt p.length j d).toList = p ++ x ++ q ∧ Sw lt x0 x := by
  intro j
  induction j with
  | zero => intro d _ h; rw [insInner]; exact h
  | succ j ih =>
    intro d hj h
    rw [insInner]
    split
    · rename_i hc
      simp only [Bool.and_eq_true, decide_eq_true_eq] at hc
      refine ih _ (by omega) ?_
      obtain ⟨x, hx, hs⟩ := h
      have hl : x.length = x0.length := hs.perm.length_eq.symm
      have k1 : j - p.length < x.length := by omega
      have k2 : j - p.length + 1 < x.length := by omega
      have e : x = x.take (j - p.length) ++ x[j - p.length] :: x[j - p.length + 1] :: x.drop (j - p.length + 2) := by
        conv => lhs; rw [← List.take_append_drop (j - p.length) x, List.drop_eq_getElem_cons k1, List.drop_eq_getElem_cons k2]
      have g1 : d[j]! = x[j - p.length] := by rw [← get_in hx (j - p.length) k1]; congr 1; omega
      have g2 : d[j + 1]! = x[j - p.length + 1] := by rw [← get_in hx (j - p.length + 1) k2]; congr 1; omega
      have hlt := hc.2
      rw [g1, g2] at hlt
      have hpl : (x.take (j - p.length)).length = j - p.length := by simp; omega
      generalize x.take (j - p.length) = xa at e hpl
      generalize x.drop (j - p.length + 2) = xb at e
      generalize x[j - p.length] = y at *
      generalize x[j - p.length + 1] = z at *
      subst e
      have hsw := swp_split' (d := d) (p := p ++ xa) (m := []) (q := xb ++ q) (x := y) (y := z) (by rw [hx]; simp) (i := j) (j := j + 1) (by simp; omega) (by simp; omega)
      exact ⟨xa ++ z :: y :: xb, by rw [hsw]; simp, .step xa y z xb hs hlt⟩
    · exact h
theorem insOuter_sw (lt : α → α → Bool) (p q x0 : List α) (b : Nat) (hb : b = p.length + x0.length) : ∀ (k i : Nat) (d : Array α), b - i ≤ k → (∃ x, d.toList = p ++ x ++ q ∧ Sw lt x0 x) → ∃ x, (insOuter lt p.length b i d).toList = p ++ x ++ q ∧ Sw lt x0 x := by
  intro k
  induction k with
  | zero => intro i d hk h; rw [insOuter, if_neg (by omega)]; exact h
  | succ k ih =>
    intro i d hk h
    rw [insOuter]
    split
    · exact ih _ _ (by omega) (insInner_sw lt p q x0 i d (by omega) h)
    · exact h
theorem swo_of {lt : α → α → Bool} (h : Swo lt) : SWO lt := ⟨irrefl h, fun x y z h1 h2 => by
    cases e : lt x z
    · have := h.ntrans y z x (h.asymm _ _ h2) e
      rw [h1] at this; cases this
    · rfl, fun x y z h1 h2 => h.ntrans z y x h2 h1⟩
theorem insertion_is (h : Swo lt) {d : Array α} {p x q : List α} (hd : d.toList = p ++ x ++ q) {a b : Nat} (ha : a = p.length) (hb : b = p.length + x.length) : (insertionSort lt d a b).toList = p ++ ssort lt x ++ q := by
  subst ha
  obtain ⟨y, hy, hs⟩ := insOuter_sw lt p q x b hb b (p.length + 1) d (by omega) ⟨x, hd, .refl⟩
  have hsz : b ≤ d.size := by rw [← Array.length_toList, hd]; simp; omega
  have hso := (insertionSort_holds (lt := lt) (swo_of h) d p.length b (by omega) hsz).2
  have hl : y.length = x.length := hs.perm.length_eq.symm
  have : y = ssort lt x := by
    apply ssort_eq h hs
    refine List.pairwise_iff_getElem.2 fun i j hi hj hij => ?_
    have := hso (p.length + i) (p.length + j) (by omega) (by omega) (by omega)
    rw [show insertionSort lt d p.length b = insOuter lt p.length b (p.length + 1) d from rfl, get_in hy i hi, get_in hy j hj] at this
    exact this
  rw [← this]; exact hy
end Go.Proofs.Ytnelgellbabkoaa.StbA

/- Plain facts: the stable sort's blocks: blocks of twenty are sorted, then merged two by two. -/
namespace Go.Proofs.Ytnelgellbabkoaa.StbB
open Go.Sort Go.Proofs.Ytnelgellbabkoaa.SortM Go.Proofs.Ytnelgellbabkoaa.StbA
variable {α : Type} [Inhabited α] {lt : α → α → Bool}

def P1 (lt : α → α → Bool) (l0 : List α) (bs a : Nat) (d : Array α) : Prop := ∃ (cs : List (List α)) (rest : List α), l0 = cs.flatten ++ rest ∧ d.toList = (cs.map (ssort lt)).flatten ++ rest ∧ (∀ c ∈ cs, c.length = bs) ∧ a = cs.flatten.length
def P2 (lt : α → α → Bool) (l0 : List α) (bs : Nat) (d : Array α) : Prop := ∃ (cs : List (List α)) (rest : List α), l0 = cs.flatten ++ rest ∧ d.toList = (cs.map (ssort lt)).flatten ++ ssort lt rest ∧ (∀ c ∈ cs, c.length = bs) ∧ rest.length < bs
def P3 (lt : α → α → Bool) (l0 : List α) (bs a : Nat) (d : Array α) : Prop := ∃ (ds cs : List (List α)) (rest : List α), l0 = ds.flatten ++ (cs.flatten ++ rest) ∧ d.toList = (ds.map (ssort lt)).flatten ++ ((cs.map (ssort lt)).flatten ++ ssort lt rest) ∧ (∀ c ∈ ds, c.length = 2 * bs) ∧ (∀ c ∈ cs, c.length = bs) ∧ rest.length < bs ∧ a = ds.flatten.length

theorem flat_len (h : Swo lt) (cs : List (List α)) : ((cs.map (ssort lt)).flatten).length = cs.flatten.length := by
  induction cs with
  | nil => rfl
  | cons c cs ih => simp only [List.map_cons, List.flatten_cons, List.length_append, ssort_len h, ih]
theorem ssort_nil : ssort lt ([] : List α) = [] := rfl
theorem P1.start (l0 : List α) (bs : Nat) {d : Array α} (hd : d.toList = l0) : P1 lt l0 bs 0 d := ⟨[], l0, rfl, hd, by simp, rfl⟩
theorem P1.size (h : Swo lt) {l0 : List α} {bs a : Nat} {d : Array α} (hP : P1 lt l0 bs a d) : d.size = l0.length := by
  obtain ⟨cs, rest, h1, h2, _, _⟩ := hP
  rw [← Array.length_toList, h2, h1, List.length_append, List.length_append, flat_len h]
theorem P1.step (h : Swo lt) {l0 : List α} {bs a : Nat} {d : Array α} (hP : P1 lt l0 bs a d) (hb : a + bs ≤ l0.length) : P1 lt l0 bs (a + bs) (insertionSort lt d a (a + bs)) := by
  obtain ⟨cs, rest, h1, h2, h3, h4⟩ := hP
  have hl : rest = rest.take bs ++ rest.drop bs := (List.take_append_drop _ _).symm
  have hx : (rest.take bs).length = bs := by simp; rw [h1] at hb; simp at hb; simp at h4; omega
  generalize rest.take bs = x at hl hx
  generalize rest.drop bs = y at hl
  subst hl
  refine ⟨cs ++ [x], y, by rw [h1]; simp, ?_, fun c hc => ?_, by simp only [List.flatten_append, List.length_append, List.flatten_cons, List.flatten_nil, List.append_nil]; omega⟩
  · rw [insertion_is h (d := d) (p := (cs.map (ssort lt)).flatten) (x := x) (q := y) (by rw [h2]; simp) (by rw [flat_len h]; exact h4) (by rw [flat_len h]; omega)]
    simp
  · rcases List.mem_append.1 hc with hc | hc
    · exact h3 c hc
    · simp at hc; subst hc; exact hx
theorem P1.last (h : Swo lt) {l0 : List α} {bs a n : Nat} {d : Array α} (hP : P1 lt l0 bs a d) (hn : n = l0.length) (hb : n < a + bs) : P2 lt l0 bs (insertionSort lt d a n) := by
  obtain ⟨cs, rest, h1, h2, h3, h4⟩ := hP
  have hr : n = a + rest.length := by rw [hn, h1, List.length_append]; omega
  refine ⟨cs, rest, h1, ?_, h3, by omega⟩
  rw [insertion_is h (d := d) (p := (cs.map (ssort lt)).flatten) (x := rest) (q := []) (by rw [h2]; simp) (by rw [flat_len h]; exact h4) (by rw [flat_len h]; omega)]
  simp
theorem P1.le {l0 : List α} {bs a : Nat} {d : Array α} (hP : P1 lt l0 bs a d) : a ≤ l0.length := by
  obtain ⟨cs, rest, h1, h2, h3, h4⟩ := hP
  rw [h1, List.length_append]; omega
theorem P2.size (h : Swo lt) {l0 : List α} {bs : Nat} {d : Array α} (hP : P2 lt l0 bs d) : d.size = l0.length := by
  obtain ⟨cs, rest, h1, h2, _, _⟩ := hP
  rw [← Array.length_toList, h2, h1, List.length_append, List.length_append, flat_len h, ssort_len h]
theorem P3.start {l0 : List α} {bs : Nat} {d : Array α} (hP : P2 lt l0 bs d) : P3 lt l0 bs 0 d := by
  obtain ⟨cs, rest, h1, h2, h3, h4⟩ := hP
  exact ⟨[], cs, rest, h1, h2, by simp, h3, h4, rfl⟩
theorem P3.size (h : Swo lt) {l0 : List α} {bs a : Nat} {d : Array α} (hP : P3 lt l0 bs a d) : d.size = l0.length ∧ a ≤ d.size := by
  obtain ⟨ds, cs, rest, h1, h2, _, _, _, h3⟩ := hP
  have e1 : d.size = ds.flatten.length + (cs.flatten.length + rest.length) := by rw [← Array.length_toList, h2, List.length_append, List.length_append, flat_len h, flat_len h, ssort_len h]
  have e2 : l0.length = ds.flatten.length + (cs.flatten.length + rest.length) := by rw [h1, List.length_append, List.length_append]
  omega
theorem P3.step (h : Swo lt) {l0 : List α} {bs a : Nat} {d : Array α} (hP : P3 lt l0 bs a d) (hb : a + 2 * bs ≤ l0.length) (h0 : 0 < bs) :
    ∃ p u v q, d.toList = p ++ u ++ v ++ q ∧ Sorted lt u ∧ Sorted lt v ∧ a = p.length ∧ u.length = bs ∧ v.length = bs ∧ ∀ d' : Array α, d'.toList = p ++ ssort lt (u ++ v) ++ q → P3 lt l0 bs (a + 2 * bs) d' := by
  obtain ⟨ds, cs, rest, h1, h2, h3, h4, h5, h6⟩ := hP
  have hl : l0.length = a + (cs.flatten.length + rest.length) := by rw [h1, List.length_append, List.length_append, h6]
  match cs with
  | [] => simp at hl; omega
  | [c] => have := h4 c (by simp); simp at hl; omega
  | c1 :: c2 :: cs =>
    have k1 := h4 c1 (by simp)
    have k2 := h4 c2 (by simp)
    refine ⟨(ds.map (ssort lt)).flatten, ssort lt c1, ssort lt c2, (cs.map (ssort lt)).flatten ++ ssort lt rest, by rw [h2]; simp, ssort_sorted h _, ssort_sorted h _, by rw [flat_len h]; exact h6, by rw [ssort_len h]; exact k1, by rw [ssort_len h]; exact k2, fun d' hd' => ?_⟩
    refine ⟨ds ++ [c1 ++ c2], cs, rest, by rw [h1]; simp, ?_, fun c hc => ?_, fun c hc => h4 c (by simp [hc]), h5, by simp only [List.flatten_append, List.length_append, List.flatten_cons, List.flatten_nil, List.append_nil]; omega⟩
    · rw [hd', ssort_app h]; simp
    · rcases List.mem_append.1 hc with hc | hc
      · exact h3 c hc
      · simp at hc; subst hc; rw [List.length_append]; omega
theorem P3.last1 (h : Swo lt) {l0 : List α} {bs a n : Nat} {d : Array α} (hP : P3 lt l0 bs a d) (hn : n = l0.length) (hb : n < a + 2 * bs) (hm : a + bs < n) :
    ∃ p u v, d.toList = p ++ u ++ v ++ [] ∧ Sorted lt u ∧ Sorted lt v ∧ a = p.length ∧ u.length = bs ∧ a + bs + v.length = n ∧ ∀ d' : Array α, d'.toList = p ++ ssort lt (u ++ v) ++ [] → P2 lt l0 (2 * bs) d' := by
  obtain ⟨ds, cs, rest, h1, h2, h3, h4, h5, h6⟩ := hP
  have hl : n = a + (cs.flatten.length + rest.length) := by rw [hn, h1, List.length_append, List.length_append, h6]
  match cs with
  | [] => simp at hl; omega
  | c1 :: c2 :: cs =>
    have k1 := h4 c1 (by simp)
    have k2 := h4 c2 (by simp)
    simp at hl; omega
  | [c] =>
    have k1 := h4 c (by simp)
    have hl' : n = a + (c.length + rest.length) := by simpa using hl
    refine ⟨(ds.map (ssort lt)).flatten, ssort lt c, ssort lt rest, by rw [h2]; simp, ssort_sorted h _, ssort_sorted h _, by rw [flat_len h]; exact h6, by rw [ssort_len h]; exact k1, by rw [ssort_len h]; omega, fun d' hd' => ?_⟩
    refine ⟨ds, c ++ rest, by rw [h1]; simp, ?_, h3, by rw [List.length_append]; omega⟩
    rw [hd', ssort_app h]; simp
theorem P3.last2 {l0 : List α} {bs a n : Nat} {d : Array α} (hP : P3 lt l0 bs a d) (hn : n = l0.length) (hb : n < a + 2 * bs) (hm : ¬ a + bs < n) (h0 : 0 < bs) : P2 lt l0 (2 * bs) d := by
  obtain ⟨ds, cs, rest, h1, h2, h3, h4, h5, h6⟩ := hP
  have hl : n = a + (cs.flatten.length + rest.length) := by rw [hn, h1, List.length_append, List.length_append, h6]
  match cs with
  | [] => exact ⟨ds, rest, by rw [h1]; simp, by rw [h2]; simp, h3, by omega⟩
  | c1 :: c2 :: cs =>
    have k1 := h4 c1 (by simp)
    have k2 := h4 c2 (by simp)
    simp at hl; omega
  | [c] =>
    have k1 := h4 c (by simp)
    have hl' : n = a + (c.length + rest.length) := by simpa using hl
    have hr : rest = [] := List.eq_nil_of_length_eq_zero (by omega)
    subst hr
    exact ⟨ds, c, by rw [h1]; simp, by rw [h2, ssort_nil]; simp, h3, by omega⟩
theorem P2.done {l0 : List α} {bs : Nat} {d : Array α} (hP : P2 lt l0 bs d) (hb : ¬ bs < l0.length) : d.toList = ssort lt l0 := by
  obtain ⟨cs, rest, h1, h2, h3, h4⟩ := hP
  match cs with
  | [] => rw [h2, h1]; simp
  | [c] =>
    have k1 := h3 c (by simp)
    have hl : l0.length = c.length + rest.length := by rw [h1]; simp
    have hr : rest = [] := List.eq_nil_of_length_eq_zero (by omega)
    subst hr
    rw [h2, h1, ssort_nil]; simp
  | c1 :: c2 :: cs =>
    have k1 := h3 c1 (by simp)
    have k2 := h3 c2 (by simp)
    have hl : l0.length = c1.length + (c2.length + (cs.flatten.length + rest.length)) := by rw [h1]; simp
    omega
end Go.Proofs.Ytnelgellbabkoaa.StbB

/- The walks of slices.SortStableFunc at api.Setting: the row and its elements. Printed by gen_stb.py. -/
namespace Go.Proofs.Ytnelgellbabkoaa
open Go.Shelf Go.RowKit Go.Lib Go.Sort SortM StbA StbB
namespace StbSet
variable {α : Type} [Inhabited α] {f0 : α → ByteArray} {f1 : α → ByteArray} {w0 : World} {blk off : Nat} {d0 : Array α}
def enc (f0 : α → ByteArray) (f1 : α → ByteArray) (x : α) : List Value := [.string (f0 x), .string (f1 x)]
theorem enc_len : ∀ x, (enc f0 f1 x).length = 2 := fun _ => rfl
theorem enc_one : ∀ x, ∀ v ∈ enc f0 f1 x, v.oneCell' = true := fun x v h => by
  unfold enc at h
  simp only [List.mem_cons, List.not_mem_nil, or_false] at h
  rcases h with rfl | rfl <;> rfl
theorem cells {dk : Array α} {W : World} (S : SWK (enc f0 f1) 2 w0 blk off dk W) (R : RowK (enc f0 f1) 2 w0 blk off d0) (hs : dk.size = d0.size) (i : Nat) (hi : i < dk.size) :
    W.cell? ⟨blk, off + i * 2, none⟩ = some (.string (f0 dk[i]!)) ∧ W.frozen? ⟨blk, off + i * 2, none⟩ = false ∧ W.cell? ⟨blk, off + i * 2 + 1, none⟩ = some (.string (f1 dk[i]!)) ∧ W.frozen? ⟨blk, off + i * 2 + 1, none⟩ = false := by
  have h := S.holds R.hblk R.hH hs
  have h0 := HoldsK.cell h hi (show 0 < 2 by decide)
  have h1 := HoldsK.cell h hi (show 1 < 2 by decide)
  exact ⟨h0.1, h0.2, h1.1, h1.2⟩
theorem exch {dk : Array α} {W : World} (S : SWK (enc f0 f1) 2 w0 blk off dk W) (R : RowK (enc f0 f1) 2 w0 blk off d0) (i j : Nat) (hi : i < dk.size) (hj : j < dk.size) :
    SWK (enc f0 f1) 2 w0 blk off (swp dk i j) (((((W.drew).setCell ⟨blk, off + i * 2, none⟩ (.string (f0 dk[j]!))).setCell ⟨blk, off + i * 2 + 1, none⟩ (.string (f1 dk[j]!))).setCell ⟨blk, off + j * 2, none⟩ (.string (f0 dk[i]!))).setCell ⟨blk, off + j * 2 + 1, none⟩ (.string (f1 dk[i]!))) := S.swapped R i j hi hj
end StbSet
end Go.Proofs.Ytnelgellbabkoaa

/- The walks of slices.SortStableFunc at api.Setting: swapRangeCmpFunc: two runs are exchanged. Printed by gen_stb.py. -/
namespace Go.Proofs.Ytnelgellbabkoaa
open Go.Shelf Go.RowKit Go.Lib Go.Sort SortM StbA StbB
namespace StbSet
variable {α : Type} [Inhabited α] {f0 : α → ByteArray} {f1 : α → ByteArray} {w0 : World} {blk off : Nat} {d0 : Array α}
set_option maxRecDepth 10000 in
set_option maxHeartbeats 4000000 in
theorem swapRange_any {d : Array α} {w : World} (R : RowK (enc f0 f1) 2 w0 blk off d0) (hs : d.size = d0.size) (S : SWK (enc f0 f1) 2 w0 blk off d w) (a b m cap : Nat) (hab : a + m ≤ b) (hb : b + m ≤ d0.size) (hn : d0.size ≤ 1000000) (cv : Value) :
    Calls Try.prog 160 #[.slice (some ⟨blk, off, none⟩) d0.size cap, .int .i64 a, .int .i64 b, .int .i64 m, cv] w fun e w' => e = .returned (.tuple #[]) ∧ SWK (enc f0 f1) 2 w0 blk off (swr d a b m) w' := by
  have hlen := size_swr d a b
  obtain ⟨N, hN⟩ : ∃ N, N = d0.size := ⟨_, rfl⟩
  rw [← hN] at hb hn hs ⊢
  have HS := Lib.hid S; have Hlen := Lib.hid hlen; clear S hlen
  go_enter Try.func160, Try.ntmps160
  go_wp2_with fail
  go_loopw [10] (fun i wr => ∃ k : Nat, k ≤ m ∧ i = .int .i64 k ∧ SWK (enc f0 f1) 2 w0 blk off (swr d a b k) wr) (fun i _ => m - (intOf i).toNat)
  case atStart => exact ⟨0, Nat.zero_le _, rfl, HS.out⟩
  case round =>
    obtain ⟨k, hk, rfl, S⟩ := hrel
    by_cases hlt : k < m
    · have hl := Hlen.out k
      obtain ⟨dk, hdk⟩ : ∃ dk, dk = swr d a b k := ⟨_, rfl⟩
      rw [← hdk] at S hl
      have hnx : swr d a b (k + 1) = swp dk (a + k) (b + k) := by rw [swr, ← hdk]
      have hEX := exch S R (a + k) (b + k) (by omega) (by omega)
      obtain ⟨p0, pf0, p1, pf1⟩ := cells S R (by omega) (a + k) (by omega)
      obtain ⟨q0, qf0, q1, qf1⟩ := cells S R (by omega) (b + k) (by omega)
      obtain ⟨x, hx⟩ : ∃ x, x = dk[a + k]! := ⟨_, rfl⟩
      obtain ⟨y, hy⟩ : ∃ y, y = dk[b + k]! := ⟨_, rfl⟩
      rw [← hx] at p0 p1 hEX
      rw [← hy] at q0 q1 hEX
      obtain ⟨x0, hx0⟩ : ∃ v, v = f0 x := ⟨_, rfl⟩
      obtain ⟨y0, hy0⟩ : ∃ v, v = f0 y := ⟨_, rfl⟩
      rw [← hx0] at p0 hEX
      rw [← hy0] at q0 hEX
      obtain ⟨x1, hx1⟩ : ∃ v, v = f1 x := ⟨_, rfl⟩
      obtain ⟨y1, hy1⟩ : ∃ v, v = f1 y := ⟨_, rfl⟩
      rw [← hx1] at p1 hEX
      rw [← hy1] at q1 hEX
      have na00 : ¬ off + (a + k) * 2 = off + (b + k) * 2 := by omega
      have nb00 : ¬ off + (b + k) * 2 = off + (a + k) * 2 := by omega
      have na01 : ¬ off + (a + k) * 2 = off + (b + k) * 2 + 1 := by omega
      have nb01 : ¬ off + (b + k) * 2 = off + (a + k) * 2 + 1 := by omega
      have na10 : ¬ off + (a + k) * 2 + 1 = off + (b + k) * 2 := by omega
      have nb10 : ¬ off + (b + k) * 2 + 1 = off + (a + k) * 2 := by omega
      have na11 : ¬ off + (a + k) * 2 + 1 = off + (b + k) * 2 + 1 := by omega
      have nb11 : ¬ off + (b + k) * 2 + 1 = off + (a + k) * 2 + 1 := by omega
      have w1 : IntKind.i64.wrap ((a : Int) + (k : Int)) = (a : Int) + (k : Int) := IntWalk.i64_in _ (by omega)
      have w2 : IntKind.i64.wrap ((b : Int) + (k : Int)) = (b : Int) + (k : Int) := IntWalk.i64_in _ (by omega)
      have n1 : ((a : Int) + (k : Int)).toNat = a + k := by omega
      have n2 : ((b : Int) + (k : Int)).toNat = b + k := by omega
      have u1 : (0 : Int) ≤ (a : Int) + (k : Int) := by omega
      have u2 : (0 : Int) ≤ (b : Int) + (k : Int) := by omega
      have v1 : (a : Int) + (k : Int) < (N : Int) := by omega
      have v2 : (b : Int) + (k : Int) < (N : Int) := by omega
      rw [← hnx] at hEX
      clear S
      have Hdk := Lib.hid hdk; have Hnx := Lib.hid hnx; have Hl := Lib.hid hl; have Hx := Lib.hid hx; have Hy := Lib.hid hy; have Hx0 := Lib.hid hx0; have Hy0 := Lib.hid hy0; have Hx1 := Lib.hid hx1; have Hy1 := Lib.hid hy1; have HEX := Lib.hid hEX; clear hdk hnx hl hx hy hx0 hy0 hx1 hy1 hEX
      go_wp2_with fail
      go_region
      all_goals
        go_wp2_with fail
        go_roundw
        case rel => exact ⟨k + 1, by omega, by go_num, HEX.out⟩
        case measure => simp [intOf]; omega
    · obtain rfl : k = m := by omega
      have HS := Lib.hid S; clear S
      go_wp2_with fail
      go_end0
      exact ⟨rfl, HS.out⟩
end StbSet
end Go.Proofs.Ytnelgellbabkoaa

/- The walks of slices.SortStableFunc at api.Setting: rotateCmpFunc: two runs are turned about. Printed by gen_stb.py. -/
namespace Go.Proofs.Ytnelgellbabkoaa
open Go.Shelf Go.RowKit Go.Lib Go.Sort SortM StbA StbB
namespace StbSet
variable {α : Type} [Inhabited α] {f0 : α → ByteArray} {f1 : α → ByteArray} {w0 : World} {blk off : Nat} {d0 : Array α}
/-- the row has become that list -/
def Now (f : α → List Value) (k : Nat) (w0 : World) (blk off : Nat) (l : List α) (e : Ending) (w' : World) : Prop := e = .returned (.tuple #[]) ∧ ∃ d : Array α, SWK f k w0 blk off d w' ∧ d.toList = l
set_option maxRecDepth 10000 in
set_option maxHeartbeats 4000000 in
theorem rotate_any {d : Array α} {w : World} (R : RowK (enc f0 f1) 2 w0 blk off d0) (S : SWK (enc f0 f1) 2 w0 blk off d w) {p u v q : List α} (hd : d.toList = p ++ u ++ v ++ q) (hs : d.size = d0.size) {a m b : Nat} (ha : a = p.length) (hm : m = a + u.length) (hb : b = m + v.length) (hu : 0 < u.length) (hv : 0 < v.length) (cap : Nat) (hn : d0.size ≤ 1000000) (cv : Value) :
    Calls Try.prog 156 #[.slice (some ⟨blk, off, none⟩) d0.size cap, .int .i64 a, .int .i64 m, .int .i64 b, cv] w (Now (enc f0 f1) 2 w0 blk off (p ++ v ++ u ++ q)) := by
  have hst := RInv.start hd (m := m) (i := u.length) (j := v.length) rfl rfl (by omega)
  have htl : (p ++ v ++ u ++ q).length = d0.size := by rw [← hs, ← hst.size]
  have hle := hst.le
  obtain ⟨iu, hiu⟩ : ∃ n, n = u.length := ⟨_, rfl⟩
  obtain ⟨jv, hjv⟩ : ∃ n, n = v.length := ⟨_, rfl⟩
  obtain ⟨tgt, htg⟩ : ∃ l, l = p ++ v ++ u ++ q := ⟨_, rfl⟩
  rw [← htg] at hst htl ⊢
  rw [← hiu] at hst hm hu hle
  rw [← hjv] at hst hb hv hle
  have hC := fun (dk : Array α) (wr : World) (hs : dk.size = d0.size) (S : SWK (enc f0 f1) 2 w0 blk off dk wr) (a b m : Nat) (h1 : a + m ≤ b) (h2 : b + m ≤ d0.size) => swapRange_any R hs S a b m cap h1 h2 hn cv
  obtain ⟨N, hN⟩ : ∃ N, N = d0.size := ⟨_, rfl⟩
  rw [← hN] at hn htl hs hC ⊢
  have i1 : IntKind.i64.wrap ((m : Int) - (a : Int)) = (iu : Int) := by rw [IntWalk.i64_in _ (by omega)]; omega
  have i2 : IntKind.i64.wrap ((b : Int) - (m : Int)) = (jv : Int) := by rw [IntWalk.i64_in _ (by omega)]; omega
  clear hd ha hm hb hle
  have Hst := Lib.hid hst; have HS := Lib.hid S; have HC := Lib.hid hC; have Htl := Lib.hid htl; have Htg := Lib.hid htg; have Hiu := Lib.hid hiu; have Hjv := Lib.hid hjv; have HN := Lib.hid hN; clear hst S hC htl htg hiu hjv hN
  go_enter Try.func156, Try.ntmps156
  go_wp2_with fail
  go_loopw [10, 11] (fun x y wr => ∃ (i j : Nat) (dk : Array α), x = .int .i64 i ∧ y = .int .i64 j ∧ 0 < i ∧ 0 < j ∧ RInv tgt m i j dk ∧ SWK (enc f0 f1) 2 w0 blk off dk wr) (fun x y _ => (intOf x).toNat + (intOf y).toNat)
  case atStart => exact ⟨iu, jv, d, rfl, rfl, hu, hv, Hst.out, HS.out⟩
  case round =>
    clear i1 i2
    obtain ⟨i, j, dk, rfl, rfl, hi, hj, hI, S⟩ := hrel
    have hsz := hI.size
    rw [Htl.out] at hsz
    have hl := hI.le
    rw [hsz] at hl
    have w1 : IntKind.i64.wrap ((m : Int) - (i : Int)) = ((m - i : Nat) : Int) := by rw [IntWalk.i64_in _ (by omega)]; omega
    rcases Nat.lt_trichotomy i j with hij | hij | hij
    · have hne : ((i : Int) == (j : Int)) = false := by rw [beq_eq_false_iff_ne]; omega
      have hgt : decide ((j : Int) < (i : Int)) = false := decide_eq_false (by omega)
      have w2 : IntKind.i64.wrap ((m : Int) + (j : Int)) = (m : Int) + (j : Int) := IntWalk.i64_in _ (by omega)
      have w3 : IntKind.i64.wrap ((m : Int) + (j : Int) - (i : Int)) = ((m + j - i : Nat) : Int) := by rw [IntWalk.i64_in _ (by omega)]; omega
      have w4 : IntKind.i64.wrap ((j : Int) - (i : Int)) = ((j - i : Nat) : Int) := by rw [IntWalk.i64_in _ (by omega)]; omega
      have hc := HC.out dk wr hsz S (m - i) (m + j - i) i (by omega) (by omega)
      have hnI := hI.lt hij
      clear S hI
      have Hc := Lib.hid hc; have HnI := Lib.hid hnI; have Hsz := Lib.hid hsz; clear hc hnI hsz
      go_wp2_with fail
      refine Hc.out.mono ?_
      rintro e w2 ⟨rfl, S⟩
      have HS := Lib.hid S; clear S
      go_wp2_with fail
      go_roundw
      case rel => exact ⟨i, j - i, _, rfl, rfl, hi, by omega, HnI.out, HS.out⟩
      case measure => simp [intOf]; omega
    · subst hij
      have hne : ((i : Int) == (i : Int)) = true := by simp
      have hc := HC.out dk wr hsz S (m - i) m i (by omega) (by omega)
      have hnI := hI.eq
      clear S hI
      have Hc := Lib.hid hc; have HnI := Lib.hid hnI; have Hsz := Lib.hid hsz; clear hc hnI hsz
      go_wp2_with fail
      refine Hc.out.mono ?_
      rintro e w2 ⟨rfl, S⟩
      have HS := Lib.hid S; clear S
      go_wp2_with fail
      go_end0
      exact ⟨rfl, _, HS.out, HnI.out⟩
    · have hne : ((i : Int) == (j : Int)) = false := by rw [beq_eq_false_iff_ne]; omega
      have hgt : decide ((j : Int) < (i : Int)) = true := decide_eq_true (by omega)
      have w4 : IntKind.i64.wrap ((i : Int) - (j : Int)) = ((i - j : Nat) : Int) := by rw [IntWalk.i64_in _ (by omega)]; omega
      have hc := HC.out dk wr hsz S (m - i) m j (by omega) (by omega)
      have hnI := hI.gt hij
      clear S hI
      have Hc := Lib.hid hc; have HnI := Lib.hid hnI; have Hsz := Lib.hid hsz; clear hc hnI hsz
      go_wp2_with fail
      refine Hc.out.mono ?_
      rintro e w2 ⟨rfl, S⟩
      have HS := Lib.hid S; clear S
      go_wp2_with fail
      go_roundw
      case rel => exact ⟨i - j, j, _, rfl, rfl, by omega, hj, HnI.out, HS.out⟩
      case measure => simp [intOf]; omega
end StbSet
end Go.Proofs.Ytnelgellbabkoaa

/- The walks of slices.SortStableFunc at api.Setting: symMergeCmpFunc where the first run has one element. Printed by gen_stb.py. -/
namespace Go.Proofs.Ytnelgellbabkoaa
open Go.Shelf Go.RowKit Go.Lib Go.Sort SortM StbA StbB
namespace StbSet
variable {α : Type} [Inhabited α] {f0 : α → ByteArray} {f1 : α → ByteArray} {w0 : World} {blk off : Nat} {d0 : Array α}
variable {cf : α → α → Int} {g : Nat} {cb : Array Value}
set_option maxRecDepth 10000 in
set_option maxHeartbeats 4000000 in
theorem merge_left {dk : Array α} {w : World} (R : RowK (enc f0 f1) 2 w0 blk off d0) (S : SWK (enc f0 f1) 2 w0 blk off dk w) (C : CmpLays Try.prog g cb (enc f0 f1) 2 cf blk off d0.size w0) (eg : ∀ args w, (callFunc g args).run Try.prog w = .ok (.enter g args) w) (hO : Swo (ltOf cf))
    {p v q : List α} {x : α} (hd : dk.toList = p ++ x :: (v ++ q)) (hs : dk.size = d0.size) (hv : Sorted (ltOf cf) v) {a m b : Nat} (ha : a = p.length) (hm : m = a + 1) (hb : b = m + v.length) (cap : Nat) (hn : d0.size ≤ 1000000) :
    Calls Try.prog 145 #[.slice (some ⟨blk, off, none⟩) d0.size cap, .int .i64 a, .int .i64 m, .int .i64 b, .func (.func g) #[] cb] w (Now (enc f0 f1) 2 w0 blk off (p ++ ssort (ltOf cf) (x :: v) ++ q)) := by
  have hbn : b ≤ d0.size := by rw [← hs, ← Array.length_toList, hd]; simp; omega
  have hix : SortedIx (ltOf cf) m b dk := sortedIx_of hO (p := p ++ [x]) (u := v) (q := q) (by rw [hd]; simp) hv (by simp; omega) (by simp; omega)
  have hM := mono_left hO (a := a) hix
  have hend := fun i (hB : BS (fun c => ltOf cf dk[c]! dk[a]!) m b i i) => one_left hO hd hv ha hm hb hB
  have hmb : m ≤ b := by omega
  have hB0 := BS.start (fun c => ltOf cf dk[c]! dk[a]!) hmb
  have hk1 : IntKind.i64.wrap ((m : Int) - (a : Int)) = 1 := by rw [IntWalk.i64_in _ (by omega)]; omega
  have hk2 : ((1 : Int) == 1) = true := by simp
  obtain ⟨tgt, htg⟩ : ∃ l, l = p ++ ssort (ltOf cf) (x :: v) ++ q := ⟨_, rfl⟩
  rw [← htg] at hend ⊢
  obtain ⟨N, hN⟩ : ∃ N, N = d0.size := ⟨_, rfl⟩
  rw [← hN] at hn hs hbn ⊢
  have ham : a < m := by omega
  clear hix hd hv ha hm hb
  have HS := Lib.hid S; have HM := Lib.hid hM; have HB0 := Lib.hid hB0; have Hend := Lib.hid hend; have Htg := Lib.hid htg; have Hs := Lib.hid hs; have HN := Lib.hid hN; have Hmb := Lib.hid hmb; have HC := Lib.hid C; have HR := Lib.hid R; have HO := Lib.hid hO; clear S hM hB0 hend htg hs hN hmb C R hO
  go_enter Try.func145, Try.ntmps145
  go_wp2_with fail
  clear hk1
  go_loopw [10, 11] (fun x y wr => ∃ (i j : Nat), x = .int .i64 i ∧ y = .int .i64 j ∧ BS (fun c => ltOf cf dk[c]! dk[a]!) m b i j ∧ SWK (enc f0 f1) 2 w0 blk off dk wr) (fun x y _ => (intOf y).toNat - (intOf x).toNat)
  case atStart => exact ⟨m, b, rfl, rfl, HB0.out, HS.out⟩
  case round =>
    obtain ⟨i, j, rfl, rfl, hB, S⟩ := hrel
    have l1 := hB.l1
    have l2 := hB.l2
    have l3 := hB.l3
    by_cases hlt : i < j
    · have R := HR.out
      have C := HC.out
      have hs := Hs.out
      rw [HN.out] at hs
      have hN' := HN.out
      obtain ⟨h, hh⟩ : ∃ h, h = (i + j) / 2 := ⟨_, rfl⟩
      have w1 : IntKind.i64.wrap ((i : Int) + (j : Int)) = (i : Int) + (j : Int) := IntWalk.i64_in _ (by omega)
      have w2 : ((i : Int) + (j : Int)) / 2 = (h : Int) := by omega
      have hGR := fun n os => SWK.grown S n os
      have hp := fun n os => cells (SWK.grown S n os) R hs (h) (by omega)
      obtain ⟨x, hx⟩ : ∃ v, v = dk[h]! := ⟨_, rfl⟩
      have hq := fun n os => cells (SWK.grown S n os) R hs (a) (by omega)
      obtain ⟨y, hy⟩ : ∃ v, v = dk[a]! := ⟨_, rfl⟩
      have hc := fun n os => SWK.cmp S C hs x y n os
      rw [← hx] at hp
      rw [← hy] at hq
      obtain ⟨x0, hx0⟩ : ∃ v, v = f0 x := ⟨_, rfl⟩
      obtain ⟨x1, hx1⟩ : ∃ v, v = f1 x := ⟨_, rfl⟩
      obtain ⟨y0, hy0⟩ : ∃ v, v = f0 y := ⟨_, rfl⟩
      obtain ⟨y1, hy1⟩ : ∃ v, v = f1 y := ⟨_, rfl⟩
      rw [← hx0, ← hx1] at hp
      rw [← hy0, ← hy1] at hq
      have p0 := fun n os => (hp n os).1
      have p1 := fun n os => (hp n os).2.2.1
      have q0 := fun n os => (hq n os).1
      have q1 := fun n os => (hq n os).2.2.1
      clear hp hq
      have hcg : ∀ n os, Calls Try.prog g (#[.agg #[.string (x0), .string (x1)], .agg #[.string (y0), .string (y1)]] ++ cb) (grow (wr.drewN n) os) fun e w' => e = .returned (.int .i64 (cf x y)) ∧ ∃ q os', w' = grow ((grow (wr.drewN n) os).drewN q) os' := by rw [hx0, hy0, hx1, hy1]; exact hc
      clear hc
      obtain ⟨cv, hcv⟩ : ∃ v, v = cf x y := ⟨_, rfl⟩
      rw [← hcv] at hcg
      have hl : (h : Int) < (N : Int) := by omega
      have al : (a : Int) < (N : Int) := by omega
      have hij1 : i ≤ h := by omega
      have hij2 : h < j := by omega
      clear S hs R C hN'
      cases hdec : decide (cv < 0) with
      | true =>
        have hB2 := hB.left HM.out hij1 hij2 (by rw [← hx, ← hy]; unfold ltOf; rw [← hcv]; exact hdec)
        have hlv : cv < 0 := of_decide_eq_true hdec
        have HB := Lib.hid hB; have HB2 := Lib.hid hB2; have Hx := Lib.hid hx; have Hy := Lib.hid hy; have Hx0 := Lib.hid hx0; have Hy0 := Lib.hid hy0; have Hx1 := Lib.hid hx1; have Hy1 := Lib.hid hy1; have HGR := Lib.hid hGR; have Hcv := Lib.hid hcv; have Hh := Lib.hid hh; have Hdec := Lib.hid hdec; clear hB hB2 hx hy hx0 hy0 hx1 hy1 hGR hcv hh hdec
        go_wp2_with fail
        go_quiet_grown (first | (go_at_fn g; refine Calls.grown_of (hcg _ _)))
        go_wp2_with fail
        go_roundw
        case rel => exact ⟨h + 1, j, by go_num, rfl, HB2.out, HGR.out _ _⟩
        case measure => simp [intOf]; omega
      | false =>
        have hB2 := hB.right HM.out hij1 hij2 (by rw [← hx, ← hy]; unfold ltOf; rw [← hcv]; exact hdec)
        have hlv : ¬ cv < 0 := of_decide_eq_false hdec
        have HB := Lib.hid hB; have HB2 := Lib.hid hB2; have Hx := Lib.hid hx; have Hy := Lib.hid hy; have Hx0 := Lib.hid hx0; have Hy0 := Lib.hid hy0; have Hx1 := Lib.hid hx1; have Hy1 := Lib.hid hy1; have HGR := Lib.hid hGR; have Hcv := Lib.hid hcv; have Hh := Lib.hid hh; have Hdec := Lib.hid hdec; clear hB hB2 hx hy hx0 hy0 hx1 hy1 hGR hcv hh hdec
        go_wp2_with fail
        go_quiet_grown (first | (go_at_fn g; refine Calls.grown_of (hcg _ _)))
        go_wp2_with fail
        go_roundw
        case rel => exact ⟨i, h, rfl, rfl, HB2.out, HGR.out _ _⟩
        case measure => simp [intOf]; omega
    · obtain rfl : i = j := by omega
      have hE := Hend.out i hB
      have him : m ≤ i := l1
      have hib : i ≤ b := l3
      clear l1 l2 l3
      have HB := Lib.hid hB; have HS := Lib.hid S; have HE := Lib.hid hE; clear hB S hE
      have w1 : IntKind.i64.wrap ((i : Int) - 1) = (i : Int) - 1 := IntWalk.i64_in _ (by omega)
      go_wp2_with fail
      clear w1
      go_loopw [13] (fun x wr => ∃ kk : Nat, x = .int .i64 kk ∧ a ≤ kk ∧ kk ≤ i - 1 ∧ SWK (enc f0 f1) 2 w0 blk off (upN dk a (kk - a)) wr) (fun x _ => i - (intOf x).toNat)
      case atStart => exact ⟨a, rfl, Nat.le_refl _, by omega, by rw [Nat.sub_self]; exact HS.out⟩
      case round =>
        obtain ⟨kk, rfl, k1, k2, S⟩ := hrel
        by_cases hlt : kk < i - 1
        · obtain ⟨ek, hek⟩ : ∃ e, e = upN dk a (kk - a) := ⟨_, rfl⟩
          rw [← hek] at S
          have hnx : upN dk a (kk + 1 - a) = swp ek kk (kk + 1) := by
            rw [show kk + 1 - a = (kk - a) + 1 by omega, upN, ← hek, show a + (kk - a) = kk by omega]
          have R := HR.out
          have hl : ek.size = d0.size := by rw [hek, size_upN, Hs.out, HN.out]
          have hN' := HN.out
          have hEX := exch S R (kk) (kk + 1) (by omega) (by omega)
          obtain ⟨p0, pf0, p1, pf1⟩ := cells S R hl (kk) (by omega)
          obtain ⟨q0, qf0, q1, qf1⟩ := cells S R hl (kk + 1) (by omega)
          obtain ⟨x, hx⟩ : ∃ x, x = ek[kk]! := ⟨_, rfl⟩
          obtain ⟨y, hy⟩ : ∃ y, y = ek[kk + 1]! := ⟨_, rfl⟩
          rw [← hx] at p0 p1 hEX
          rw [← hy] at q0 q1 hEX
          obtain ⟨x0, hx0⟩ : ∃ v, v = f0 x := ⟨_, rfl⟩
          obtain ⟨y0, hy0⟩ : ∃ v, v = f0 y := ⟨_, rfl⟩
          rw [← hx0] at p0 hEX
          rw [← hy0] at q0 hEX
          obtain ⟨x1, hx1⟩ : ∃ v, v = f1 x := ⟨_, rfl⟩
          obtain ⟨y1, hy1⟩ : ∃ v, v = f1 y := ⟨_, rfl⟩
          rw [← hx1] at p1 hEX
          rw [← hy1] at q1 hEX
          have na00 : ¬ off + (kk) * 2 = off + (kk + 1) * 2 := by omega
          have nb00 : ¬ off + (kk + 1) * 2 = off + (kk) * 2 := by omega
          have na01 : ¬ off + (kk) * 2 = off + (kk + 1) * 2 + 1 := by omega
          have nb01 : ¬ off + (kk + 1) * 2 = off + (kk) * 2 + 1 := by omega
          have na10 : ¬ off + (kk) * 2 + 1 = off + (kk + 1) * 2 := by omega
          have nb10 : ¬ off + (kk + 1) * 2 + 1 = off + (kk) * 2 := by omega
          have na11 : ¬ off + (kk) * 2 + 1 = off + (kk + 1) * 2 + 1 := by omega
          have nb11 : ¬ off + (kk + 1) * 2 + 1 = off + (kk) * 2 + 1 := by omega
          have w1 : IntKind.i64.wrap ((kk : Int) + 1) = (kk : Int) + 1 := IntWalk.i64_in _ (by omega)
          have w2 : IntKind.i64.wrap ((i : Int) - 1) = (i : Int) - 1 := IntWalk.i64_in _ (by omega)
          have n2 : ((kk : Int) + 1).toNat = kk + 1 := by omega
          have u2 : (0 : Int) ≤ (kk : Int) + 1 := by omega
          have v1 : (kk : Int) < (N : Int) := by omega
          have v2 : (kk : Int) + 1 < (N : Int) := by omega
          have v3 : (kk : Int) < (i : Int) - 1 := by omega
          rw [← hnx] at hEX
          clear S R hN'
          have Hek := Lib.hid hek; have Hnx := Lib.hid hnx; have Hl := Lib.hid hl; have Hx := Lib.hid hx; have Hy := Lib.hid hy; have Hx0 := Lib.hid hx0; have Hy0 := Lib.hid hy0; have Hx1 := Lib.hid hx1; have Hy1 := Lib.hid hy1; have HEX := Lib.hid hEX; clear hek hnx hl hx hy hx0 hy0 hx1 hy1 hEX
          go_wp2_with fail
          go_region
          all_goals
            go_wp2_with fail
            go_roundw
            case rel => exact ⟨kk + 1, by go_num, by omega, by omega, HEX.out⟩
            case measure => simp [intOf]; omega
        · obtain rfl : kk = i - 1 := by omega
          have v3 : ¬ ((i - 1 : Nat) : Int) < (i : Int) - 1 := by omega
          have w2 : IntKind.i64.wrap ((i : Int) - 1) = (i : Int) - 1 := IntWalk.i64_in _ (by omega)
          have HS := Lib.hid S; clear S
          go_wp2_with fail
          go_end0
          exact ⟨rfl, _, HS.out, HE.out⟩
end StbSet
end Go.Proofs.Ytnelgellbabkoaa

/- The walks of slices.SortStableFunc at api.Setting: symMergeCmpFunc where the second run has one element. Printed by gen_stb.py. -/
namespace Go.Proofs.Ytnelgellbabkoaa
open Go.Shelf Go.RowKit Go.Lib Go.Sort SortM StbA StbB
namespace StbSet
variable {α : Type} [Inhabited α] {f0 : α → ByteArray} {f1 : α → ByteArray} {w0 : World} {blk off : Nat} {d0 : Array α}
variable {cf : α → α → Int} {g : Nat} {cb : Array Value}
set_option maxRecDepth 10000 in
set_option maxHeartbeats 4000000 in
theorem merge_right {dk : Array α} {w : World} (R : RowK (enc f0 f1) 2 w0 blk off d0) (S : SWK (enc f0 f1) 2 w0 blk off dk w) (C : CmpLays Try.prog g cb (enc f0 f1) 2 cf blk off d0.size w0) (eg : ∀ args w, (callFunc g args).run Try.prog w = .ok (.enter g args) w) (hO : Swo (ltOf cf))
    {p u q : List α} {x : α} (hd : dk.toList = p ++ u ++ x :: q) (hs : dk.size = d0.size) (hu : Sorted (ltOf cf) u) {a m b : Nat} (ha : a = p.length) (hm : m = a + u.length) (hb : b = m + 1) (h2 : 2 ≤ u.length) (cap : Nat) (hn : d0.size ≤ 1000000) :
    Calls Try.prog 145 #[.slice (some ⟨blk, off, none⟩) d0.size cap, .int .i64 a, .int .i64 m, .int .i64 b, .func (.func g) #[] cb] w (Now (enc f0 f1) 2 w0 blk off (p ++ ssort (ltOf cf) (u ++ [x]) ++ q)) := by
  have hbn : b ≤ d0.size := by rw [← hs, ← Array.length_toList, hd]; simp; omega
  have hix : SortedIx (ltOf cf) a m dk := sortedIx_of hO (p := p) (u := u) (q := x :: q) hd hu ha (by omega)
  have hM := mono_right hO hix
  have hend := fun i (hB : BS (fun c => !ltOf cf dk[m]! dk[c]!) a m i i) => one_right hO hd hu ha hm hB
  have hmb : a ≤ m := by omega
  have hB0 := BS.start (fun c => !ltOf cf dk[m]! dk[c]!) hmb
  have hk1 : IntKind.i64.wrap ((m : Int) - (a : Int)) = (m : Int) - (a : Int) := IntWalk.i64_in _ (by omega)
  have hk2 : ((m : Int) - (a : Int) == 1) = false := by rw [beq_eq_false_iff_ne]; omega
  have hk3 : IntKind.i64.wrap ((b : Int) - (m : Int)) = 1 := by rw [IntWalk.i64_in _ (by omega)]; omega
  have hk4 : ((1 : Int) == 1) = true := by simp
  obtain ⟨tgt, htg⟩ : ∃ l, l = p ++ ssort (ltOf cf) (u ++ [x]) ++ q := ⟨_, rfl⟩
  rw [← htg] at hend ⊢
  obtain ⟨N, hN⟩ : ∃ N, N = d0.size := ⟨_, rfl⟩
  rw [← hN] at hn hs hbn ⊢
  have hmn : m < N := by omega
  clear hix hd hu ha hm hb h2
  have HS := Lib.hid S; have HM := Lib.hid hM; have HB0 := Lib.hid hB0; have Hend := Lib.hid hend; have Htg := Lib.hid htg; have Hs := Lib.hid hs; have HN := Lib.hid hN; have Hmb := Lib.hid hmb; have HC := Lib.hid C; have HR := Lib.hid R; have HO := Lib.hid hO; clear S hM hB0 hend htg hs hN hmb C R hO
  go_enter Try.func145, Try.ntmps145
  go_wp2_with fail
  clear hk1 hk2 hk3
  go_loopw [14, 15] (fun x y wr => ∃ (i j : Nat), x = .int .i64 i ∧ y = .int .i64 j ∧ BS (fun c => !ltOf cf dk[m]! dk[c]!) a m i j ∧ SWK (enc f0 f1) 2 w0 blk off dk wr) (fun x y _ => (intOf y).toNat - (intOf x).toNat)
  case atStart => exact ⟨a, m, rfl, rfl, HB0.out, HS.out⟩
  case round =>
    obtain ⟨i, j, rfl, rfl, hB, S⟩ := hrel
    have l1 := hB.l1
    have l2 := hB.l2
    have l3 := hB.l3
    by_cases hlt : i < j
    · have R := HR.out
      have C := HC.out
      have hs := Hs.out
      rw [HN.out] at hs
      have hN' := HN.out
      obtain ⟨h, hh⟩ : ∃ h, h = (i + j) / 2 := ⟨_, rfl⟩
      have w1 : IntKind.i64.wrap ((i : Int) + (j : Int)) = (i : Int) + (j : Int) := IntWalk.i64_in _ (by omega)
      have w2 : ((i : Int) + (j : Int)) / 2 = (h : Int) := by omega
      have hGR := fun n os => SWK.grown S n os
      have hp := fun n os => cells (SWK.grown S n os) R hs (m) (by omega)
      obtain ⟨x, hx⟩ : ∃ v, v = dk[m]! := ⟨_, rfl⟩
      have hq := fun n os => cells (SWK.grown S n os) R hs (h) (by omega)
      obtain ⟨y, hy⟩ : ∃ v, v = dk[h]! := ⟨_, rfl⟩
      have hc := fun n os => SWK.cmp S C hs x y n os
      rw [← hx] at hp
      rw [← hy] at hq
      obtain ⟨x0, hx0⟩ : ∃ v, v = f0 x := ⟨_, rfl⟩
      obtain ⟨x1, hx1⟩ : ∃ v, v = f1 x := ⟨_, rfl⟩
      obtain ⟨y0, hy0⟩ : ∃ v, v = f0 y := ⟨_, rfl⟩
      obtain ⟨y1, hy1⟩ : ∃ v, v = f1 y := ⟨_, rfl⟩
      rw [← hx0, ← hx1] at hp
      rw [← hy0, ← hy1] at hq
      have p0 := fun n os => (hp n os).1
      have p1 := fun n os => (hp n os).2.2.1
      have q0 := fun n os => (hq n os).1
      have q1 := fun n os => (hq n os).2.2.1
      clear hp hq
      have hcg : ∀ n os, Calls Try.prog g (#[.agg #[.string (x0), .string (x1)], .agg #[.string (y0), .string (y1)]] ++ cb) (grow (wr.drewN n) os) fun e w' => e = .returned (.int .i64 (cf x y)) ∧ ∃ q os', w' = grow ((grow (wr.drewN n) os).drewN q) os' := by rw [hx0, hy0, hx1, hy1]; exact hc
      clear hc
      obtain ⟨cv, hcv⟩ : ∃ v, v = cf x y := ⟨_, rfl⟩
      rw [← hcv] at hcg
      have hl : (h : Int) < (N : Int) := by omega
      have al : (m : Int) < (N : Int) := by omega
      have hij1 : i ≤ h := by omega
      have hij2 : h < j := by omega
      clear S hs R C hN'
      cases hdec : decide (cv < 0) with
      | true =>
        have hB2 := hB.right HM.out hij1 hij2 (by show (!ltOf cf dk[m]! dk[h]!) = false; rw [← hx, ← hy]; unfold ltOf; rw [← hcv, hdec]; rfl)
        have hlv : cv < 0 := of_decide_eq_true hdec
        have hlv2 : ¬ 0 ≤ cv := by omega
        have HB := Lib.hid hB; have HB2 := Lib.hid hB2; have Hx := Lib.hid hx; have Hy := Lib.hid hy; have Hx0 := Lib.hid hx0; have Hy0 := Lib.hid hy0; have Hx1 := Lib.hid hx1; have Hy1 := Lib.hid hy1; have HGR := Lib.hid hGR; have Hcv := Lib.hid hcv; have Hh := Lib.hid hh; have Hdec := Lib.hid hdec; clear hB hB2 hx hy hx0 hy0 hx1 hy1 hGR hcv hh hdec
        go_wp2_with fail
        go_quiet_grown (first | (go_at_fn g; refine Calls.grown_of (hcg _ _)))
        go_wp2_with fail
        go_roundw
        case rel => exact ⟨i, h, rfl, rfl, HB2.out, HGR.out _ _⟩
        case measure => simp [intOf]; omega
      | false =>
        have hB2 := hB.left HM.out hij1 hij2 (by show (!ltOf cf dk[m]! dk[h]!) = true; rw [← hx, ← hy]; unfold ltOf; rw [← hcv, hdec]; rfl)
        have hlv : ¬ cv < 0 := of_decide_eq_false hdec
        have hlv2 : 0 ≤ cv := by omega
        have hdn : (!decide (cv < 0)) = true := by rw [hdec]; rfl
        have HB := Lib.hid hB; have HB2 := Lib.hid hB2; have Hx := Lib.hid hx; have Hy := Lib.hid hy; have Hx0 := Lib.hid hx0; have Hy0 := Lib.hid hy0; have Hx1 := Lib.hid hx1; have Hy1 := Lib.hid hy1; have HGR := Lib.hid hGR; have Hcv := Lib.hid hcv; have Hh := Lib.hid hh; have Hdec := Lib.hid hdec; clear hB hB2 hx hy hx0 hy0 hx1 hy1 hGR hcv hh hdec
        go_wp2_with fail
        go_quiet_grown (first | (go_at_fn g; refine Calls.grown_of (hcg _ _)))
        go_wp2_with fail
        go_roundw
        case rel => exact ⟨h + 1, j, by go_num, rfl, HB2.out, HGR.out _ _⟩
        case measure => simp [intOf]; omega
    · obtain rfl : i = j := by omega
      have hE := Hend.out i hB
      have him : a ≤ i := l1
      have hib : i ≤ m := l3
      clear l1 l2 l3
      have HB := Lib.hid hB; have HS := Lib.hid S; have HE := Lib.hid hE; clear hB S hE
      go_wp2_with fail
      go_loopw [17] (fun x wr => ∃ kk : Nat, x = .int .i64 kk ∧ i ≤ kk ∧ kk ≤ m ∧ SWK (enc f0 f1) 2 w0 blk off (dnN dk m (m - kk)) wr) (fun x _ => (intOf x).toNat)
      case atStart => exact ⟨m, rfl, hib, Nat.le_refl _, by rw [Nat.sub_self]; exact HS.out⟩
      case round =>
        obtain ⟨kk, rfl, k1, k2, S⟩ := hrel
        by_cases hlt : i < kk
        · obtain ⟨jp, rfl⟩ : ∃ jp, kk = jp + 1 := ⟨kk - 1, by omega⟩
          obtain ⟨ek, hek⟩ : ∃ e, e = dnN dk m (m - (jp + 1)) := ⟨_, rfl⟩
          rw [← hek] at S
          have hnx : dnN dk m (m - jp) = swp ek (jp + 1) jp := by
            rw [show m - jp = (m - (jp + 1)) + 1 by omega, dnN, ← hek, show m - (m - (jp + 1)) = jp + 1 by omega, Nat.add_sub_cancel]
          have R := HR.out
          have hl : ek.size = d0.size := by rw [hek, size_dnN, Hs.out, HN.out]
          have hN' := HN.out
          have hEX := exch S R (jp + 1) (jp) (by omega) (by omega)
          obtain ⟨p0, pf0, p1, pf1⟩ := cells S R hl (jp + 1) (by omega)
          obtain ⟨q0, qf0, q1, qf1⟩ := cells S R hl (jp) (by omega)
          obtain ⟨x, hx⟩ : ∃ x, x = ek[jp + 1]! := ⟨_, rfl⟩
          obtain ⟨y, hy⟩ : ∃ y, y = ek[jp]! := ⟨_, rfl⟩
          rw [← hx] at p0 p1 hEX
          rw [← hy] at q0 q1 hEX
          obtain ⟨x0, hx0⟩ : ∃ v, v = f0 x := ⟨_, rfl⟩
          obtain ⟨y0, hy0⟩ : ∃ v, v = f0 y := ⟨_, rfl⟩
          rw [← hx0] at p0 hEX
          rw [← hy0] at q0 hEX
          obtain ⟨x1, hx1⟩ : ∃ v, v = f1 x := ⟨_, rfl⟩
          obtain ⟨y1, hy1⟩ : ∃ v, v = f1 y := ⟨_, rfl⟩
          rw [← hx1] at p1 hEX
          rw [← hy1] at q1 hEX
          have na00 : ¬ off + (jp + 1) * 2 = off + (jp) * 2 := by omega
          have nb00 : ¬ off + (jp) * 2 = off + (jp + 1) * 2 := by omega
          have na01 : ¬ off + (jp + 1) * 2 = off + (jp) * 2 + 1 := by omega
          have nb01 : ¬ off + (jp) * 2 = off + (jp + 1) * 2 + 1 := by omega
          have na10 : ¬ off + (jp + 1) * 2 + 1 = off + (jp) * 2 := by omega
          have nb10 : ¬ off + (jp) * 2 + 1 = off + (jp + 1) * 2 := by omega
          have na11 : ¬ off + (jp + 1) * 2 + 1 = off + (jp) * 2 + 1 := by omega
          have nb11 : ¬ off + (jp) * 2 + 1 = off + (jp + 1) * 2 + 1 := by omega
          have w1 : IntKind.i64.wrap (jp : Int) = (jp : Int) := IntWalk.i64_in _ (by omega)
          have n2 : ((jp : Int) + 1).toNat = jp + 1 := by omega
          have u2 : (0 : Int) ≤ (jp : Int) + 1 := by omega
          have v1 : (jp : Int) < (N : Int) := by omega
          have v2 : (jp : Int) + 1 < (N : Int) := by omega
          have v3 : (i : Int) < (jp : Int) + 1 := by omega
          rw [← hnx] at hEX
          clear S R hN'
          have Hek := Lib.hid hek; have Hnx := Lib.hid hnx; have Hl := Lib.hid hl; have Hx := Lib.hid hx; have Hy := Lib.hid hy; have Hx0 := Lib.hid hx0; have Hy0 := Lib.hid hy0; have Hx1 := Lib.hid hx1; have Hy1 := Lib.hid hy1; have HEX := Lib.hid hEX; clear hek hnx hl hx hy hx0 hy0 hx1 hy1 hEX
          go_wp2_with fail
          go_region
          all_goals
            go_wp2_with fail
            go_roundw
            case rel => exact ⟨jp, rfl, by omega, by omega, HEX.out⟩
            case measure => simp [intOf] <;> omega
        · obtain rfl : i = kk := by omega
          have v3 : ¬ (i : Int) < (i : Int) := by omega
          have HS := Lib.hid S; clear S
          go_wp2_with fail
          go_end0
          exact ⟨rfl, _, HS.out, HE.out⟩
end StbSet
end Go.Proofs.Ytnelgellbabkoaa
