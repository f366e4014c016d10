/- Walks and plain facts. Texts merged: Kit, Mem, Txt, Door, DoorRow, Open, Open2, SpnO, VerN, VerO, VerC, VerP, VerQ, VerT. Condition: none beyond what each says. -/
import Derived.WalkKit
import Derived.WalkSpells
import Derived.WalkLawsBesides
import Derived.Lib.Hide
import Derived.BigQuiet
import Derived.Deep.QuietTactic
import Derived.StillTailTactics
import Derived.Deep.RegionLawGrows
import Derived.Laws.StructEq
import Derived.Lib.Strings
import Derived.Test.YteailgjiifdgcaaGreatDoorShelf
import Derived.WalkSmall
import Derived.Sort.Grow
import Derived.Test.YteailgjiifdgcaaGreatDoorCards
import Derived.Test.YteailgjiifdgcaaGreatDoorTie
import Derived.ProofKit
import Derived.OpenShut
import Derived.LaidMore
import Derived.Lay
import Derived.SevenTiedAt
import Derived.Stop.Joined
import Derived.Stop.LaidErr
import Derived.Deep.DeepHandedRow
import Derived.Lib.LaidTab
import Derived.Deep.Slices
import Derived.SizedLaws
import Derived.Test.YteailgjiifdgcaaGreatDoorProg
import Derived.Lib.AtoiAll
import Derived.Lib.AtoiAllCases
import Derived.Lib.ItoaNum
import Derived.Lib.SplitLaws
import Derived.Lib.IndexBytes
import Derived.Lib.Split
set_option linter.unusedVariables false
set_option linter.unusedSimpArgs false
/- Small laws for walks: rows that a call owns, and slices that are read. No condition. -/
namespace Go.Proofs.YteailgjiifdgcaaGreatDoor
open Go.RowKit

theorem ret_int {k : IntKind} {a b : Int} (h : a = b) : Ending.returned (.int k a) = .returned (.int k b) := by rw [h]
theorem ret_bool {a b : Bool} (h : a = b) : Ending.returned (.bool a) = .returned (.bool b) := by rw [h]
theorem ret_val {a b : Value} (h : a = b) : Ending.returned a = .returned b := by rw [h]

theorem wrap64_nat (m : Nat) (h : m ≤ 9223372036854775807) : wrap64 (m : Int) = m := IntWalk.wrap64_in _ (by omega)

theorem quiet_same {P : Program} {f : FuncId} {args : Array Value} {w : World} {n : Nat} {v : Value}
    (h : Calls P f args (w.drewN n) fun e w' => e = .returned v ∧ w.drewN n = w') : Calls P f args (w.drewN n) fun e w'' => e = .returned v ∧ ∃ m, w'' = w.drewN m :=
  h.mono fun _ _ ⟨he, hm⟩ => ⟨he, n, hm.symm⟩

theorem bel_drewN {B : Nat} {a w : World} (h : Below B a w) (n : Nat) : Below B a (w.drewN n) := ⟨h.os, h.tape, h.output, h.size, h.block⟩

/-- an element type and its slice type in a program's table -/
structure Elem (P : Program) (t e : TypeId) (z : Value) (size bytes : Nat) : Prop where
  slice : P.underlying t = some (.slice e)
  info : (P.info? e).map (fun i => (i.zero, i.size, i.bytes)) = some (some z, size, bytes)
  zero : z.cells.size = size
  pos : 0 < size

theorem grownBy_trans {w w1 w2 : World} {row : Option Nat} (h : w.grownBy w1 none) (k : w1.grownBy w2 row) : w.grownBy w2 row :=
  ⟨k.os.trans h.os, k.tape.trans h.tape, k.output.trans h.output, Nat.le_trans h.size k.size,
    fun b hb hr => (k.block b (Nat.lt_of_lt_of_le hb h.size) hr).trans (h.block b hb (by simp))⟩

theorem grownBy_of_below {w w' : World} (h : Below w.heap.size w w') : w.grownBy w' none :=
  ⟨h.os, h.tape, h.output, h.size, fun k hk _ => h.block k hk⟩

theorem grownBy_below {w w' : World} (h : w.grownBy w' none) : Below w.heap.size w w' := ⟨h.os, h.tape, h.output, h.size, fun k hk => h.block k hk (by simp)⟩

/-- append to an owned row: and the row lies where it lay, or in a new block -/
theorem run_append_where {P : Program} (w : World) (base : Nat) (t ty e : TypeId) (i : TypeInfo) (z : Value) (size bytes : Nat) (ht : P.underlying t = some (.slice e)) (hi : P.info? e = some i) (hz : i.zero = some z)
    (hsize : i.size = size) (hby : i.bytes = bytes) (hzs : z.cells.size = size) (hsz : 0 < size)
    (v : Value) (n : Nat) (xs : List Value) (hown : w.ownsRow base e size v n xs)
    (a : Addr) (m c : Nat) (news : List Value) (hl : news.length = m * size) (hnews : ∀ j u, news[j]? = some u → w.cell? (a.add j) = some u) (h1 : ∀ u ∈ news, u.oneCell' = true)
    (h63 : n + m ≤ maxLen) (hbytes : (n + m) * bytes ≤ 140737488355328) (hbase : base ≤ w.heap.size) :
    ∃ v' w', (Builtin.append_ #[t, t] ty #[v, .slice (some a) m c]).run P w = .ok v' w' ∧ w'.ownsRow base e size v' (n + m) (xs ++ news) ∧ w.grownBy w' v.ownBlock ∧ (v'.ownBlock = v.ownBlock ∨ v'.ownBlock = some w.heap.size) := by
  obtain ⟨v', w', hr, h2, h3, h4⟩ := run_append_own (P := P) w base t ty e i z size bytes ht hi hz hsize hby hzs hsz v n xs hown a m c news hl hnews h1 h63 hbytes hbase
  refine ⟨v', w', hr, h2, h3, ?_⟩
  subst hsize; subst hby
  have h63' : n + m ≤ 9223372036854775807 := by simp only [maxLen] at h63; omega
  rcases hown.2 with ⟨rfl, rfl⟩ | ⟨g, cap, cur, rfl, hbg, hg, hnc, hcm, hcs, htake⟩
  · by_cases hm : m = 0
    · left
      have := h4.2 ⟨rfl, hm⟩
      rw [this]
    · right
      have hr2 := run_append_nil (P := P) w t ty e i z ht hi hz a m c news hl hnews (by omega) (by omega) (by have hb := hbytes; simp only [Nat.zero_add] at hb; omega)
      rw [hr] at hr2
      simp only [Result.ok.injEq] at hr2
      rw [hr2.1]; rfl
  · by_cases hroom : n + m ≤ cap
    · left
      have hfit : n * i.size + news.length ≤ cur.size := by rw [hl, hcs, ← Nat.add_mul]; exact Nat.mul_le_mul_right _ hroom
      have hr2 := run_append_room (P := P) w t ty e i ht hi g n cap cur hg a m c news hl hnews h1 hroom hfit
      rw [hr] at hr2
      simp only [Result.ok.injEq] at hr2
      rw [hr2.1]; rfl
    · right
      have holds : ∀ j u, xs[j]? = some u → w.cell? ((⟨g, 0, none⟩ : Addr).add j) = some u := hown.cells (g := g) rfl
      have hr2 := run_append_grow (P := P) w t ty e i z ht hi hz ⟨g, 0, none⟩ n cap xs hown.1 holds a m c news hl hnews (by omega) (by omega) (growslice_fits (by omega) hbytes)
      rw [hr] at hr2
      simp only [Result.ok.injEq] at hr2
      rw [hr2.1]; rfl

/-- where a row lies behind an append: where it lay, or in a new block -/
def Moved (w : World) (v v' : Value) : Prop := ∀ k, v'.ownBlock = some k → v.ownBlock = some k ∨ w.heap.size ≤ k

theorem wp_append_lit {P : Program} {t e : TypeId} {z : Value} {size bytes : Nat} (E : Elem P t e z size bytes) {w : World} {o : Oper} {a : Act} {K : Act → World → Prop} {Q : Exit → Act → World → Prop}
    (s x : Operand) (ho : o.op = .call { callee := .builtin .append, args := #[s, x], argTypes := #[t, t] })
    (base : Nat) (v : Value) (n : Nat) (xs : List Value) (hs : a.eval s = v) (hown : w.ownsRow base e size v n xs)
    (m : Nat) (news : Array Value) (hx : a.eval x = .slice (some ⟨w.heap.size, 0, none⟩) m m) (hl : news.size = m * size) (h1 : ∀ u ∈ news.toList, u.oneCell' = true)
    (hb : (n + m) * bytes ≤ 140737488355328) (hb1 : n + m ≤ maxLen) (hbase : base ≤ w.heap.size)
    (h : ∀ v' w', w'.ownsRow base e size v' (n + m) (xs ++ news.toList) → w.grownBy w' v.ownBlock → Moved w v v' → K (a.put o.dst v') w') :
    o.wp P a (w.alloc (.cells news e)) K Q := by
  obtain ⟨i, hi, hz, hsz, hby⟩ := info_parts E.info
  obtain ⟨v', w', hr, h2, h3, h4⟩ := run_append_where (P := P) (w.alloc (.cells news e)) base t o.type e i z size bytes E.slice hi hz hsz hby E.zero E.pos v n xs (hown.alloc _) ⟨w.heap.size, 0, none⟩ m m news.toList (by simpa using hl) (by
    intro j u hu
    rw [Addr.add_lit, Nat.zero_add, World.cell?_alloc_new]
    simpa using hu) h1 hb1 hb (by simp; omega)
  unfold Oper.wp execOp
  simp only [ho, resolve, invoke, builtin, Sem.run_bind, Sem.run_pure, Result.andThen_ok, List.map_toArray, List.map_cons, List.map_nil, hs, hx, hr]
  refine h v' w' h2 (grownBy_trans (World.grownBy_alloc w _ none) h3) ?_
  intro k hk
  rcases h4 with h4 | h4
  · exact .inl (by rw [← h4]; exact hk)
  · right
    rw [h4] at hk
    simp at hk
    omega

/-- append of literal elements to an owned row -/
theorem wpList_append_lit {P : Program} {t e : TypeId} {z : Value} {size bytes : Nat} (E : Elem P t e z size bytes) {w : World} {ops : Array Oper} {rest : List Oper} {o : Oper} {a : Act} {Q : Exit → Act → World → Prop}
    (hgd : o.guard = none) (s x : Operand) (ho : o.op = .call { callee := .builtin .append, args := #[s, x], argTypes := #[t, t] })
    (base : Nat) (v : Value) (n : Nat) (xs : List Value) (hs : a.eval s = v) (hown : w.ownsRow base e size v n xs)
    (m : Nat) (news : Array Value) (hx : a.eval x = .slice (some ⟨w.heap.size, 0, none⟩) m m) (hl : news.size = m * size) (h1 : ∀ u ∈ news.toList, u.oneCell' = true)
    (hb : (n + m) * bytes ≤ 140737488355328) (hb1 : n + m ≤ maxLen) (hbase : base ≤ w.heap.size)
    (h : ∀ v' w', w'.ownsRow base e size v' (n + m) (xs ++ news.toList) → w.grownBy w' v.ownBlock → Moved w v v' → wpList P ops Q rest (a.put o.dst v') w') :
    wpList P ops Q (o :: rest) a (w.alloc (.cells news e)) :=
  wpList_plain hgd fun _ hK => wp_append_lit E s x ho base v n xs hs hown m news hx hl h1 hb hb1 hbase fun v' w' h2 h3 h4 => hK _ _ (h v' w' h2 h3 h4)

theorem bel_own {B base : Nat} {w0 w w' : World} {e : TypeId} {size : Nat} {v : Value} {n : Nat} {xs : List Value} (h : Below B w0 w) (hown : w.ownsRow base e size v n xs) (hB : B ≤ base) (hg : w.grownBy w' v.ownBlock) (hb : B ≤ w.heap.size) : Below B w0 w' :=
  h.grown hg hb fun k hk => Nat.le_trans hB (hown.lt k hk).1

theorem ownsRow_below {base : Nat} {w w' : World} {e : TypeId} {size : Nat} {v : Value} {n : Nat} {xs : List Value} (hown : w.ownsRow base e size v n xs) (hb : Below w.heap.size w w') : w'.ownsRow base e size v n xs :=
  hown.kept (grownBy_of_below hb) (by cases hv : v.ownBlock <;> simp)

theorem ownsRow_mono {B base : Nat} {w : World} {e : TypeId} {size : Nat} {v : Value} {n : Nat} {xs : List Value} (hown : w.ownsRow base e size v n xs) (hb : B ≤ base) : w.ownsRow B e size v n xs := by
  refine ⟨hown.1, ?_⟩
  rcases hown.2 with h | ⟨g, cap, cur, hv, hg, r⟩
  · exact .inl h
  · exact .inr ⟨g, cap, cur, hv, by omega, r⟩

theorem ownsRow_some {base : Nat} {w : World} {e : TypeId} {size : Nat} {v : Value} {n : Nat} {xs : List Value} (h : w.ownsRow base e size v n xs) (hn : 0 < n) :
    ∃ g cap, v = .slice (some ⟨g, 0, none⟩) n cap ∧ base ≤ g ∧ g < w.heap.size ∧ n ≤ cap ∧ cap ≤ maxLen ∧ ∀ j u, xs[j]? = some u → w.cell? ⟨g, j, none⟩ = some u := by
  rcases h.2 with ⟨_, rfl⟩ | ⟨g, cap, cur, rfl, hg, hh, hn', hm, hs, ht⟩
  · omega
  · refine ⟨g, cap, rfl, hg, (Array.getElem?_eq_some_iff.1 hh).1, hn', hm, fun j u hu => ?_⟩
    have := h.cells (g := g) rfl j u hu
    rwa [Addr.add_lit, Nat.zero_add] at this

/-- append of literal elements, at least one, to an owned row: the value is written out -/
theorem wpList_append_some {P : Program} {t e : TypeId} {z : Value} {size bytes : Nat} (E : Elem P t e z size bytes) {w : World} {ops : Array Oper} {rest : List Oper} {o : Oper} {a : Act} {Q : Exit → Act → World → Prop}
    (hgd : o.guard = none) (s x : Operand) (ho : o.op = .call { callee := .builtin .append, args := #[s, x], argTypes := #[t, t] })
    (base : Nat) (v : Value) (n : Nat) (xs : List Value) (hs : a.eval s = v) (hown : w.ownsRow base e size v n xs)
    (m : Nat) (hm : 0 < m) (news : Array Value) (hx : a.eval x = .slice (some ⟨w.heap.size, 0, none⟩) m m) (hl : news.size = m * size) (h1 : ∀ u ∈ news.toList, u.oneCell' = true)
    (hb : (n + m) * bytes ≤ 140737488355328) (hb1 : n + m ≤ maxLen) (hbase : base ≤ w.heap.size)
    (h : ∀ g cap w', w'.ownsRow base e size (.slice (some ⟨g, 0, none⟩) (n + m) cap) (n + m) (xs ++ news.toList) → w.grownBy w' v.ownBlock → Moved w v (.slice (some ⟨g, 0, none⟩) (n + m) cap) → wpList P ops Q rest (a.put o.dst (.slice (some ⟨g, 0, none⟩) (n + m) cap)) w') :
    wpList P ops Q (o :: rest) a (w.alloc (.cells news e)) := by
  refine wpList_append_lit E hgd s x ho base v n xs hs hown m news hx hl h1 hb hb1 hbase ?_
  intro v' w' h2 h3 h4
  obtain ⟨g, cap, rfl, _⟩ := ownsRow_some h2 (by omega)
  exact h g cap w' h2 h3 h4

/-- the same as one step of a region that draws its order -/
theorem step_append_some {P : Program} {t e : TypeId} {z : Value} {size bytes : Nat} (E : Elem P t e z size bytes) {w : World} {ops : Array Oper} {o : Oper} {a : Act} {K : Act → World → Prop} {Q : Exit → Act → World → Prop} {X : Prop}
    (hgd : o.guard = none) (s x : Operand) (ho : o.op = .call { callee := .builtin .append, args := #[s, x], argTypes := #[t, t] })
    (base : Nat) (v : Value) (n : Nat) (xs : List Value) (hs : a.eval s = v) (hown : w.ownsRow base e size v n xs)
    (m : Nat) (hm : 0 < m) (news : Array Value) (hx : a.eval x = .slice (some ⟨w.heap.size, 0, none⟩) m m) (hl : news.size = m * size) (h1 : ∀ u ∈ news.toList, u.oneCell' = true)
    (hb : (n + m) * bytes ≤ 140737488355328) (hb1 : n + m ≤ maxLen) (hbase : base ≤ w.heap.size)
    (h : ∀ g cap w', w'.ownsRow base e size (.slice (some ⟨g, 0, none⟩) (n + m) cap) (n + m) (xs ++ news.toList) → w.grownBy w' v.ownBlock → Moved w v (.slice (some ⟨g, 0, none⟩) (n + m) cap) → K (a.put o.dst (.slice (some ⟨g, 0, none⟩) (n + m) cap)) w') :
    if Region.wanted o (yielded ops a.tmps) = true then Oper.wp P o a (w.alloc (.cells news e)) K Q else X := by
  have hw : Region.wanted o (yielded ops a.tmps) = true := by simp [Region.wanted, hgd]
  rw [if_pos hw]
  refine wp_append_lit E s x ho base v n xs hs hown m news hx hl h1 hb hb1 hbase ?_
  intro v' w' h2 h3 h4
  obtain ⟨g, cap, rfl, _⟩ := ownsRow_some h2 (by omega)
  exact h g cap w' h2 h3 h4

/-- w' is w with new blocks, and with writes to the blocks of S alone -/
structure Frm (S : Nat → Prop) (w w' : World) : Prop where
  os : w'.os = w.os
  tape : w'.tape = w.tape
  output : w'.output = w.output
  size : w.heap.size ≤ w'.heap.size
  block : ∀ k, k < w.heap.size → ¬ S k → w'.heap[k]? = w.heap[k]?

theorem Frm.refl (S : Nat → Prop) (w : World) : Frm S w w := ⟨rfl, rfl, rfl, Nat.le_refl _, fun _ _ _ => rfl⟩
theorem Frm.trans {S T : Nat → Prop} {a b c : World} (h : Frm S a b) (k : Frm T b c) (hT : ∀ i, i < a.heap.size → T i → S i) : Frm S a c :=
  ⟨k.os.trans h.os, k.tape.trans h.tape, k.output.trans h.output, Nat.le_trans h.size k.size,
    fun i hi hS => (k.block i (Nat.lt_of_lt_of_le hi h.size) (fun ht => hS (hT i hi ht))).trans (h.block i hi hS)⟩
theorem Frm.mono {S T : Nat → Prop} {a b : World} (h : Frm S a b) (hT : ∀ i, i < a.heap.size → S i → T i) : Frm T a b :=
  (Frm.refl T a).trans h hT
theorem Frm.alloc {S : Nat → Prop} {a w : World} (h : Frm S a w) (o : Obj) : Frm S a (w.alloc o) :=
  h.trans (T := S) ⟨rfl, rfl, rfl, by simp, fun k hk _ => Below.heap_alloc _ _ _ hk⟩ (fun _ _ h => h)
theorem Frm.drewN {S : Nat → Prop} {a w : World} (h : Frm S a w) (n : Nat) : Frm S a (w.drewN n) := ⟨h.os, h.tape, h.output, h.size, h.block⟩
theorem Frm.drew {S : Nat → Prop} {a w : World} (h : Frm S a w) : Frm S a w.drew := ⟨h.os, h.tape, h.output, h.size, h.block⟩
theorem Frm.setCell {S : Nat → Prop} {a w : World} (h : Frm S a w) {p : Addr} (hp : a.heap.size ≤ p.block ∨ S p.block) (u : Value) : Frm S a (w.setCell p u) :=
  h.trans (T := fun k => k = p.block) ⟨rfl, rfl, rfl, by simp [World.setCell], fun k _ hk => Below.heap_setCell _ _ _ _ (by omega)⟩ (fun i hi e => by rcases hp with h | h; omega; rw [e]; exact h)
theorem Frm.grown {S : Nat → Prop} {a w w' : World} {row : Option Nat} (h : Frm S a w) (hg : w.grownBy w' row) (hr : ∀ k, row = some k → a.heap.size ≤ k ∨ S k) : Frm S a w' :=
  h.trans (T := fun k => some k = row) ⟨hg.os, hg.tape, hg.output, hg.size, fun k hk hne => hg.block k hk hne⟩ (fun i hi e => by rcases hr i e.symm with h | h; omega; exact h)
theorem Frm.below {S : Nat → Prop} {a w : World} (h : Frm S a w) {B : Nat} (hB : B ≤ a.heap.size) (hS : ∀ k, S k → B ≤ k) : Below B a w :=
  ⟨h.os, h.tape, h.output, h.size, fun k hk => h.block k (by omega) (fun hs => by have := hS k hs; omega)⟩
theorem Frm.of_below {S : Nat → Prop} {a w : World} (h : Below a.heap.size a w) : Frm S a w := ⟨h.os, h.tape, h.output, h.size, fun k hk _ => h.block k hk⟩
theorem Frm.cell {S : Nat → Prop} {w w' : World} (h : Frm S w w') {p : Addr} (hp : p.block < w.heap.size) (hS : ¬ S p.block) : w'.cell? p = w.cell? p := World.cell?_of_block (h.block p.block hp hS)
theorem Frm.keep {w w' : World} (h : Frm (fun _ => False) w w') {p : Addr} {u : Value} (hc : w.cell? p = some u) : w'.cell? p = some u := (h.cell (World.block_lt_of_cell? w p hc) (fun h => h)).trans hc
theorem Frm.owns {S : Nat → Prop} {w w' : World} (h : Frm S w w') {base : Nat} {e : TypeId} {size : Nat} {v : Value} {n : Nat} {xs : List Value} (ho : w.ownsRow base e size v n xs) (hS : ∀ k, v.ownBlock = some k → ¬ S k) : w'.ownsRow base e size v n xs := by
  refine ⟨ho.1, ?_⟩
  rcases ho.2 with hn | ⟨g, cap, cur, rfl, hb, hgg, rest⟩
  · exact .inl hn
  · exact .inr ⟨g, cap, cur, rfl, hb, by rw [h.block g (Array.getElem?_eq_some_iff.1 hgg).1 (hS g rfl)]; exact hgg, rest⟩

/-- what is read of a slice: n elements, and their cells in a row -/
def Sl (w : World) (v : Value) (n : Nat) (cells : List Value) : Prop :=
  ∃ a cap, v = .slice a n cap ∧ n ≤ cap ∧ cap ≤ maxLen ∧ ∀ j u, cells[j]? = some u → ∃ b off, a = some ⟨b, off, none⟩ ∧ w.cell? ⟨b, off + j, none⟩ = some u

theorem Sl.below {w w' : World} {v : Value} {n : Nat} {cells : List Value} (h : Sl w v n cells) (hb : Below w.heap.size w w') : Sl w' v n cells := by
  obtain ⟨a, cap, rfl, h1, h2, h3⟩ := h
  refine ⟨a, cap, rfl, h1, h2, fun j u hu => ?_⟩
  obtain ⟨b, off, rfl, hc⟩ := h3 j u hu
  exact ⟨b, off, rfl, cell_later hb hc⟩

theorem Sl.of_owns {base : Nat} {w : World} {e : TypeId} {size : Nat} {v : Value} {n : Nat} {xs : List Value} (h : w.ownsRow base e size v n xs) : Sl w v n xs := by
  rcases h.2 with ⟨rfl, rfl⟩ | ⟨g, cap, cur, rfl, hg, hh, hn, hm, hs, ht⟩
  · refine ⟨none, 0, rfl, Nat.le_refl _, Nat.zero_le _, fun j u hu => ?_⟩
    have hx : xs = [] := List.eq_nil_of_length_eq_zero (by simpa using h.1)
    subst hx
    simp at hu
  · refine ⟨some ⟨g, 0, none⟩, cap, rfl, hn, hm, fun j u hu => ⟨g, 0, rfl, ?_⟩⟩
    have := h.cells (g := g) rfl j u hu
    rwa [Addr.add_lit] at this

end Go.Proofs.YteailgjiifdgcaaGreatDoor

/- Laws for blocks and rows that a call owns. No condition. -/
namespace Go.Proofs.YteailgjiifdgcaaGreatDoor
open Go.RowKit

theorem own_type {w : World} {B : Nat} {e : TypeId} {size : Nat} {v : Value} {n : Nat} {xs : List Value} (h : w.ownsRow B e size v n xs) : ∀ k, v.ownBlock = some k → ∃ cs, w.heap[k]? = some (.cells cs e (0, 0)) := by
  intro k hk
  rcases h.2 with ⟨h1, _⟩ | ⟨g, cap, cur, h1, _, hg, _⟩
  · rw [h1] at hk; simp [Value.ownBlock] at hk
  · rw [h1] at hk
    simp [Value.ownBlock] at hk
    subst hk
    exact ⟨_, hg⟩
theorem apart_type {w : World} {B B' : Nat} {e e' : TypeId} {size size' : Nat} {v v' : Value} {n n' : Nat} {xs xs' : List Value} (h : w.ownsRow B e size v n xs) (h' : w.ownsRow B' e' size' v' n' xs') (hne : e ≠ e') : ∀ k, v.ownBlock = some k → v'.ownBlock ≠ some k := by
  intro k hk hk'
  obtain ⟨c, hc⟩ := own_type h k hk
  obtain ⟨c', hc'⟩ := own_type h' k hk'
  rw [hc] at hc'
  simp at hc'
  exact hne hc'.2
theorem apart_block {w : World} {B : Nat} {e t : TypeId} {size : Nat} {v : Value} {n : Nat} {xs : List Value} {x : Nat} {cs : Array Value} {fr : Nat × Nat} (h : w.ownsRow B e size v n xs) (hx : w.heap[x]? = some (.cells cs t fr)) (hne : e ≠ t) : v.ownBlock ≠ some x := by
  intro hk
  obtain ⟨c, hc⟩ := own_type h x hk
  rw [hc] at hx
  simp at hx
  exact hne hx.2.1
theorem cells_at {w : World} {p : Nat} {cs : Array Value} {t : TypeId} {fr : Nat × Nat} (h : w.heap[p]? = some (.cells cs t fr)) (i : Nat) : w.cell? ⟨p, i, none⟩ = cs[i]? := cell_of_row w p i cs t fr h
theorem frozen_at {w : World} {p : Nat} {cs : Array Value} {t : TypeId} (h : w.heap[p]? = some (.cells cs t (0, 0))) (i : Nat) : w.frozen? ⟨p, i, none⟩ = false := frozen_of_row w p i cs t h
theorem heap_to {w w' : World} {S : Nat → Prop} {f : Nat} {o : Obj} (h : w.heap[f]? = some o) (hf : Frm S w w') (hS : ¬ S f) : w'.heap[f]? = some o :=
  (hf.block f (Array.getElem?_eq_some_iff.1 h).1 hS).trans h

theorem own_shape {w : World} {B : Nat} {e : TypeId} {size : Nat} {v : Value} {n : Nat} {xs : List Value} (h : w.ownsRow B e size v n xs) : ∃ a cap, v = .slice a n cap := by
  rcases h.2 with ⟨h1, h2⟩ | ⟨g, cap, _, h1, _⟩
  · exact ⟨none, 0, by rw [h1, h2]⟩
  · exact ⟨_, cap, h1⟩
theorem frm_cell {x : Nat} {a w : World} (h : Frm (fun k => k = x) a w) (i : Nat) (u : Value) : Frm (fun k => k = x) a (w.setCell ⟨x, i, none⟩ u) := Frm.setCell (S := fun k => k = x) h (p := ⟨x, i, none⟩) (.inr rfl) u
theorem grown_drew {w w' : World} {row : Option Nat} (h : w.drew.grownBy w' row) : w.grownBy w' row := ⟨h.os, h.tape, h.output, h.size, h.block⟩
/-- a block stays where memory only grows -/
theorem heap_below {w w' : World} (h : Below w.heap.size w w') {k : Nat} {o : Obj} (hk : w.heap[k]? = some o) : w'.heap[k]? = some o := (h.block k (Array.getElem?_eq_some_iff.1 hk).1).trans hk
/-- a row of one cell an element, that grows by one -/
theorem frm_of_grown {w w' : World} {v : Value} (h : w.grownBy w' v.ownBlock) : Frm (fun k => v.ownBlock = some k) w w' := ⟨h.os, h.tape, h.output, h.size, fun k hk hne => h.block k hk (fun e => hne e.symm)⟩
theorem below_alloc1 (w : World) (o : Obj) : Below w.heap.size w (w.alloc o) := (Below.refl _ _).alloc (Nat.le_refl _) _
/-- blocks of one type are as they were -/
def KeepT (t : TypeId) (w w' : World) : Prop := ∀ (k : Nat) (cs : Array Value) (fr : Nat × Nat), w.heap[k]? = some (.cells cs t fr) → w'.heap[k]? = some (.cells cs t fr)
theorem KeepT.refl (t : TypeId) (w : World) : KeepT t w w := fun _ _ _ h => h
theorem KeepT.trans {t : TypeId} {a b c : World} (h : KeepT t a b) (k : KeepT t b c) : KeepT t a c := fun i cs fr h1 => k i cs fr (h i cs fr h1)
theorem keepT_below {t : TypeId} {w w' : World} (h : Below w.heap.size w w') : KeepT t w w' := fun _ _ _ h1 => heap_below h h1
theorem keepT_grown {t e : TypeId} {w w' : World} {B size : Nat} {v : Value} {n : Nat} {xs : List Value} (hg : w.grownBy w' v.ownBlock) (hown : w.ownsRow B e size v n xs) (hne : e ≠ t) : KeepT t w w' :=
  fun k _ _ h => (hg.block k (Array.getElem?_eq_some_iff.1 h).1 (fun hk => apart_block hown h hne hk.symm)).trans h
theorem keepT_set {t e : TypeId} {w : World} {b : Nat} {cs : Array Value} {fr : Nat × Nat} (hb : w.heap[b]? = some (.cells cs e fr)) (hne : e ≠ t) (i : Nat) (u : Value) : KeepT t w (w.setCell ⟨b, i, none⟩ u) := by
  intro k cs' fr' h
  have hk : k ≠ b := by
    rintro rfl
    rw [hb] at h
    simp at h
    exact hne h.2.1
  rw [Below.heap_setCell _ _ _ _ hk]
  exact h
theorem heap_new_at {w : World} {o : Obj} {n : Nat} (h : w.heap.size = n) : (w.alloc o).heap[n]? = some o := by subst h; exact heap_alloc_new w o
end Go.Proofs.YteailgjiifdgcaaGreatDoor

/- Small facts on texts, and a walk's words for a byte of a text. No condition. -/
namespace Go.Proofs.YteailgjiifdgcaaGreatDoor.Txt
open Go.RowKit

theorem len (s : ByteArray) : s.data.toList.length = s.size := by rw [Array.length_toList]; rfl
theorem at_ (s : ByteArray) (k : Nat) (h : k < s.size) : s.data.toList[k]'(by rw [len]; exact h) = s[k] := rfl
theorem ext {x y : ByteArray} (h : x.data.toList = y.data.toList) : x = y := by
  obtain ⟨⟨a⟩⟩ := x
  obtain ⟨⟨b⟩⟩ := y
  simp at h
  rw [h]
theorem empty_iff (s : ByteArray) : s.toList = [] ↔ s.size = 0 := by
  rw [Lib.toList_data, ← len]
  exact List.length_eq_zero_iff.symm
theorem eq_dec (x y : ByteArray) : (x.toList == y.toList) = decide (x = y) := by
  rw [ByteArray.toList_eq, ByteArray.toList_eq]
  by_cases h : x = y
  · subst h; simp
  · rw [decide_eq_false h, beq_eq_false_iff_ne]
    exact fun e => h (ext e)
theorem no_dec (s : ByteArray) : s.toList.isEmpty = decide (s.size = 0) := by
  by_cases h : s.size = 0
  · rw [decide_eq_true h, (empty_iff s).2 h]; rfl
  · rw [decide_eq_false h, Bool.eq_false_iff]
    intro e
    rw [List.isEmpty_iff, empty_iff] at e
    exact h e
theorem eq_list (x : ByteArray) (l : List UInt8) : (x = ⟨l.toArray⟩) ↔ x.data.toList = l := ⟨fun h => by rw [h], fun h => ext (by rw [h])⟩
end Go.Proofs.YteailgjiifdgcaaGreatDoor.Txt

/- What the program's own start has laid in the library's variables, as the walks lean on it. No condition. -/
namespace Go.Proofs.YteailgjiifdgcaaGreatDoor
open Go.RowKit Go.Lib

structure Doors (w : World) : Prop where
  tab : TabIs Tryz.prog w "internal/strconv.uint64pow10" .u64 pow10Tab
  syn : ∃ tp p, w.var? Tryz.prog "strconv.ErrSyntax" = some #[.iface tp p]
  rng : ∃ tp p, w.var? Tryz.prog "strconv.ErrRange" = some #[.iface tp p]
  max : ∃ m, w.cell? ⟨2, 0, none⟩ = some (.int .i64 m)
theorem gTab : Tryz.prog.globalNamed "internal/strconv.uint64pow10" = some 5 := by kernel_rfl
theorem gSyn : Tryz.prog.globalNamed "strconv.ErrSyntax" = some 3 := by kernel_rfl
theorem gRng : Tryz.prog.globalNamed "strconv.ErrRange" = some 4 := by kernel_rfl
theorem var_lt {w : World} {n : String} {g : Nat} {cs : Array Value} {v : Value} (hg : Tryz.prog.globalNamed n = some g) (h : w.var? Tryz.prog n = some cs) (h0 : cs[0]? = some v) : g < w.heap.size := by
  have := World.var?_cell hg h 0
  rw [h0] at this
  exact World.block_lt_of_cell? w _ this
theorem Doors.below {w w' : World} (h : Doors w) (hb : Below w.heap.size w w') : Doors w' := by
  obtain ⟨tp, p, hs⟩ := h.syn
  obtain ⟨tq, q, hr⟩ := h.rng
  obtain ⟨m, hm⟩ := h.max
  exact ⟨var?_below hb gTab (var_lt (v := .int .u64 1) gTab h.tab rfl) h.tab, ⟨tp, p, var?_below hb gSyn (var_lt gSyn hs rfl) hs⟩, ⟨tq, q, var?_below hb gRng (var_lt gRng hr rfl) hr⟩, ⟨m, cell_later hb hm⟩⟩
theorem Doors.from {B : Nat} {w w' : World} (h : Doors w) (hB : w.heap.size ≤ B) (hb : Below B w w') : Doors w' := h.below (hb.mono hB)
/-- strconv.Atoi, whatever the text -/
theorem atoi_any (s : ByteArray) (hs : s.size ≤ 1000000) {w : World} (hD : Doors w) :
    Calls Tryz.prog 219 #[.string s] w fun e w' => ((∃ v, atoiAll s.data.toList = .ok v ∧ e = .returned (.tuple #[.int .i64 v, .nilIface])) ∨
      ((∀ v, atoiAll s.data.toList ≠ .ok v) ∧ ∃ (v : Int) (N : Nat), e = .returned (.tuple #[.int .i64 v, .iface 264 (.pointer (some ⟨N, 0, none⟩))]))) ∧ Below w.heap.size w w' := by
  obtain ⟨tp, p, hv⟩ := hD.syn
  obtain ⟨tq, q, hr⟩ := hD.rng
  cases h : atoiAll s.data.toList with
  | ok v =>
    refine (Tryz.strconv_Atoi_ok s (by omega) v h w).mono fun e w' ⟨he, hw⟩ => ⟨.inl ⟨v, rfl, he⟩, ?_⟩
    rcases hw with rfl | ⟨t, rfl⟩
    · exact Below.refl _ _
    · exact bytesWorld_below _ _ _
  | range => exact (Tryz.strconv_Atoi_range_var s (by omega) h tq q w hr).mono fun e w' ⟨N, he, _, _, hb⟩ => ⟨.inr ⟨(fun v hv => by cases hv), _, N, he⟩, hb⟩
  | _ => exact (Tryz.strconv_Atoi_syntax_var s (by omega) h tp p w hv).mono fun e w' ⟨N, he, _, _, hb⟩ => ⟨.inr ⟨(fun v hv => by cases hv), 0, N, he⟩, hb⟩
theorem grow_below (w : World) (k : Nat) (os : Array Obj) : Below w.heap.size w (Sort.grow (w.drewN k) os) :=
  ⟨rfl, rfl, rfl, by show w.heap.size ≤ (w.heap ++ os).size; rw [Array.size_append]; omega, fun j hj => by show (w.heap ++ os)[j]? = w.heap[j]?; exact Array.getElem?_append_left hj⟩
theorem itoa_any (n : Int) (h0 : -9223372036854775808 ≤ n) (h1 : n ≤ 9223372036854775807) {w : World} (hD : Doors w) :
    Calls Tryz.prog 220 #[.int .i64 n] w fun e w' => e = .returned (.string ⟨(itoa n).toArray⟩) ∧ Below w.heap.size w w' :=
  (Tryz.strconv_Itoa n h0 h1 w hD.tab).mono fun e w' ⟨he, k, os, hw⟩ => ⟨he, hw ▸ grow_below w k os⟩
end Go.Proofs.YteailgjiifdgcaaGreatDoor

/- What each row of this seat lists of the library's variables, and a world that holds it. No condition. -/
namespace Go.Proofs.YteailgjiifdgcaaGreatDoor
open Go.ChangeShapes Go.WideShapes Go.ChangeAt Go.RowKit Go.Lib

abbrev seatLaid : List (String × DataW Unit) := Rows.spansReadsRow.laid
theorem gTabType : (Tryz.prog.globals[5]?).map (·.type) = some 285 := by kernel_rfl
theorem gSynType : (Tryz.prog.globals[3]?).map (·.type) = some 146 := by kernel_rfl
theorem gRngType : (Tryz.prog.globals[4]?).map (·.type) = some 146 := by kernel_rfl
theorem star : "*" ++ "errors.errorString" = "*errors.errorString" := by decide
theorem rowErr (u : TypeId) (h : Tryz.prog.typeName? 3 u = some "*errors.errorString") : u = 281 :=
  typeName_ptr_named (nm := "errors.errorString") (by rw [star]; kernel_rfl) (by kernel_rfl) (by decide) u (by rw [star]; exact h)
theorem cells_u64 : Tryz.prog.cellsOf 268 = 1 := by kernel_rfl
theorem cells_tab : Tryz.prog.cellsOf 285 = 20 := by kernel_rfl
theorem cells_es : Tryz.prog.cellsOf 283 = 1 := by kernel_rfl
theorem cells_st : Tryz.prog.cellsOf 9 = 1 := by kernel_rfl
/-- what the row lists is what the walks lean on -/
theorem doors_of {W : World} (hL : laidMetH Tryz.prog seatLaid W) (hS : W.ShapedOpen Tryz.prog) : Doors W := by
  rw [MakeChecks.laidMetH_plain _ _ _ (by kernel_rfl)] at hL
  have h2 := hL.tail.tail
  have h4 := h2.tail.tail
  have h5 := h4.tail
  obtain ⟨a0, s0, hv0, -, -, -⟩ := laid_sentinel h4 gRng gRngType Tryz.underlying146 rowErr Tryz.underlying281 Tryz.underlying283 rfl rfl Tryz.underlying9 cells_es cells_st
  obtain ⟨a1, s1, hv1, -, -, -⟩ := laid_sentinel h5 gSyn gSynType Tryz.underlying146 rowErr Tryz.underlying281 Tryz.underlying283 rfl rfl Tryz.underlying9 cells_es cells_st
  exact ⟨tabIs_of_head (k := .u64) (zs := pow10Tab) gTab gTabType Tryz.underlying285 Tryz.underlying268 cells_u64 cells_tab h2, ⟨_, _, hv1⟩, ⟨_, _, hv0⟩, Tryz.laysM143.s1_3 W hS⟩
theorem own : ownKnob Tryz.prog.godebug = none := by kernel_rfl
theorem laidOut : laidOutB Tryz.prog = true := by kernel_rfl
set_option maxRecDepth 100000 in
theorem seat_shaped (os : Os) (args : Array Value) : ((World.laidAll Tryz.prog os seatLaid).forCall (fun _ _ => 0) ⟨#[], args, []⟩).Shaped Tryz.prog := World.shaped_of_ZipB (by kernel_rfl) (by kernel_rfl)
set_option maxRecDepth 100000 in
theorem seat_laid (os : Os) (args : Array Value) : laidMetH Tryz.prog seatLaid ((World.laidAll Tryz.prog os seatLaid).forCall (fun _ _ => 0) ⟨#[], args, []⟩).memory := by
  rw [MakeChecks.laidMetH_plain _ _ _ (by kernel_rfl)]
  exact laidMet_laidAll _ (by kernel_rfl) (by kernel_rfl)
end Go.Proofs.YteailgjiifdgcaaGreatDoor

/- Readings of plain data in memory, by shapes; each is opened out of the form's own reading, and stays where memory only grows. No condition. -/
namespace Go.Proofs.YteailgjiifdgcaaGreatDoor
open Go.RowKit

abbrev Rd (α : Type) := World → List Value → α → Prop

def RInt (k : IntKind) : Rd Int := fun _ cs n => cs = [.int k n] ∧ (Lit.int k n).wf = true
def RBool : Rd Bool := fun _ cs b => cs = [.bool b]
def RStr : Rd ByteArray := fun _ cs s => cs = [.string s] ∧ s.size ≤ maxLen
/-- a slice: its elements, each of sz cells, in a row -/
def RSlice {α : Type} (sz : Nat) (R : Rd α) : Rd (List α) := fun w cs l =>
  ∃ a cap, cs = [.slice a l.length cap] ∧ l.length ≤ cap ∧ cap ≤ maxLen ∧
    ∀ i x, l[i]? = some x → ∃ b off ecs, a = some ⟨b, off, none⟩ ∧ ecs.length = sz ∧ (∀ j u, ecs[j]? = some u → w.cell? ⟨b, off + i * sz + j, none⟩ = some u) ∧ R w ecs x
def RNil : Rd Unit := fun _ cs _ => cs = []
def RCons {α β : Type} (sz : Nat) (R : Rd α) (S : Rd β) : Rd (α × β) := fun w cs x => ∃ c1 c2, cs = c1 ++ c2 ∧ c1.length = sz ∧ R w c1 x.1 ∧ S w c2 x.2

def Stays {α : Type} (R : Rd α) : Prop := ∀ w w' cs a, R w cs a → Below w.heap.size w w' → R w' cs a

theorem stays_int (k : IntKind) : Stays (RInt k) := fun _ _ _ _ h _ => h
theorem stays_bool : Stays RBool := fun _ _ _ _ h _ => h
theorem stays_str : Stays RStr := fun _ _ _ _ h _ => h
theorem stays_nil : Stays RNil := fun _ _ _ _ h _ => h
theorem stays_cons {α β : Type} {sz : Nat} {R : Rd α} {S : Rd β} (hR : Stays R) (hS : Stays S) : Stays (RCons sz R S) := by
  rintro w w' cs ⟨a, b⟩ ⟨c1, c2, h1, h2, h3, h4⟩ hb
  exact ⟨c1, c2, h1, h2, hR _ _ _ _ h3 hb, hS _ _ _ _ h4 hb⟩
theorem stays_slice {α : Type} {sz : Nat} {R : Rd α} (hR : Stays R) : Stays (RSlice sz R) := by
  rintro w w' cs l ⟨a, cap, rfl, h1, h2, h3⟩ hb
  refine ⟨a, cap, rfl, h1, h2, fun i x hi => ?_⟩
  obtain ⟨b, off, ecs, rfl, h4, h5, h6⟩ := h3 i x hi
  exact ⟨b, off, ecs, rfl, h4, fun j u hu => cell_later hb (h5 j u hu), hR _ _ _ _ h6 hb⟩

def Opens {α : Type} (P : Program) (t : TypeId) (R : Rd α) : Prop :=
  ∀ {H : Type} (enc : TypeId × Value → H) (w : World) (base : Nat) (spare : Nat → Bool) (held : Bool) (fuel : Nat) (cs : List Value) (x : DataW H × List MemPlace),
    DataW.trod enc P w base spare held fuel t cs = some x → ∃ a, R w cs a

theorem opens_int {P : Program} {t : TypeId} {k : IntKind} (ht : P.underlying t = some (.int k)) : Opens P t (RInt k) := by
  intro H enc w base spare held fuel cs x h
  obtain ⟨n, h1, _, h3⟩ := DataW.trod_int ht h
  exact ⟨n, h1, h3⟩
theorem opens_bool {P : Program} {t : TypeId} (ht : P.underlying t = some .bool) : Opens P t RBool := by
  intro H enc w base spare held fuel cs x h
  obtain ⟨n, h1, _⟩ := DataW.trod_bool ht h
  exact ⟨n, h1⟩
theorem opens_str {P : Program} {t : TypeId} (ht : P.underlying t = some .string) : Opens P t RStr := by
  intro H enc w base spare held fuel cs x h
  obtain ⟨n, h1, _, h3⟩ := DataW.trod_string ht h
  exact ⟨n, h1, h3⟩
theorem opens_slice {α : Type} {P : Program} {t e : TypeId} {R : Rd α} {sz : Nat} (ht : P.underlying t = some (.slice e)) (hc : P.cellsOf e = sz) (hz : 0 < sz) (he : Opens P e R) : Opens P t (RSlice sz R) := by
  intro H enc w base spare held fuel cs x h
  rcases Go.Deep.open_slice ht h with ⟨rfl, _⟩ | ⟨a, len, cap, m, n, D, Pl, rfl, hb, hl, hm, hmm, _, hx⟩
  · exact ⟨[], none, 0, rfl, Nat.le_refl _, Nat.zero_le _, fun i x hi => by simp at hi⟩
  · have hlm : len ≤ m := by rw [hmm]; split <;> omega
    have hex : ∀ i, i < len → ∃ y : α, ∃ cs', w.cells? base (a.add (i * P.cellsOf e)) (P.cellsOf e) = some cs' ∧ R w cs' y := by
      intro i hi
      obtain ⟨cs', h1, h2⟩ := hx i (by omega)
      obtain ⟨y, hy⟩ := he enc w base spare held n cs' _ h2
      exact ⟨y, cs', h1, hy⟩
    have build : ∀ k, k ≤ len → ∃ l : List α, l.length = k ∧ ∀ i y, l[i]? = some y → ∃ cs', w.cells? base (a.add (i * P.cellsOf e)) (P.cellsOf e) = some cs' ∧ R w cs' y := by
      intro k
      induction k with
      | zero => exact fun _ => ⟨[], rfl, fun i y hi => by simp at hi⟩
      | succ k ih =>
        intro hk
        obtain ⟨l, h1, h2⟩ := ih (by omega)
        obtain ⟨y, cs', h3, h4⟩ := hex k (by omega)
        refine ⟨l ++ [y], by simp [h1], fun i z hz => ?_⟩
        rw [List.getElem?_append] at hz
        split at hz
        · exact h2 i z hz
        · have hik : i = k := by
            have := (List.getElem?_eq_some_iff.1 hz).1
            simp at this; omega
          subst hik
          rw [h1, Nat.sub_self] at hz
          simp at hz
          subst hz
          exact ⟨cs', h3, h4⟩
    obtain ⟨l, h1, h2⟩ := build len (Nat.le_refl _)
    refine ⟨l, some a, cap, by rw [h1], by omega, hm, fun i y hi => ?_⟩
    obtain ⟨cs', h3, h4⟩ := h2 i y hi
    obtain ⟨_, h5, h6⟩ := World.cells?_some h3
    obtain ⟨b, off, spot⟩ := a
    have hspot : spot = none := by
      obtain ⟨cs0, g3, _⟩ := hx 0 (by have := (List.getElem?_eq_some_iff.1 hi).1; omega)
      obtain ⟨_, g5, g6⟩ := World.cells?_some g3
      have h0 := g6 0 (by omega)
      have : 0 < cs0.length := by omega
      rw [List.getElem?_eq_getElem this] at h0
      have := World.cell?_spot h0
      simpa [Addr.add] using this
    subst hspot
    refine ⟨b, off, cs', rfl, by omega, fun j u hu => ?_, h4⟩
    have hj : j < P.cellsOf e := by have := (List.getElem?_eq_some_iff.1 hu).1; omega
    have := h6 j hj
    rw [Addr.add_lit, Addr.add_lit, hu, hc] at this
    exact this

/-- the fields of a struct from one offset on read as S says -/
def FieldsOpen {β : Type} (P : Program) (N : Nat) (fs : List Field) (off : Nat) (S : Rd β) : Prop :=
  off ≤ N ∧ ∀ {H : Type} (enc : TypeId × Value → H) (w : World) (base : Nat) (spare : Nat → Bool) (held : Bool) (n : Nat) (cs : List Value), cs.length = N →
    (∀ f ∈ fs, ∃ x, DataW.trod enc P w base spare held n f.type ((cs.drop f.offset).take (P.cellsOf f.type)) = some x) → ∃ b, S w (cs.drop off) b

theorem fields_nil {P : Program} {N : Nat} : FieldsOpen P N [] N RNil :=
  ⟨Nat.le_refl _, fun _ _ _ _ _ _ cs hN _ => ⟨(), by simp [RNil, hN]⟩⟩
theorem fields_cons {P : Program} {N : Nat} {f : Field} {fs : List Field} {off sz : Nat} {α β : Type} {R : Rd α} {S : Rd β} (ho : f.offset = off) (hs : P.cellsOf f.type = sz) (hR : Opens P f.type R)
    (h : FieldsOpen P N fs (off + sz) S) : FieldsOpen P N (f :: fs) off (RCons sz R S) := by
  obtain ⟨hle, ih⟩ := h
  refine ⟨by omega, fun enc w base spare held n cs hN hf => ?_⟩
  obtain ⟨x, hx⟩ := hf f (by simp)
  obtain ⟨a, ha⟩ := hR enc w base spare held n _ _ hx
  obtain ⟨b, hb⟩ := ih enc w base spare held n cs hN (fun g hg => hf g (by simp [hg]))
  refine ⟨(a, b), (cs.drop off).take sz, cs.drop (off + sz), ?_, ?_, ?_, hb⟩
  · rw [← List.drop_drop, List.take_append_drop]
  · simp; omega
  · rw [ho, hs] at ha; exact ha

theorem opens_struct {P : Program} {t : TypeId} {fs : Array Field} {β : Type} {S : Rd β} (ht : P.underlying t = some (.struct fs)) (h : FieldsOpen P (P.cellsOf t) fs.toList 0 S) : Opens P t S := by
  intro H enc w base spare held fuel cs x hx
  obtain ⟨xs, n, _, _, hl, hlen, hf⟩ := DataW.trod_struct ht hx
  obtain ⟨b, hb⟩ := h.2 enc w base spare held n cs hl (by
    intro f hfm
    obtain ⟨i, hi⟩ := List.mem_iff_getElem?.1 hfm
    have h1 : fs[i]? = some f := by simpa using hi
    have h2 := hf i f h1
    have hlt : i < xs.length := by
      rw [hlen]
      have := (Array.getElem?_eq_some_iff.1 h1).1
      exact this
    exact ⟨xs[i], by rw [h2]; simp [hlt]⟩)
  exact ⟨b, by simpa using hb⟩

theorem opens_map {α β : Type} {P : Program} {t : TypeId} {R : Rd α} {S : Rd β} (hR : Opens P t R) (h : ∀ w cs a, R w cs a → ∃ b, S w cs b) : Opens P t S := by
  intro H enc w base spare held fuel cs x hx
  obtain ⟨a, ha⟩ := hR enc w base spare held fuel cs x hx
  exact h _ _ _ ha

theorem opens_ints_of {P : Program} {t e : TypeId} (ht : P.underlying t = some (.slice e)) (he : P.underlying e = some (.int .i64)) (hc : P.cellsOf e = 1) : Opens P t (RSlice 1 (RInt .i64)) := opens_slice ht hc (by decide) (opens_int he)
/-- one element of a slice of numbers -/
theorem ints_cell {w : World} {a : Option Addr} {l : List Int} (h : ∀ i x, l[i]? = some x → ∃ b off ecs, a = some ⟨b, off, none⟩ ∧ ecs.length = 1 ∧ (∀ j u, ecs[j]? = some u → w.cell? ⟨b, off + i * 1 + j, none⟩ = some u) ∧ RInt .i64 w ecs x) (i : Nat) (hi : i < l.length) :
    ∃ b off, a = some ⟨b, off, none⟩ ∧ w.cell? ⟨b, off + i, none⟩ = some (.int .i64 l[i]) ∧ -9223372036854775808 ≤ l[i] ∧ l[i] ≤ 9223372036854775807 := by
  obtain ⟨b, off, ecs, h1, h2, h3, h4, h5⟩ := h i l[i] (List.getElem?_eq_getElem hi)
  subst h4
  refine ⟨b, off, h1, by simpa using h3 0 _ rfl, ?_⟩
  simpa [Lit.wf, IntKind.min, IntKind.max, IntKind.signed, IntKind.bits] using h5
theorem okWide_agg {P : Program} {w : World} {r : Reach} {base : Nat} {t : TypeId} {v : Value} {fs : Array Field} (ht : P.underlying t = some (.struct fs)) (h : Value.okWide P w r base t v) : ∃ cs, v = .agg cs := by
  unfold Value.okWide at h
  rw [ht] at h
  obtain ⟨cs, h, _⟩ := h
  exact ⟨cs, h⟩
theorem wf_u8 {n : Int} (h : (Lit.int .u8 n).wf = true) : 0 ≤ n ∧ n ≤ 255 := by simpa [Lit.wf, IntKind.min, IntKind.max, IntKind.signed, IntKind.bits] using h
theorem wf_u16 {n : Int} (h : (Lit.int .u16 n).wf = true) : 0 ≤ n ∧ n ≤ 65535 := by simpa [Lit.wf, IntKind.min, IntKind.max, IntKind.signed, IntKind.bits] using h
theorem wf_i64 {n : Int} (h : (Lit.int .i64 n).wf = true) : -9223372036854775808 ≤ n ∧ n ≤ 9223372036854775807 := by simpa [Lit.wf, IntKind.min, IntKind.max, IntKind.signed, IntKind.bits] using h
end Go.Proofs.YteailgjiifdgcaaGreatDoor

/- Readings of plain data with the reach: each string and slice takes at most 2^47 bytes. No condition. -/
namespace Go.Proofs.YteailgjiifdgcaaGreatDoor
open Go.RowKit

def RStrZ : Rd ByteArray := fun _ cs s => cs = [.string s] ∧ s.size ≤ 140737488351232
/-- a slice, with its reach -/
def RSlZ {α : Type} (sz bytes : Nat) (R : Rd α) : Rd (List α) := fun w cs l => RSlice sz R w cs l ∧ l.length * bytes ≤ 140737488351232
theorem stays_strZ : Stays RStrZ := fun _ _ _ _ h _ => h
theorem stays_slZ {α : Type} {sz bytes : Nat} {R : Rd α} (hR : Stays R) : Stays (RSlZ sz bytes R) := fun w w' cs a h hb => ⟨stays_slice hR w w' cs a h.1 hb, h.2⟩

def OpensZ {α : Type} (P : Program) (t : TypeId) (R : Rd α) : Prop :=
  ∀ {H : Type} (enc : TypeId × Value → H) (w : World) (base : Nat) (spare : Nat → Bool) (held : Bool) (fuel : Nat) (cs : List Value) (x : DataW H × List MemPlace),
    DataW.trod enc P w base spare held fuel t cs = some x → (∀ n ∈ x.1.weights P t, n ≤ reachBytes) → ∃ a, R w cs a

theorem opensZ_of {α : Type} {P : Program} {t : TypeId} {R : Rd α} (h : Opens P t R) : OpensZ P t R := fun enc w base spare held fuel cs x hx _ => h enc w base spare held fuel cs x hx
theorem opensZ_int {P : Program} {t : TypeId} {k : IntKind} (ht : P.underlying t = some (.int k)) : OpensZ P t (RInt k) := opensZ_of (opens_int ht)
theorem opensZ_bool {P : Program} {t : TypeId} (ht : P.underlying t = some .bool) : OpensZ P t RBool := opensZ_of (opens_bool ht)
theorem opensZ_str {P : Program} {t : TypeId} (ht : P.underlying t = some .string) : OpensZ P t RStrZ := by
  intro H enc w base spare held fuel cs x h hz
  obtain ⟨n, h1, h2, h3⟩ := DataW.trod_string ht h
  refine ⟨n, h1, ?_⟩
  subst h2
  have := hz n.data.toList.length (by simp only [DataW.weights, List.mem_singleton])
  have e : reachBytes = 140737488351232 := rfl
  rw [e] at this
  have e2 : n.data.toList.length = n.size := by rw [Array.length_toList]; rfl
  omega
theorem weightsAll_mem' {H : Type} {P : Program} {e : TypeId} : ∀ {l : List (DataW H)} {d : DataW H}, d ∈ l → ∀ n ∈ d.weights P e, n ∈ DataW.weightsAll P e l
  | x :: r, d, hd, n, hn => by
    simp only [DataW.weightsAll, List.mem_append]
    rcases List.mem_cons.1 hd with rfl | h
    · exact Or.inl hn
    · exact Or.inr (weightsAll_mem' h n hn)
theorem opensZ_slice {α : Type} {P : Program} {t e : TypeId} {R : Rd α} {sz bytes : Nat} (ht : P.underlying t = some (.slice e)) (hc : P.cellsOf e = sz) (hy : P.bytesOf e = bytes) (hz : 0 < sz) (he : OpensZ P e R) : OpensZ P t (RSlZ sz bytes R) := by
  intro H enc w base spare held fuel cs x h hw
  have hre : reachBytes = 140737488351232 := rfl
  rcases Go.Deep.open_slice ht h with ⟨rfl, _⟩ | ⟨a, len, cap, m, n, D, Pl, rfl, hb, hl, hm, hmm, hxx, hx⟩
  · exact ⟨[], ⟨none, 0, rfl, Nat.le_refl _, Nat.zero_le _, fun i x hi => by simp at hi⟩, by simp⟩
  · subst hxx
    have hlm : len ≤ m := by rw [hmm]; split <;> omega
    have hwt : ∀ i, i < len → ∀ n ∈ (D i).weights P e, n ≤ reachBytes := by
      intro i hi n hn
      refine hw n ?_
      simp only [DataW.weights, ht, List.mem_cons, List.mem_append]
      exact .inr (.inl (weightsAll_mem' (List.mem_map.2 ⟨i, List.mem_range.2 hi, rfl⟩) n hn))
    have hlen : len * bytes ≤ 140737488351232 := by
      have := hw ((((List.range len).map D).length + ((List.range (m - len)).map fun j => D (len + j)).length) * P.bytesOf e) (by simp [DataW.weights, ht])
      rw [hy, hre, List.length_map, List.length_range, List.length_map, List.length_range] at this
      have h2 : len * bytes ≤ (len + (m - len)) * bytes := Nat.mul_le_mul_right _ (by omega)
      omega
    have hex : ∀ i, i < len → ∃ y : α, ∃ cs', w.cells? base (a.add (i * P.cellsOf e)) (P.cellsOf e) = some cs' ∧ R w cs' y := by
      intro i hi
      obtain ⟨cs', h1, h2⟩ := hx i (by omega)
      obtain ⟨y, hy⟩ := he enc w base spare held n cs' _ h2 (hwt i hi)
      exact ⟨y, cs', h1, hy⟩
    have build : ∀ k, k ≤ len → ∃ l : List α, l.length = k ∧ ∀ i y, l[i]? = some y → ∃ cs', w.cells? base (a.add (i * P.cellsOf e)) (P.cellsOf e) = some cs' ∧ R w cs' y := by
      intro k
      induction k with
      | zero => exact fun _ => ⟨[], rfl, fun i y hi => by simp at hi⟩
      | succ k ih =>
        intro hk
        obtain ⟨l, h1, h2⟩ := ih (by omega)
        obtain ⟨y, cs', h3, h4⟩ := hex k (by omega)
        refine ⟨l ++ [y], by simp [h1], fun i z hz => ?_⟩
        rw [List.getElem?_append] at hz
        split at hz
        · exact h2 i z hz
        · have hik : i = k := by
            have := (List.getElem?_eq_some_iff.1 hz).1
            simp at this; omega
          subst hik
          rw [h1, Nat.sub_self] at hz
          simp at hz
          subst hz
          exact ⟨cs', h3, h4⟩
    obtain ⟨l, h1, h2⟩ := build len (Nat.le_refl _)
    refine ⟨l, ⟨some a, cap, by rw [h1], by omega, hm, fun i y hi => ?_⟩, by rw [h1]; exact hlen⟩
    obtain ⟨cs', h3, h4⟩ := h2 i y hi
    obtain ⟨_, h5, h6⟩ := World.cells?_some h3
    obtain ⟨b, off, spot⟩ := a
    have hspot : spot = none := by
      obtain ⟨cs0, g3, _⟩ := hx 0 (by have := (List.getElem?_eq_some_iff.1 hi).1; omega)
      obtain ⟨_, g5, g6⟩ := World.cells?_some g3
      have h0 := g6 0 (by omega)
      have : 0 < cs0.length := by omega
      rw [List.getElem?_eq_getElem this] at h0
      have := World.cell?_spot h0
      simpa [Addr.add] using this
    subst hspot
    refine ⟨b, off, cs', rfl, by omega, fun j u hu => ?_, h4⟩
    have hj : j < P.cellsOf e := by have := (List.getElem?_eq_some_iff.1 hu).1; omega
    have := h6 j hj
    rw [Addr.add_lit, Addr.add_lit, hu, hc] at this
    exact this

/-- the fields of a struct from one offset on read as S says -/
def FieldsZ {β : Type} (P : Program) (N : Nat) (fs : List Field) (off : Nat) (S : Rd β) : Prop :=
  off ≤ N ∧ ∀ {H : Type} (enc : TypeId × Value → H) (w : World) (base : Nat) (spare : Nat → Bool) (held : Bool) (n : Nat) (cs : List Value), cs.length = N →
    (∀ f ∈ fs, ∃ x, DataW.trod enc P w base spare held n f.type ((cs.drop f.offset).take (P.cellsOf f.type)) = some x ∧ ∀ n ∈ x.1.weights P f.type, n ≤ reachBytes) → ∃ b, S w (cs.drop off) b
theorem fieldsZ_nil {P : Program} {N : Nat} : FieldsZ P N [] N RNil :=
  ⟨Nat.le_refl _, fun _ _ _ _ _ _ cs hN _ => ⟨(), by simp [RNil, hN]⟩⟩
theorem fieldsZ_cons {P : Program} {N : Nat} {f : Field} {fs : List Field} {off sz : Nat} {α β : Type} {R : Rd α} {S : Rd β} (ho : f.offset = off) (hs : P.cellsOf f.type = sz) (hR : OpensZ P f.type R)
    (h : FieldsZ P N fs (off + sz) S) : FieldsZ P N (f :: fs) off (RCons sz R S) := by
  obtain ⟨hle, ih⟩ := h
  refine ⟨by omega, fun enc w base spare held n cs hN hf => ?_⟩
  obtain ⟨x, hx, hxw⟩ := hf f (by simp)
  obtain ⟨a, ha⟩ := hR enc w base spare held n _ _ hx hxw
  obtain ⟨b, hb⟩ := ih enc w base spare held n cs hN (fun g hg => hf g (by simp [hg]))
  refine ⟨(a, b), (cs.drop off).take sz, cs.drop (off + sz), ?_, ?_, ?_, hb⟩
  · rw [← List.drop_drop, List.take_append_drop]
  · simp; omega
  · rw [ho, hs] at ha; exact ha
theorem opensZ_struct {P : Program} {t : TypeId} {fs : Array Field} {β : Type} {S : Rd β} (ht : P.underlying t = some (.struct fs)) (h : FieldsZ P (P.cellsOf t) fs.toList 0 S) : OpensZ P t S := by
  intro H enc w base spare held fuel cs x hx hw
  obtain ⟨xs, n, _, hxx, hl, hlen, hf⟩ := DataW.trod_struct ht hx
  obtain ⟨b, hb⟩ := h.2 enc w base spare held n cs hl (by
    intro f hfm
    obtain ⟨i, hi⟩ := List.mem_iff_getElem?.1 hfm
    have h1 : fs[i]? = some f := by simpa using hi
    have h2 := hf i f h1
    have hlt : i < xs.length := by
      rw [hlen]
      have := (Array.getElem?_eq_some_iff.1 h1).1
      exact this
    refine ⟨xs[i], by rw [h2]; simp [hlt], fun n hn => hw n ?_⟩
    subst hxx
    simp only [DataW.weights, ht]
    exact DataW.weights_mem_each (j := i) (by rw [List.getElem?_map, hi]; rfl) (by simp [hlt]) n hn)
  exact ⟨b, by simpa using hb⟩
theorem opensZ_map {α β : Type} {P : Program} {t : TypeId} {R : Rd α} {S : Rd β} (hR : OpensZ P t R) (h : ∀ w cs a, R w cs a → ∃ b, S w cs b) : OpensZ P t S := by
  intro H enc w base spare held fuel cs x hx hw
  obtain ⟨a, ha⟩ := hR enc w base spare held fuel cs x hx hw
  exact h _ _ _ ha
/-- the reach of one argument -/
theorem sized_arg {H : Type} {P : Program} {ts : List TypeId} {ds : List (DataW H)} (h : (DataW.weightsEach P ts ds).all (· ≤ reachBytes) = true) {j : Nat} {t : TypeId} {d : DataW H} (ht : ts[j]? = some t) (hd : ds[j]? = some d) : ∀ n ∈ d.weights P t, n ≤ reachBytes := by
  intro n hn
  exact of_decide_eq_true (List.all_eq_true.1 h _ (DataW.weights_mem_each ht hd n hn))
theorem size_of_sized {s : ByteArray} (h : s.data.toList.length ≤ reachBytes) : s.size ≤ 140737488351232 := by
  have e : reachBytes = 140737488351232 := rfl
  rw [e] at h
  have e2 : s.data.toList.length = s.size := by rw [Array.length_toList]; rfl
  omega
end Go.Proofs.YteailgjiifdgcaaGreatDoor

/- An argument that is a span, opened: two texts, with their reach. No condition. -/
namespace Go.Proofs.YteailgjiifdgcaaGreatDoor
open Go.RowKit

abbrev RSpnZ : Rd (ByteArray × ByteArray × Unit) := RCons 1 RStrZ (RCons 1 RStrZ RNil)
theorem cs_strZ : Tryz.prog.cellsOf 9 = 1 := by kernel_rfl
theorem opensZ_spn : OpensZ Tryz.prog 34 RSpnZ := by
  refine opensZ_struct Tryz.underlying34 ?_
  have hN : Tryz.prog.cellsOf 34 = 0 + 1 + 1 := by kernel_rfl
  rw [hN]
  exact fieldsZ_cons rfl cs_strZ (opensZ_str Tryz.underlying9) (fieldsZ_cons rfl cs_strZ (opensZ_str Tryz.underlying9) fieldsZ_nil)
theorem spn_arg {w : World} {cs : Array Value} {x : ByteArray × ByteArray × Unit} (h : RSpnZ w cs.toList x) : ∃ lo hi : ByteArray, cs = #[.string lo, .string hi] := by
  obtain ⟨a0, t0, h0, l0, ⟨rfl, _⟩, a1, t1, rfl, l1, ⟨rfl, _⟩, h2⟩ := h
  refine ⟨x.1, x.2.1, ?_⟩
  rw [← Array.toArray_toList (xs := cs), h0]
  obtain rfl : t1 = [] := h2
  rfl
end Go.Proofs.YteailgjiifdgcaaGreatDoor

/- Plain facts: what version.read takes for a part, by Atoi and Itoa, is what the document takes for one. -/
namespace Go.Proofs.YteailgjiifdgcaaGreatDoor.VerN
open Go.Lib

def isDig (c : UInt8) : Bool := decide (48 ≤ c.toNat) && decide (c.toNat ≤ 57)
def isLet (c : UInt8) : Bool := decide (97 ≤ c.toNat) && decide (c.toNat ≤ 122)
theorem isDig_iff (c : UInt8) : isDig c = true ↔ 48 ≤ c.toNat ∧ c.toNat ≤ 57 := by unfold isDig; simp
theorem isLet_iff (c : UInt8) : isLet c = true ↔ 97 ≤ c.toNat ∧ c.toNat ≤ 122 := by unfold isLet; simp
/-- the number that digits spell, behind acc -/
def valFrom (acc : Nat) (l : List UInt8) : Nat := l.foldl (fun a c => a * 10 + (c.toNat - 48)) acc
theorem valFrom_ge : ∀ (l : List UInt8) (acc : Nat), acc ≤ valFrom acc l
  | [], _ => Nat.le_refl _
  | c :: r, acc => by have := valFrom_ge r (acc * 10 + (c.toNat - 48)); unfold valFrom at *; simp only [List.foldl_cons]; omega
theorem parse_ok : ∀ (l : List UInt8) (acc : Nat), l.all isDig = true → valFrom acc l < 9223372036854775808 → parseUint10 acc l = .ok (valFrom acc l)
  | [], _, _, _ => rfl
  | c :: r, acc, h, hv => by
    simp only [List.all_cons, Bool.and_eq_true] at h
    have hc := (isDig_iff c).1 h.1
    have hv' : valFrom (acc * 10 + (c.toNat - 48)) r < 9223372036854775808 := hv
    have hge := valFrom_ge r (acc * 10 + (c.toNat - 48))
    unfold parseUint10
    rw [if_pos hc, if_neg (by omega), if_neg (by omega), parse_ok r _ h.2 hv']
    rfl
theorem parse_dig : ∀ (l : List UInt8) (acc u : Nat), parseUint10 acc l = .ok u → l.all isDig = true ∧ u = valFrom acc l
  | [], acc, u, h => by simp only [parseUint10] at h; injection h with h; exact ⟨rfl, h.symm⟩
  | c :: r, acc, u, h => by
    unfold parseUint10 at h
    split at h
    · rename_i hc
      split at h
      · cases h
      · split at h
        · cases h
        · have := parse_dig r _ u h
          exact ⟨by simp only [List.all_cons, Bool.and_eq_true]; exact ⟨(isDig_iff c).2 hc, this.1⟩, this.2⟩
    · cases h
theorem valFrom_snoc (l : List UInt8) (c : UInt8) (acc : Nat) : valFrom acc (l ++ [c]) = valFrom acc l * 10 + (c.toNat - 48) := by unfold valFrom; rw [List.foldl_append]; rfl
/-- no digit 0 ahead of others -/
def lead (l : List UInt8) : Bool := decide (l = [48]) || decide (l.head? ≠ some 48)
theorem ofNat_dig {c : UInt8} (h : isDig c = true) : UInt8.ofNat (48 + (c.toNat - 48)) = c := by
  have := (isDig_iff c).1 h
  rw [show 48 + (c.toNat - 48) = c.toNat by omega]
  exact UInt8.ofNat_toNat
theorem snocInd {α : Type} {P : List α → Prop} (h0 : P []) (h1 : ∀ l c, P l → P (l ++ [c])) (l : List α) : P l := by
  have key : ∀ r : List α, P r.reverse := by
    intro r
    induction r with
    | nil => exact h0
    | cons c r ih => rw [List.reverse_cons]; exact h1 _ _ ih
  have := key l.reverse
  rwa [List.reverse_reverse] at this
theorem val_bounds : ∀ (l : List UInt8), l ≠ [] → l.all isDig = true → l.head? ≠ some 48 → 10 ^ (l.length - 1) ≤ valFrom 0 l ∧ valFrom 0 l < 10 ^ l.length := by
  intro l
  induction l using snocInd with
  | h0 => intro h; exact absurd rfl h
  | h1 l c ih =>
    intro _ hd hh
    simp only [List.all_append, List.all_cons, List.all_nil, Bool.and_true, Bool.and_eq_true] at hd
    have hc := (isDig_iff c).1 hd.2
    rw [valFrom_snoc]
    by_cases hl : l = []
    · subst hl
      have : c.toNat ≠ 48 := fun e => hh (by
        have : c = 48 := UInt8.toNat_inj.1 e
        simp [this])
      simp [valFrom]; omega
    · have hh' : l.head? ≠ some 48 := by
        match l, hl with
        | a :: r, _ => simpa using hh
      have := ih hl hd.1 hh'
      have hp : 0 < l.length := List.length_pos_iff.2 hl
      obtain ⟨k, hk⟩ : ∃ k, l.length = k + 1 := ⟨l.length - 1, by omega⟩
      rw [List.length_append, List.length_singleton]
      rw [hk] at this ⊢
      simp only [Nat.add_sub_cancel] at this ⊢
      rw [Nat.pow_succ, Nat.pow_succ]
      rw [Nat.pow_succ] at this
      omega
theorem dec_val : ∀ (l : List UInt8), l ≠ [] → l.all isDig = true → lead l = true → decDigits (valFrom 0 l) = l := by
  intro l
  induction l using snocInd with
  | h0 => intro h; exact absurd rfl h
  | h1 l c ih =>
    intro _ hd hh
    simp only [List.all_append, List.all_cons, List.all_nil, Bool.and_true, Bool.and_eq_true] at hd
    have hc := (isDig_iff c).1 hd.2
    rw [valFrom_snoc]
    by_cases hl : l = []
    · subst hl
      rw [show valFrom 0 [] = 0 from rfl, Nat.zero_mul, Nat.zero_add, decDigits, dif_pos (by omega), ofNat_dig hd.2]
      rfl
    · have hh' : l.head? ≠ some 48 := by
        match l, hl with
        | a :: r, _ =>
          unfold lead at hh
          simp only [Bool.or_eq_true, decide_eq_true_eq] at hh
          rcases hh with hh | hh
          · simp at hh
          · simpa using hh
      have hb := val_bounds l hl hd.1 hh'
      have h1 : 1 ≤ valFrom 0 l := Nat.le_trans (Nat.pos_of_ne_zero (by simp)) hb.1
      rw [decDigits, dif_neg (by omega), show (valFrom 0 l * 10 + (c.toNat - 48)) / 10 = valFrom 0 l by omega, show (valFrom 0 l * 10 + (c.toNat - 48)) % 10 = c.toNat - 48 by omega, ofNat_dig hd.2, ih hl hd.1 (by unfold lead; simp only [Bool.or_eq_true, decide_eq_true_eq]; exact .inr hh')]
/-- decimal digits are digits, without a 0 ahead of others -/
theorem dec_dig : ∀ u : Nat, (decDigits u).all isDig = true ∧ decDigits u ≠ [] ∧ lead (decDigits u) = true ∧ valFrom 0 (decDigits u) = u := by
  intro u
  induction u using Nat.strongRecOn with
  | _ u ih =>
    rw [decDigits]
    have dg : ∀ d, d < 10 → (UInt8.ofNat (48 + d)).toNat = 48 + d := fun d hd => by rw [UInt8.toNat_ofNat']; omega
    split
    · rename_i h
      have e := dg u h
      refine ⟨?_, by simp, ?_, ?_⟩
      · simp only [List.all_cons, List.all_nil, Bool.and_true]
        rw [isDig_iff, e]; omega
      · unfold lead
        simp only [List.head?_cons, Bool.or_eq_true, decide_eq_true_eq]
        by_cases h0 : u = 0
        · left; subst h0; rfl
        · right
          refine decide_eq_true fun e2 => ?_
          injection e2 with e2
          rw [e2] at e
          have : (48 : UInt8).toNat = 48 := rfl
          omega
      · show 0 * 10 + ((UInt8.ofNat (48 + u)).toNat - 48) = u
        rw [e]; omega
    · rename_i h
      have hi := ih (u / 10) (by omega)
      have e := dg (u % 10) (by omega)
      refine ⟨?_, by simp, ?_, ?_⟩
      · rw [List.all_append, hi.1, Bool.true_and]
        simp only [List.all_cons, List.all_nil, Bool.and_true]
        rw [isDig_iff, e]; omega
      · have hl := hi.2.2.1
        unfold lead at hl ⊢
        simp only [Bool.or_eq_true, decide_eq_true_eq] at hl ⊢
        right
        rcases hl with hl | hl
        · exfalso
          have := hi.2.2.2
          rw [hl] at this
          have h0 : valFrom 0 [48] = 0 := rfl
          omega
        · match hm : decDigits (u / 10), hi.2.1, hl with
          | a :: r, _, hl => simpa using hl
      · rw [valFrom_snoc, hi.2.2.2, e]; omega

/-- what the program takes for a part -/
def readOk (l : List UInt8) : Bool := match atoiAll l with
  | .ok v => decide (0 ≤ v) && decide (v ≤ 999999999) && decide (itoa v = l)
  | _ => l.all isLet && !l.isEmpty
/-- what the document takes for one -/
def digOk (l : List UInt8) : Bool := !l.isEmpty && l.all isDig && decide (l.length ≤ 9) && lead l
def letOk (l : List UInt8) : Bool := !l.isEmpty && l.all isLet
theorem val_le {l : List UInt8} (h : digOk l = true) : valFrom 0 l ≤ 999999999 := by
  unfold digOk at h
  simp only [Bool.and_eq_true, Bool.not_eq_true', decide_eq_true_eq] at h
  obtain ⟨⟨⟨h1, h2⟩, h3⟩, h4⟩ := h
  have hne : l ≠ [] := fun e => by subst e; simp at h1
  unfold lead at h4
  simp only [Bool.or_eq_true, decide_eq_true_eq] at h4
  rcases h4 with h4 | h4
  · subst h4; decide
  · have hb := (val_bounds l hne h2 h4).2
    have : 10 ^ l.length ≤ 10 ^ 9 := Nat.pow_le_pow_right (by decide) h3
    omega
theorem atoi_dig {l : List UInt8} (h : digOk l = true) : atoiAll l = .ok (valFrom 0 l : Nat) := by
  have hv := val_le h
  unfold digOk at h
  simp only [Bool.and_eq_true, Bool.not_eq_true', decide_eq_true_eq] at h
  obtain ⟨⟨⟨h1, h2⟩, h3⟩, h4⟩ := h
  match l, h1, h2, hv with
  | c :: r, _, h2, hv =>
    have hc := (isDig_iff c).1 (by simp only [List.all_cons, Bool.and_eq_true] at h2; exact h2.1)
    rw [atoiAll_plain c r (by omega) (by omega)]
    have hp : parseMag (c :: r) = .ok (valFrom 0 (c :: r)) := by unfold parseMag; rw [if_neg (by simp)]; exact parse_ok _ _ h2 (by omega)
    rw [hp]
    unfold signless
    simp only
    rw [if_neg (by omega)]
theorem itoa_nat (u : Nat) : itoa (u : Int) = decDigits u := by unfold itoa; rw [if_neg (by omega)]; simp
theorem read_is (l : List UInt8) : readOk l = (letOk l || digOk l) := by
  by_cases hd : digOk l = true
  · rw [hd, Bool.or_true]
    unfold readOk
    rw [atoi_dig hd]
    have hv := val_le hd
    have hd' := hd
    unfold digOk at hd'
    simp only [Bool.and_eq_true, Bool.not_eq_true', decide_eq_true_eq] at hd'
    have hne : l ≠ [] := fun e => by subst e; simp at hd'
    have e := dec_val l hne hd'.1.1.2 hd'.2
    simp only
    rw [itoa_nat, e, decide_eq_true (by omega), decide_eq_true (by omega), decide_eq_true rfl]
    rfl
  · rw [Bool.eq_false_iff.2 hd, Bool.or_false]
    unfold readOk
    cases ha : atoiAll l with
    | ok v =>
      simp only
      have hnl : letOk l = false := by
        match l, ha with
        | [], ha => rfl
        | c :: r, ha =>
          unfold letOk
          by_cases hc : isLet c = true
          · have := (isLet_iff c).1 hc
            rw [atoiAll_plain c r (by omega) (by omega)] at ha
            have hp : parseMag (c :: r) = parseMag [] := by rw [parseMag, if_neg (by simp), parseUint10, if_neg (by omega)] <;> rfl
            rw [hp] at ha
            cases ha
          · simp [hc]
      rw [hnl]
      by_cases hv : 0 ≤ v ∧ v ≤ 999999999 ∧ itoa v = l
      · exfalso
        apply hd
        obtain ⟨u, rfl⟩ : ∃ u : Nat, v = u := ⟨v.toNat, by omega⟩
        have h2 := hv.2.2
        rw [itoa_nat] at h2
        have hk := dec_dig u
        rw [h2] at hk
        unfold digOk
        have hne : l.isEmpty = false := by cases l with | nil => exact absurd rfl hk.2.1 | cons _ _ => rfl
        rw [hne, hk.1, hk.2.2.1]
        have hlen : l.length ≤ 9 := by
          have hl := hk.2.2.1
          unfold lead at hl
          simp only [Bool.or_eq_true, decide_eq_true_eq] at hl
          rcases hl with hl | hl
          · rw [hl]; decide
          · have hb := (val_bounds l hk.2.1 hk.1 hl).1
            rw [hk.2.2.2] at hb
            by_cases h9 : l.length ≤ 9
            · exact h9
            · exfalso
              have : 10 ^ 9 ≤ 10 ^ (l.length - 1) := Nat.pow_le_pow_right (by decide) (by omega)
              omega
        rw [decide_eq_true hlen]
        rfl
      · by_cases h0 : 0 ≤ v
        · by_cases h1 : v ≤ 999999999
          · have h2 : ¬ itoa v = l := fun e => hv ⟨h0, h1, e⟩
            simp [h2]
          · simp [h1]
        · simp [h0]
    | range => unfold letOk; simp only; rw [Bool.and_comm]
    | _ => unfold letOk; simp only; rw [Bool.and_comm]
end Go.Proofs.YteailgjiifdgcaaGreatDoor.VerN

/- Plain facts: how two parts that are numbers stand to each other. -/
namespace Go.Proofs.YteailgjiifdgcaaGreatDoor.VerN
open Go.Lib

theorem val_lt : ∀ (a b : List UInt8) (x y : Nat), a.length = b.length → a.all isDig = true → b.all isDig = true → (valFrom x a < valFrom y b ↔ x < y ∨ (x = y ∧ a < b))
  | [], [], x, y, _, _, _ => by
    have : ¬ (([] : List UInt8) < []) := List.lt_irrefl _
    show x < y ↔ _
    simp [this]
  | c :: a, e :: b, x, y, hl, ha, hb => by
    simp only [List.all_cons, Bool.and_eq_true] at ha hb
    have hc := (isDig_iff c).1 ha.1
    have he := (isDig_iff e).1 hb.1
    have ih := val_lt a b (x * 10 + (c.toNat - 48)) (y * 10 + (e.toNat - 48)) (by simpa using hl) ha.2 hb.2
    show valFrom (x * 10 + (c.toNat - 48)) a < valFrom (y * 10 + (e.toNat - 48)) b ↔ _
    rw [ih, List.cons_lt_cons_iff]
    have hlt : c < e ↔ c.toNat < e.toNat := UInt8.lt_iff_toNat_lt
    have heq : c = e ↔ c.toNat = e.toNat := UInt8.toNat_inj.symm
    rw [hlt, heq]
    constructor
    · rintro (h | ⟨h, h2⟩)
      · by_cases hxy : x < y
        · exact .inl hxy
        · exact .inr ⟨by omega, .inl (by omega)⟩
      · by_cases hxy : x < y
        · exact .inl hxy
        · exact .inr ⟨by omega, .inr ⟨by omega, h2⟩⟩
    · rintro (h | ⟨h, h2 | ⟨h2, h3⟩⟩)
      · left; omega
      · left; omega
      · right; exact ⟨by omega, h3⟩
theorem dig_lt {a b : List UInt8} (ha : digOk a = true) (hb : digOk b = true) : valFrom 0 a < valFrom 0 b ↔ a.length < b.length ∨ (a.length = b.length ∧ a < b) := by
  have parts : ∀ {l : List UInt8}, digOk l = true → l ≠ [] ∧ l.all isDig = true ∧ (l = [48] ∨ l.head? ≠ some 48) := fun {l} h => by
    unfold digOk lead at h
    simp only [Bool.and_eq_true, Bool.not_eq_true', Bool.or_eq_true, decide_eq_true_eq] at h
    exact ⟨fun e => by subst e; simp at h, h.1.1.2, h.2⟩
  obtain ⟨a1, a2, a3⟩ := parts ha
  obtain ⟨b1, b2, b3⟩ := parts hb
  have bnd : ∀ {l : List UInt8}, l ≠ [] → l.all isDig = true → (l = [48] ∨ l.head? ≠ some 48) → valFrom 0 l < 10 ^ l.length ∧ (2 ≤ l.length → 10 ^ (l.length - 1) ≤ valFrom 0 l) := fun {l} h1 h2 h3 => by
    rcases h3 with h3 | h3
    · subst h3; exact ⟨by decide, fun h => by simp at h⟩
    · have := val_bounds l h1 h2 h3
      exact ⟨this.2, fun _ => this.1⟩
  have ba := bnd a1 a2 a3
  have bb := bnd b1 b2 b3
  have la : 0 < a.length := List.length_pos_iff.2 a1
  have lb : 0 < b.length := List.length_pos_iff.2 b1
  rcases Nat.lt_trichotomy a.length b.length with h | h | h
  · have := bb.2 (by omega)
    have hp : 10 ^ a.length ≤ 10 ^ (b.length - 1) := Nat.pow_le_pow_right (by decide) (by omega)
    exact ⟨fun _ => .inl h, fun _ => by omega⟩
  · rw [val_lt a b 0 0 h a2 b2]
    simp [h]
  · have := ba.2 (by omega)
    have hp : 10 ^ b.length ≤ 10 ^ (a.length - 1) := Nat.pow_le_pow_right (by decide) (by omega)
    exact ⟨fun _ => by omega, fun hh => by omega⟩
end Go.Proofs.YteailgjiifdgcaaGreatDoor.VerN

/- Plain facts: how two parts stand to each other, by ranks, numbers and words, is the document's. -/
namespace Go.Proofs.YteailgjiifdgcaaGreatDoor.VerN
open Go.Lib

/-- a part, or the end: what is empty -/
def Part (l : List UInt8) : Prop := l = [] ∨ letOk l = true ∨ digOk l = true
def rankOf (l : List UInt8) : Int := if l = [] then 1 else if letOk l = true then 0 else 2
def numOf (l : List UInt8) : Int := if letOk l = true then 0 else (valFrom 0 l : Nat)
def wordOf (l : List UInt8) : List UInt8 := if letOk l = true then l else []
def cmpI (x y : Int) : Int := if x < y then -1 else if x > y then 1 else 0
def cmpW (x y : List UInt8) : Int := if x < y then -1 else if y < x then 1 else 0
/-- the program's way -/
def pcmp (a b : List UInt8) : Int := if cmpI (rankOf a) (rankOf b) ≠ 0 then cmpI (rankOf a) (rankOf b) else if cmpI (numOf a) (numOf b) ≠ 0 then cmpI (numOf a) (numOf b) else cmpW (wordOf a) (wordOf b)
def digs (l : List UInt8) : Bool := l.all isDig && !l.isEmpty
/-- the document's way -/
def before (a b : List UInt8) : Bool :=
  if a = b then false else if a = [] then digs b else if b = [] then letOk a else if letOk a ≠ letOk b then letOk a else if digs a && decide (a.length ≠ b.length) then decide (a.length < b.length) else decide (a < b)
theorem not_both {l : List UInt8} (h : letOk l = true) : digs l = false ∧ digOk l = false := by
  match l with
  | [] => exact ⟨rfl, rfl⟩
  | c :: r =>
    unfold letOk at h
    simp only [List.all_cons, Bool.and_eq_true] at h
    have hc := (isLet_iff c).1 h.2.1
    have hd : isDig c = false := by unfold isDig; rw [decide_eq_true (by omega), decide_eq_false (by omega)]; rfl
    unfold digs digOk
    simp [hd]
theorem digs_of {l : List UInt8} (h : digOk l = true) : digs l = true ∧ letOk l = false ∧ l ≠ [] := by
  have hl : letOk l = false := by
    cases e : letOk l
    · rfl
    · rw [(not_both e).2] at h; cases h
  unfold digOk at h
  simp only [Bool.and_eq_true] at h
  refine ⟨by unfold digs; rw [h.1.1.2, h.1.1.1]; rfl, hl, fun e => by subst e; simp at h⟩
theorem let_ne {l : List UInt8} (h : letOk l = true) : l ≠ [] := fun e => by subst e; simp [letOk] at h
theorem cmpI_self (x : Int) : cmpI x x = 0 := by unfold cmpI; rw [if_neg (by omega), if_neg (by omega)]
theorem cmpW_self (x : List UInt8) : cmpW x x = 0 := by unfold cmpW; rw [if_neg (List.lt_irrefl _), if_neg (List.lt_irrefl _)]
theorem dec_ne {a b : List UInt8} (h : a ≠ b) (h1 : ¬ a < b) : b < a := by
  rcases List.le_total a b with h2 | h2
  · by_cases h3 : b < a
    · exact h3
    · exact absurd (List.le_antisymm h2 (List.not_lt.1 h1)) h
  · by_cases h3 : b < a
    · exact h3
    · exact absurd (List.le_antisymm (List.not_lt.1 h3) (List.not_lt.1 h1)) h
theorem rk_end : rankOf [] = 1 := rfl
theorem rk_let {l : List UInt8} (h : letOk l = true) : rankOf l = 0 := by unfold rankOf; rw [if_neg (let_ne h), if_pos h]
theorem rk_dig {l : List UInt8} (h : digOk l = true) : rankOf l = 2 := by unfold rankOf; rw [if_neg (digs_of h).2.2, if_neg (by rw [(digs_of h).2.1]; simp)]
theorem pcmp_rank {a b : List UInt8} {x y : Int} (ha : rankOf a = x) (hb : rankOf b = y) (h : cmpI x y ≠ 0) : pcmp a b = cmpI x y := by unfold pcmp; rw [ha, hb, if_pos h]
theorem pcmp_is {a b : List UInt8} (ha : Part a) (hb : Part b) : pcmp a b = if before a b = true then -1 else if before b a = true then 1 else 0 := by
  by_cases hab : a = b
  · subst hab
    unfold pcmp before
    rw [cmpI_self, cmpI_self, cmpW_self]
    simp
  · have hba : ¬ b = a := fun e => hab e.symm
    rcases ha with ha | ha | ha
    · subst ha
      rcases hb with hb | hb | hb
      · subst hb; exact absurd rfl hab
      · have hn := let_ne hb
        have hd := (not_both hb).1
        have e1 : before [] b = false := by unfold before; rw [if_neg hab, if_pos rfl]; exact hd
        have e2 : before b [] = true := by unfold before; rw [if_neg hba, if_neg hn, if_pos rfl]; exact hb
        rw [e1, e2, pcmp_rank rk_end (rk_let hb) (by decide)]
        rfl
      · obtain ⟨h1, h2, h3⟩ := digs_of hb
        have e1 : before [] b = true := by unfold before; rw [if_neg hab, if_pos rfl]; exact h1
        rw [e1, pcmp_rank rk_end (rk_dig hb) (by decide)]
        rfl
    · have hna := let_ne ha
      rcases hb with hb | hb | hb
      · subst hb
        have e1 : before a [] = true := by unfold before; rw [if_neg hab, if_neg hna, if_pos rfl]; exact ha
        rw [e1, pcmp_rank (rk_let ha) rk_end (by decide)]
        rfl
      · have hnb := let_ne hb
        have hda := (not_both ha).1
        have hdb := (not_both hb).1
        have e1 : before a b = decide (a < b) := by unfold before; rw [if_neg hab, if_neg hna, if_neg hnb, if_neg (by rw [ha, hb]; simp), hda]; rfl
        have e2 : before b a = decide (b < a) := by unfold before; rw [if_neg hba, if_neg hnb, if_neg hna, if_neg (by rw [ha, hb]; simp), hdb]; rfl
        rw [e1, e2]
        unfold pcmp rankOf numOf wordOf cmpW
        simp only [if_neg hna, if_neg hnb, if_pos ha, if_pos hb, cmpI_self, ne_eq, not_true_eq_false, if_false, decide_eq_true_eq]
      · obtain ⟨h1, h2, h3⟩ := digs_of hb
        have e1 : before a b = true := by unfold before; rw [if_neg hab, if_neg hna, if_neg h3, if_pos (by rw [ha, h2]; simp)]; exact ha
        rw [e1, pcmp_rank (rk_let ha) (rk_dig hb) (by decide)]
        rfl
    · obtain ⟨g1, g2, g3⟩ := digs_of ha
      rcases hb with hb | hb | hb
      · subst hb
        have e1 : before a [] = false := by unfold before; rw [if_neg hab, if_neg g3, if_pos rfl]; exact g2
        have e2 : before [] a = true := by unfold before; rw [if_neg hba, if_pos rfl]; exact g1
        rw [e1, e2, pcmp_rank (rk_dig ha) rk_end (by decide)]
        rfl
      · have hnb := let_ne hb
        have e1 : before a b = false := by unfold before; rw [if_neg hab, if_neg g3, if_neg hnb, if_pos (by rw [g2, hb]; simp)]; exact g2
        have e2 : before b a = true := by unfold before; rw [if_neg hba, if_neg hnb, if_neg g3, if_pos (by rw [g2, hb]; simp)]; exact hb
        rw [e1, e2, pcmp_rank (rk_dig ha) (rk_let hb) (by decide)]
        rfl
      · obtain ⟨h1, h2, h3⟩ := digs_of hb
        have l1 := dig_lt ha hb
        have l2 := dig_lt hb ha
        have e1 : before a b = true ↔ valFrom 0 a < valFrom 0 b := by
          unfold before
          rw [if_neg hab, if_neg g3, if_neg h3, if_neg (by rw [g2, h2]; simp), g1, l1]
          by_cases hl : a.length = b.length
          · simp [hl]
          · simp [hl]
        have e2 : before b a = true ↔ valFrom 0 b < valFrom 0 a := by
          unfold before
          rw [if_neg hba, if_neg h3, if_neg g3, if_neg (by rw [g2, h2]; simp), h1, l2]
          by_cases hl : b.length = a.length
          · simp [hl]
          · simp [hl]
        have hne : valFrom 0 a ≠ valFrom 0 b := fun e => by
          have n1 : ¬ (a.length < b.length ∨ (a.length = b.length ∧ a < b)) := fun h => by have := l1.2 h; omega
          have n2 : ¬ (b.length < a.length ∨ (b.length = a.length ∧ b < a)) := fun h => by have := l2.2 h; omega
          have hl : a.length = b.length := by omega
          exact n2 (.inr ⟨hl.symm, dec_ne hab fun h => n1 (.inr ⟨hl, h⟩)⟩)
        have na : numOf a = (valFrom 0 a : Int) := by unfold numOf; rw [if_neg (by rw [g2]; simp)]
        have nb : numOf b = (valFrom 0 b : Int) := by unfold numOf; rw [if_neg (by rw [h2]; simp)]
        have hp : ∀ z, cmpI (valFrom 0 a : Int) (valFrom 0 b : Int) = z → z ≠ 0 → pcmp a b = z := fun z hz h0 => by
          unfold pcmp
          rw [rk_dig ha, rk_dig hb, cmpI_self, if_neg (by simp), na, nb, hz, if_pos h0]
        rcases Nat.lt_or_gt_of_ne hne with h | h
        · rw [if_pos (e1.2 h)]
          exact hp (-1) (by unfold cmpI; rw [if_pos (by omega)]) (by decide)
        · rw [if_neg (fun h' => by have := e1.1 h'; omega), if_pos (e2.2 h)]
          exact hp 1 (by unfold cmpI; rw [if_neg (by omega), if_pos (by omega)]) (by decide)
end Go.Proofs.YteailgjiifdgcaaGreatDoor.VerN

/- Plain facts: how a text is cut, which texts are versions, and that they stand in a row. -/
namespace Go.Proofs.YteailgjiifdgcaaGreatDoor.VerN
open Go.Lib

/-- a text cut at a byte; acc: what was read of the part that is under way -/
def cutF (c : UInt8) : List UInt8 → List UInt8 → List (List UInt8)
  | acc, [] => [acc]
  | acc, x :: r => if x = c then acc :: cutF c [] r else cutF c (acc ++ [x]) r
def cutL (c : UInt8) (l : List UInt8) : List (List UInt8) := cutF c [] l
theorem cutF_cons_ne {c x : UInt8} (acc r : List UInt8) (h : x ≠ c) : cutF c acc (x :: r) = cutF c (acc ++ [x]) r := by rw [cutF, if_neg h]
theorem cutF_cons_eq (c : UInt8) (acc r : List UInt8) : cutF c acc (c :: r) = acc :: cutF c [] r := by rw [cutF, if_pos rfl]
theorem cutF_miss (c : UInt8) : ∀ (r acc : List UInt8), indexByte r c = -1 → cutF c acc r = [acc ++ r]
  | [], acc, _ => by rw [List.append_nil]; rfl
  | x :: r, acc, h => by
    unfold indexByte at h
    split at h
    · cases h
    · rename_i hx
      have hx' : x ≠ c := fun e => hx (by rw [e]; simp)
      have hr : indexByte r c = -1 := by
        split at h
        · rename_i e; exact beq_iff_eq.1 e
        · have := indexByte_ge r c; omega
      rw [cutF_cons_ne _ _ hx', cutF_miss c r _ hr, List.append_assoc]
      rfl
theorem cutF_hit (c : UInt8) : ∀ (r acc : List UInt8) (i : Nat), indexByte r c = i → cutF c acc r = (acc ++ r.take i) :: cutL c (r.drop (i + 1))
  | [], acc, i, h => by unfold indexByte at h; omega
  | x :: r, acc, i, h => by
    unfold indexByte at h
    split at h
    · rename_i hx
      have hx' : x = c := by simpa using hx
      have hi : i = 0 := by omega
      subst hi; subst hx'
      rw [cutF_cons_eq]
      simp [cutL]
    · rename_i hx
      have hx' : x ≠ c := fun e => hx (by rw [e]; simp)
      split at h
      · omega
      · rename_i hm
        obtain ⟨j, rfl⟩ : ∃ j, i = j + 1 := ⟨i - 1, by
          have := indexByte_ge r c
          have h0 : indexByte r c ≠ -1 := fun e => hm (by rw [e]; rfl)
          omega⟩
        have hr : indexByte r c = j := by omega
        rw [cutF_cons_ne _ _ hx', cutF_hit c r _ j hr, List.append_assoc]
        rfl
theorem cutF_len (c : UInt8) : ∀ (r acc : List UInt8), 1 ≤ (cutF c acc r).length ∧ (cutF c acc r).length ≤ r.length + 1
  | [], acc => ⟨Nat.le_refl _, Nat.le_refl _⟩
  | x :: r, acc => by
    by_cases h : x = c
    · subst h
      have := cutF_len x r []
      rw [cutF_cons_eq]
      simp only [List.length_cons]
      omega
    · have := cutF_len c r (acc ++ [x])
      rw [cutF_cons_ne _ _ h]
      simp only [List.length_cons]
      omega
theorem cutL_len (c : UInt8) (l : List UInt8) : 1 ≤ (cutL c l).length ∧ (cutL c l).length ≤ l.length + 1 := cutF_len c l []
theorem cutF_piece (c : UInt8) : ∀ (r acc p : List UInt8), p ∈ cutF c acc r → p.length ≤ acc.length + r.length
  | [], acc, p, h => by
    rw [show cutF c acc [] = [acc] from rfl, List.mem_singleton] at h
    subst h; omega
  | x :: r, acc, p, h => by
    by_cases hx : x = c
    · subst hx
      rw [cutF_cons_eq] at h
      rcases List.mem_cons.1 h with rfl | h
      · simp
      · have := cutF_piece x r [] p h
        simp only [List.length_cons, List.length_nil] at this ⊢
        omega
    · rw [cutF_cons_ne _ _ hx] at h
      have := cutF_piece c r _ p h
      simp only [List.length_append, List.length_cons, List.length_nil] at this ⊢
      omega
/-- two texts with the byte between are cut as each -/
theorem cutF_join (c : UInt8) : ∀ (a acc b : List UInt8), cutF c acc (a ++ c :: b) = cutF c acc a ++ cutL c b
  | [], acc, b => by rw [List.nil_append, cutF_cons_eq]; rfl
  | x :: r, acc, b => by
    rw [List.cons_append]
    by_cases hx : x = c
    · subst hx
      rw [cutF_cons_eq, cutF_cons_eq, cutF_join x r [] b]; rfl
    · rw [cutF_cons_ne _ _ hx, cutF_cons_ne _ _ hx, cutF_join c r _ b]
theorem cutL_join (c : UInt8) (a b : List UInt8) : cutL c (a ++ c :: b) = cutL c a ++ cutL c b := cutF_join c a [] b
/-- the parts put together again -/
def glue (c : UInt8) : List (List UInt8) → List UInt8
  | [] => []
  | [p] => p
  | p :: q :: r => p ++ c :: glue c (q :: r)
theorem glue_cut (c : UInt8) : ∀ (r acc : List UInt8), glue c (cutF c acc r) = acc ++ r
  | [], acc => by rw [List.append_nil]; rfl
  | x :: r, acc => by
    by_cases hx : x = c
    · subst hx
      rw [cutF_cons_eq]
      have h := glue_cut x r []
      have hl := (cutF_len x r []).1
      match hm : cutF x [] r, hl with
      | q :: t, _ =>
        rw [hm] at h
        rw [glue, h]; rfl
    · rw [cutF_cons_ne _ _ hx, glue_cut c r, List.append_assoc]; rfl
theorem cutL_inj {c : UInt8} {a b : List UInt8} (h : cutL c a = cutL c b) : a = b := by
  have h1 := glue_cut c a []
  have h2 := glue_cut c b []
  rw [show cutF c [] a = cutL c a from rfl, h] at h1
  rw [show cutF c [] b = cutL c b from rfl] at h2
  rw [h1] at h2
  simpa using h2
theorem cutF_none (c : UInt8) (r acc : List UInt8) (h : ∀ x ∈ r, x ≠ c) : cutF c acc r = [acc ++ r] := by
  induction r generalizing acc with
  | nil => rw [List.append_nil]; rfl
  | cons x r ih =>
    rw [cutF_cons_ne _ _ (h x (by simp)), ih _ fun y hy => h y (by simp [hy]), List.append_assoc]; rfl

/-- a part -/
def partL (l : List UInt8) : Bool := letOk l || digOk l
theorem part_ne {l : List UInt8} (h : partL l = true) : l ≠ [] := by
  unfold partL at h
  rcases Bool.or_eq_true _ _ ▸ h with h | h
  · exact let_ne h
  · exact (digs_of h).2.2
theorem part_of {l : List UInt8} (h : partL l = true) : Part l := by
  unfold partL at h
  rcases Bool.or_eq_true _ _ ▸ h with h | h
  · exact .inr (.inl h)
  · exact .inr (.inr h)
/-- whether a text is a version -/
def mayL (l : List UInt8) : Bool := decide (l ≠ []) && decide (l.length ≤ 40) && (cutL 46 l).all partL && decide ((cutL 46 l).length ≤ 8)
theorem may_iff (l : List UInt8) : mayL l = true ↔ l ≠ [] ∧ l.length ≤ 40 ∧ (∀ p ∈ cutL 46 l, partL p = true) ∧ (cutL 46 l).length ≤ 8 := by
  unfold mayL
  simp [and_assoc]

/-- how two rows of parts stand to each other from a place on -/
def cmpFrom (x y : List (List UInt8)) : Nat → Nat → Int
  | _, 0 => 0
  | i, n + 1 => if pcmp (x.getD i []) (y.getD i []) ≠ 0 then pcmp (x.getD i []) (y.getD i []) else cmpFrom x y (i + 1) n
def compareL (a b : List UInt8) : Int :=
  if mayL a = false ∧ mayL b = false then 0 else if mayL a = false then -1 else if mayL b = false then 1 else cmpFrom (cutL 46 a) (cutL 46 b) 0 (max (cutL 46 a).length (cutL 46 b).length)

/-- a way to stand to each other -/
structure Row {α : Type} (c : α → α → Int) : Prop where
  tri : ∀ x y, c x y = -1 ∨ c x y = 0 ∨ c x y = 1
  neg : ∀ x y, c y x = -c x y
  trans : ∀ x y z, c x y ≤ 0 → c y z ≤ 0 → c x z ≤ 0
theorem Row.lt1 {α : Type} {c : α → α → Int} (h : Row c) {x y z : α} (h1 : c x y < 0) (h2 : c y z ≤ 0) : c x z < 0 := by
  by_cases h3 : c x z < 0
  · exact h3
  · have a := h.neg x z
    have b := h.neg x y
    have := h.trans y z x h2 (by omega)
    omega
theorem Row.lt2 {α : Type} {c : α → α → Int} (h : Row c) {x y z : α} (h1 : c x y ≤ 0) (h2 : c y z < 0) : c x z < 0 := by
  by_cases h3 : c x z < 0
  · exact h3
  · have a := h.neg x z
    have b := h.neg y z
    have := h.trans z x y (by omega) h1
    omega
theorem Row.eq {α : Type} {c : α → α → Int} (h : Row c) {x y z : α} (h1 : c x y = 0) (h2 : c y z = 0) : c x z = 0 := by
  have a := h.trans x y z (by omega) (by omega)
  have b := h.trans z y x (by rw [h.neg]; omega) (by rw [h.neg]; omega)
  have d := h.neg x z
  omega
def thenBy {α : Type} (c d : α → α → Int) (x y : α) : Int := if c x y ≠ 0 then c x y else d x y
theorem Row.thenBy {α : Type} {c d : α → α → Int} (hc : Row c) (hd : Row d) : Row (thenBy c d) := by
  refine ⟨fun x y => ?_, fun x y => ?_, fun x y z h1 h2 => ?_⟩
  · unfold VerN.thenBy; split
    · exact hc.tri x y
    · exact hd.tri x y
  · unfold VerN.thenBy
    have := hc.neg x y
    by_cases h : c x y = 0
    · rw [if_neg (by omega), if_neg (by omega)]; exact hd.neg x y
    · rw [if_pos (by omega), if_pos (by omega)]; exact this
  · unfold VerN.thenBy at h1 h2 ⊢
    by_cases a : c x y = 0
    · rw [if_neg (by omega)] at h1
      by_cases b : c y z = 0
      · rw [if_neg (by omega)] at h2
        rw [if_neg (by rw [hc.eq a b]; omega)]
        exact hd.trans x y z h1 h2
      · rw [if_pos b] at h2
        have := hc.lt2 (x := x) (by omega : c x y ≤ 0) (by omega : c y z < 0)
        rw [if_pos (by omega)]; omega
    · rw [if_pos a] at h1
      have h3 : c y z ≤ 0 := by
        by_cases b : c y z = 0
        · omega
        · rw [if_pos b] at h2; exact h2
      have := hc.lt1 (z := z) (by omega : c x y < 0) h3
      rw [if_pos (by omega)]; omega
theorem Row.map {α β : Type} {c : α → α → Int} (h : Row c) (f : β → α) : Row fun x y => c (f x) (f y) :=
  ⟨fun x y => h.tri _ _, fun x y => h.neg _ _, fun x y z => h.trans _ _ _⟩
theorem row_int : Row cmpI := by
  refine ⟨fun x y => ?_, fun x y => ?_, fun x y z => ?_⟩ <;> unfold cmpI
  · split
    · exact .inl rfl
    · split
      · exact .inr (.inr rfl)
      · exact .inr (.inl rfl)
  · by_cases h1 : x < y
    · have h3 : ¬ y < x := by omega
      simp [h1, h3]
    · by_cases h2 : y < x
      · simp [h1, h2]
      · simp [h1, h2]
  · have le : ∀ x y : Int, (if x < y then (-1 : Int) else if x > y then 1 else 0) ≤ 0 ↔ x ≤ y := fun x y => by
      by_cases h1 : x < y
      · rw [if_pos h1]; exact ⟨fun _ => by omega, fun _ => by omega⟩
      · rw [if_neg h1]
        by_cases h2 : x > y
        · rw [if_pos h2]; exact ⟨fun h => by omega, fun h => by omega⟩
        · rw [if_neg h2]; exact ⟨fun _ => by omega, fun _ => by omega⟩
    rw [le, le, le]
    omega
theorem getD_lt {x : List (List UInt8)} {i : Nat} (h : i < x.length) : x.getD i [] = x[i] := by rw [List.getD, List.getElem?_eq_getElem h]; rfl
theorem getD_ge {x : List (List UInt8)} {i : Nat} (h : x.length ≤ i) : x.getD i [] = [] := by rw [List.getD, List.getElem?_eq_none h]; rfl
theorem row_words : Row cmpW := by
  have asy : ∀ x y : List UInt8, x < y → ¬ y < x := fun x y h1 h2 => List.lt_irrefl x (List.lt_trans h1 h2)
  have le : ∀ x y, cmpW x y ≤ 0 ↔ x ≤ y := fun x y => by
    unfold cmpW
    by_cases h1 : x < y
    · rw [if_pos h1]; exact ⟨fun _ => List.not_lt.1 (asy _ _ h1), fun _ => by omega⟩
    · rw [if_neg h1]
      by_cases h2 : y < x
      · rw [if_pos h2]; exact ⟨fun h => by omega, fun h => absurd h2 (List.not_lt.2 h)⟩
      · rw [if_neg h2]; exact ⟨fun _ => List.not_lt.1 h2, fun _ => by omega⟩
  refine ⟨fun x y => ?_, fun x y => ?_, fun x y z h1 h2 => ?_⟩
  · unfold cmpW; split
    · exact .inl rfl
    · split
      · exact .inr (.inr rfl)
      · exact .inr (.inl rfl)
  · unfold cmpW
    by_cases h1 : x < y
    · rw [if_neg (asy _ _ h1), if_pos h1, if_pos h1]; rfl
    · by_cases h2 : y < x
      · rw [if_pos h2, if_neg h1, if_pos h2]
      · rw [if_neg h2, if_neg h1, if_neg h1, if_neg h2]; rfl
  · rw [le] at h1 h2 ⊢
    exact List.le_trans h1 h2
theorem pcmp_thenBy : pcmp = thenBy (fun a b => cmpI (rankOf a) (rankOf b)) (thenBy (fun a b => cmpI (numOf a) (numOf b)) (fun a b => cmpW (wordOf a) (wordOf b))) := by
  funext a b
  rfl
theorem row_parts : Row pcmp := by
  rw [pcmp_thenBy]
  exact (row_int.map rankOf).thenBy ((row_int.map numOf).thenBy (row_words.map wordOf))
theorem row_from : ∀ (n i : Nat), Row fun x y => cmpFrom x y i n
  | 0, i => ⟨fun _ _ => .inr (.inl rfl), fun _ _ => rfl, fun _ _ _ _ _ => Int.le_refl _⟩
  | n + 1, i => (row_parts.map fun x : List (List UInt8) => x.getD i []).thenBy (row_from n (i + 1))
/-- behind both there is nothing that tells -/
theorem from_more (x y : List (List UInt8)) : ∀ (n k i : Nat), x.length ≤ i + n → y.length ≤ i + n → cmpFrom x y i (n + k) = cmpFrom x y i n
  | 0, 0, _, _, _ => rfl
  | 0, k + 1, i, hx, hy => by
    have e : cmpFrom x y i (k + 1) = if pcmp (x.getD i []) (y.getD i []) ≠ 0 then pcmp (x.getD i []) (y.getD i []) else cmpFrom x y (i + 1) k := rfl
    rw [Nat.zero_add, e, getD_ge (by omega), getD_ge (by omega), if_neg (by decide)]
    have := from_more x y 0 k (i + 1) (by omega) (by omega)
    rw [Nat.zero_add] at this
    exact this
  | n + 1, k, i, hx, hy => by
    rw [show n + 1 + k = (n + k) + 1 by omega, cmpFrom, cmpFrom, from_more x y n k (i + 1) (by omega) (by omega)]
theorem from_any {x y : List (List UInt8)} {N : Nat} (hx : x.length ≤ N) (hy : y.length ≤ N) : cmpFrom x y 0 (max x.length y.length) = cmpFrom x y 0 N := by
  have := from_more x y (max x.length y.length) (N - max x.length y.length) 0 (by omega) (by omega)
  rw [show max x.length y.length + (N - max x.length y.length) = N by omega] at this
  exact this.symm
theorem compare_eight (a b : List UInt8) : compareL a b = if mayL a = false ∧ mayL b = false then 0 else if mayL a = false then -1 else if mayL b = false then 1 else cmpFrom (cutL 46 a) (cutL 46 b) 0 8 := by
  unfold compareL
  cases ha : mayL a
  · simp
  · cases hb : mayL b
    · simp
    · have h1 := ((may_iff a).1 ha).2.2.2
      have h2 := ((may_iff b).1 hb).2.2.2
      simp only [Bool.true_eq_false, and_self, if_false]
      exact from_any h1 h2
/-- all texts stand in a row -/
theorem row_compare : Row compareL := by
  have R := row_from 8 0
  refine ⟨fun x y => ?_, fun x y => ?_, fun x y z => ?_⟩
  · rw [compare_eight]
    split
    · exact .inr (.inl rfl)
    · split
      · exact .inl rfl
      · split
        · exact .inr (.inr rfl)
        · exact R.tri _ _
  · rw [compare_eight, compare_eight]
    cases mayL x <;> cases mayL y <;> simp
    exact R.neg _ _
  · rw [compare_eight, compare_eight, compare_eight]
    cases mayL x <;> cases mayL y <;> cases mayL z <;> simp
    exact R.trans _ _ _
/-- parts that are alike are the same -/
theorem pcmp_zero {a b : List UInt8} (ha : Part a) (hb : Part b) (h : pcmp a b = 0) : a = b := by
  rw [pcmp_is ha hb] at h
  by_cases hab : a = b
  · exact hab
  · exfalso
    by_cases h1 : before a b = true
    · rw [if_pos h1] at h; cases h
    · rw [if_neg h1] at h
      by_cases h2 : before b a = true
      · rw [if_pos h2] at h; cases h
      · have h3 := pcmp_is ha hb
        rw [if_neg h1, if_neg h2] at h3
        unfold pcmp at h3
        by_cases e1 : cmpI (rankOf a) (rankOf b) = 0
        · rw [if_neg (by omega)] at h3
          by_cases e2 : cmpI (numOf a) (numOf b) = 0
          · rw [if_neg (by omega)] at h3
            have r : rankOf a = rankOf b := by unfold cmpI at e1; split at e1; omega; split at e1 <;> omega
            have n : numOf a = numOf b := by unfold cmpI at e2; split at e2; omega; split at e2 <;> omega
            have w : wordOf a = wordOf b := by
              by_cases e : wordOf a = wordOf b
              · exact e
              · unfold cmpW at h3
                by_cases l1 : wordOf a < wordOf b
                · rw [if_pos l1] at h3; omega
                · rw [if_neg l1, if_pos (dec_ne e l1)] at h3; omega
            apply hab
            rcases ha with rfl | ha | ha
            · rcases hb with rfl | hb | hb
              · rfl
              · rw [rk_let hb] at r; exact absurd r (by decide)
              · rw [rk_dig hb] at r; exact absurd r (by decide)
            · rcases hb with rfl | hb | hb
              · rw [rk_let ha] at r; exact absurd r (by decide)
              · unfold wordOf at w; rwa [if_pos ha, if_pos hb] at w
              · rw [rk_let ha, rk_dig hb] at r; omega
            · rcases hb with rfl | hb | hb
              · rw [rk_dig ha] at r; exact absurd r (by decide)
              · rw [rk_dig ha, rk_let hb] at r; omega
              · have va : numOf a = (valFrom 0 a : Nat) := by unfold numOf; rw [if_neg (by rw [(digs_of ha).2.1]; simp)]
                have vb : numOf b = (valFrom 0 b : Nat) := by unfold numOf; rw [if_neg (by rw [(digs_of hb).2.1]; simp)]
                have v : valFrom 0 a = valFrom 0 b := by omega
                have ha' := ha
                have hb' := hb
                unfold digOk at ha' hb'
                simp only [Bool.and_eq_true] at ha' hb'
                have e1 := dec_val a (digs_of ha).2.2 ha'.1.1.2 ha'.2
                have e2 := dec_val b (digs_of hb).2.2 hb'.1.1.2 hb'.2
                rw [← e1, ← e2, v]
          · rw [if_pos e2] at h3; omega
        · rw [if_pos e1] at h3; omega
theorem part_getD {x : List (List UInt8)} (h : ∀ p ∈ x, partL p = true) (i : Nat) : Part (x.getD i []) := by
  by_cases hi : i < x.length
  · rw [getD_lt hi]; exact part_of (h _ (List.getElem_mem hi))
  · rw [getD_ge (by omega)]; exact .inl rfl
theorem from_zero {x y : List (List UInt8)} (hx : ∀ p ∈ x, partL p = true) (hy : ∀ p ∈ y, partL p = true) : ∀ (n i : Nat), cmpFrom x y i n = 0 → ∀ j, i ≤ j → j < i + n → x.getD j [] = y.getD j []
  | 0, i, _, j, h1, h2 => by omega
  | n + 1, i, h, j, h1, h2 => by
    unfold cmpFrom at h
    by_cases h0 : pcmp (x.getD i []) (y.getD i []) = 0
    · rw [if_neg (by omega)] at h
      rcases Nat.eq_or_lt_of_le h1 with rfl | h3
      · exact pcmp_zero (part_getD hx i) (part_getD hy i) h0
      · exact from_zero hx hy n (i + 1) h j h3 (by omega)
    · rw [if_pos h0] at h; exact absurd h h0
theorem lists_eq {x y : List (List UInt8)} (hx : ∀ p ∈ x, partL p = true) (hy : ∀ p ∈ y, partL p = true) (h : ∀ j, j < max x.length y.length → x.getD j [] = y.getD j []) : x = y := by
  have hl : x.length = y.length := by
    rcases Nat.lt_trichotomy x.length y.length with h1 | h1 | h1
    · exfalso
      have := h x.length (by omega)
      rw [getD_ge (Nat.le_refl _), getD_lt h1] at this
      exact part_ne (hy _ (List.getElem_mem h1)) this.symm
    · exact h1
    · exfalso
      have := h y.length (by omega)
      rw [getD_ge (x := y) (Nat.le_refl _), getD_lt h1] at this
      exact part_ne (hx _ (List.getElem_mem h1)) this
  refine List.ext_getElem hl fun i h1 h2 => ?_
  have := h i (by omega)
  rwa [getD_lt h1, getD_lt h2] at this
/-- versions that are alike are the same text -/
theorem compare_zero {a b : List UInt8} (h : compareL a b = 0) : a = b ∨ mayL a = false ∧ mayL b = false := by
  unfold compareL at h
  cases ha : mayL a
  · cases hb : mayL b
    · exact .inr ⟨rfl, rfl⟩
    · rw [ha, hb] at h; simp at h
  · cases hb : mayL b
    · rw [ha, hb] at h; simp at h
    · rw [ha, hb] at h
      simp only [Bool.true_eq_false, and_self, if_false] at h
      have h1 := ((may_iff a).1 ha).2.2.1
      have h2 := ((may_iff b).1 hb).2.2.1
      exact .inl (cutL_inj (lists_eq h1 h2 fun j hj => from_zero h1 h2 _ 0 h j (Nat.zero_le _) (by omega)))

/-- the document's way: does a text stand ahead of another one? -/
def lessFrom (x y : List (List UInt8)) : Nat → Nat → Bool
  | _, 0 => false
  | i, n + 1 => if before (x.getD i []) (y.getD i []) = true then true else if before (y.getD i []) (x.getD i []) = true then false else lessFrom x y (i + 1) n
def lessL (a b : List UInt8) : Bool := if mayL a = false ∨ mayL b = false then !mayL a && mayL b else lessFrom (cutL 46 a) (cutL 46 b) 0 (max (cutL 46 a).length (cutL 46 b).length)
theorem less_from {x y : List (List UInt8)} (hx : ∀ p ∈ x, partL p = true) (hy : ∀ p ∈ y, partL p = true) : ∀ (n i : Nat), lessFrom x y i n = decide (cmpFrom x y i n = -1)
  | 0, _ => rfl
  | n + 1, i => by
    unfold lessFrom cmpFrom
    rw [pcmp_is (part_getD hx i) (part_getD hy i)]
    by_cases h1 : before (x.getD i []) (y.getD i []) = true
    · rw [if_pos h1, if_pos h1]; rfl
    · rw [if_neg h1, if_neg h1]
      by_cases h2 : before (y.getD i []) (x.getD i []) = true
      · rw [if_pos h2, if_pos h2]; rfl
      · rw [if_neg h2, if_neg h2, less_from hx hy n (i + 1)]; rfl
theorem less_is (a b : List UInt8) : lessL a b = decide (compareL a b = -1) := by
  unfold lessL compareL
  cases ha : mayL a
  · cases hb : mayL b <;> simp
  · cases hb : mayL b
    · simp
    · simp only [Bool.true_eq_false, or_self, and_self, if_false]
      exact less_from ((may_iff a).1 ha).2.2.1 ((may_iff b).1 hb).2.2.1 _ _
def compareD (a b : List UInt8) : Int := if lessL a b = true then -1 else if lessL b a = true then 1 else 0
theorem compareD_is (a b : List UInt8) : compareD a b = compareL a b := by
  unfold compareD
  rw [less_is, less_is]
  have h1 := row_compare.tri a b
  have h2 := row_compare.neg a b
  simp only [decide_eq_true_eq]
  by_cases e : compareL a b = -1
  · rw [if_pos e, e]
  · rw [if_neg e]
    by_cases e2 : compareL b a = -1
    · rw [if_pos e2]; omega
    · rw [if_neg e2]; omega
end Go.Proofs.YteailgjiifdgcaaGreatDoor.VerN

/- Plain facts: a text cut into texts. -/
namespace Go.Proofs.YteailgjiifdgcaaGreatDoor.VerN
open Go.Lib

theorem ba_ext {x y : ByteArray} (h : x.data.toList = y.data.toList) : x = y := by
  obtain ⟨⟨a⟩⟩ := x
  obtain ⟨⟨b⟩⟩ := y
  simp at h
  rw [h]
def cutS (c : UInt8) (s : ByteArray) : List ByteArray := (cutL c s.data.toList).map fun l => ⟨l.toArray⟩
theorem cutS_data (c : UInt8) (s : ByteArray) : (cutS c s).map (·.data.toList) = cutL c s.data.toList := by
  unfold cutS
  rw [List.map_map]
  have : ((fun x : ByteArray => x.data.toList) ∘ fun l : List UInt8 => (⟨l.toArray⟩ : ByteArray)) = id := by funext l; simp
  rw [this, List.map_id]
theorem cutS_len (c : UInt8) (s : ByteArray) : (cutS c s).length = (cutL c s.data.toList).length := by unfold cutS; rw [List.length_map]
theorem cutS_miss {c : UInt8} {s : ByteArray} (h : indexByte s.data.toList c = -1) : cutS c s = [s] := by
  unfold cutS cutL
  rw [cutF_miss c _ _ h, List.nil_append]
  simp
theorem cutS_hit {c : UInt8} {s : ByteArray} {i : Nat} (h : indexByte s.data.toList c = i) : cutS c s = s.extract 0 i :: cutS c (s.extract (i + 1) s.size) := by
  have e1 : (⟨(s.data.toList.take i).toArray⟩ : ByteArray) = s.extract 0 i := ba_ext (by rw [extract_from_zero])
  have e2 : s.data.toList.drop (i + 1) = (s.extract (i + 1) s.size).data.toList := (extract_to_end s (i + 1)).symm
  unfold cutS
  rw [show cutL c s.data.toList = cutF c [] s.data.toList from rfl, cutF_hit c _ _ i h, List.nil_append, List.map_cons, e1, e2]
theorem index_lt {l : List UInt8} {c : UInt8} {i : Nat} (h : indexByte l c = i) : i < l.length := by
  induction l generalizing i with
  | nil => unfold indexByte at h; omega
  | cons x r ih =>
    unfold indexByte at h
    split at h
    · simp; omega
    · split at h
      · omega
      · rename_i hm
        have := indexByte_ge r c
        have h0 : indexByte r c ≠ -1 := fun e => hm (by rw [e]; rfl)
        have := ih (i := i - 1) (by omega)
        simp; omega
theorem dlen (s : ByteArray) : s.data.toList.length = s.size := by rw [Array.length_toList]; rfl
theorem cutS_piece {c : UInt8} {s p : ByteArray} (h : p ∈ cutS c s) : p.size ≤ s.size := by
  unfold cutS at h
  obtain ⟨l, h1, rfl⟩ := List.mem_map.1 h
  have := cutF_piece c _ _ _ h1
  rw [dlen] at this
  have e : (⟨l.toArray⟩ : ByteArray).size = l.length := rfl
  rw [e]
  simp only [List.length_nil] at this
  omega
/-- what strings.Split gives -/
theorem splitB_cut (c : UInt8) : ∀ (k : Nat) (s : ByteArray), (cutL c s.data.toList).length ≤ k + 1 → splitB ⟨#[c]⟩ 0 k s = cutS c s
  | 0, s, h => by
    have : indexByte s.data.toList c = -1 := by
      by_cases h1 : indexByte s.data.toList c = -1
      · exact h1
      · exfalso
        obtain ⟨i, hi⟩ : ∃ i : Nat, indexByte s.data.toList c = i := ⟨(indexByte s.data.toList c).toNat, by have := indexByte_ge s.data.toList c; omega⟩
        rw [show cutL c s.data.toList = cutF c [] s.data.toList from rfl, cutF_hit c _ _ i hi, List.length_cons] at h
        have := (cutL_len c (s.data.toList.drop (i + 1))).1
        omega
    rw [cutS_miss this]; rfl
  | k + 1, s, h => by
    have e : indexB s ⟨#[c]⟩ = indexByte s.data.toList c := index_one _ c
    by_cases h1 : indexByte s.data.toList c = -1
    · rw [cutS_miss h1, splitB_miss _ _ _ _ (by rw [e, h1])]
    · obtain ⟨i, hi⟩ : ∃ i : Nat, indexByte s.data.toList c = i := ⟨(indexByte s.data.toList c).toNat, by have := indexByte_ge s.data.toList c; omega⟩
      rw [cutS_hit hi, splitB_hit _ _ _ _ i (by rw [e, hi]), Nat.add_zero]
      have hs : (⟨#[c]⟩ : ByteArray).size = 1 := rfl
      rw [hs, splitB_cut c k]
      rw [extract_to_end]
      rw [show cutL c s.data.toList = cutF c [] s.data.toList from rfl, cutF_hit c _ _ i hi, List.length_cons] at h
      omega
theorem count_cut (c : UInt8) : ∀ (l acc : List UInt8), (cutF c acc l).length = l.count c + 1
  | [], _ => rfl
  | x :: r, acc => by
    by_cases h : x = c
    · subst h
      rw [cutF_cons_eq, List.length_cons, count_cut x r [], List.count_cons_self]
    · rw [cutF_cons_ne _ _ h, count_cut c r, List.count_cons_of_ne h]
theorem countB_cut (c : UInt8) (s : ByteArray) : countB s ⟨#[c]⟩ + 1 = (cutS c s).length := by
  rw [cutS_len, show cutL c s.data.toList = cutF c [] s.data.toList from rfl, count_cut]
  have : countB s ⟨#[c]⟩ = s.data.toList.count c := count_one c _
  rw [this]
theorem split_all (c : UInt8) (s : ByteArray) : splitB ⟨#[c]⟩ 0 (countB s ⟨#[c]⟩) s = cutS c s := splitB_cut c _ s (by have := countB_cut c s; rw [cutS_len] at this; omega)
end Go.Proofs.YteailgjiifdgcaaGreatDoor.VerN

/- Plain facts: how versions with the same parts ahead stand to each other, and a version to what is longer. -/
namespace Go.Proofs.YteailgjiifdgcaaGreatDoor.VerN
open Go.Lib

theorem pcmp_self (a : List UInt8) : pcmp a a = 0 := by
  unfold pcmp
  rw [cmpI_self, cmpI_self, cmpW_self]
  rfl
theorem getD_app_lt {H A : List (List UInt8)} {i : Nat} (h : i < H.length) : (H ++ A).getD i [] = H.getD i [] := by
  rw [List.getD, List.getD, List.getElem?_append_left h]
theorem getD_app_ge {H A : List (List UInt8)} (i : Nat) : (H ++ A).getD (H.length + i) [] = A.getD i [] := by
  rw [List.getD, List.getD, List.getElem?_append_right (by omega), Nat.add_sub_cancel_left]
theorem from_behind (H A B : List (List UInt8)) : ∀ (n i : Nat), cmpFrom (H ++ A) (H ++ B) (H.length + i) n = cmpFrom A B i n
  | 0, _ => rfl
  | n + 1, i => by
    have e1 : cmpFrom (H ++ A) (H ++ B) (H.length + i) (n + 1) = if pcmp ((H ++ A).getD (H.length + i) []) ((H ++ B).getD (H.length + i) []) ≠ 0 then pcmp ((H ++ A).getD (H.length + i) []) ((H ++ B).getD (H.length + i) []) else cmpFrom (H ++ A) (H ++ B) (H.length + (i + 1)) n := rfl
    rw [e1, getD_app_ge, getD_app_ge, from_behind H A B n (i + 1)]
    rfl
theorem from_ahead (H A B : List (List UInt8)) (n : Nat) : ∀ (m i : Nat), i + m = H.length → cmpFrom (H ++ A) (H ++ B) i (m + n) = cmpFrom A B 0 n
  | 0, i, h => by
    have := from_behind H A B n 0
    rw [Nat.zero_add, show i = H.length + 0 by omega]
    exact this
  | m + 1, i, h => by
    rw [show m + 1 + n = (m + n) + 1 by omega]
    have e1 : cmpFrom (H ++ A) (H ++ B) i (m + n + 1) = if pcmp ((H ++ A).getD i []) ((H ++ B).getD i []) ≠ 0 then pcmp ((H ++ A).getD i []) ((H ++ B).getD i []) else cmpFrom (H ++ A) (H ++ B) (i + 1) (m + n) := rfl
    rw [e1, getD_app_lt (by omega), getD_app_lt (by omega), pcmp_self, if_neg (by simp), from_ahead H A B n m (i + 1) (by omega)]
theorem from_prefix (H A B : List (List UInt8)) (n : Nat) : cmpFrom (H ++ A) (H ++ B) 0 (H.length + n) = cmpFrom A B 0 n := from_ahead H A B n H.length 0 (by omega)
theorem cut_nil (c : UInt8) : cutL c [] = [[]] := rfl
theorem tail_may {h a : List UInt8} (hm : mayL (h ++ 46 :: a) = true) : mayL a = true := by
  obtain ⟨_, h2, h3, h4⟩ := (may_iff _).1 hm
  rw [cutL_join] at h3 h4
  refine (may_iff _).2 ⟨?_, ?_, fun p hp => h3 p (List.mem_append.2 (.inr hp)), ?_⟩
  · rintro rfl
    exact part_ne (h3 [] (List.mem_append.2 (.inr (by rw [cut_nil]; simp)))) rfl
  · rw [List.length_append, List.length_cons] at h2; omega
  · rw [List.length_append] at h4; omega
theorem compare_may {a b : List UInt8} (ha : mayL a = true) (hb : mayL b = true) {N : Nat} (h1 : (cutL 46 a).length ≤ N) (h2 : (cutL 46 b).length ≤ N) : compareL a b = cmpFrom (cutL 46 a) (cutL 46 b) 0 N := by
  unfold compareL
  rw [ha, hb]
  simp only [Bool.true_eq_false, and_self, if_false]
  exact from_any h1 h2
theorem compare_tail {h a b : List UInt8} (ha : mayL (h ++ 46 :: a) = true) (hb : mayL (h ++ 46 :: b) = true) : compareL (h ++ 46 :: a) (h ++ 46 :: b) = compareL a b := by
  have l1 := ((may_iff _).1 (tail_may ha)).2.2.2
  have l2 := ((may_iff _).1 (tail_may hb)).2.2.2
  rw [compare_may (tail_may ha) (tail_may hb) l1 l2, compare_may ha hb (N := (cutL 46 h).length + 8) (by rw [cutL_join, List.length_append]; omega) (by rw [cutL_join, List.length_append]; omega), cutL_join, cutL_join, from_prefix]
/-- the first part -/
def first (l : List UInt8) : List UInt8 := (cutL 46 l).getD 0 []
theorem first_part {a wd : List UInt8} (h : mayL (a ++ 46 :: wd) = true) : partL (first wd) = true := by
  have hl := (cutL_len 46 wd).1
  unfold first
  rw [getD_lt (by omega)]
  obtain ⟨_, _, h3, _⟩ := (may_iff _).1 h
  rw [cutL_join] at h3
  exact h3 _ (List.mem_append.2 (.inr (List.getElem_mem _)))
theorem compare_longer {a wd : List UInt8} (ha : mayL a = true) (hw : mayL (a ++ 46 :: wd) = true) : compareL (a ++ 46 :: wd) a = if letOk (first wd) = true then -1 else 1 := by
  have hl := (cutL_len 46 wd).1
  have l1 := ((may_iff _).1 hw).2.2.2
  rw [cutL_join, List.length_append] at l1
  have hp := first_part hw
  have hpf : pcmp (first wd) [] = if letOk (first wd) = true then -1 else 1 := by
    rcases Bool.or_eq_true _ _ ▸ (show (letOk (first wd) || digOk (first wd)) = true from hp) with h | h
    · rw [if_pos h, pcmp_rank (rk_let h) rk_end (by decide)]; rfl
    · rw [if_neg (by rw [(digs_of h).2.1]; simp), pcmp_rank (rk_dig h) rk_end (by decide)]; rfl
  rw [compare_may hw ha (N := (cutL 46 a).length + 8) (by rw [cutL_join, List.length_append]; omega) (by omega), cutL_join]
  have e : cmpFrom (cutL 46 a ++ cutL 46 wd) (cutL 46 a) 0 ((cutL 46 a).length + 8) = cmpFrom (cutL 46 wd) [] 0 8 := by
    have := from_prefix (cutL 46 a) (cutL 46 wd) [] 8
    rwa [List.append_nil] at this
  rw [e]
  have e2 : cmpFrom (cutL 46 wd) [] 0 8 = if pcmp (first wd) [] ≠ 0 then pcmp (first wd) [] else cmpFrom (cutL 46 wd) [] 1 7 := rfl
  rw [e2, hpf]
  split <;> rfl
/-- a number's digits are one part -/
theorem first_dec (u : Nat) : first (decDigits u) = decDigits u := by
  unfold first cutL
  rw [cutF_none 46 (decDigits u) [] (fun x hx e => by
    have := List.all_eq_true.1 (dec_dig u).1 x hx
    rw [e] at this
    exact absurd this (by decide))]
  rfl
theorem dec_no_let (u : Nat) : letOk (decDigits u) = false := by
  rw [Bool.eq_false_iff]
  intro h
  have := (not_both h).1
  unfold digs at this
  rw [(dec_dig u).1, Bool.true_and] at this
  have h2 := (dec_dig u).2.1
  cases hd : decDigits u with
  | nil => exact h2 hd
  | cons x r => rw [hd] at this; simp at this
theorem not_let_digs {l : List UInt8} (hp : partL l = true) (h : letOk l = false) : digs l = true := by
  unfold partL at hp
  rw [h, Bool.false_or] at hp
  exact (digs_of hp).1
end Go.Proofs.YteailgjiifdgcaaGreatDoor.VerN
