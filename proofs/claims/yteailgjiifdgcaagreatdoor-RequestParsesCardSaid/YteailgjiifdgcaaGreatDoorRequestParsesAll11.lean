/- Walks and plain facts. Texts merged: RqG, RqH, LexW, LexB, LexT, LexL, Cells, RqI, RqN. Condition: none beyond what each says. -/
import Derived.Laws.BytesArg
import Derived.Test.YteailgjiifdgcaaGreatDoorRequestParsesAll10
set_option linter.unusedVariables false
set_option linter.unusedSimpArgs false
/- Plain: what the lines of a text are like: words that are there, at places from one on. No condition. -/
namespace Go.Proofs.YteailgjiifdgcaaGreatDoor.LexM

def GoodW (N : Nat) (x : Wd) : Prop := 1 ≤ x.1 ∧ x.1 ≤ (N : Int) ∧ x.2 ≠ [] ∧ x.2.length ≤ N
def GoodL (N : Nat) (l : Ln) : Prop := 1 ≤ l.1 ∧ l.2 ≠ [] ∧ l.2.length ≤ 40 ∧ ∀ x ∈ l.2, GoodW N x
theorem GoodW.mono {N M : Nat} (h : N ≤ M) {x : Wd} (g : GoodW N x) : GoodW M x := ⟨g.1, by have := g.2.1; omega, g.2.2.1, Nat.le_trans g.2.2.2 h⟩
theorem rerr_room {t : Bs} {room : Bool} {s : RS} {i : Nat} {c : UInt8} (h : rerr t room s i c = 0) (hk : rskip t s i c = false) : s.out.length ≠ 40 := by
 intro e
 unfold rerr at h
 rw [hk] at h
 split at h
 ·cases h
 ·simp [e] at h
theorem rgo_good {t : Bs} {room : Bool} : ∀ (r : Bs) (s : RS) (i : Nat), t.drop i = r → s.out.length ≤ 40 → (∀ x ∈ s.out, GoodW t.length x) → (∀ x ∈ (rgo t room s i r).1, GoodW t.length x) ∧ (rgo t room s i r).1.length ≤ 40
 | [], s, i, _, hl, h => ⟨h, hl⟩
 | c :: r, s, i, hd, hl, h => by
  obtain ⟨hg, hd2, hi⟩ := getD_of_drop hd
  unfold rgo
  by_cases he : rerr t room s i c = 0
  ·rw [if_pos he]
   refine rgo_good r _ (i + 1) hd2 ?_ ?_
   ·unfold rnext
    dsimp only
    split
    ·exact hl
    ·rename_i hk
     have := rerr_room he (by simpa using hk)
     rw [List.length_append, List.length_singleton]
     omega
   ·intro x hx
    unfold rnext at hx
    dsimp only at hx
    split at hx
    ·exact h x hx
    ·rename_i hk
     rcases List.mem_append.1 hx with hx | hx
     ·exact h x hx
     ·rw [List.mem_singleton] at hx
      subst hx
      have hp : part c = true := by
       unfold rskip at hk
       simp only [Bool.or_eq_true, not_or, Bool.not_eq_true', Bool.not_eq_false] at hk
       exact hk.1.2
      refine ⟨by show (1 : Int) ≤ (i : Int) + 1; omega, by show (i : Int) + 1 ≤ (t.length : Int); omega, ?_, ?_⟩
      ·show wordAt t i ≠ []
       rw [wordAt_of hd hp]
       simp
      ·show (wordAt t i).length ≤ t.length
       unfold wordAt
       refine Nat.le_trans (List.takeWhile_sublist _).length_le ?_
       rw [List.length_drop]
       omega
  ·rw [if_neg he]
   exact ⟨h, hl⟩
theorem rline_good (t : Bs) (room : Bool) : (∀ x ∈ (rline t room).1, GoodW t.length x) ∧ (rline t room).1.length ≤ 40 := rgo_good t _ 0 rfl (Nat.zero_le _) (fun x hx => by simp at hx)
theorem addLn_good {N : Nat} {out : List Ln} {n : Int} {ws : List Wd} (h : ∀ l ∈ out, GoodL N l) (hn : 1 ≤ n) (h40 : ws.length ≤ 40) (hw : ∀ x ∈ ws, GoodW N x) : ∀ l ∈ addLn out n ws, GoodL N l := by
 unfold addLn
 split
 ·exact h
 ·rename_i h0
  intro l hl
  rcases List.mem_append.1 hl with hl | hl
  ·exact h l hl
  ·rw [List.mem_singleton] at hl
   subst hl
   exact ⟨hn, h0, h40, hw⟩
theorem addLn_len (out : List Ln) (n : Int) (ws : List Wd) : (addLn out n ws).length ≤ out.length + 1 := by
 unfold addLn
 split <;> simp
theorem rlines_good {N : Nat} : ∀ (r : Bs) (n : Int) (cur : Bs) (out : List Ln), 1 ≤ n → cur.length + r.length ≤ N → (∀ l ∈ out, GoodL N l) → (∀ l ∈ (rlines n cur out r).lines, GoodL N l) ∧ (rlines n cur out r).lines.length ≤ out.length + r.length + 1
 | [], n, cur, out, hn, hN, h => by
  have hg := rline_good cur (decide (out.length < 2000))
  simp only [List.length_nil] at hN
  unfold rlines
  dsimp only
  split
  ·exact ⟨addLn_good h hn hg.2 (fun x hx => (hg.1 x hx).mono (by omega)), by have := addLn_len out n (rline cur (decide (out.length < 2000))).1; simp; omega⟩
  ·exact ⟨fun l hl => by simp at hl, by simp⟩
 | c :: r, n, cur, out, hn, hN, h => by
  have hg := rline_good cur (decide (out.length < 2000))
  simp only [List.length_cons] at hN ⊢
  unfold rlines
  split
  ·dsimp only
   split
   ·have := rlines_good r (n + 1) [] (addLn out n (rline cur (decide (out.length < 2000))).1) (by omega) (by simp; omega) (addLn_good h hn hg.2 (fun x hx => (hg.1 x hx).mono (by omega)))
    have h2 := addLn_len out n (rline cur (decide (out.length < 2000))).1
    exact ⟨this.1, by omega⟩
   ·exact ⟨fun l hl => by simp at hl, by simp⟩
  ·have := rlines_good r n (cur ++ [c]) out hn (by simp; omega) h
   exact ⟨this.1, by omega⟩
theorem doc_good (t : Bs) : (∀ l ∈ (docLines t).lines, GoodL t.length l) ∧ (docLines t).lines.length ≤ t.length + 1 := by
 unfold docLines
 split
 ·exact ⟨fun l hl => by simp at hl, by simp⟩
 ·have := rlines_good (N := t.length) t 1 [] [] (by omega) (by simp) (fun l hl => by simp at hl)
  simpa using this
theorem doc_good7 (t : Bs) : (∀ l ∈ (docLines t).lines, GoodL 70000 l) ∧ (docLines t).lines.length ≤ 70001 := by
 by_cases h : 65536 < t.length
 ·unfold docLines
  rw [if_pos h]
  exact ⟨fun l hl => by simp at hl, by simp⟩
 ·have h1 := doc_good t
  exact ⟨fun l hl => by obtain ⟨k1, k2, k3, k4⟩ := h1.1 l hl; exact ⟨k1, k2, k3, fun x hx => (k4 x hx).mono (by omega)⟩, by omega⟩
end Go.Proofs.YteailgjiifdgcaaGreatDoor.LexM

/- The walk of request.one: the root of a line. Condition: the library's variables as they were laid; a line as lexed, of words of at most 70000 bytes. -/
namespace Go.Proofs.YteailgjiifdgcaaGreatDoor
open Go.Shelf Go.RowKit Go.Lib VerN VarM
open LexM (Wd Ln GoodL)
attribute [local go_sem ↓] Go.wp_at_zero Go.wp_at_succ

abbrev zeroRoot : Value := .agg #[.string ⟨#[]⟩, .slice none 0 0, .slice none 0 0, .int .i64 0]
abbrev RootBox (k : Nat) (x y z u : Value) (W : World) : Prop := W.heap[k]? = some (.cells #[x, y, z, u] 101 (0, 0))
theorem root_cells {k : Nat} {x y z u : Value} {W : World} (h : RootBox k x y z u W) : (W.cell? ⟨k, 0, none⟩ = some x ∧ W.cell? ⟨k, 1, none⟩ = some y ∧ W.cell? ⟨k, 2, none⟩ = some z ∧ W.cell? ⟨k, 3, none⟩ = some u) ∧ W.frozen? ⟨k, 0, none⟩ = false ∧ W.frozen? ⟨k, 1, none⟩ = false ∧ W.frozen? ⟨k, 2, none⟩ = false ∧ W.frozen? ⟨k, 3, none⟩ = false :=
 ⟨⟨cells_at h 0, cells_at h 1, cells_at h 2, cells_at h 3⟩, frozen_at h 0, frozen_at h 1, frozen_at h 2, frozen_at h 3⟩
theorem results_row1 {P : Program} {fn : Func} {p u : Tmp} {ty t : TypeId} (h : fn.results = #[.cell p ty, .tmp u]) {tmps : Array Value} {w : World} {g : Nat} {cs : Array Value} {d : TypeDesc} {x : Value}
  (hp : tmps.getD p undef = .pointer (some ⟨g, 0, none⟩)) (hx : tmps.getD u undef = x) (hg : w.heap[g]? = some (.cells cs t (0, 0)))
  (hu : P.underlying ty = some d) (hd : (match d with | .struct _ | .array _ _ => true | _ => false) = true) (hi : (P.info? ty).map (·.size) = some cs.size) :
  (results fn tmps).run P w = .ok (.tuple #[.agg cs, x]) w := by
 have hl := run_loadVar_row w g t ty cs (0, 0) d hg hu hd hi
 have hp' : tmps[p]?.getD undef = .pointer (some ⟨g, 0, none⟩) := by simpa using hp
 have hx' : tmps[u]?.getD undef = x := by simpa using hx
 simp only [results, h]
 simp [Sem.run_bind, Result.andThen, asAddr, hp', hx', hl]
theorem wds_drop {w : World} {b off n c : Nat} {ws : List Wd} (h : RWds w [.slice (some ⟨b, off, none⟩) n c] ws) : RWds w [.slice (some ⟨b, off + 2, none⟩) (n - 1) (c - 1)] (ws.drop 1) := by
 obtain ⟨a', cap, hv, hcap, hmax, hel⟩ := h
 simp only [List.cons.injEq, and_true, Value.slice.injEq] at hv
 obtain ⟨rfl, hn, rfl⟩ := hv
 refine ⟨_, c - 1, by rw [List.length_drop, hn], by rw [List.length_drop]; omega, by omega, fun i x hi => ?_⟩
 rw [List.getElem?_drop] at hi
 obtain ⟨b', off', ecs, h1, h2, h3, h4⟩ := hel (1 + i) x hi
 injection h1 with h1
 injection h1 with e1 e2
 subst e1 e2
 refine ⟨b, off + 2, ecs, rfl, h2, fun j u hu => ?_, h4⟩
 have := h3 j u hu
 rw [show off + (1 + i) * 2 + j = off + 2 + i * 2 + j by omega] at this
 exact this
def RootPost (l : Ln) (w : World) (e : Ending) (w' : World) : Prop :=
 ((∃ s col b1 n1 c1 b2 n2 c2, rootW l = (some s, col) ∧ e = .returned (.tuple #[.agg #[.string s.1, .slice b1 n1 c1, .slice b2 n2 c2, .int .i64 l.1], .int .i64 0]) ∧ RSpsT w' (.slice b1 n1 c1) s.2.1 ∧ RSetsT w' (.slice b2 n2 c2) s.2.2) ∨
  (∃ col, rootW l = (none, col) ∧ col ≠ 0 ∧ e = .returned (.tuple #[zeroRoot, .int .i64 col]))) ∧ Below w.heap.size w w'
theorem last_some {ws : List Wd} {n : Nat} (hn : n = ws.length) (h0 : 0 < n) : ∃ x, ws[n - 1]? = some x ∧ ws.getLast? = some x := by
 subst hn
 have h : ws.length - 1 < ws.length := by omega
 exact ⟨ws[ws.length - 1], List.getElem?_eq_getElem h, by rw [List.getLast?_eq_getElem?, List.getElem?_eq_getElem h]⟩
set_option maxRecDepth 10000 in
set_option maxHeartbeats 8000000 in
theorem requestOne_any {w : World} {a : Option Addr} {n c : Nat} {l : Ln} (hws : RWds w [.slice a n c] l.2) (hD : Doors w) (hl : GoodL 70000 l) : Calls Tryz.prog 71 #[.agg #[.int .i64 l.1, .slice a n c]] w (RootPost l w) := by
 obtain ⟨ln, ws⟩ := l
 obtain ⟨hl1, hne, h40, hgood⟩ := hl
 simp only at hws hl1 hne h40 hgood ⊢
 obtain ⟨hn, hz, hat⟩ := wds_at hws
 have hn0 : 0 < n := by
  rw [hn]
  cases ws with
  | nil => exact absurd rfl hne
  | cons x r => simp
 obtain ⟨x, hx, hx2⟩ := last_some hn hn0
 obtain ⟨b, off, rfl, d0, d1, _⟩ := hat (n - 1) x hx
 obtain ⟨y, hy⟩ : ∃ y, ws[0]? = some y := ⟨ws[0], List.getElem?_eq_getElem _⟩
 obtain ⟨_, _, e, f0, f1, _⟩ := hat 0 y hy
 injection e with e
 injection e with e1 e2
 subst e1 e2
 simp only [Nat.zero_mul, Nat.add_zero] at f0 f1
 have hgx := hgood x (List.mem_of_getElem? hx)
 have hgy := hgood y (List.mem_of_getElem? hy)
 obtain ⟨xc, hxc⟩ : ∃ z, z = x.1 := ⟨_, rfl⟩
 obtain ⟨xt, hxt⟩ : ∃ z : ByteArray, z = ⟨x.2.toArray⟩ := ⟨_, rfl⟩
 obtain ⟨yc, hyc⟩ : ∃ z, z = y.1 := ⟨_, rfl⟩
 obtain ⟨yt, hyt⟩ : ∃ z : ByteArray, z = ⟨y.2.toArray⟩ := ⟨_, rfl⟩
 rw [← hxc] at d0
 rw [← hxt] at d1
 rw [← hyc] at f0
 rw [← hyt] at f1
 have hxc1 : 1 ≤ xc ∧ xc ≤ 70000 := by rw [hxc]; exact ⟨hgx.1, hgx.2.1⟩
 have hyc1 : 1 ≤ yc ∧ yc ≤ 70000 := by rw [hyc]; exact ⟨hgy.1, hgy.2.1⟩
 have hxz : xt.size ≤ 70000 := by rw [hxt]; show x.2.toArray.size ≤ _; rw [List.size_toArray]; exact hgx.2.2.2
 have hpk : peekB ws 0 = yt := by unfold peekB; rw [hy, hyt]
 have hcl0 : colAt ws (lineEnd (ln, ws)) 0 = yc := by unfold colAt; rw [hy, hyc]
 have hfin : lineEnd (ln, ws) = xc + xt.size := by unfold lineEnd; simp only [hx2]; rw [hxc, hxt]; show x.1 + (x.2.length : Int) = x.1 + ((x.2.toArray.size : Nat) : Int); rw [List.size_toArray]
 have hcol : ∀ j, colAt (ws.drop 1) (lineEnd (ln, ws)) j ≠ 0 := fun j => by
  unfold colAt
  cases hj : (ws.drop 1)[j]? with
  | none => simp only; omega
  | some z =>
   simp only
   have := (hgood z (List.mem_of_mem_drop (List.mem_of_getElem? hj))).1
   omega
 have hrest := fun (W : World) (k : Below w.heap.size w W) (ad : Option Addr) (nn cp : Nat) (h : RWds W [.slice ad nn cp] (ws.drop 1)) (hnn : nn ≤ 1000) => recipeWish_any (w := W) (fin := lineEnd (ln, ws)) h (hD.below k) hnn (fun z hz => (hgood z (List.mem_of_mem_drop hz)).2.2.2) hcol
 rw [hfin] at hrest hcol
 have heq := Txt.eq_dec yt rootT
 have k1 : ((n : Int) - 1) = ((n - 1 : Nat) : Int) := by omega
 have k2 : (0 : Int) ≤ ((n - 1 : Nat) : Int) := by omega
 have k3 : ((n - 1 : Nat) : Int) < (n : Int) := by omega
 have k4 : (0 : Int) < (n : Int) := by omega
 have hbw : b < w.heap.size := World.block_lt_of_cell? w _ d0
 obtain ⟨g, hg⟩ : ∃ g, g = w.heap.size := ⟨_, rfl⟩
 obtain ⟨W2, hW2⟩ : ∃ W, W = (w.alloc (.cells #[.int .i64 ln, .slice (some ⟨b, off, none⟩) n c] 62)).alloc (.cells #[.string ⟨#[]⟩, .slice none 0 0, .slice none 0 0, .int .i64 0] 101) := ⟨_, rfl⟩
 have hb2 : Below w.heap.size w W2 := by rw [hW2]; exact (below_alloc1 _ _).alloc (by simp) _
 have p0 : W2.heap[g]? = some (.cells #[.int .i64 ln, .slice (some ⟨b, off, none⟩) n c] 62 (0, 0)) := by rw [hW2, hg]; exact heap_below (below_alloc1 _ _) (heap_new_at rfl)
 have p1 : RootBox (g + 1) (.string ⟨#[]⟩) (.slice none 0 0) (.slice none 0 0) (.int .i64 0) W2 := by rw [hW2, hg]; exact heap_new_at (by simp)
 have hs2 : W2.heap.size = g + 2 := by rw [hW2, hg]; simp
 replace d0 := cell_later hb2 d0
 replace d1 := cell_later hb2 d1
 have l0 := cells_at p0 0
 have l1 := cells_at p0 1
 simp only [List.getElem?_toArray, List.getElem?_cons_zero, List.getElem?_cons_succ] at l0 l1
 have hwg : w.heap.size ≤ g := Nat.le_of_eq hg.symm
 have hne1 : ¬ b = g + 1 := by omega
 have hne2 : ¬ g + 1 = b := by omega
 obtain ⟨m, hm⟩ : ∃ m, m = n - 1 := ⟨_, rfl⟩
 rw [← hm] at d0 d1 k1 k2 k3
 obtain ⟨W3, hW3⟩ : ∃ W, W = W2.alloc (.cells #[.int .i64 xc, .string xt] 64) := ⟨_, rfl⟩
 have hb23 : Below W2.heap.size W2 W3 := by rw [hW3]; exact below_alloc1 _ _
 have hb3 := hb2.trans (hb23.mono hb2.size)
 have r0 := heap_below hb23 p0
 have r1 := heap_below hb23 p1
 have r2 : W3.heap[g + 2]? = some (.cells #[.int .i64 xc, .string xt] 64 (0, 0)) := by rw [hW3, ← hs2]; exact heap_alloc_new _ _
 have hs3 : W3.heap.size = g + 3 := by rw [hW3]; simp [hs2]
 have f0 := cell_later hb3 f0
 have f1 := cell_later hb3 f1
 have m0 := cells_at r0 0
 have m1 := cells_at r0 1
 simp only [List.getElem?_toArray, List.getElem?_cons_zero, List.getElem?_cons_succ] at m0 m1
 obtain ⟨_, z0, z1, z2, z3⟩ := root_cells r1
 obtain ⟨Hws, HD, Hat, Hne, Hgood, Hx, Hx2, Hy, Hgx, Hgy, Hxc, Hxt, Hyc, Hyt, Hpk, Hcl0⟩ := hd16 hws hD hat hne hgood hx hx2 hy hgx hgy hxc hxt hyc hyt hpk hcl0; obtain ⟨Hfin, Hrest, Hcol, Hn, Hl1, Hb2, Hp0, Hp1, Hm, Hb23, Hb3, Hr0, Hr1, Hr2, Hs3⟩ := hd15 hfin hrest hcol hn hl1 hb2 p0 p1 hm hb23 hb3 r0 r1 r2 hs3; clear hws hD hat hne hgood hx hx2 hy hgx hgy hxc hxt hyc hyt hpk hcl0 hfin hrest hcol hn hl1 hb2 p0 p1 hm hb23 hb3 r0 r1 r2 hs3
 have hrt : rootT.toList = [114, 111, 111, 116] := by rw [Lib.toList_data]; rfl
 rw [hrt] at heq
 clear hrt
 have hcap : n ≤ c := by
  obtain ⟨_, _, hv, hc, _⟩ := Hws.out
  simp only [List.cons.injEq, and_true, Value.slice.injEq] at hv
  omega
 by_cases hroot : yt = rootT
 ·have k5 : (yt.toList == [114, 111, 111, 116]) = true := by rw [heq, decide_eq_true hroot]
  clear heq
  by_cases hc1 : c = 1
  ·subst hc1
   have hrd : RWds w [.slice (some ⟨b, off, none⟩) 0 0] (ws.drop 1) := by
    have e : ws.drop 1 = [] := List.drop_eq_nil_of_le (by rw [← Hn.out]; omega)
    rw [e]
    exact ⟨_, 0, rfl, Nat.le_refl _, Nat.zero_le _, fun i x hi => by simp at hi⟩
   have hR := Hrest.out W3 Hb3.out _ _ _ (stays_slice stays_wd _ _ _ _ hrd Hb3.out) (by omega)
   have Hrd := hd hrd; clear hrd
   obtain ⟨Hroot, HR⟩ := hd2 hroot hR; clear hroot hR
   go_enter Tryz.func71, Tryz.ntmps71
   go_upto_region 1 with (fail)
   rw [← hW2, ← hg]
   clear hW2 hg
   go_upto_region 2 with (fail)
   rw [← hW3]
   clear hW3 hs2 l0 l1 d0 d1
   have q2 := cells_at Hr2.out 0
   have q3 := cells_at Hr2.out 1
   simp only [List.getElem?_toArray, List.getElem?_cons_zero, List.getElem?_cons_succ] at q2 q3
   go_wp2_with fail
   refine HR.out.mono ?_
   rintro e w4 ⟨⟨s, j, b1, n1, c1, b2, n2, c2, hw, rfl, hv1, hv2⟩ | ⟨j, hw, rfl⟩, hb4⟩
   ·obtain ⟨w5, hw5⟩ : ∃ W, W = w4.alloc (.cells #[.string s.1, .slice b1 n1 c1, .slice b2 n2 c2] 51) := ⟨_, rfl⟩
    have hb45 : Below w4.heap.size w4 w5 := by rw [hw5]; exact below_alloc1 _ _
    have hb35 := hb4.trans (hb45.mono hb4.size)
    have hb5 := Hb3.out.trans (hb35.mono Hb3.out.size)
    have y1 := heap_below hb35 Hr1.out
    have y0 := heap_below hb35 Hr0.out
    have y4 : SpcBox w4.heap.size (.string s.1) (.slice b1 n1 c1) (.slice b2 n2 c2) w5 := by rw [hw5]; exact heap_alloc_new _ _
    obtain ⟨u0, u1, u2, _, _, _⟩ := spc_cells y4
    have t0 := cells_at y0 0
    simp only [List.getElem?_toArray, List.getElem?_cons_zero, List.getElem?_cons_succ] at t0
    obtain ⟨_, z0, z1, z2, z3⟩ := root_cells y1
    have hv1' := spsT_below hv1 hb45
    have hv2' := setsT_below hv2 hb45
    have hbg : (b = w4.heap.size) = False := by rw [eq_iff_iff, iff_false]; have := hb4.size; have := Hs3.out; omega
    have hj : ¬ j < n - 1 := by omega
    ·have k6 : decide ((j : Int) < 0) = false := decide_eq_false (by omega)
     obtain ⟨Hw, Hv1, Hv2, Hb4, Hb45, Hb35, Hb5, Hy0, Hy1, Hy4, Hv1', Hv2', Hj⟩ := hd13 hw hv1 hv2 hb4 hb45 hb35 hb5 y0 y1 y4 hv1' hv2' hj; clear hw hv1 hv2 hb4 hb45 hb35 hb5 y0 y1 y4 hv1' hv2' hj
     go_upto_region 6 with (fail)
     rw [← hw5]
     clear hw5
     go_wp2_with fail
     have x0 := heap_setCell_same _ (g + 1) 0 _ _ (.string s.1) Hy1.out
     have x1 := heap_setCell_same _ (g + 1) 1 _ _ (.slice b1 n1 c1) x0
     have x2 := heap_setCell_same _ (g + 1) 2 _ _ (.slice b2 n2 c2) x1
     have x3 := heap_setCell_same _ (g + 1) 3 _ _ (.int .i64 ln) x2
     have hb8 := (((Hb5.out.setCell (p := ⟨g + 1, 0, none⟩) (by show w.heap.size ≤ g + 1; omega) (.string s.1)).setCell (p := ⟨g + 1, 1, none⟩) (by show w.heap.size ≤ g + 1; omega) (.slice b1 n1 c1)).setCell (p := ⟨g + 1, 2, none⟩) (by show w.heap.size ≤ g + 1; omega) (.slice b2 n2 c2)).setCell (p := ⟨g + 1, 3, none⟩) (by show w.heap.size ≤ g + 1; omega) (.int .i64 ln)
     have hT : Frm (fun k => k = g + 1) w5 ((((w5.setCell ⟨g + 1, 0, none⟩ (.string s.1)).setCell ⟨g + 1, 1, none⟩ (.slice b1 n1 c1)).setCell ⟨g + 1, 2, none⟩ (.slice b2 n2 c2)).setCell ⟨g + 1, 3, none⟩ (.int .i64 ln)) := frm_cell (frm_cell (frm_cell (frm_cell (Frm.refl _ _) 0 _) 1 _) 2 _) 3 _
     have hno : No2 w5 (fun k => k = g + 1) := by
      rintro k rfl
      exact no2_of Hy1.out (by decide) (by decide)
     refine bodyPost_ret (results_row1 (g := g + 1) rfl rfl rfl x3 Tryz.underlying101 rfl (by kernel_rfl)) rfl ?_
     refine ⟨.inl ⟨s, 0, b1, n1, c1, b2, n2, c2, ?_, rfl, sps_other Hv1'.out hT hno, sets_other Hv2'.out hT hno⟩, hb8⟩
     unfold rootW
     rw [if_pos (by rw [Hpk.out]; exact Hroot.out), Hw.out]
     simp only
     rw [if_neg (by rw [← Hn.out]; exact Hj.out)]
   ·obtain ⟨w5, hw5⟩ : ∃ W, W = w4.alloc (.cells #[.string ⟨#[]⟩, .slice none 0 0, .slice none 0 0] 51) := ⟨_, rfl⟩
    have hb45 : Below w4.heap.size w4 w5 := by rw [hw5]; exact below_alloc1 _ _
    have hb35 := hb4.trans (hb45.mono hb4.size)
    have hb5 := Hb3.out.trans (hb35.mono Hb3.out.size)
    have y1 := heap_below hb35 Hr1.out
    obtain ⟨_, z0, z1, z2, z3⟩ := root_cells y1
    obtain ⟨cc, hcc⟩ : ∃ z, z = colAt (ws.drop 1) (xc + xt.size) j := ⟨_, rfl⟩
    rw [← hcc]
    have hcn : cc ≠ 0 := by rw [hcc]; exact Hcol.out j
    have k6 : (cc != 0) = true := by simpa using hcn
    obtain ⟨Hw, Hb4, Hb45, Hb35, Hb5, Hy1, Hcc, Hcn⟩ := hd8 hw hb4 hb45 hb35 hb5 y1 hcc hcn; clear hw hb4 hb45 hb35 hb5 y1 hcc hcn
    go_upto_region 6 with (fail)
    rw [← hw5]
    clear hw5
    go_wp2_with fail
    have x0 := heap_setCell_same _ (g + 1) 0 _ _ (.string ⟨#[]⟩) Hy1.out
    have x1 := heap_setCell_same _ (g + 1) 1 _ _ (.slice none 0 0) x0
    have x2 := heap_setCell_same _ (g + 1) 2 _ _ (.slice none 0 0) x1
    have x3 := heap_setCell_same _ (g + 1) 3 _ _ (.int .i64 0) x2
    have hb8 := (((Hb5.out.setCell (p := ⟨g + 1, 0, none⟩) (by show w.heap.size ≤ g + 1; omega) (.string ⟨#[]⟩)).setCell (p := ⟨g + 1, 1, none⟩) (by show w.heap.size ≤ g + 1; omega) (.slice none 0 0)).setCell (p := ⟨g + 1, 2, none⟩) (by show w.heap.size ≤ g + 1; omega) (.slice none 0 0)).setCell (p := ⟨g + 1, 3, none⟩) (by show w.heap.size ≤ g + 1; omega) (.int .i64 0)
    refine bodyPost_ret (results_row1 (g := g + 1) rfl rfl rfl x3 Tryz.underlying101 rfl (by kernel_rfl)) rfl ?_
    refine ⟨.inr ⟨cc, ?_, Hcn.out, rfl⟩, hb8⟩
    unfold rootW
    rw [if_pos (by rw [Hpk.out]; exact Hroot.out), Hw.out]
    simp only
    rw [Hfin.out, Hcc.out]
  ·have hrd := wds_drop Hws.out
   have hR := Hrest.out W3 Hb3.out _ _ _ (stays_slice stays_wd _ _ _ _ hrd Hb3.out) (by have := Hn.out; omega)
   have Hrd := hd hrd; clear hrd
   obtain ⟨Hroot, HR⟩ := hd2 hroot hR; clear hroot hR
   go_enter Tryz.func71, Tryz.ntmps71
   go_upto_region 1 with (fail)
   rw [← hW2, ← hg]
   clear hW2 hg
   go_upto_region 2 with (fail)
   rw [← hW3]
   clear hW3 hs2 l0 l1 d0 d1
   have q2 := cells_at Hr2.out 0
   have q3 := cells_at Hr2.out 1
   simp only [List.getElem?_toArray, List.getElem?_cons_zero, List.getElem?_cons_succ] at q2 q3
   go_wp2_with fail
   refine HR.out.mono ?_
   rintro e w4 ⟨⟨s, j, b1, n1, c1, b2, n2, c2, hw, rfl, hv1, hv2⟩ | ⟨j, hw, rfl⟩, hb4⟩
   ·obtain ⟨w5, hw5⟩ : ∃ W, W = w4.alloc (.cells #[.string s.1, .slice b1 n1 c1, .slice b2 n2 c2] 51) := ⟨_, rfl⟩
    have hb45 : Below w4.heap.size w4 w5 := by rw [hw5]; exact below_alloc1 _ _
    have hb35 := hb4.trans (hb45.mono hb4.size)
    have hb5 := Hb3.out.trans (hb35.mono Hb3.out.size)
    have y1 := heap_below hb35 Hr1.out
    have y0 := heap_below hb35 Hr0.out
    have y4 : SpcBox w4.heap.size (.string s.1) (.slice b1 n1 c1) (.slice b2 n2 c2) w5 := by rw [hw5]; exact heap_alloc_new _ _
    obtain ⟨u0, u1, u2, _, _, _⟩ := spc_cells y4
    have t0 := cells_at y0 0
    simp only [List.getElem?_toArray, List.getElem?_cons_zero, List.getElem?_cons_succ] at t0
    obtain ⟨_, z0, z1, z2, z3⟩ := root_cells y1
    have hv1' := spsT_below hv1 hb45
    have hv2' := setsT_below hv2 hb45
    have hbg : (b = w4.heap.size) = False := by rw [eq_iff_iff, iff_false]; have := hb4.size; have := Hs3.out; omega
    by_cases hj : j < n - 1
    ·have hjl : j < (ws.drop 1).length := by rw [List.length_drop, ← Hn.out]; exact hj
     have e0 := (wds_at (stays_slice stays_wd _ _ _ _ Hrd.out hb5)).2.2 j _ (List.getElem?_eq_getElem hjl)
     obtain ⟨b', off', e1, g0, _, _⟩ := e0
     injection e1 with e1
     injection e1 with e2 e3
     subst e2 e3
     obtain ⟨cc, hcc⟩ : ∃ z, z = (ws.drop 1)[j].1 := ⟨_, rfl⟩
     rw [← hcc] at g0
     have hccc : colAt (ws.drop 1) (xc + xt.size) j = cc := by rw [col_some hjl, hcc]
     have k6 : decide ((j : Int) < ((n - 1 : Nat) : Int)) = true := decide_eq_true (by omega)
     have k7 : (0 : Int) ≤ (j : Int) := by omega
     have k8 : (j : Int) < ((n - 1 : Nat) : Int) := by omega
     obtain ⟨Hw, Hv1, Hv2, Hb4, Hb45, Hb35, Hb5, Hy0, Hy1, Hy4, Hv1', Hv2', Hcc, Hccc, Hj⟩ := hd15 hw hv1 hv2 hb4 hb45 hb35 hb5 y0 y1 y4 hv1' hv2' hcc hccc hj; clear hw hv1 hv2 hb4 hb45 hb35 hb5 y0 y1 y4 hv1' hv2' hcc hccc hj
     go_upto_region 6 with (fail)
     rw [← hw5]
     clear hw5
     go_wp2_with fail
     go_region
     go_wp2_with fail
     have x0 := heap_setCell_same _ (g + 1) 0 _ _ (.string ⟨#[]⟩) Hy1.out
     have x1 := heap_setCell_same _ (g + 1) 1 _ _ (.slice none 0 0) x0
     have x2 := heap_setCell_same _ (g + 1) 2 _ _ (.slice none 0 0) x1
     have x3 := heap_setCell_same _ (g + 1) 3 _ _ (.int .i64 0) x2
     have hb8 := (((Hb5.out.setCell (p := ⟨g + 1, 0, none⟩) (by show w.heap.size ≤ g + 1; omega) (.string ⟨#[]⟩)).setCell (p := ⟨g + 1, 1, none⟩) (by show w.heap.size ≤ g + 1; omega) (.slice none 0 0)).setCell (p := ⟨g + 1, 2, none⟩) (by show w.heap.size ≤ g + 1; omega) (.slice none 0 0)).setCell (p := ⟨g + 1, 3, none⟩) (by show w.heap.size ≤ g + 1; omega) (.int .i64 0)
     refine bodyPost_ret (results_row1 (g := g + 1) rfl rfl rfl x3 Tryz.underlying101 rfl (by kernel_rfl)) rfl ?_
     refine ⟨.inr ⟨cc, ?_, by rw [← Hccc.out]; exact Hcol.out j, rfl⟩, Below.drew hb8⟩
     unfold rootW
     rw [if_pos (by rw [Hpk.out]; exact Hroot.out), Hw.out]
     simp only
     rw [if_pos (by rw [← Hn.out]; exact Hj.out), Hfin.out, Hccc.out]
    ·have k6 : decide ((j : Int) < ((n - 1 : Nat) : Int)) = false := decide_eq_false (by omega)
     obtain ⟨Hw, Hv1, Hv2, Hb4, Hb45, Hb35, Hb5, Hy0, Hy1, Hy4, Hv1', Hv2', Hj⟩ := hd13 hw hv1 hv2 hb4 hb45 hb35 hb5 y0 y1 y4 hv1' hv2' hj; clear hw hv1 hv2 hb4 hb45 hb35 hb5 y0 y1 y4 hv1' hv2' hj
     go_upto_region 6 with (fail)
     rw [← hw5]
     clear hw5
     go_wp2_with fail
     have x0 := heap_setCell_same _ (g + 1) 0 _ _ (.string s.1) Hy1.out
     have x1 := heap_setCell_same _ (g + 1) 1 _ _ (.slice b1 n1 c1) x0
     have x2 := heap_setCell_same _ (g + 1) 2 _ _ (.slice b2 n2 c2) x1
     have x3 := heap_setCell_same _ (g + 1) 3 _ _ (.int .i64 ln) x2
     have hb8 := (((Hb5.out.setCell (p := ⟨g + 1, 0, none⟩) (by show w.heap.size ≤ g + 1; omega) (.string s.1)).setCell (p := ⟨g + 1, 1, none⟩) (by show w.heap.size ≤ g + 1; omega) (.slice b1 n1 c1)).setCell (p := ⟨g + 1, 2, none⟩) (by show w.heap.size ≤ g + 1; omega) (.slice b2 n2 c2)).setCell (p := ⟨g + 1, 3, none⟩) (by show w.heap.size ≤ g + 1; omega) (.int .i64 ln)
     have hT : Frm (fun k => k = g + 1) w5 ((((w5.setCell ⟨g + 1, 0, none⟩ (.string s.1)).setCell ⟨g + 1, 1, none⟩ (.slice b1 n1 c1)).setCell ⟨g + 1, 2, none⟩ (.slice b2 n2 c2)).setCell ⟨g + 1, 3, none⟩ (.int .i64 ln)) := frm_cell (frm_cell (frm_cell (frm_cell (Frm.refl _ _) 0 _) 1 _) 2 _) 3 _
     have hno : No2 w5 (fun k => k = g + 1) := by
      rintro k rfl
      exact no2_of Hy1.out (by decide) (by decide)
     refine bodyPost_ret (results_row1 (g := g + 1) rfl rfl rfl x3 Tryz.underlying101 rfl (by kernel_rfl)) rfl ?_
     refine ⟨.inl ⟨s, 0, b1, n1, c1, b2, n2, c2, ?_, rfl, sps_other Hv1'.out hT hno, sets_other Hv2'.out hT hno⟩, hb8⟩
     unfold rootW
     rw [if_pos (by rw [Hpk.out]; exact Hroot.out), Hw.out]
     simp only
     rw [if_neg (by rw [← Hn.out]; exact Hj.out)]
   ·obtain ⟨w5, hw5⟩ : ∃ W, W = w4.alloc (.cells #[.string ⟨#[]⟩, .slice none 0 0, .slice none 0 0] 51) := ⟨_, rfl⟩
    have hb45 : Below w4.heap.size w4 w5 := by rw [hw5]; exact below_alloc1 _ _
    have hb35 := hb4.trans (hb45.mono hb4.size)
    have hb5 := Hb3.out.trans (hb35.mono Hb3.out.size)
    have y1 := heap_below hb35 Hr1.out
    obtain ⟨_, z0, z1, z2, z3⟩ := root_cells y1
    obtain ⟨cc, hcc⟩ : ∃ z, z = colAt (ws.drop 1) (xc + xt.size) j := ⟨_, rfl⟩
    rw [← hcc]
    have hcn : cc ≠ 0 := by rw [hcc]; exact Hcol.out j
    have k6 : (cc != 0) = true := by simpa using hcn
    obtain ⟨Hw, Hb4, Hb45, Hb35, Hb5, Hy1, Hcc, Hcn⟩ := hd8 hw hb4 hb45 hb35 hb5 y1 hcc hcn; clear hw hb4 hb45 hb35 hb5 y1 hcc hcn
    go_upto_region 6 with (fail)
    rw [← hw5]
    clear hw5
    go_wp2_with fail
    have x0 := heap_setCell_same _ (g + 1) 0 _ _ (.string ⟨#[]⟩) Hy1.out
    have x1 := heap_setCell_same _ (g + 1) 1 _ _ (.slice none 0 0) x0
    have x2 := heap_setCell_same _ (g + 1) 2 _ _ (.slice none 0 0) x1
    have x3 := heap_setCell_same _ (g + 1) 3 _ _ (.int .i64 0) x2
    have hb8 := (((Hb5.out.setCell (p := ⟨g + 1, 0, none⟩) (by show w.heap.size ≤ g + 1; omega) (.string ⟨#[]⟩)).setCell (p := ⟨g + 1, 1, none⟩) (by show w.heap.size ≤ g + 1; omega) (.slice none 0 0)).setCell (p := ⟨g + 1, 2, none⟩) (by show w.heap.size ≤ g + 1; omega) (.slice none 0 0)).setCell (p := ⟨g + 1, 3, none⟩) (by show w.heap.size ≤ g + 1; omega) (.int .i64 0)
    refine bodyPost_ret (results_row1 (g := g + 1) rfl rfl rfl x3 Tryz.underlying101 rfl (by kernel_rfl)) rfl ?_
    refine ⟨.inr ⟨cc, ?_, Hcn.out, rfl⟩, hb8⟩
    unfold rootW
    rw [if_pos (by rw [Hpk.out]; exact Hroot.out), Hw.out]
    simp only
    rw [Hfin.out, Hcc.out]
 ·have k5 : (yt.toList == [114, 111, 111, 116]) = false := by rw [heq, decide_eq_false hroot]
  clear heq
  have Hroot := hd hroot; clear hroot
  go_enter Tryz.func71, Tryz.ntmps71
  go_upto_region 1 with (fail)
  rw [← hW2, ← hg]
  clear hW2 hg
  go_upto_region 2 with (fail)
  rw [← hW3]
  clear hW3 hs2 l0 l1 d0 d1
  go_wp2_with fail
  go_region
  go_wp2_with fail
  have x0 := heap_setCell_same _ (g + 1) 0 _ _ (.string ⟨#[]⟩) Hr1.out
  have x1 := heap_setCell_same _ (g + 1) 1 _ _ (.slice none 0 0) x0
  have x2 := heap_setCell_same _ (g + 1) 2 _ _ (.slice none 0 0) x1
  have x3 := heap_setCell_same _ (g + 1) 3 _ _ (.int .i64 0) x2
  have hb8 := (((Hb3.out.setCell (p := ⟨g + 1, 0, none⟩) (by show w.heap.size ≤ g + 1; omega) (.string ⟨#[]⟩)).setCell (p := ⟨g + 1, 1, none⟩) (by show w.heap.size ≤ g + 1; omega) (.slice none 0 0)).setCell (p := ⟨g + 1, 2, none⟩) (by show w.heap.size ≤ g + 1; omega) (.slice none 0 0)).setCell (p := ⟨g + 1, 3, none⟩) (by show w.heap.size ≤ g + 1; omega) (.int .i64 0)
  refine bodyPost_ret (results_row1 (g := g + 1) rfl rfl rfl x3 Tryz.underlying101 rfl (by kernel_rfl)) rfl ?_
  refine ⟨.inr ⟨yc, ?_, by omega, rfl⟩, Below.drew hb8⟩
  unfold rootW
  rw [if_neg (by rw [Hpk.out]; exact Hroot.out), Hcl0.out]
end Go.Proofs.YteailgjiifdgcaaGreatDoor

/- The walks of the lexer: ends, breaks, begins, takes. Condition: nothing is great. -/
namespace Go.Proofs.YteailgjiifdgcaaGreatDoor
open Go.RowKit
open LexM (Bs Wd Ln St)

theorem ofNat_toNat (c : UInt8) : UInt8.ofNat ((c.toNat : Int)).toNat = c := by simp
theorem strOf (s : Bs) : strOfNums (s.map fun c => ((c.toNat : Int))) = ⟨s.toArray⟩ := by
 unfold strOfNums
 congr 2
 rw [List.map_map]
 conv => rhs; rw [← List.map_id s]
 apply List.map_congr_left
 intro c _
 simp
theorem conv_bytes {w : World} {B : Nat} {v : Value} {s : Bs} (h : w.ownsRow B 5 1 v s.length (byVals s)) (hs : s ≠ []) : (convert 142 9 v).run Tryz.prog w = .ok (bv s) w := by
 have hpos := List.length_pos_iff.2 hs
 obtain ⟨g, cap, rfl, _, _, hn, hm, hc⟩ := ownsRow_some h hpos
 have := run_convert_bytes_arg (P := Tryz.prog) (w := w) 142 5 Tryz.underlying142 Tryz.underlying5 g 0 s.length cap (s.map fun c => ((c.toNat : Int))) (by simp) (fun i hi => by
  have h1 : (byVals s)[i]? = some (.int .u8 (s[i].toNat : Int)) := by simp [byVals, hi]
  rw [Nat.zero_add, hc i _ h1]
  simp [List.getD, hi]) 9 Tryz.underlying9
 rw [this, strOf]

theorem LexSt.setEnds {w0 w : World} {x : Nat} {s : St} {wv sv ov : Value} {rv : List Value} (h : LexSt w0 x s wv sv ov rv w) :
  LexSt w0 x { s with frm := 0, word := [] } (.slice none 0 0) sv ov rv ((w.setCell ⟨x, 2, none⟩ (.int .i64 0)).setCell ⟨x, 4, none⟩ (.slice none 0 0)) := by
 have f1 : Frm (fun k => k = x) w (w.setCell ⟨x, 2, none⟩ (.int .i64 0)) := Frm.setCell (S := fun k => k = x) (Frm.refl _ _) (p := ⟨x, 2, none⟩) (.inr rfl) _
 have f2 := Frm.setCell f1 (p := ⟨x, 4, none⟩) (.inr rfl) (.slice none 0 0)
 refine h.to f2 ?_ (.inr ⟨rfl, rfl⟩) (.inl ⟨rfl, rfl⟩) rfl
 have h1 := heap_setCell_same w x 2 _ _ (.int .i64 0) h.cells
 rw [heap_setCell_same _ x 4 _ _ (.slice none 0 0) h1]
 rfl

abbrev lexp (x : Nat) : Value := .pointer (some ⟨x, 0, none⟩)
def LexDone (w0 : World) (x : Nat) (s : St) (e : Ending) (w' : World) : Prop := e = .returned (.tuple #[]) ∧ ∃ wv sv ov rv, LexSt w0 x s wv sv ov rv w'

theorem lexdone {w0 w : World} {x : Nat} {s s' : St} {wv sv ov : Value} {rv : List Value} (h : LexSt w0 x s' wv sv ov rv w) (e : s' = s) : LexDone w0 x s (.returned (.tuple #[])) w := ⟨rfl, wv, sv, ov, rv, e ▸ h⟩

set_option maxHeartbeats 1000000 in
theorem ends_some {w0 w : World} {x : Nat} {s : St} {wv sv ov : Value} {rv : List Value} (h : LexSt w0 x s wv sv ov rv w) {m : Nat} (hm : m ≤ 1000000) (hs : Small s m) (hf : 0 < s.frm) :
  Calls Tryz.prog 176 #[lexp x] w (LexDone w0 x (LexM.ends s)) := by
 have hne := hs.begun hf
 have hwl := hs.words
 have hB := h.bel.size
 have hcv : (convert 142 9 wv).run Tryz.prog w.drew = .ok (bv s.word) w.drew := conv_bytes (w := w.drew) h.word hne
 have hnx := apart_block h.words h.cells (by decide)
 have c2 := cells_at h.cells 2
 have c4 := cells_at h.cells 4
 have c5 := cells_at h.cells 5
 simp only [lexCells, List.getElem?_toArray, List.getElem?_cons_succ, List.getElem?_cons_zero] at c2 c4 c5
 have a5 : ∀ o : Obj, (w.alloc o).cell? ⟨x, 5, none⟩ = some sv := fun o => ((Frm.refl _ w).alloc o).keep c5
 have hwd : (w.drew).ownsRow w0.heap.size 64 2 sv s.words.length (s.words.flatMap wdCells) := h.words
 have hBd : w0.heap.size ≤ w.drew.heap.size := hB
 obtain ⟨Hh, Hwd, Hnx, Hs⟩ := hd4 h hwd hnx hs; clear h hwd hnx hs
 go_enter Tryz.func176, Tryz.ntmps176
 go_wp2_with fail
 go_region_law (refine step_append_some elem_word (w := w.drew) rfl (.tmp 11) (.tmp 22) rfl w0.heap.size sv s.words.length (s.words.flatMap wdCells) rfl Hwd.out 1 (by decide) #[.int .i64 s.frm, bv s.word] rfl rfl (by simp [Value.oneCell', bv]) (by omega) (by unfold maxLen; omega) hBd ?_; intro g8 c8 w8 hown8 hg8 hm8; have hc8 := heap_to Hh.out.cells ((Frm.drew (Frm.refl _ w)).grown hg8 (S := fun k => sv.ownBlock = some k) (fun k hk => .inr hk)) Hnx.out; have d5 := cells_at hc8 5; have e5 := frozen_at hc8 5; simp only [lexCells, List.getElem?_toArray, List.getElem?_cons_succ, List.getElem?_cons_zero] at d5)
 all_goals
  have hP := Hh.out.pushWord (s.frm, s.word) hown8 (grown_drew hg8) (fun k hk => hm8 k hk)
  obtain ⟨w9, hw9⟩ : ∃ w9, w9 = w8.setCell ⟨x, 5, none⟩ (.slice (some ⟨g8, 0, none⟩) (s.words.length + 1) c8) := ⟨_, rfl⟩
  rw [← hw9] at hP ⊢
  have z2 := frozen_at hP.cells 2
  have z4 := frozen_at hP.cells 4
  have y2 := cells_at hP.cells 2
  have y4 := cells_at hP.cells 4
  simp only [lexCells, List.getElem?_toArray, List.getElem?_cons_succ, List.getElem?_cons_zero] at y2 y4
  have hL := hP.setEnds
  obtain ⟨HP, HL⟩ := hd2 hP hL; clear hP hL
  clear hown8 hg8 hm8 hc8 d5 e5 hw9 c2 c4 c5 a5 hcv
  go_wp2_with fail
  go_end0
  exact lexdone HL.out (by unfold LexM.ends; rw [if_pos hf])

set_option maxHeartbeats 400000 in
theorem ends_none {w0 w : World} {x : Nat} {s : St} {wv sv ov : Value} {rv : List Value} (h : LexSt w0 x s wv sv ov rv w) (hf : ¬ 0 < s.frm) :
  Calls Tryz.prog 176 #[lexp x] w (LexDone w0 x (LexM.ends s)) := by
 have z2 := frozen_at h.cells 2
 have z4 := frozen_at h.cells 4
 have y2 := cells_at h.cells 2
 have y4 := cells_at h.cells 4
 simp only [lexCells, List.getElem?_toArray, List.getElem?_cons_succ, List.getElem?_cons_zero] at y2 y4
 have hL := h.setEnds
 obtain ⟨Hh, HL⟩ := hd2 h hL; clear h hL
 go_enter Tryz.func176, Tryz.ntmps176
 go_wp2_with fail
 go_end0
 exact lexdone HL.out (by unfold LexM.ends; rw [if_neg (by omega)])
theorem ends_any {w0 w : World} {x : Nat} {s : St} {wv sv ov : Value} {rv : List Value} (h : LexSt w0 x s wv sv ov rv w) {m : Nat} (hm : m ≤ 1000000) (hs : Small s m) :
  Calls Tryz.prog 176 #[lexp x] w (LexDone w0 x (LexM.ends s)) := by
 by_cases hf : 0 < s.frm
 ·exact ends_some h hm hs hf
 ·exact ends_none h hf
end Go.Proofs.YteailgjiifdgcaaGreatDoor

/- The walks of the lexer: breaks. Condition: nothing is great. -/
namespace Go.Proofs.YteailgjiifdgcaaGreatDoor
open Go.RowKit
open LexM (Bs Wd Ln St)

theorem ends_len (s : St) (m : Nat) (h : s.words.length ≤ m) : (LexM.ends s).words.length ≤ m + 1 := by
 unfold LexM.ends
 dsimp only
 split <;> (try simp) <;> omega
set_option maxHeartbeats 1000000 in
theorem breaks_some {w0 w : World} {x : Nat} {s : St} {wv sv ov : Value} {rv : List Value} (h : LexSt w0 x s wv sv ov rv w) {m : Nat} (hm : m ≤ 1000000) (hs : Small s m) (hw : (LexM.ends s).words ≠ []) :
  Calls Tryz.prog 127 #[lexp x] w (LexDone w0 x (LexM.breaks s)) := by
 have HE := Lib.hid (ends_any h hm hs)
 have hso := hs.out
 have hsl := hs.line
 have hlen := ends_len s m hs.words
 have hpos := List.length_pos_iff.2 hw
 obtain ⟨Hh, Hs, Hw⟩ := hd3 h hs hw; clear h hs hw
 go_enter Tryz.func127, Tryz.ntmps127
 go_wp2_with fail
 refine HE.out.mono ?_
 rintro e w1 ⟨rfl, wv1, sv1, ov1, rv1, h1⟩
 have hB := h1.bel.size
 have hnx := apart_block h1.out h1.cells (by decide)
 obtain ⟨sa, sc, rfl⟩ := own_shape h1.words
 have c0 := cells_at h1.cells 0
 have c5 := cells_at h1.cells 5
 have c6 := cells_at h1.cells 6
 simp only [lexCells, LexM.ends, List.getElem?_toArray, List.getElem?_cons_succ, List.getElem?_cons_zero] at c0 c5 c6
 obtain ⟨ws, hws⟩ : ∃ ws, ws = (LexM.ends s).words := ⟨_, rfl⟩
 have c5' : w1.cell? ⟨x, 5, none⟩ = some (.slice sa ws.length sc) := by rw [hws]; exact c5
 rw [← hws] at hpos hlen
 have a6 : ∀ o : Obj, (w1.alloc o).cell? ⟨x, 6, none⟩ = some ov1 := fun o => ((Frm.refl _ w1).alloc o).keep c6
 have hwd : (w1.drew).ownsRow w0.heap.size 62 2 ov1 s.out.length (lnCells s.out rv1) := h1.out
 have hBd : w0.heap.size ≤ w1.drew.heap.size := hB
 obtain ⟨H1, Hwd, Hnx, Hws⟩ := hd4 h1 hwd hnx hws; clear h1 hwd hnx hws
 clear c5
 go_wp2_with fail
 go_region_law (refine step_append_some elem_line (w := w1.drew) rfl (.tmp 14) (.tmp 24) rfl w0.heap.size ov1 s.out.length (lnCells s.out rv1) rfl Hwd.out 1 (by decide) #[.int .i64 s.line, .slice sa ws.length sc] rfl rfl (by simp [Value.oneCell']) (by omega) (by unfold maxLen; omega) hBd ?_; intro g8 c8 w8 hown8 hg8 hm8; have hc8 := heap_to H1.out.cells ((Frm.drew (Frm.refl _ w1)).grown hg8 (S := fun k => ov1.ownBlock = some k) (fun k hk => .inr hk)) Hnx.out; have d6 := cells_at hc8 6; have e6 := frozen_at hc8 6; simp only [lexCells, LexM.ends, List.getElem?_toArray, List.getElem?_cons_succ, List.getElem?_cons_zero] at d6)
 all_goals
  have d0 := cells_at hc8 0
  have d1 := cells_at hc8 1
  have d3 := cells_at hc8 3
  have d5 := cells_at hc8 5
  have e0 := frozen_at hc8 0
  have e1 := frozen_at hc8 1
  have e3 := frozen_at hc8 3
  have e5 := frozen_at hc8 5
  simp only [lexCells, LexM.ends, List.getElem?_toArray, List.getElem?_cons_succ, List.getElem?_cons_zero] at d0 d1 d3 d5
  have hcells := hc8
  have hl1 : -9223372036854775808 ≤ s.line + 1 ∧ s.line + 1 ≤ 9223372036854775807 := by omega
  obtain ⟨Hown8, Hg8, Hcells⟩ := hd3 hown8 hg8 hcells; clear hown8 hg8 hcells
  clear hm8 hc8 c0 c5' c6 a6
  go_wp2_with fail
  go_end0
  have hS : LexM.breaks s = { (LexM.ends s) with out := s.out ++ [(s.line, (LexM.ends s).words)], words := [], off := false, line := s.line + 1, col := 0 } := by
   unfold LexM.breaks
   rw [if_neg Hw.out]
  refine lexdone (H1.out.pushLine (s' := LexM.breaks s) (by have := Hown8.out; rw [Hws.out] at this; exact this) (grown_drew Hg8.out) ?_ ?_ ?_ ?_ ?_) rfl
  ·exact frm_cell (frm_cell (frm_cell (frm_cell (frm_cell (Frm.refl _ w8) 6 _) 5 _) 3 _) 0 _) 1 _
  ·rw [hS]
   have k0 := heap_setCell_same _ x 6 _ _ (.slice (some ⟨g8, 0, none⟩) (s.out.length + 1) c8) Hcells.out
   have k1 := heap_setCell_same _ x 5 _ _ (.slice none 0 0) k0
   have k2 := heap_setCell_same _ x 3 _ _ (.bool false) k1
   have k3 := heap_setCell_same _ x 0 _ _ (.int .i64 (s.line + 1)) k2
   have k4 := heap_setCell_same _ x 1 _ _ (.int .i64 0) k3
   rw [k4]
   rfl
  ·rw [hS]
  ·rw [hS]
  ·rw [hS]; rfl

set_option maxHeartbeats 1000000 in
theorem breaks_none {w0 w : World} {x : Nat} {s : St} {wv sv ov : Value} {rv : List Value} (h : LexSt w0 x s wv sv ov rv w) {m : Nat} (hm : m ≤ 1000000) (hs : Small s m) (hw : (LexM.ends s).words = []) :
  Calls Tryz.prog 127 #[lexp x] w (LexDone w0 x (LexM.breaks s)) := by
 have HE := Lib.hid (ends_any h hm hs)
 have hsl := hs.line
 obtain ⟨Hh, Hs, Hw⟩ := hd3 h hs hw; clear h hs hw
 go_enter Tryz.func127, Tryz.ntmps127
 go_wp2_with fail
 refine HE.out.mono ?_
 rintro e w1 ⟨rfl, wv1, sv1, ov1, rv1, h1⟩
 obtain ⟨sa, sc, rfl⟩ := own_shape h1.words
 have hcells := h1.cells
 rw [Hw.out] at hcells
 have d0 := cells_at hcells 0
 have d1 := cells_at hcells 1
 have d3 := cells_at hcells 3
 have d5 := cells_at hcells 5
 have e0 := frozen_at hcells 0
 have e1 := frozen_at hcells 1
 have e3 := frozen_at hcells 3
 have e5 := frozen_at hcells 5
 simp only [lexCells, LexM.ends, List.getElem?_toArray, List.getElem?_cons_succ, List.getElem?_cons_zero, List.length_nil] at d0 d1 d3 d5
 have hl1 : -9223372036854775808 ≤ s.line + 1 ∧ s.line + 1 ≤ 9223372036854775807 := by omega
 obtain ⟨H1, Hcells⟩ := hd2 h1 hcells; clear h1 hcells
 go_wp2_with fail
 go_end0
 have hS : LexM.breaks s = { (LexM.ends s) with out := s.out, words := [], off := false, line := s.line + 1, col := 0 } := by
  unfold LexM.breaks
  rw [if_pos Hw.out]
 refine lexdone (H1.out.to (s' := LexM.breaks s) (wv' := wv1) (sv' := .slice none 0 0) ?_ ?_ (.inl ⟨rfl, ?_⟩) (.inr ⟨rfl, ?_⟩) ?_) rfl
 ·exact frm_cell (frm_cell (frm_cell (frm_cell (Frm.refl _ w1) 5 _) 3 _) 0 _) 1 _
 ·rw [hS]
  have k1 := heap_setCell_same _ x 5 _ _ (.slice none 0 0) Hcells.out
  have k2 := heap_setCell_same _ x 3 _ _ (.bool false) k1
  have k3 := heap_setCell_same _ x 0 _ _ (.int .i64 (s.line + 1)) k2
  have k4 := heap_setCell_same _ x 1 _ _ (.int .i64 0) k3
  rw [k4]
  rfl
 ·rw [hS]
 ·rw [hS]
 ·rw [hS]; rfl
theorem breaks_any {w0 w : World} {x : Nat} {s : St} {wv sv ov : Value} {rv : List Value} (h : LexSt w0 x s wv sv ov rv w) {m : Nat} (hm : m ≤ 1000000) (hs : Small s m) :
  Calls Tryz.prog 127 #[lexp x] w (LexDone w0 x (LexM.breaks s)) := by
 by_cases hw : (LexM.ends s).words = []
 ·exact breaks_none h hm hs hw
 ·exact breaks_some h hm hs hw
end Go.Proofs.YteailgjiifdgcaaGreatDoor

/- The walks of the lexer: begins, takes. Condition: nothing is great. -/
namespace Go.Proofs.YteailgjiifdgcaaGreatDoor
open Go.RowKit
open LexM (Bs Wd Ln St)

def LexTold (w0 : World) (x : Nat) (s : St) (v : Value) (e : Ending) (w' : World) : Prop := e = .returned v ∧ ∃ wv sv ov rv, LexSt w0 x s wv sv ov rv w'
theorem lextold {w0 w : World} {x : Nat} {s s' : St} {wv sv ov v v' : Value} {rv : List Value} (h : LexSt w0 x s' wv sv ov rv w) (e : s' = s) (hv : v' = v) : LexTold w0 x s v (.returned v') w := ⟨by rw [hv], wv, sv, ov, rv, e ▸ h⟩
theorem LexSt.scal {w0 w : World} {x : Nat} {s : St} {wv sv ov : Value} {rv : List Value} (h : LexSt w0 x s wv sv ov rv w) (i : Nat) (u : Value) (s' : St) (hc : ((lexCells s wv sv ov).setIfInBounds i u) = lexCells s' wv sv ov) (h1 : s'.word = s.word) (h2 : s'.words = s.words) (h3 : s'.out = s.out) :
  LexSt w0 x s' wv sv ov rv (w.setCell ⟨x, i, none⟩ u) := by
 refine h.to (Frm.setCell (S := fun k => k = x) (Frm.refl _ _) (p := ⟨x, i, none⟩) (.inr rfl) _) ?_ (.inl ⟨rfl, h1⟩) (.inl ⟨rfl, h2⟩) h3
 rw [heap_setCell_same w x i _ _ u h.cells, hc]

set_option maxHeartbeats 1000000 in
theorem begins_any {w0 w : World} {x : Nat} {s : St} {wv sv ov : Value} {rv : List Value} (h : LexSt w0 x s wv sv ov rv w) (hf : ¬ 0 < s.frm) :
  Calls Tryz.prog 177 #[lexp x] w (LexTold w0 x { s with frm := s.col } (.bool (LexM.mayBegin s))) := by
 obtain ⟨sa, sc, rfl⟩ := own_shape h.words
 obtain ⟨oa, oc, rfl⟩ := own_shape h.out
 have d1 := cells_at h.cells 1
 have d2 := cells_at h.cells 2
 have d5 := cells_at h.cells 5
 have d6 := cells_at h.cells 6
 have e2 := frozen_at h.cells 2
 simp only [lexCells, List.getElem?_toArray, List.getElem?_cons_succ, List.getElem?_cons_zero] at d1 d2 d5 d6
 have hL := h.scal 2 (.int .i64 s.col) { s with frm := s.col } rfl rfl rfl rfl
 obtain ⟨Hh, HL⟩ := hd2 h hL; clear h hL
 by_cases h1 : s.words.length < 40
 ·by_cases h2 : 0 < s.words.length
  ·have hb : LexM.mayBegin s = true := by unfold LexM.mayBegin; simp [h1, h2]
   have Hb := hd hb; clear hb
   go_enter Tryz.func177, Tryz.ntmps177
   go_wp2_with fail
   go_ret
   exact lextold HL.out rfl (by rw [Hb.out]; rfl)
  ·by_cases h3 : s.out.length < 2000
   ·have hb : LexM.mayBegin s = true := by unfold LexM.mayBegin; simp [h1, h3]
    have Hb := hd hb; clear hb
    go_enter Tryz.func177, Tryz.ntmps177
    go_wp2_with fail
    go_ret
    exact lextold HL.out rfl (by rw [Hb.out]; exact congrArg Value.bool (decide_eq_true (by omega)))
   ·have hb : LexM.mayBegin s = false := by unfold LexM.mayBegin; simp [h2, h3]
    have Hb := hd hb; clear hb
    go_enter Tryz.func177, Tryz.ntmps177
    go_wp2_with fail
    go_ret
    exact lextold HL.out rfl (by rw [Hb.out]; exact congrArg Value.bool (decide_eq_false (by omega)))
 ·have hb : LexM.mayBegin s = false := by unfold LexM.mayBegin; simp [h1]
  have Hb := hd hb; clear hb
  go_enter Tryz.func177, Tryz.ntmps177
  go_wp2_with fail
  go_ret
  exact lextold HL.out rfl (by rw [Hb.out]; rfl)
set_option maxHeartbeats 400000 in
theorem begins_on {w0 w : World} {x : Nat} {s : St} {wv sv ov : Value} {rv : List Value} (h : LexSt w0 x s wv sv ov rv w) (hf : 0 < s.frm) :
  Calls Tryz.prog 177 #[lexp x] w (LexTold w0 x s (.bool true)) := by
 have d2 := cells_at h.cells 2
 simp only [lexCells, List.getElem?_toArray, List.getElem?_cons_succ, List.getElem?_cons_zero] at d2
 have Hh := hd h; clear h
 go_enter Tryz.func177, Tryz.ntmps177
 go_wp2_with fail
 go_ret
 exact lextold Hh.out rfl rfl

theorem small_on {s : St} {m : Nat} (h : Small s m) : Small (LexM.onward s) (m + 1) := by
 obtain ⟨a, b, c, d, e, f, g⟩ := h
 refine ⟨?_, ?_, ?_, ?_, ?_, ?_, g⟩ <;> simp only [LexM.onward] <;> omega
theorem LexSt.on {w0 w : World} {x : Nat} {s : St} {wv sv ov : Value} {rv : List Value} (h : LexSt w0 x s wv sv ov rv w) : LexSt w0 x (LexM.onward s) wv sv ov rv (w.setCell ⟨x, 1, none⟩ (.int .i64 (s.col + 1))) :=
 h.scal 1 (.int .i64 (s.col + 1)) (LexM.onward s) rfl rfl rfl rfl

def TakePost (w0 : World) (x : Nat) (s : St) (c : UInt8) : Ending → World → Prop := LexTold w0 x (LexM.takes s c).1 (.int .i64 (LexM.takes s c).2)

set_option maxHeartbeats 2000000 in
theorem takes_any {w0 w : World} {x : Nat} {s : St} {wv sv ov : Value} {rv : List Value} (h : LexSt w0 x s wv sv ov rv w) {m : Nat} (hm : m < 1000000) (hs : Small s m) (c : UInt8) :
  Calls Tryz.prog 126 #[lexp x, .int .u8 c.toNat] w (TakePost w0 x s c) := by
 have hcol := hs.col
 have hcl : c.toNat < 256 := c.toNat_lt
 have d1 := cells_at h.cells 1
 have e1 := frozen_at h.cells 1
 have h2 := h.on
 have hs2 := small_on hs
 obtain ⟨n, hn⟩ : ∃ n, n = c.toNat := ⟨_, rfl⟩
 rw [← hn] at hcl ⊢
 simp only [lexCells, List.getElem?_toArray, List.getElem?_cons_succ, List.getElem?_cons_zero] at d1
 obtain ⟨Hh, H2, Hs, Hs2, Hn⟩ := hd5 h h2 hs hs2 hn; clear h h2 hs hs2 hn
 by_cases h10 : n = 10
 ·have ht : LexM.takes s c = (LexM.breaks (LexM.onward s), 0) := by unfold LexM.takes; rw [if_pos (by rw [← Hn.out]; exact h10)]
  have b10 : ((n : Int) == 10) = true := by rw [beq_iff_eq]; omega
  have HB := Lib.hid (breaks_any H2.out (by omega) Hs2.out)
  unfold TakePost
  rw [ht]
  obtain ⟨Ht, H10⟩ := hd2 ht h10; clear ht h10
  go_enter Tryz.func126, Tryz.ntmps126
  go_wp2_with fail
  refine HB.out.mono ?_
  rintro e w1 ⟨rfl, wv1, sv1, ov1, rv1, h1⟩
  have H1 := hd h1; clear h1
  go_wp2_with fail
  go_ret
  exact lextold H1.out rfl rfl
 ·have c10 : ¬ c.toNat = 10 := by rw [← Hn.out]; exact h10
  have b10 : ((n : Int) == 10) = false := by rw [beq_eq_false_iff_ne]; omega
  by_cases hA : n < 32 ∨ 126 < n
  ·have ht : LexM.takes s c = (LexM.onward s, 3) := by unfold LexM.takes; rw [if_neg c10, if_pos (by rw [← Hn.out]; exact hA)]
   unfold TakePost
   rw [ht]
   clear ht h10 c10
   by_cases h32 : n < 32
   ·clear hA
    go_enter Tryz.func126, Tryz.ntmps126
    go_wp2_with fail
    go_ret
    exact lextold H2.out rfl rfl
   ·have h126 : 126 < n := by omega
    clear hA
    go_enter Tryz.func126, Tryz.ntmps126
    go_wp2_with fail
    go_ret
    exact lextold H2.out rfl rfl
  ·have hlo : 32 ≤ n := by omega
   have hhi : n ≤ 126 := by omega
   have cA : ¬ (c.toNat < 32 ∨ 126 < c.toNat) := by rw [← Hn.out]; exact hA
   have d3 := cells_at Hh.out.cells 3
   simp only [lexCells, List.getElem?_toArray, List.getElem?_cons_succ, List.getElem?_cons_zero] at d3
   obtain ⟨off, hoff⟩ : ∃ off, off = s.off := ⟨_, rfl⟩
   rw [← hoff] at d3
   clear hA h10
   cases off
   ·have coff : ¬ s.off = true := by rw [← hoff]; simp
    clear hoff
    by_cases h35 : n = 35
    ·have ht : LexM.takes s c = ({ LexM.ends (LexM.onward s) with off := true }, 0) := by unfold LexM.takes; rw [if_neg c10, if_neg cA, if_neg coff, if_pos (by rw [← Hn.out]; exact h35)]
     have b35 : ((n : Int) == 35) = true := by rw [beq_iff_eq]; omega
     have HE := Lib.hid (ends_any H2.out (by omega) Hs2.out)
     unfold TakePost
     rw [ht]
     clear ht c10 cA coff h35
     go_enter Tryz.func126, Tryz.ntmps126
     go_wp2_with fail
     refine HE.out.mono ?_
     rintro e w1 ⟨rfl, wv1, sv1, ov1, rv1, h1⟩
     have e3 := cells_at h1.cells 3
     have f3 := frozen_at h1.cells 3
     simp only [lexCells, List.getElem?_toArray, List.getElem?_cons_succ, List.getElem?_cons_zero] at e3
     have hX := h1.scal 3 (.bool true) { LexM.ends (LexM.onward s) with off := true } rfl rfl rfl rfl
     obtain ⟨H1, HX⟩ := hd2 h1 hX; clear h1 hX
     go_wp2_with fail
     go_ret
     exact lextold HX.out rfl rfl
    ·have c35 : ¬ c.toNat = 35 := by rw [← Hn.out]; exact h35
     have b35 : ((n : Int) == 35) = false := by rw [beq_eq_false_iff_ne]; omega
     by_cases h32 : n = 32
     ·have ht : LexM.takes s c = (LexM.ends (LexM.onward s), 0) := by unfold LexM.takes; rw [if_neg c10, if_neg cA, if_neg coff, if_neg c35, if_pos (by rw [← Hn.out]; exact h32)]
      have b32 : ((n : Int) == 32) = true := by rw [beq_iff_eq]; omega
      have HE := Lib.hid (ends_any H2.out (by omega) Hs2.out)
      unfold TakePost
      rw [ht]
      clear ht c10 cA coff h35 c35 h32
      go_enter Tryz.func126, Tryz.ntmps126
      go_wp2_with fail
      refine HE.out.mono ?_
      rintro e w1 ⟨rfl, wv1, sv1, ov1, rv1, h1⟩
      have H1 := hd h1; clear h1
      go_wp2_with fail
      go_ret
      exact lextold H1.out rfl rfl
     ·have c32 : ¬ c.toNat = 32 := by rw [← Hn.out]; exact h32
      have b32 : ((n : Int) == 32) = false := by rw [beq_eq_false_iff_ne]; omega
      by_cases hfr : 0 < s.frm
      ·have ht : LexM.takes s c = ({ LexM.onward s with word := s.word ++ [c] }, 0) := by unfold LexM.takes; rw [if_neg c10, if_neg cA, if_neg coff, if_neg c35, if_neg c32, if_pos hfr]
       have HE := Lib.hid (begins_on H2.out (show 0 < (LexM.onward s).frm from hfr))
       have Ht := hd ht; clear ht
       clear c10 cA coff h35 c35 h32 c32 hfr
       go_enter Tryz.func126, Tryz.ntmps126
       go_wp2_with fail
       refine HE.out.mono ?_
       rintro e w1 ⟨rfl, wv1, sv1, ov1, rv1, h1⟩
       have e4 := cells_at h1.cells 4
       simp only [lexCells, List.getElem?_toArray, List.getElem?_cons_succ, List.getElem?_cons_zero] at e4
       have hB1 := h1.bel.size
       have hx1 := apart_block h1.word h1.cells (by decide)
       have how := h1.word
       have hwl : s.word.length ≤ m := Hs.out.word
       obtain ⟨H1, Hx1, How⟩ := hd3 h1 hx1 how; clear h1 hx1 how
       go_wp2_with (at_builtin; refine wpList_append_some elem_byte (w := w1) rfl (.tmp 16) (.tmp 18) rfl w0.heap.size wv1 s.word.length (byVals s.word) rfl How.out 1 (by decide) #[.int .u8 n] rfl rfl (by simp [Value.oneCell']) (by omega) (by unfold maxLen; omega) hB1 ?_)
       intro g8 c8 w8 hown8 hg8 hm8
       have hc8 := heap_to H1.out.cells ((Frm.refl _ w1).grown hg8 (S := fun k => wv1.ownBlock = some k) (fun k hk => .inr hk)) Hx1.out
       have k4 := cells_at hc8 4
       have f4 := frozen_at hc8 4
       simp only [lexCells, List.getElem?_toArray, List.getElem?_cons_succ, List.getElem?_cons_zero] at k4
       have hP := H1.out.pushByte c (by rw [← Hn.out]; exact hown8) hg8
       have HP := hd hP; clear hP
       clear hown8 hg8 hm8 hc8
       go_wp2_with fail
       go_ret
       exact lextold HP.out (by rw [Ht.out]; rfl) (by rw [Ht.out]; rfl)
      ·have HE := Lib.hid (begins_any H2.out (show ¬ 0 < (LexM.onward s).frm from hfr))
       by_cases hmb : LexM.mayBegin s = true
       ·have ht : LexM.takes s c = ({ LexM.onward s with frm := s.col + 1, word := s.word ++ [c] }, 0) := by unfold LexM.takes; rw [if_neg c10, if_neg cA, if_neg coff, if_neg c35, if_neg c32, if_neg hfr, if_pos hmb]
        have hmb2 : LexM.mayBegin (LexM.onward s) = true := hmb
        rw [hmb2] at HE
        have Ht := hd ht; clear ht
        clear c10 cA coff h35 c35 h32 c32 hfr hmb hmb2
        go_enter Tryz.func126, Tryz.ntmps126
        go_wp2_with fail
        refine HE.out.mono ?_
        rintro e w1 ⟨rfl, wv1, sv1, ov1, rv1, h1⟩
        have e4 := cells_at h1.cells 4
        simp only [lexCells, List.getElem?_toArray, List.getElem?_cons_succ, List.getElem?_cons_zero] at e4
        have hB1 := h1.bel.size
        have hx1 := apart_block h1.word h1.cells (by decide)
        have how := h1.word
        have hwl : s.word.length ≤ m := Hs.out.word
        obtain ⟨H1, Hx1, How⟩ := hd3 h1 hx1 how; clear h1 hx1 how
        go_wp2_with (at_builtin; refine wpList_append_some elem_byte (w := w1) rfl (.tmp 16) (.tmp 18) rfl w0.heap.size wv1 s.word.length (byVals s.word) rfl How.out 1 (by decide) #[.int .u8 n] rfl rfl (by simp [Value.oneCell']) (by omega) (by unfold maxLen; omega) hB1 ?_)
        intro g8 c8 w8 hown8 hg8 hm8
        have hc8 := heap_to H1.out.cells ((Frm.refl _ w1).grown hg8 (S := fun k => wv1.ownBlock = some k) (fun k hk => .inr hk)) Hx1.out
        have k4 := cells_at hc8 4
        have f4 := frozen_at hc8 4
        simp only [lexCells, List.getElem?_toArray, List.getElem?_cons_succ, List.getElem?_cons_zero] at k4
        have hP := H1.out.pushByte c (by rw [← Hn.out]; exact hown8) hg8
        have HP := hd hP; clear hP
        clear hown8 hg8 hm8 hc8
        go_wp2_with fail
        go_ret
        exact lextold HP.out (by rw [Ht.out]; rfl) (by rw [Ht.out]; rfl)
       ·have ht : LexM.takes s c = ({ LexM.onward s with frm := s.col + 1 }, 4) := by unfold LexM.takes; rw [if_neg c10, if_neg cA, if_neg coff, if_neg c35, if_neg c32, if_neg hfr, if_neg hmb]
        have hmb2 : LexM.mayBegin (LexM.onward s) = false := (by simpa using hmb : LexM.mayBegin s = false)
        rw [hmb2] at HE
        have Ht := hd ht; clear ht
        clear c10 cA coff h35 c35 h32 c32 hfr hmb hmb2
        go_enter Tryz.func126, Tryz.ntmps126
        go_wp2_with fail
        refine HE.out.mono ?_
        rintro e w1 ⟨rfl, wv1, sv1, ov1, rv1, h1⟩
        have H1 := hd h1; clear h1
        go_wp2_with fail
        go_ret
        exact lextold H1.out (by rw [Ht.out]; rfl) (by rw [Ht.out]; rfl)
   ·have coff : s.off = true := hoff.symm
    have ht : LexM.takes s c = (LexM.onward s, 0) := by unfold LexM.takes; rw [if_neg c10, if_neg cA, if_pos coff]
    unfold TakePost
    rw [ht]
    clear ht c10 cA coff hoff
    go_enter Tryz.func126, Tryz.ntmps126
    go_wp2_with fail
    go_ret
    exact lextold H2.out rfl rfl
end Go.Proofs.YteailgjiifdgcaaGreatDoor

/- The walk of lex.Lines: a text's lines, or the place and the error. No condition. -/
namespace Go.Proofs.YteailgjiifdgcaaGreatDoor
open Go.RowKit
open LexM (Bs Wd Ln St)

theorem small0 : Small LexM.st0 0 := ⟨by decide, by decide, by decide, by decide, by decide, by decide, by decide⟩
theorem ends_small {s : St} {m : Nat} (h : Small s m) : Small (LexM.ends s) (m + 1) := by
 obtain ⟨a, b, c, d, e, f, g⟩ := h
 refine ⟨?_, ?_, ?_, ?_, ?_, ?_, ?_⟩ <;> unfold LexM.ends <;> dsimp only
 ·omega
 ·omega
 ·omega
 ·simp
 ·split <;> (try simp) <;> omega
 ·omega
 ·intro h; exact absurd h (by decide)
theorem breaks_small {s : St} {m : Nat} (h : Small s m) : Small (LexM.breaks s) (m + 1) := by
 obtain ⟨a, b, c, d, e, f, g⟩ := h
 refine ⟨?_, ?_, ?_, ?_, ?_, ?_, ?_⟩ <;> unfold LexM.breaks LexM.ends <;> dsimp only
 ·omega
 ·omega
 ·omega
 ·simp
 ·simp
 ·(repeat' split) <;> (try simp) <;> omega
 ·intro h; exact absurd h (by decide)
theorem Small.mono {s : St} {m k : Nat} (h : Small s m) (hk : m ≤ k) : Small s k := by
 obtain ⟨a, b, c, d, e, f, g⟩ := h
 exact ⟨by omega, by omega, by omega, by omega, by omega, by omega, g⟩
theorem takes_small {s : St} {m : Nat} (h : Small s m) (c : UInt8) (h0 : (LexM.takes s c).2 = 0) : Small (LexM.takes s c).1 (m + 2) := by
 have h1 := small_on h
 unfold LexM.takes at h0 ⊢
 split
 ·exact breaks_small h1
 ·rename_i c10
  rw [if_neg c10] at h0
  split
  ·rename_i cA; rw [if_pos cA] at h0; cases h0
  ·rename_i cA
   rw [if_neg cA] at h0
   split
   ·exact h1.mono (by omega)
   ·rename_i co
    rw [if_neg co] at h0
    split
    ·obtain ⟨a, b, c, d, e, f, g⟩ := ends_small h1
     exact ⟨a, b, c, d, e, f, g⟩
    ·rename_i c35
     rw [if_neg c35] at h0
     split
     ·exact ends_small h1
     ·rename_i c32
      rw [if_neg c32] at h0
      have hw := h.word
      have hc := h.col
      obtain ⟨a, b, c, d, e, f, g⟩ := h1
      split
      ·exact ⟨by dsimp only; omega, by dsimp only; omega, by dsimp only; omega, by simp; omega, by dsimp only; omega, by dsimp only; omega, fun _ => by simp⟩
      ·rename_i cf
       rw [if_neg cf] at h0
       split
       ·refine ⟨by dsimp only; omega, by dsimp only; omega, by dsimp only; omega, by simp; omega, by dsimp only; omega, by dsimp only; omega, fun _ => by simp⟩
       ·rename_i cm
        rw [if_neg cm] at h0
        cases h0
theorem run_small (t : Bs) : ∀ (s : St) (m : Nat), Small s m → (LexM.run s t).2 = 0 → Small (LexM.run s t).1 (m + 2 * t.length) := by
 induction t with
 | nil => intro s m h _; exact h
 | cons c r ih =>
  intro s m h h0
  by_cases hz : (LexM.takes s c).2 = 0
  ·rw [LexM.run_ok hz] at h0 ⊢
   have := ih _ _ (takes_small h c hz) h0
   rw [List.length_cons]
   exact this.mono (by omega)
  ·rw [LexM.run_bad hz] at h0; exact absurd h0 hz
theorem run_snoc_ok (t : Bs) (c : UInt8) (s : St) (h : (LexM.run s t).2 = 0) : LexM.run s (t ++ [c]) = if (LexM.takes (LexM.run s t).1 c).2 = 0 then ((LexM.takes (LexM.run s t).1 c).1, 0) else LexM.takes (LexM.run s t).1 c := by
 rw [LexM.run_append, if_pos h]
 by_cases hz : (LexM.takes (LexM.run s t).1 c).2 = 0
 ·rw [LexM.run_ok hz, if_pos hz]; rfl
 ·rw [LexM.run_bad hz, if_neg hz]
theorem run_stop (t r : Bs) (s : St) (h : (LexM.run s t).2 ≠ 0) : LexM.run s (t ++ r) = LexM.run s t := by rw [LexM.run_append, if_neg h]

def WdOk (m : Nat) (x : Wd) : Prop := 0 ≤ x.1 ∧ x.1 ≤ m ∧ x.2.length ≤ m
def LnOk (m : Nat) (x : Ln) : Prop := 0 ≤ x.1 ∧ x.1 ≤ m + 1 ∧ ∀ wd ∈ x.2, WdOk m wd
structure Fine (s : St) (m : Nat) : Prop where
 words : ∀ wd ∈ s.words, WdOk m wd
 out : ∀ ln ∈ s.out, LnOk m ln
theorem WdOk.mono {m k : Nat} {x : Wd} (h : WdOk m x) (hk : m ≤ k) : WdOk k x := by obtain ⟨a, b, c⟩ := h; exact ⟨a, by omega, by omega⟩
theorem LnOk.mono {m k : Nat} {x : Ln} (h : LnOk m x) (hk : m ≤ k) : LnOk k x := by obtain ⟨a, b, c⟩ := h; exact ⟨a, by omega, fun wd hw => (c wd hw).mono hk⟩
theorem Fine.mono {s : St} {m k : Nat} (h : Fine s m) (hk : m ≤ k) : Fine s k := ⟨fun wd hw => (h.words wd hw).mono hk, fun ln hl => (h.out ln hl).mono hk⟩
theorem ends_fine {s : St} {m : Nat} (hs : Small s m) (h : Fine s m) : Fine (LexM.ends s) m := by
 refine ⟨?_, h.out⟩
 unfold LexM.ends
 dsimp only
 split
 ·intro wd hw
  rcases List.mem_append.1 hw with hw | hw
  ·exact h.words wd hw
  ·simp at hw
   subst hw
   exact ⟨hs.frm.1, hs.frm.2, hs.word⟩
 ·exact h.words
theorem breaks_fine {s : St} {m : Nat} (hs : Small s m) (h : Fine s m) : Fine (LexM.breaks s) m := by
 have h1 := ends_fine hs h
 unfold LexM.breaks
 refine ⟨by simp, ?_⟩
 dsimp only
 split
 ·exact h.out
 ·intro ln hl
  rcases List.mem_append.1 hl with hl | hl
  ·exact h.out ln hl
  ·simp at hl
   subst hl
   exact ⟨hs.line.1, hs.line.2, h1.words⟩
theorem takes_fine {s : St} {m : Nat} (hs : Small s m) (h : Fine s m) (c : UInt8) : Fine (LexM.takes s c).1 (m + 2) := by
 have h1 := small_on hs
 have h2 : Fine (LexM.onward s) (m + 1) := ⟨(h.mono (Nat.le_succ m)).words, (h.mono (Nat.le_succ m)).out⟩
 have h3 := (ends_fine h1 h2).mono (Nat.le_succ _)
 have h4 := h2.mono (Nat.le_succ (m + 1))
 unfold LexM.takes
 split
 ·exact (breaks_fine h1 h2).mono (Nat.le_succ _)
 ·split
  ·exact h4
  ·split
   ·exact h4
   ·split
    ·exact ⟨h3.words, h3.out⟩
    ·split
     ·exact h3
     ·split
      ·exact ⟨h4.words, h4.out⟩
      ·split
       ·exact ⟨h4.words, h4.out⟩
       ·exact ⟨h4.words, h4.out⟩
theorem run_fine (t : Bs) : ∀ (s : St) (m : Nat), Small s m → Fine s m → (LexM.run s t).2 = 0 → Fine (LexM.run s t).1 (m + 2 * t.length) := by
 induction t with
 | nil => intro s m _ h _; exact h
 | cons c r ih =>
  intro s m hs h h0
  by_cases hz : (LexM.takes s c).2 = 0
  ·rw [LexM.run_ok hz] at h0 ⊢
   have := ih _ _ (takes_small hs c hz) (takes_fine hs h c) h0
   rw [List.length_cons]
   exact this.mono (by omega)
  ·rw [LexM.run_bad hz] at h0; exact absurd h0 hz
theorem wf_small {n : Int} (h0 : 0 ≤ n) (h1 : n ≤ 9223372036854775807) : (Lit.int .i64 n).wf = true := by
 simp [Lit.wf, IntKind.min, IntKind.max, IntKind.signed, IntKind.bits]
 omega
theorem rword {w : World} {m : Nat} (hm : m ≤ 10000000) {x : Wd} (h : WdOk m x) : RWd w (wdCells x) x := by
 obtain ⟨a, b, c⟩ := h
 exact ⟨rfl, wf_small a (by omega), by unfold maxLen; omega⟩
theorem LexSt.reads {w0 w w' : World} {x : Nat} {s : St} {wv sv ov : Value} {rv : List Value} (h : LexSt w0 x s wv sv ov rv w) (hfr : Frm (fun k => k < w0.heap.size) w w') {m : Nat} (hm : m ≤ 10000000) (hf : Fine s m) : RLns w' [ov] s.out := by
 have hz : (lnCells s.out rv) = (s.out.zip rv).flatMap fun x => [.int .i64 x.1.1, x.2] := rfl
 have hlen : (s.out.zip rv).length = s.out.length := by simp [h.rlen]
 have h1 := hfr.owns h.out (fun k hk e => by have := (h.out.lt k hk).1; omega)
 rw [hz] at h1
 have h2 : RSlice 2 (fun w cs (y : Ln × Value) => RLn w cs y.1) w' [ov] (s.out.zip rv) := by
  refine rslice_of_owns (B := w0.heap.size) (e := 62) (fun x : Ln × Value => [.int .i64 x.1.1, x.2]) _ (fun _ _ => rfl) ?_ (by rw [hlen]; exact h1)
  intro y hy
  obtain ⟨i, hi, rfl⟩ := List.mem_iff_getElem.1 hy
  have hi1 : i < s.out.length := by omega
  have hi2 : i < rv.length := by rw [h.rlen]; exact hi1
  rw [List.getElem_zip]
  obtain ⟨r0, _⟩ := h.rows i s.out[i] rv[i] (List.getElem?_eq_getElem hi1) (List.getElem?_eq_getElem hi2)
  have r1 := hfr.owns r0 (fun k hk e => by have := (r0.lt k hk).1; omega)
  obtain ⟨a, b, c⟩ := hf.out _ (List.getElem_mem hi1)
  refine ⟨rv[i], rfl, rslice_of_owns wdCells RWd (fun _ _ => rfl) (fun wd hw => rword hm (c wd hw)) r1, wf_small (n := s.out[i].1) a (by omega)⟩
 obtain ⟨a, cap, hv, g1, g2, g3⟩ := h2
 rw [hlen] at hv g1
 refine ⟨a, cap, hv, g1, g2, fun i ln hi => ?_⟩
 have hi1 := (List.getElem?_eq_some_iff.1 hi).1
 have hi2 : i < rv.length := by rw [h.rlen]; exact hi1
 have hzi : (s.out.zip rv)[i]? = some (ln, rv[i]) := by
  rw [List.getElem?_zip_eq_some]
  exact ⟨hi, List.getElem?_eq_getElem hi2⟩
 exact g3 i _ hzi

def LinesPost (w : World) (r : LexM.Res) (e : Ending) (w' : World) : Prop := ∃ v, e = .returned (.tuple #[v, .agg #[.int .i64 r.at1, .int .i64 r.at2], .int .i64 r.e]) ∧ RLns w' [v] r.lines ∧ Below w.heap.size w w'

set_option maxHeartbeats 1000000 in
theorem lexLines_long (s : ByteArray) (hs : s.size ≤ 140737488351232) (w : World) (h : 65536 < s.size) : Calls Tryz.prog 70 #[.string s] w (LinesPost w (LexM.lines s.data.toList)) := by
 have hr : LexM.lines s.data.toList = ⟨[], 0, 0, 4⟩ := by unfold LexM.lines; rw [if_pos]; rw [Array.length_toList]; exact h
 rw [hr]
 clear hr
 go_enter Tryz.func70, Tryz.ntmps70
 go_wp2_with fail
 refine bodyPost_ret (v := .tuple #[.slice none 0 0, .agg #[.int .i64 0, .int .i64 0], .int .i64 4]) (by simp [results, Tryz.results70, go_sem]) rfl ⟨_, rfl, ⟨none, 0, rfl, Nat.le_refl _, Nat.zero_le _, fun i x hi => by simp at hi⟩, ?_⟩
 exact (Below.refl _ _).alloc (Nat.le_refl _) _

theorem LexSt.start (w1 : World) : LexSt w1 w1.heap.size LexM.st0 (.slice none 0 0) (.slice none 0 0) (.slice none 0 0) [] (w1.alloc (.cells (lexCells LexM.st0 (.slice none 0 0) (.slice none 0 0) (.slice none 0 0)) 182)) :=
 ⟨heap_alloc_new w1 _, World.ownsRow_nil _ _ _ _, World.ownsRow_nil _ _ _ _, World.ownsRow_nil _ _ _ _, rfl, fun i ln v hi => by simp [LexM.st0] at hi, (Below.refl _ _).alloc (Nat.le_refl _) _, Nat.le_refl _⟩
def LexGone (w1 : World) (x : Nat) (t : Bs) (k : Nat) (w : World) : Prop := (LexM.run LexM.st0 (t.take k)).2 = 0 ∧ ∃ wv sv ov rv, LexSt w1 x (LexM.run LexM.st0 (t.take k)).1 wv sv ov rv w

theorem byte_at (s : ByteArray) (k : Nat) (h : k < s.size) : s.data.toList.take (k + 1) = s.data.toList.take k ++ [s[k]] := by
 rw [List.take_add_one, List.getElem?_eq_getElem (by rw [Array.length_toList]; exact h)]
 rfl
set_option maxHeartbeats 2000000 in
theorem lexLines_short (s : ByteArray) (w : World) (h : s.size ≤ 65536) : Calls Tryz.prog 70 #[.string s] w (LinesPost w (LexM.lines s.data.toList)) := by
 have hlen : s.data.toList.length = s.size := by rw [Array.length_toList]; rfl
 have hr : LexM.lines s.data.toList = LexM.close (LexM.run LexM.st0 s.data.toList) := by unfold LexM.lines; rw [if_neg]; omega
 rw [hr]
 clear hr
 obtain ⟨t, ht⟩ : ∃ t, t = s.data.toList := ⟨_, rfl⟩
 rw [← ht] at hlen ⊢
 have h0 := LexSt.start (w.alloc (.cells #[.int .i64 0, .int .i64 0] 40))
 simp only [World.size_alloc] at h0
 have hg0 : LexGone (w.alloc (.cells #[.int .i64 0, .int .i64 0] 40)) (w.heap.size + 1) t 0 ((w.alloc (.cells #[.int .i64 0, .int .i64 0] 40)).alloc (.cells (lexCells LexM.st0 (.slice none 0 0) (.slice none 0 0) (.slice none 0 0)) 182)) := ⟨rfl, _, _, _, _, h0⟩
 obtain ⟨Ht, Hlen, Hg0⟩ := hd3 ht hlen hg0; clear ht hlen hg0
 clear h0
 go_enter Tryz.func70, Tryz.ntmps70
 go_wp2_with fail
 obtain ⟨w2, hw2⟩ : ∃ w2, w2 = ((w.alloc (.cells #[.int .i64 0, .int .i64 0] 40)).alloc (.cells (lexCells LexM.st0 (.slice none 0 0) (.slice none 0 0) (.slice none 0 0)) 182)) := ⟨_, rfl⟩
 rw [← hw2] at Hg0
 have hw3 := hw2
 simp only [lexCells, LexM.st0] at hw3
 rw [← hw3]
 clear hw2 hw3
 go_loopw [16] (fun i wr => ∃ k : Nat, k ≤ s.size ∧ i = .int .i64 k ∧ LexGone (w.alloc (.cells #[.int .i64 0, .int .i64 0] 40)) (w.heap.size + 1) t k wr) (fun i _ => s.size - (intOf i).toNat)
 case atStart => exact ⟨0, Nat.zero_le _, rfl, Hg0.out⟩
 case round =>
  obtain ⟨k, hk, rfl, hg⟩ := hrel
  obtain ⟨hz, wv, sv, ov, rv, hL⟩ := hg
  have hS := run_small (t.take k) LexM.st0 0 small0 hz
  have htl : (t.take k).length ≤ k := List.length_take_le _ _
  obtain ⟨st, hst⟩ : ∃ st, st = (LexM.run LexM.st0 (t.take k)).1 := ⟨_, rfl⟩
  rw [← hst] at hL hS
  by_cases hlt : k < s.size
  ·have hsn := byte_at s k hlt
   obtain ⟨Hz, HL, HS, Hst, Hsn⟩ := hd5 hz hL hS hst hsn; clear hz hL hS hst hsn
   go_wp2_with fail
   refine (takes_any HL.out (by omega) HS.out s[k]).mono ?_
   rintro e w3 ⟨rfl, wv3, sv3, ov3, rv3, h3⟩
   obtain ⟨er, her⟩ : ∃ er, er = (LexM.takes st s[k]).2 := ⟨_, rfl⟩
   have htk : LexM.run LexM.st0 (t.take (k + 1)) = if (LexM.takes st s[k]).2 = 0 then ((LexM.takes st s[k]).1, 0) else LexM.takes st s[k] := by
    rw [Ht.out, Hsn.out, ← Ht.out, run_snoc_ok _ _ _ Hz.out, ← Hst.out]
   rw [← her] at htk ⊢
   by_cases he : er = 0
   ·have hb : (er != 0) = false := by rw [he]; rfl
    rw [if_pos he] at htk
    have hg : LexGone (w.alloc (.cells #[.int .i64 0, .int .i64 0] 40)) (w.heap.size + 1) t (k + 1) w3 := ⟨by rw [htk], wv3, sv3, ov3, rv3, by rw [htk]; exact h3⟩
    obtain ⟨Hg, Htk, Her, He⟩ := hd4 hg htk her he; clear hg htk her he
    clear h3
    go_wp2_with fail
    go_roundw
    case rel => exact ⟨k + 1, by omega, by go_num, Hg.out⟩
    case measure => simp [intOf]; omega
   ·have hb : (er != 0) = true := by rw [bne_iff_ne]; exact he
    rw [if_neg he] at htk
    have hsplit : t = t.take (k + 1) ++ t.drop (k + 1) := (List.take_append_drop _ _).symm
    have hrun : LexM.run LexM.st0 t = LexM.takes st s[k] := by
     rw [hsplit, run_stop _ _ _ (by rw [htk]; rw [← her]; exact he), htk]
    have hcl : LexM.close (LexM.run LexM.st0 t) = ⟨[], (LexM.takes st s[k]).1.line, (LexM.takes st s[k]).1.col, er⟩ := by
     rw [hrun]; unfold LexM.close; rw [← her, if_neg he]
    have x0 := cells_at h3.cells 0
    have x1 := cells_at h3.cells 1
    simp only [lexCells, List.getElem?_toArray, List.getElem?_cons_succ, List.getElem?_cons_zero] at x0 x1
    obtain ⟨l3, hl3⟩ : ∃ l3, l3 = (LexM.takes st s[k]).1.line := ⟨_, rfl⟩
    obtain ⟨c3, hc3⟩ : ∃ c3, c3 = (LexM.takes st s[k]).1.col := ⟨_, rfl⟩
    rw [← hl3] at x0 hcl
    rw [← hc3] at x1 hcl
    have hblk : w3.heap[w.heap.size]? = some (.cells #[.int .i64 0, .int .i64 0] 40 (0, 0)) := by
     rw [h3.bel.block _ (by simp)]; exact heap_alloc_new w _
    have z0 := cells_at hblk 0
    have z1 := cells_at hblk 1
    have y0 := frozen_at hblk 0
    have y1 := frozen_at hblk 1
    simp only [List.getElem?_toArray, List.getElem?_cons_succ, List.getElem?_cons_zero] at z0 z1
    have hbel := h3.bel
    obtain ⟨Hbel, Htk, Her, He, Hrun, Hcl, Hsplit, Hl3, Hc3, H3⟩ := hd10 hbel htk her he hrun hcl hsplit hl3 hc3 h3; clear hbel htk her he hrun hcl hsplit hl3 hc3 h3
    clear hblk
    go_wp2_with fail
    go_region
    all_goals
     go_wp2_with fail
     refine bodyPost_ret (v := .tuple #[.slice none 0 0, .agg #[.int .i64 l3, .int .i64 c3], .int .i64 er]) (by simp [results, Tryz.results70, go_sem, z0, z1]) rfl ?_
     rw [Hcl.out]
     refine ⟨_, rfl, ⟨none, 0, rfl, Nat.le_refl _, Nat.zero_le _, fun i x hi => by simp at hi⟩, ?_⟩
     exact ((((Below.refl _ _).alloc (Nat.le_refl _) _).trans (Hbel.out.mono (by simp))).setCell (Nat.le_refl _) _).setCell (Nat.le_refl _) _ |>.drew
  ·obtain rfl : k = s.size := by omega
   have htake : t.take s.size = t := List.take_of_length_le (by have := Hlen.out; omega)
   have hF := run_fine (t.take s.size) LexM.st0 0 small0 ⟨by simp [LexM.st0], by simp [LexM.st0]⟩ hz
   rw [← hst] at hF
   have hcl : LexM.close (LexM.run LexM.st0 t) = ⟨(LexM.breaks st).out, 0, 0, 0⟩ := by
    rw [htake] at hz hst
    unfold LexM.close; rw [if_pos hz, ← hst]
   have hF2 := breaks_fine hS hF
   obtain ⟨Hz, HL, HS, Hst, Htake, Hcl, HF, HF2⟩ := hd8 hz hL hS hst htake hcl hF hF2; clear hz hL hS hst htake hcl hF hF2
   go_wp2_with fail
   refine (breaks_any HL.out (by omega) HS.out).mono ?_
   rintro e w3 ⟨rfl, wv3, sv3, ov3, rv3, h3⟩
   have x6 := cells_at h3.cells 6
   simp only [lexCells, List.getElem?_toArray, List.getElem?_cons_succ, List.getElem?_cons_zero] at x6
   have hblk : w3.heap[w.heap.size]? = some (.cells #[.int .i64 0, .int .i64 0] 40 (0, 0)) := by
    rw [h3.bel.block _ (by simp)]; exact heap_alloc_new w _
   have z0 := cells_at hblk 0
   have z1 := cells_at hblk 1
   have y0 := frozen_at hblk 0
   have y1 := frozen_at hblk 1
   simp only [List.getElem?_toArray, List.getElem?_cons_succ, List.getElem?_cons_zero] at z0 z1
   have hRd := h3.reads (w' := (w3.setCell ⟨w.heap.size, 0, none⟩ (.int .i64 0)).setCell ⟨w.heap.size, 1, none⟩ (.int .i64 0)) (Frm.setCell (Frm.setCell (Frm.refl _ _) (p := ⟨w.heap.size, 0, none⟩) (.inr (by simp)) _) (p := ⟨w.heap.size, 1, none⟩) (.inr (by simp)) _) (by omega) HF2.out
   have hbel := h3.bel
   obtain ⟨Hbel, HRd, H3⟩ := hd3 hbel hRd h3; clear hbel hRd h3
   clear hblk
   go_wp2_with fail
   refine bodyPost_ret (v := .tuple #[ov3, .agg #[.int .i64 0, .int .i64 0], .int .i64 0]) (by simp [results, Tryz.results70, go_sem, z0, z1]) rfl ?_
   rw [Hcl.out]
   refine ⟨_, rfl, ?_, ?_⟩
   ·exact HRd.out
   ·exact (((((Below.refl _ _).alloc (Nat.le_refl _) _).trans (Hbel.out.mono (by simp))).setCell (Nat.le_refl _) _).setCell (Nat.le_refl _) _)

theorem lexLines_any (s : ByteArray) (hs : s.size ≤ 140737488351232) (w : World) : Calls Tryz.prog 70 #[.string s] w (LinesPost w (LexM.lines s.data.toList)) := by
 by_cases h : 65536 < s.size
 ·exact lexLines_long s hs w h
 ·exact lexLines_short s w (by omega)
end Go.Proofs.YteailgjiifdgcaaGreatDoor

/- A slice's elements as lists of cells, and a row of such lists read as a slice. No condition. -/
namespace Go.Proofs.YteailgjiifdgcaaGreatDoor
open Go.RowKit

theorem flat_len' {k : Nat} : ∀ {css : List (List Value)}, (∀ cs ∈ css, cs.length = k) → css.flatten.length = css.length * k
 | [], _ => by simp
 | c :: css, h => by
  rw [List.flatten_cons, List.length_append, flat_len' (fun x hx => h x (by simp [hx])), h c (by simp), List.length_cons, Nat.succ_mul]; omega
theorem flat_get' {k : Nat} : ∀ {css : List (List Value)}, (∀ cs ∈ css, cs.length = k) → ∀ (i : Nat) (h : i < css.length) (j : Nat), j < k → css.flatten[i * k + j]? = css[i][j]?
 | [], _, i, h, _, _ => by simp at h
 | c :: css, hk, 0, _, j, hj => by
  rw [List.flatten_cons, Nat.zero_mul, Nat.zero_add, List.getElem?_append_left (by rw [hk c (by simp)]; exact hj)]; rfl
 | c :: css, hk, i + 1, h, j, hj => by
  have hc := hk c (by simp)
  rw [List.flatten_cons, List.getElem?_append_right (by rw [hc, Nat.succ_mul]; omega), hc, show (i + 1) * k + j - k = i * k + j by rw [Nat.succ_mul]; omega]
  rw [flat_get' (fun x hx => hk x (by simp [hx])) i (by simpa using h) j hj]; rfl
theorem flat_set' {k : Nat} {css : List (List Value)} (hk : ∀ cs ∈ css, cs.length = k) {i : Nat} (hi : i < css.length) {j : Nat} (hj : j < k) (u : Value) : css.flatten.set (i * k + j) u = (css.set i (css[i].set j u)).flatten := by
 have hk2 : ∀ cs ∈ css.set i (css[i].set j u), cs.length = k := fun cs hcs => by
  rcases List.mem_or_eq_of_mem_set hcs with h | h
  ·exact hk cs h
  ·rw [h, List.length_set]; exact hk _ (List.getElem_mem hi)
 have hkpos : 0 < k := by omega
 refine List.ext_getElem? fun t => ?_
 by_cases ht : t < css.length * k
 ·have hq : t / k < css.length := Nat.div_lt_of_lt_mul (by rw [Nat.mul_comm]; exact ht)
  have hr : t % k < k := Nat.mod_lt _ hkpos
  have et : t / k * k + t % k = t := by rw [Nat.mul_comm]; exact Nat.div_add_mod t k
  have e1 := flat_get' hk (t / k) hq (t % k) hr
  have e2 := flat_get' hk2 (t / k) (by rw [List.length_set]; exact hq) (t % k) hr
  rw [et] at e1 e2
  rw [e2, List.getElem?_set]
  by_cases e : i * k + j = t
  ·have hti : t / k = i := by rw [← e, Nat.mul_comm, Nat.mul_add_div hkpos, Nat.div_eq_of_lt hj, Nat.add_zero]
   have htj : t % k = j := by rw [← e, Nat.mul_comm, Nat.mul_add_mod, Nat.mod_eq_of_lt hj]
   rw [if_pos e, if_pos (by rw [flat_len' hk, e]; exact ht)]
   simp only [hti, htj]
   rw [List.getElem_set_self, List.getElem?_set_self (by rw [hk _ (List.getElem_mem hi)]; exact hj)]
  ·rw [if_neg e, e1]
   by_cases hti : i = t / k
   ·subst hti
    rw [List.getElem_set_self, List.getElem?_set_ne (fun h => e (by rw [h, et]))]
   ·rw [List.getElem_set_ne hti]
 ·have l1 : (css.flatten.set (i * k + j) u).length ≤ t := by rw [List.length_set, flat_len' hk]; omega
  have l2 : (css.set i (css[i].set j u)).flatten.length ≤ t := by rw [flat_len' hk2, List.length_set]; omega
  rw [List.getElem?_eq_none l1, List.getElem?_eq_none l2]
structure Cells {α : Type} (R : Rd α) (sz : Nat) (w : World) (a : Option Addr) (css : List (List Value)) (l : List α) : Prop where
 len : css.length = l.length
 sz : ∀ cs ∈ css, cs.length = sz
 rd : ∀ (i : Nat) cs x, css[i]? = some cs → l[i]? = some x → R w cs x
 at' : ∀ (j : Nat) u, css.flatten[j]? = some u → ∃ b off, a = some ⟨b, off, none⟩ ∧ w.cell? ⟨b, off + j, none⟩ = some u
theorem slice_cells {α : Type} {sz : Nat} {R : Rd α} {w : World} {a : Option Addr} {n cap : Nat} {l : List α} (hsz : 0 < sz) (h : RSlice sz R w [.slice a n cap] l) : ∃ css, Cells R sz w a css l := by
 obtain ⟨a', cap', hv, hcap, hmax, hel⟩ := h
 simp only [List.cons.injEq, and_true, Value.slice.injEq] at hv
 obtain ⟨rfl, rfl, rfl⟩ := hv
 have hex : ∀ i : Fin l.length, ∃ ecs : List Value, ecs.length = sz ∧ (∀ (j : Nat) u, ecs[j]? = some u → ∃ b off, a = some ⟨b, off, none⟩ ∧ w.cell? ⟨b, off + (i.1 * sz + j), none⟩ = some u) ∧ R w ecs l[i.1] := fun i => by
  obtain ⟨b, off, ecs, h1, h2, h3, h4⟩ := hel i.1 _ (List.getElem?_eq_getElem i.2)
  exact ⟨ecs, h2, fun j u hu => ⟨b, off, h1, by rw [← Nat.add_assoc]; exact h3 j u hu⟩, h4⟩
 have hk : ∀ cs ∈ List.ofFn fun i => Classical.choose (hex i), cs.length = sz := fun cs hcs => by
  obtain ⟨i, rfl⟩ := List.mem_ofFn.1 hcs
  exact (Classical.choose_spec (hex i)).1
 refine ⟨List.ofFn fun i => Classical.choose (hex i), by simp, hk, fun i cs x hcs hx => ?_, fun t u hu => ?_⟩
 ·have hi := (List.getElem?_eq_some_iff.1 hx).1
  have hlx := (List.getElem?_eq_some_iff.1 hx).2
  rw [List.getElem?_eq_getElem (by simpa using hi), List.getElem_ofFn] at hcs
  cases hcs
  have := (Classical.choose_spec (hex ⟨i, hi⟩)).2.2
  rw [← hlx]; exact this
 ·have ht := (List.getElem?_eq_some_iff.1 hu).1
  rw [flat_len' hk, List.length_ofFn] at ht
  have hq : t / sz < l.length := Nat.div_lt_of_lt_mul (by rw [Nat.mul_comm]; exact ht)
  have hr : t % sz < sz := Nat.mod_lt _ hsz
  have et : t / sz * sz + t % sz = t := by rw [Nat.mul_comm]; exact Nat.div_add_mod t sz
  have e1 := flat_get' hk (t / sz) (by simpa using hq) (t % sz) hr
  rw [et, hu, List.getElem_ofFn] at e1
  obtain ⟨b, off, h1, h2⟩ := (Classical.choose_spec (hex ⟨t / sz, hq⟩)).2.1 (t % sz) u e1.symm
  exact ⟨b, off, h1, by simpa [et] using h2⟩
theorem slice_of_cells {α : Type} {sz : Nat} {R : Rd α} {w : World} {B : Nat} {e : TypeId} {v : Value} {css : List (List Value)} {l : List α} (hsz : 0 < sz) (hlen : css.length = l.length) (hk : ∀ cs ∈ css, cs.length = sz) (h : w.ownsRow B e sz v l.length css.flatten) (hr : ∀ (i : Nat) cs x, css[i]? = some cs → l[i]? = some x → R w cs x) : RSlice sz R w [v] l := by
 obtain ⟨a, cap, rfl, h1, h2, h3⟩ := Sl.of_owns h
 refine ⟨a, cap, rfl, h1, h2, fun i x hi => ?_⟩
 have hil := (List.getElem?_eq_some_iff.1 hi).1
 have hic : i < css.length := by omega
 have hcl := hk _ (List.getElem_mem hic)
 have hc : ∀ c, c < sz → ∀ u, css[i][c]? = some u → ∃ b off, a = some ⟨b, off, none⟩ ∧ w.cell? ⟨b, off + (i * sz + c), none⟩ = some u := fun c hc u hu => h3 (i * sz + c) u (by rw [flat_get' hk i hic c hc]; exact hu)
 obtain ⟨b, off, ha, _⟩ := hc 0 hsz (css[i][0]'(by omega)) (List.getElem?_eq_getElem (by omega))
 refine ⟨b, off, css[i], ha, hcl, fun j u hu => ?_, hr i _ x (List.getElem?_eq_getElem hic) hi⟩
 have hj := (List.getElem?_eq_some_iff.1 hu).1
 obtain ⟨b', off', ha', h5⟩ := hc j (by omega) u hu
 rw [ha] at ha'
 cases ha'
 rw [Nat.add_assoc]; exact h5
end Go.Proofs.YteailgjiifdgcaaGreatDoor

/- The walk of request.Parse: the request of a text. Condition: the library's variables as they were laid; a text that is not great. -/
namespace Go.Proofs.YteailgjiifdgcaaGreatDoor
open Go.Shelf Go.RowKit Go.Lib VerN VarM
open LexM (Wd Ln GoodL)
attribute [local go_sem ↓] Go.wp_at_zero Go.wp_at_succ

abbrev Rt := Spc3 × Int
def RRootT (W : World) (cs : List Value) (x : Rt) : Prop := ∃ v1 v2, cs = [.string x.1.1, v1, v2, .int .i64 x.2] ∧ RSpsT W v1 x.1.2.1 ∧ RSetsT W v2 x.1.2.2
def RRoot : Rd Rt := fun W cs x => ∃ v1 v2, cs = [.string x.1.1, v1, v2, .int .i64 x.2] ∧ RSps W [v1] x.1.2.1 ∧ RSets W [v2] x.1.2.2
theorem stays_root : Stays RRoot := fun w w' cs x h hb => by
 obtain ⟨v1, v2, e, h1, h2⟩ := h
 exact ⟨v1, v2, e, stays_slice stays_spn _ _ _ _ h1 hb, stays_slice stays_set _ _ _ _ h2 hb⟩
abbrev RRoots : Rd (List Rt) := RSlice 4 RRoot
structure RqSt (w : World) (g : Nat) (rs : List Rt) (css : List (List Value)) (v : Value) (W : World) : Prop where
 box : W.heap[g]? = some (.cells #[v] 38 (0, 0))
 row : W.ownsRow w.heap.size 101 4 v rs.length css.flatten
 len : css.length = rs.length
 els : ∀ (i : Nat) cs x, css[i]? = some cs → rs[i]? = some x → RRootT W cs x
 bel : Below w.heap.size w W
theorem RqSt.to {w W W' : World} {g : Nat} {rs : List Rt} {css : List (List Value)} {v : Value} (h : RqSt w g rs css v W) (hb : Below W.heap.size W W') : RqSt w g rs css v W' :=
 ⟨heap_below hb h.box, ownsRow_below h.row hb, h.len, fun i cs x h1 h2 => by
  obtain ⟨v1, v2, e, k1, k2⟩ := h.els i cs x h1 h2
  exact ⟨v1, v2, e, spsT_below k1 hb, setsT_below k2 hb⟩, h.bel.trans (hb.mono h.bel.size)⟩
theorem RqSt.reads {w W : World} {g : Nat} {rs : List Rt} {css : List (List Value)} {v : Value} (h : RqSt w g rs css v W) : RRoots W [v] rs := by
 refine slice_of_cells (by decide) h.len (fun cs hcs => ?_) h.row (fun i cs x h1 h2 => ?_)
 ·obtain ⟨i, hi, e⟩ := List.getElem_of_mem hcs
  obtain ⟨v1, v2, e2, _⟩ := h.els i cs (rs[i]'(by rw [← h.len]; exact hi)) (by rw [← e]; exact List.getElem?_eq_getElem hi) (List.getElem?_eq_getElem (by rw [← h.len]; exact hi))
  rw [e2]; rfl
 ·obtain ⟨v1, v2, e, k1, k2⟩ := h.els i cs x h1 h2
  exact ⟨v1, v2, e, k1.1, k2.1⟩
theorem RqSt.other {w W W' : World} {g : Nat} {rs : List Rt} {css : List (List Value)} {v : Value} {T : Nat → Prop} (h : RqSt w g rs css v W) (hF : Frm T W W') (hT : No2 W T) (hO : ∀ k, T k → v.ownBlock ≠ some k) : RRoots W' [v] rs := by
 refine slice_of_cells (by decide) h.len (fun cs hcs => ?_) (hF.owns h.row (fun k hk kT => hO k kT hk)) (fun i cs x h1 h2 => ?_)
 ·obtain ⟨i, hi, e⟩ := List.getElem_of_mem hcs
  obtain ⟨v1, v2, e2, _⟩ := h.els i cs (rs[i]'(by rw [← h.len]; exact hi)) (by rw [← e]; exact List.getElem?_eq_getElem hi) (List.getElem?_eq_getElem (by rw [← h.len]; exact hi))
  rw [e2]; rfl
 ·obtain ⟨v1, v2, e, k1, k2⟩ := h.els i cs x h1 h2
  exact ⟨v1, v2, e, (sps_other k1 hF hT).1, (sets_other k2 hF hT).1⟩
theorem RqSt.push {w W w9 : World} {g : Nat} {rs : List Rt} {css : List (List Value)} {v v9 v1 v2 : Value} {x : Rt} (h : RqSt w g rs css v W) (hg : w.heap.size ≤ g) (h1 : RSpsT W v1 x.1.2.1) (h2 : RSetsT W v2 x.1.2.2)
  (ho : w9.ownsRow w.heap.size 101 4 v9 (rs.length + 1) (css.flatten ++ [.string x.1.1, v1, v2, .int .i64 x.2])) (hgr : W.grownBy w9 v.ownBlock) :
  RqSt w g (rs ++ [x]) (css ++ [[.string x.1.1, v1, v2, .int .i64 x.2]]) v9 (w9.setCell ⟨g, 0, none⟩ v9) ∧ w9.heap[g]? = some (.cells #[v] 38 (0, 0)) := by
 have f1 : Frm (fun k => v.ownBlock = some k) W w9 := frm_of_grown hgr
 have hvg := apart_block h.row h.box (by decide)
 have hb9 := heap_to h.box f1 hvg
 have hv9g := apart_block ho hb9 (by decide)
 have f2 : Frm (fun k => k = g) w9 (w9.setCell ⟨g, 0, none⟩ v9) := frm_cell (Frm.refl _ _) 0 _
 have fT : Frm (fun k => v.ownBlock = some k ∨ k = g) W (w9.setCell ⟨g, 0, none⟩ v9) := (f1.mono (fun _ _ h => .inl h)).trans f2 (fun _ _ h => .inr h)
 have hT : No2 W (fun k => v.ownBlock = some k ∨ k = g) := by
  rintro k (hk | rfl)
  ·obtain ⟨cs, hc⟩ := own_type h.row k hk
   exact no2_of hc (by decide) (by decide)
  ·exact no2_of h.box (by decide) (by decide)
 refine ⟨⟨heap_setCell_same w9 g 0 _ _ v9 hb9, ?_, by simp [h.len], fun i cs y e1 e2 => ?_, ?_⟩, hb9⟩
 ·rw [List.length_append, List.flatten_append]
  have := f2.owns ho (fun k hk e => hv9g (by rw [hk, e]))
  simpa using this
 ·by_cases hi : i < css.length
  ·rw [List.getElem?_append_left hi] at e1
   rw [List.getElem?_append_left (by rw [← h.len]; exact hi)] at e2
   obtain ⟨u1, u2, e, k1, k2⟩ := h.els i cs y e1 e2
   exact ⟨u1, u2, e, sps_other k1 fT hT, sets_other k2 fT hT⟩
  ·have hlt := (List.getElem?_eq_some_iff.1 e1).1
   have e : i = css.length := by simp at hlt; omega
   rw [List.getElem?_append_right (by omega), e, Nat.sub_self] at e1
   rw [List.getElem?_append_right (by rw [← h.len]; omega), e, h.len, Nat.sub_self] at e2
   simp at e1 e2
   subst e1 e2
   exact ⟨v1, v2, rfl, sps_other h1 fT hT, sets_other h2 fT hT⟩
 ·exact h.bel.trans (fT.below h.bel.size (by
   rintro k (hk | rfl)
   ·exact (h.row.lt k hk).1
   ·exact hg))
theorem lns_at {w : World} {a : Option Addr} {n c : Nat} {ls : List Ln} (h : RLns w [.slice a n c] ls) : n = ls.length ∧ n ≤ 9223372036854775807 ∧ ∀ i x, ls[i]? = some x → ∃ b off a2 n2 c2, a = some ⟨b, off, none⟩ ∧ w.cell? ⟨b, off + i * 2, none⟩ = some (.int .i64 x.1) ∧ w.cell? ⟨b, off + i * 2 + 1, none⟩ = some (.slice a2 n2 c2) ∧ RWds w [.slice a2 n2 c2] x.2 := by
 obtain ⟨a', cap, hv, hcap, hmax, hel⟩ := h
 simp only [List.cons.injEq, and_true, Value.slice.injEq] at hv
 obtain ⟨rfl, hn, _⟩ := hv
 unfold maxLen at hmax
 refine ⟨hn, by omega, fun i x hi => ?_⟩
 obtain ⟨b, off, ecs, h1, h2, h3, v, h4, h5, _⟩ := hel i x hi
 obtain ⟨a2, c2, rfl⟩ := wds_shape h5
 subst h4
 exact ⟨b, off, a2, _, c2, h1, by simpa using h3 0 _ rfl, by simpa using h3 1 _ rfl, h5⟩
theorem results_cct {P : Program} {fn : Func} {p q u : Tmp} {ty tz t1 t2 : TypeId} (h : fn.results = #[.cell p ty, .cell q tz, .tmp u]) {tmps : Array Value} {w : World} {g k : Nat} {cs ds : Array Value} {d1 d2 : TypeDesc} {x : Value}
  (hp : tmps.getD p undef = .pointer (some ⟨g, 0, none⟩)) (hq : tmps.getD q undef = .pointer (some ⟨k, 0, none⟩)) (hx : tmps.getD u undef = x) (hg : w.heap[g]? = some (.cells cs t1 (0, 0))) (hk : w.heap[k]? = some (.cells ds t2 (0, 0)))
  (hu : P.underlying ty = some d1) (hd : (match d1 with | .struct _ | .array _ _ => true | _ => false) = true) (hi : (P.info? ty).map (·.size) = some cs.size)
  (hu2 : P.underlying tz = some d2) (hd2 : (match d2 with | .struct _ | .array _ _ => true | _ => false) = true) (hi2 : (P.info? tz).map (·.size) = some ds.size) :
  (results fn tmps).run P w = .ok (.tuple #[.agg cs, .agg ds, x]) w := by
 have hl := run_loadVar_row w g t1 ty cs (0, 0) d1 hg hu hd hi
 have hl2 := run_loadVar_row w k t2 tz ds (0, 0) d2 hk hu2 hd2 hi2
 have hp' : tmps[p]?.getD undef = .pointer (some ⟨g, 0, none⟩) := by simpa using hp
 have hq' : tmps[q]?.getD undef = .pointer (some ⟨k, 0, none⟩) := by simpa using hq
 have hx' : tmps[u]?.getD undef = x := by simpa using hx
 simp only [results, h]
 simp [Sem.run_bind, Result.andThen, asAddr, hp', hq', hx', hl, hl2]
def ReqPost (w : World) (r : ReqRes) (e : Ending) (w' : World) : Prop := ∃ v, e = .returned (.tuple #[.agg #[v], .agg #[.int .i64 r.at1, .int .i64 r.at2], .int .i64 r.e]) ∧ RRoots w' [v] r.roots ∧ Below w.heap.size w w'
theorem elem_root : Elem Tryz.prog 36 101 (.agg #[.string ⟨#[]⟩, .slice none 0 0, .slice none 0 0, .int .i64 0]) 4 72 := ⟨Tryz.underlying36, by kernel_rfl, rfl, by decide⟩
theorem reqGo_on {l : Ln} {r : List Ln} {out : List Rt} {s : Spc3} {c : Int} (h : rootW l = (some s, c)) : reqGo (l :: r) out = reqGo r (out ++ [(s, l.1)]) := by
 show (match rootW l with | (some s, _) => reqGo r (out ++ [(s, l.1)]) | (none, c) => ⟨[], l.1, c, 2⟩) = _
 rw [h]
theorem reqGo_no {l : Ln} {r : List Ln} {out : List Rt} {c : Int} (h : rootW l = (none, c)) : reqGo (l :: r) out = ⟨[], l.1, c, 2⟩ := by
 show (match rootW l with | (some s, _) => reqGo r (out ++ [(s, l.1)]) | (none, c) => ⟨[], l.1, c, 2⟩) = _
 rw [h]
abbrev WhBox (k : Nat) (x y : Int) (W : World) : Prop := W.heap[k]? = some (.cells #[.int .i64 x, .int .i64 y] 40 (0, 0))
abbrev RqBox (k : Nat) (v : Value) (W : World) : Prop := W.heap[k]? = some (.cells #[v] 38 (0, 0))
theorem wh_cells {k : Nat} {x y : Int} {W : World} (h : WhBox k x y W) : W.cell? ⟨k, 0, none⟩ = some (.int .i64 x) ∧ W.cell? ⟨k, 1, none⟩ = some (.int .i64 y) ∧ W.frozen? ⟨k, 0, none⟩ = false ∧ W.frozen? ⟨k, 1, none⟩ = false := ⟨cells_at h 0, cells_at h 1, frozen_at h 0, frozen_at h 1⟩
theorem rq_cells {k : Nat} {v : Value} {W : World} (h : RqBox k v W) : W.cell? ⟨k, 0, none⟩ = some v ∧ W.frozen? ⟨k, 0, none⟩ = false := ⟨cells_at h 0, frozen_at h 0⟩
set_option maxRecDepth 10000 in
set_option maxHeartbeats 8000000 in
theorem parse_any (t : ByteArray) (ht : t.size ≤ 140737488351232) {w : World} (hD : Doors w) : Calls Tryz.prog 28 #[.string t] w (ReqPost w (reqOf t.data.toList)) := by
 have hgood := LexM.doc_good7 t.data.toList
 have hL := fun (W : World) => lexLines_any t (by omega) W
 rw [LexM.lines_eq] at hL
 obtain ⟨R, hR⟩ : ∃ R, R = LexM.docLines t.data.toList := ⟨_, rfl⟩
 have hreq : reqOf t.data.toList = if R.e = 0 then reqGo R.lines [] else ⟨[], R.at1, R.at2, R.e⟩ := by unfold reqOf; rw [hR]
 rw [← hR] at hL hgood
 have hlen : t.data.toList.length = t.size := Txt.len t
 obtain ⟨g, hg⟩ : ∃ g, g = w.heap.size := ⟨_, rfl⟩
 obtain ⟨W1, hW1⟩ : ∃ W, W = (w.alloc (.cells #[.slice none 0 0] 38)).alloc (.cells #[.int .i64 0, .int .i64 0] 40) := ⟨_, rfl⟩
 have hb1 : Below w.heap.size w W1 := by rw [hW1]; exact (below_alloc1 _ _).alloc (by simp) _
 have p0 : RqBox g (.slice none 0 0) W1 := by rw [hW1, hg]; exact heap_below (below_alloc1 _ _) (heap_new_at rfl)
 have p1 : WhBox (g + 1) 0 0 W1 := by rw [hW1, hg]; exact heap_new_at (by simp)
 have hs1 : W1.heap.size = g + 2 := by rw [hW1, hg]; simp
 have hwg : w.heap.size ≤ g := Nat.le_of_eq hg.symm
 have hL1 := hL W1
 unfold LinesPost at hL1
 obtain ⟨a1, ha1⟩ : ∃ z, z = R.at1 := ⟨_, rfl⟩
 obtain ⟨a2, ha2⟩ : ∃ z, z = R.at2 := ⟨_, rfl⟩
 obtain ⟨er, her⟩ : ∃ z, z = R.e := ⟨_, rfl⟩
 obtain ⟨ls, hls⟩ : ∃ z, z = R.lines := ⟨_, rfl⟩
 rw [← ha1, ← ha2, ← her, ← hls] at hL1 hreq
 rw [← hls] at hgood
 clear hL
 obtain ⟨HD, Hgood, Hreq, HL1, Hb1, Hp0, Hp1, HR, Hlen, Ha1, Ha2, Her, Hls⟩ := hd13 hD hgood hreq hL1 hb1 p0 p1 hR hlen ha1 ha2 her hls; clear hD hgood hreq hL1 hb1 p0 p1 hR hlen ha1 ha2 her hls
 go_enter Tryz.func28, Tryz.ntmps28
 go_upto_region 1 with (fail)
 rw [← hW1, ← hg]
 clear hW1 hg
 go_wp2_with fail
 refine HL1.out.mono ?_
 rintro e w2 ⟨v, rfl, hln, hb2⟩
 obtain ⟨ad, cp, rfl⟩ : ∃ a c, v = .slice a ls.length c := by
  obtain ⟨a, cap, hv, _⟩ := hln
  simp only [List.cons.injEq, and_true] at hv
  exact ⟨a, cap, hv⟩
 obtain ⟨n, hn⟩ : ∃ n, n = ls.length := ⟨_, rfl⟩
 rw [← hn] at hln ⊢
 obtain ⟨w3, hw3⟩ : ∃ W, W = w2.alloc (.cells #[.int .i64 a1, .int .i64 a2] 40) := ⟨_, rfl⟩
 have hb23 : Below w2.heap.size w2 w3 := by rw [hw3]; exact below_alloc1 _ _
 have hb13 := hb2.trans (hb23.mono hb2.size)
 have hb3 := Hb1.out.trans (hb13.mono Hb1.out.size)
 have hs2 : g + 2 ≤ w2.heap.size := by have := hb2.size; omega
 have p6 : WhBox w2.heap.size a1 a2 w3 := by rw [hw3]; exact heap_alloc_new _ _
 have p0' := heap_below hb13 Hp0.out
 have p1' := heap_below hb13 Hp1.out
 have hln3 := stays_lns _ _ _ _ hln hb23
 have hs3 : w3.heap.size = w2.heap.size + 1 := by rw [hw3]; simp
 obtain ⟨x0, x1, _, _⟩ := wh_cells p6
 obtain ⟨_, f0⟩ := rq_cells p0'
 obtain ⟨_, _, f1, f2⟩ := wh_cells p1'
 by_cases he : er = 0
 ·have k1 : (er != 0) = false := by rw [he]; rfl
  have hq := Hreq.out
  rw [if_pos he] at hq
  obtain ⟨q, hqq⟩ : ∃ q, q = w3.heap.size := ⟨_, rfl⟩
  obtain ⟨w4, hw4⟩ : ∃ W, W = w3.alloc (.cells #[.slice none 0 0] 38) := ⟨_, rfl⟩
  have hI0 : RqSt w3 q [] [] (.slice none 0 0) w4 := ⟨by rw [hw4, hqq]; exact heap_alloc_new _ _, World.ownsRow_nil _ _ _ _, rfl, (fun i cs x h => by simp at h), by rw [hw4]; exact below_alloc1 _ _⟩
  have hn1 : n ≤ 70001 := by have := Hgood.out.2; omega
  have hlow : w3.heap.size ≤ q := Nat.le_of_eq hqq.symm
  clear x0 x1 f0 f1 f2
  obtain ⟨Hln, Hb2, Hb23, Hb13, Hb3, Hp6, Hp0', Hp1', Hln3, Hn, Hq, He, HI0, Hs3⟩ := hd14 hln hb2 hb23 hb13 hb3 p6 p0' p1' hln3 hn hq he hI0 hs3; clear hln hb2 hb23 hb13 hb3 p6 p0' p1' hln3 hn hq he hI0 hs3
  go_upto_region 2 with (fail)
  rw [← hw3]
  clear hw3
  go_upto_region 5 with (fail)
  rw [← hw4, ← hqq]
  clear hw4 hqq
  go_wp2_with fail
  go_loopw [26] (fun v wr => ∃ (k : Nat) (rs : List Rt) (css : List (List Value)) (u : Value), k ≤ n ∧ v = .int .i64 k ∧ RqSt w3 q rs css u wr ∧ rs.length = k ∧ reqOf t.data.toList = reqGo (ls.drop k) rs) (fun v _ => n - (RowKit.intOf v).toNat)
  case atStart => exact ⟨0, [], [], _, Nat.zero_le _, rfl, HI0.out, rfl, by rw [List.drop_zero]; exact Hq.out⟩
  case round =>
   obtain ⟨wo, hwo⟩ : ∃ W, W = wr := ⟨_, rfl⟩
   rw [← hwo] at hrel ⊢
   clear hwo wr
   obtain ⟨k, rs, css, u, hk, rfl, hI, hrk, hgo⟩ := hrel
   by_cases hlt : k < n
   ·have hkl : k < ls.length := by have := Hn.out; omega
    obtain ⟨x, hx⟩ : ∃ x, x = ls[k] := ⟨_, rfl⟩
    obtain ⟨-, -, hat⟩ := lns_at Hln3.out
    obtain ⟨b, off, a2', n2, c2, rfl, c0, c1, hwd⟩ := hat k x (by rw [hx]; exact List.getElem?_eq_getElem hkl)
    clear hat
    have d0 := cell_later hI.bel c0
    have d1 := cell_later hI.bel c1
    obtain ⟨ln, hln0⟩ : ∃ z, z = x.1 := ⟨_, rfl⟩
    rw [← hln0] at d0
    have hgx0 := Hgood.out.1 x (by rw [hx]; exact List.getElem_mem hkl)
    have hgx : GoodL 70000 x := hgx0
    have hdr : ls.drop k = x :: ls.drop (k + 1) := by rw [hx]; exact List.drop_eq_getElem_cons hkl
    rw [hdr] at hgo
    obtain ⟨w5, hw5⟩ : ∃ W, W = wo.alloc (.cells #[.int .i64 ln, .slice a2' n2 c2] 62) := ⟨_, rfl⟩
    have hb5 : Below wo.heap.size wo w5 := by rw [hw5]; exact below_alloc1 _ _
    have hb35 := hI.bel.trans (hb5.mono hI.bel.size)
    obtain ⟨lb, hlb⟩ : ∃ z, z = wo.heap.size := ⟨_, rfl⟩
    have p10 : w5.heap[lb]? = some (.cells #[.int .i64 ln, .slice a2' n2 c2] 62 (0, 0)) := by rw [hw5, hlb]; exact heap_alloc_new _ _
    have y0 := cells_at p10 0
    have y1 := cells_at p10 1
    simp only [List.getElem?_toArray, List.getElem?_cons_zero, List.getElem?_cons_succ] at y0 y1
    have hO := requestOne_any (stays_slice stays_wd _ _ _ _ hwd hb35) (HD.out.below (Hb3.out.trans (hb35.mono Hb3.out.size))) hgx
    rw [← hln0] at hO
    have hlg : g + 2 < lb := by have := hI.bel.size; have := Hs3.out; omega
    obtain ⟨au, cu, rfl⟩ := own_shape hI.row
    have k5 : (0 : Int) ≤ (k : Int) := by omega
    have k6 : (k : Int) < (n : Int) := by omega
    rw [hrk] at hI
    clear c0 c1
    obtain ⟨HI, Hrk, Hgo, Hx, Hwd, Hln0, Hgx0, Hgx, Hdr, Hb5, Hb35, Hp10, HO⟩ := hd13 hI hrk hgo hx hwd hln0 hgx0 hgx hdr hb5 hb35 p10 hO; clear hI hrk hgo hx hwd hln0 hgx0 hgx hdr hb5 hb35 p10 hO
    go_upto_region 8 with (fail)
    rw [← hw5, ← hlb]
    clear hw5 hlb
    go_wp2_with fail
    refine HO.out.mono ?_
    rintro e w6 ⟨⟨s, col, b1, n1, c1, b2, n2', c2', hw, rfl, hv1, hv2⟩ | ⟨col, hw, hcol, rfl⟩, hb6⟩
    ·rw [← Hln0.out]
     obtain ⟨w7, hw7⟩ : ∃ W, W = w6.alloc (.cells #[.string s.1, .slice b1 n1 c1, .slice b2 n2' c2', .int .i64 ln] 101) := ⟨_, rfl⟩
     have hb67 : Below w6.heap.size w6 w7 := by rw [hw7]; exact below_alloc1 _ _
     have hb57 := hb6.trans (hb67.mono hb6.size)
     have hb47 := Hb5.out.trans (hb57.mono Hb5.out.size)
     have hI7 := HI.out.to hb47
     obtain ⟨tb, htb⟩ : ∃ z, z = w6.heap.size := ⟨_, rfl⟩
     have p11 : RootBox tb (.string s.1) (.slice b1 n1 c1) (.slice b2 n2' c2') (.int .i64 ln) w7 := by rw [hw7, htb]; exact heap_alloc_new _ _
     obtain ⟨⟨u0, u1, u2, u3⟩, _, _, _, _⟩ := root_cells p11
     obtain ⟨qc, _⟩ := rq_cells hI7.box
     have hv1' := spsT_below hv1 hb67
     have hv2' := setsT_below hv2 hb67
     have hrow7 := hI7.row
     rw [Hrk.out] at hrow7
     have hbz : w3.heap.size ≤ w7.heap.size := hI7.bel.size
     obtain ⟨N, hN⟩ : ∃ N, N = css.flatten := ⟨_, rfl⟩
     rw [← hN] at hrow7
     obtain ⟨Hw, Hv1, Hv2, Hb6, Hb67, Hb57, Hb47, HI7, Hp11, Hv1', Hv2', Hrow7, HN⟩ := hd13 hw hv1 hv2 hb6 hb67 hb57 hb47 hI7 p11 hv1' hv2' hrow7 hN; clear hw hv1 hv2 hb6 hb67 hb57 hb47 hI7 p11 hv1' hv2' hrow7 hN
     go_upto_region 9 with (fail)
     rw [← hw7, ← htb]
     clear hw7 htb
     go_wp2_with (at_builtin; (refine wpList_append_lit elem_root rfl (.tmp 43) (.tmp 45) rfl w3.heap.size (.slice au k cu) k N rfl Hrow7.out 1 #[.string s.1, .slice b1 n1 c1, .slice b2 n2' c2', .int .i64 ln] rfl rfl (by simp [Value.oneCell']) (by omega) (by unfold maxLen; omega) hbz ?_; intro v9 w9 hown9 hg9 hm9; obtain ⟨a9, c9, rfl⟩ := own_shape hown9; have hpu := HI7.out.push hlow (x := (s, ln)) Hv1'.out Hv2'.out (by rw [Hrk.out, ← HN.out]; exact hown9) hg9; obtain ⟨qc9, qf9⟩ := rq_cells hpu.2; have Hpu := hd hpu; clear hown9 hg9 hm9 hpu))
     go_roundw
     case rel =>
      refine ⟨k + 1, rs ++ [(s, ln)], _, _, by omega, by go_num, Hpu.out.1, by rw [List.length_append, Hrk.out]; rfl, ?_⟩
      rw [Hgo.out, reqGo_on Hw.out, ← Hln0.out]
     case measure => simp [RowKit.intOf]; omega
    ·have hne : (col != 0) = true := by simpa using hcol
     obtain ⟨w7, hw7⟩ : ∃ W, W = w6.alloc (.cells #[.string ⟨#[]⟩, .slice none 0 0, .slice none 0 0, .int .i64 0] 101) := ⟨_, rfl⟩
     have hb67 : Below w6.heap.size w6 w7 := by rw [hw7]; exact below_alloc1 _ _
     have hb57 := hb6.trans (hb67.mono hb6.size)
     have hb47 := Hb5.out.trans (hb57.mono Hb5.out.size)
     have hI7 := HI.out.to hb47
     have z10 := heap_below hb57 Hp10.out
     have z0 := heap_below hI7.bel Hp0'.out
     have z1 := heap_below hI7.bel Hp1'.out
     have hb37 := Hb3.out.trans (hI7.bel.mono Hb3.out.size)
     have t0 := cells_at z10 0
     simp only [List.getElem?_toArray, List.getElem?_cons_zero, List.getElem?_cons_succ] at t0
     obtain ⟨_, f0⟩ := rq_cells z0
     obtain ⟨_, _, f1, f2⟩ := wh_cells z1
     have hne1 : ¬ lb = g := by omega
     have hne2 : ¬ lb = g + 1 := by omega
     obtain ⟨Hw, Hcol, Hb6, Hb67, Hb57, Hb47, HI7, Hz10, Hz0, Hz1, Hb37⟩ := hd11 hw hcol hb6 hb67 hb57 hb47 hI7 z10 z0 z1 hb37; clear hw hcol hb6 hb67 hb57 hb47 hI7 z10 z0 z1 hb37
     go_upto_region 9 with (fail)
     rw [← hw7]
     clear hw7
     go_wp2_with fail
     go_region
     go_wp2_with fail
     have x0 := heap_other (b := g + 1) (i := 1) (u := .int .i64 col) (heap_other (b := g + 1) (i := 0) (u := .int .i64 ln) (heap_setCell_same w7 g 0 _ _ (.slice none 0 0) Hz0.out) (by omega)) (by omega)
     have x1 := heap_setCell_same _ (g + 1) 1 _ _ (.int .i64 col) (heap_setCell_same _ (g + 1) 0 _ _ (.int .i64 ln) (heap_other (b := g) (i := 0) (u := .slice none 0 0) Hz1.out (by omega)))
     refine bodyPost_ret (results_cct (g := g) (k := g + 1) rfl rfl rfl rfl x0 x1 Tryz.underlying38 rfl (by kernel_rfl) Tryz.underlying40 rfl (by kernel_rfl)) rfl ?_
     rw [Hgo.out, reqGo_no Hw.out, ← Hln0.out]
     exact ⟨_, rfl, ⟨none, 0, rfl, Nat.le_refl _, Nat.zero_le _, fun i x hi => by simp at hi⟩, Below.drew (((Hb37.out.setCell (p := ⟨g, 0, none⟩) hwg _).setCell (p := ⟨g + 1, 0, none⟩) (by show w.heap.size ≤ g + 1; omega) _).setCell (p := ⟨g + 1, 1, none⟩) (by show w.heap.size ≤ g + 1; omega) _)⟩
   ·obtain rfl : k = n := by omega
    have hd : ls.drop k = [] := List.drop_eq_nil_of_le (Nat.le_of_eq Hn.out.symm)
    rw [hd] at hgo
    have z0 := heap_below hI.bel Hp0'.out
    have z1 := heap_below hI.bel Hp1'.out
    obtain ⟨qc, _⟩ := rq_cells hI.box
    obtain ⟨_, f0⟩ := rq_cells z0
    obtain ⟨_, _, f1, f2⟩ := wh_cells z1
    obtain ⟨au, cu, rfl⟩ := own_shape hI.row
    have hb3o := Hb3.out.trans (hI.bel.mono Hb3.out.size)
    rw [hrk] at hI qc
    obtain ⟨HI, Hrk, Hgo, Hz0, Hz1, Hb3o, Hd⟩ := hd7 hI hrk hgo z0 z1 hb3o hd; clear hI hrk hgo z0 z1 hb3o hd
    go_wp2_with fail
    have x0 := heap_other (b := g + 1) (i := 1) (u := .int .i64 0) (heap_other (b := g + 1) (i := 0) (u := .int .i64 0) (heap_setCell_same wo g 0 _ _ (.slice au k cu) Hz0.out) (by omega)) (by omega)
    have x1 := heap_setCell_same _ (g + 1) 1 _ _ (.int .i64 0) (heap_setCell_same _ (g + 1) 0 _ _ (.int .i64 0) (heap_other (b := g) (i := 0) (u := .slice au k cu) Hz1.out (by omega)))
    have hT : Frm (fun z => z = g ∨ z = g + 1) wo (((wo.setCell ⟨g, 0, none⟩ (.slice au k cu)).setCell ⟨g + 1, 0, none⟩ (.int .i64 0)).setCell ⟨g + 1, 1, none⟩ (.int .i64 0)) :=
     (((Frm.refl _ wo).setCell (p := ⟨g, 0, none⟩) (.inr (.inl rfl)) _).setCell (p := ⟨g + 1, 0, none⟩) (.inr (.inr rfl)) _).setCell (p := ⟨g + 1, 1, none⟩) (.inr (.inr rfl)) _
    have hno : No2 wo (fun z => z = g ∨ z = g + 1) := by
     rintro z (rfl | rfl)
     ·exact no2_of Hz0.out (by decide) (by decide)
     ·exact no2_of Hz1.out (by decide) (by decide)
    have hap : ∀ z, (z = g ∨ z = g + 1) → (Value.slice au k cu).ownBlock ≠ some z := by
     rintro z (rfl | rfl)
     ·exact apart_block HI.out.row Hz0.out (by decide)
     ·exact apart_block HI.out.row Hz1.out (by decide)
    refine bodyPost_ret (results_cct (g := g) (k := g + 1) rfl rfl rfl rfl x0 x1 Tryz.underlying38 rfl (by kernel_rfl) Tryz.underlying40 rfl (by kernel_rfl)) rfl ?_
    rw [Hgo.out]
    exact ⟨_, rfl, HI.out.other hT hno hap, ((Hb3o.out.setCell (p := ⟨g, 0, none⟩) hwg _).setCell (p := ⟨g + 1, 0, none⟩) (by show w.heap.size ≤ g + 1; omega) _).setCell (p := ⟨g + 1, 1, none⟩) (by show w.heap.size ≤ g + 1; omega) _⟩
 ·have k1 : (er != 0) = true := by simpa using he
  have hq := Hreq.out
  rw [if_neg he] at hq
  obtain ⟨Hln, Hb2, Hb23, Hb13, Hb3, Hp6, Hp0', Hp1', Hln3, Hn, Hq, He⟩ := hd12 hln hb2 hb23 hb13 hb3 p6 p0' p1' hln3 hn hq he; clear hln hb2 hb23 hb13 hb3 p6 p0' p1' hln3 hn hq he
  go_upto_region 2 with (fail)
  rw [← hw3]
  clear hw3
  go_wp2_with fail
  go_region
  go_wp2_with fail
  have x0 := heap_other (b := g + 1) (i := 1) (u := .int .i64 a2) (heap_other (b := g + 1) (i := 0) (u := .int .i64 a1) (heap_setCell_same w3 g 0 _ _ (.slice none 0 0) Hp0'.out) (by omega)) (by omega)
  have x1 := heap_setCell_same _ (g + 1) 1 _ _ (.int .i64 a2) (heap_setCell_same _ (g + 1) 0 _ _ (.int .i64 a1) (heap_other (b := g) (i := 0) (u := .slice none 0 0) Hp1'.out (by omega)))
  refine bodyPost_ret (results_cct (g := g) (k := g + 1) rfl rfl rfl rfl x0 x1 Tryz.underlying38 rfl (by kernel_rfl) Tryz.underlying40 rfl (by kernel_rfl)) rfl ?_
  rw [Hq.out]
  exact ⟨_, rfl, ⟨none, 0, rfl, Nat.le_refl _, Nat.zero_le _, fun i x hi => by simp at hi⟩, Below.drew (((Hb3.out.setCell (p := ⟨g, 0, none⟩) hwg _).setCell (p := ⟨g + 1, 0, none⟩) (by show w.heap.size ≤ g + 1; omega) _).setCell (p := ⟨g + 1, 1, none⟩) (by show w.heap.size ≤ g + 1; omega) _)⟩
end Go.Proofs.YteailgjiifdgcaaGreatDoor

/- The walks of the document's reading of words: more, word, fail, next, at, all. No condition. -/
namespace Go.Proofs.YteailgjiifdgcaaGreatDoor
open Go.Shelf Go.RowKit Go.Lib VerN VarM
open LexM (Wd)
attribute [local go_sem ↓] Go.wp_at_zero Go.wp_at_succ

abbrev pv (a : Option Addr) (n c i : Nat) (fin bad : Int) : Value := .agg #[.slice a n c, .int .i64 i, .int .i64 fin, .int .i64 bad]
abbrev PBox (k : Nat) (a : Option Addr) (n c i : Nat) (fin bad : Int) (W : World) : Prop := W.heap[k]? = some (.cells #[.slice a n c, .int .i64 i, .int .i64 fin, .int .i64 bad] 113 (0, 0))
theorem pbox_cells {k : Nat} {a : Option Addr} {n c i : Nat} {fin bad : Int} {W : World} (h : PBox k a n c i fin bad W) : (W.cell? ⟨k, 0, none⟩ = some (.slice a n c) ∧ W.cell? ⟨k, 1, none⟩ = some (.int .i64 i) ∧ W.cell? ⟨k, 2, none⟩ = some (.int .i64 fin) ∧ W.cell? ⟨k, 3, none⟩ = some (.int .i64 bad)) ∧ W.frozen? ⟨k, 0, none⟩ = false ∧ W.frozen? ⟨k, 1, none⟩ = false ∧ W.frozen? ⟨k, 2, none⟩ = false ∧ W.frozen? ⟨k, 3, none⟩ = false :=
 ⟨⟨cells_at h 0, cells_at h 1, cells_at h 2, cells_at h 3⟩, frozen_at h 0, frozen_at h 1, frozen_at h 2, frozen_at h 3⟩
set_option maxRecDepth 10000 in
theorem pMore_any (w : World) (a : Option Addr) (n c i : Nat) (fin bad : Int) : Calls Tryz.prog 184 #[pv a n c i fin bad] w fun e w' => e = .returned (.bool (decide (i < n))) ∧ Below w.heap.size w w' := by
 have k1 : decide ((i : Int) < (n : Int)) = decide (i < n) := decide_eq_decide.2 (by omega)
 go_enter Tryz.func184, Tryz.ntmps184
 go_wp2_with fail
 go_ret
 exact ⟨rfl, below_alloc1 _ _⟩
set_option maxRecDepth 10000 in
set_option maxHeartbeats 1000000 in
theorem pWord_any {w : World} {a : Option Addr} {n c : Nat} {ws : List Wd} (hw : RWds w [.slice a n c] ws) (i : Nat) (fin bad : Int) : Calls Tryz.prog 134 #[pv a n c i fin bad] w fun e w' => e = .returned (.string (peekB ws i)) ∧ Below w.heap.size w w' := by
 obtain ⟨hn, hz, hat⟩ := wds_at hw
 obtain ⟨g, hg⟩ : ∃ g, g = w.heap.size := ⟨_, rfl⟩
 obtain ⟨W1, hW1⟩ : ∃ W, W = w.alloc (.cells #[.slice a n c, .int .i64 i, .int .i64 fin, .int .i64 bad] 113) := ⟨_, rfl⟩
 have hb1 : Below w.heap.size w W1 := by rw [hW1]; exact below_alloc1 _ _
 have p0 : PBox g a n c i fin bad W1 := by rw [hW1, hg]; exact heap_alloc_new _ _
 obtain ⟨⟨c0, c1, c2, c3⟩, _⟩ := pbox_cells p0
 have hM := pMore_any W1 a n c i fin bad
 by_cases hi : i < n
 ·have hi2 : i < ws.length := by omega
  obtain ⟨b, off, rfl, _, d1, _⟩ := hat i _ (List.getElem?_eq_getElem hi2)
  rw [peek_some hi2]
  obtain ⟨s, hs⟩ : ∃ s : ByteArray, s = ⟨ws[i].2.toArray⟩ := ⟨_, rfl⟩
  rw [← hs] at d1 ⊢
  rw [decide_eq_true hi] at hM
  have k5 : (0 : Int) ≤ (i : Int) := by omega
  have k6 : (i : Int) < (n : Int) := by omega
  clear hs hat
  obtain ⟨HM, Hw, Hn, Hb1, Hp0⟩ := hd5 hM hw hn hb1 p0; clear hM hw hn hb1 p0
  go_enter Tryz.func134, Tryz.ntmps134
  go_upto_region 1 with (fail)
  rw [← hW1, ← hg]
  clear hW1 hg
  go_wp2_with fail
  refine HM.out.mono ?_
  rintro e w2 ⟨rfl, hb2⟩
  obtain ⟨⟨e0, e1, _, _⟩, _⟩ := pbox_cells (heap_below hb2 Hp0.out)
  have hb3 := Hb1.out.trans (hb2.mono Hb1.out.size)
  have f1 := cell_later hb3 d1
  obtain ⟨Hb2, Hb3⟩ := hd2 hb2 hb3; clear hb2 hb3
  go_wp2_with fail
  go_ret
  exact ⟨rfl, Hb3.out⟩
 ·rw [peek_none (by omega)]
  rw [decide_eq_false hi] at hM
  clear hat
  obtain ⟨HM, Hw, Hn, Hb1, Hp0⟩ := hd5 hM hw hn hb1 p0; clear hM hw hn hb1 p0
  go_enter Tryz.func134, Tryz.ntmps134
  go_upto_region 1 with (fail)
  rw [← hW1, ← hg]
  clear hW1 hg
  go_wp2_with fail
  refine HM.out.mono ?_
  rintro e w2 ⟨rfl, hb2⟩
  have hb3 := Hb1.out.trans (hb2.mono Hb1.out.size)
  obtain ⟨Hb2, Hb3⟩ := hd2 hb2 hb3; clear hb2 hb3
  go_wp2_with fail
  go_ret
  exact ⟨rfl, Hb3.out⟩
set_option maxRecDepth 10000 in
set_option maxHeartbeats 2000000 in
theorem pFail_any {w : World} {a : Option Addr} {n c : Nat} {ws : List Wd} (hw : RWds w [.slice a n c] ws) (i : Nat) (fin : Int) : Calls Tryz.prog 141 #[pv a n c i fin 0] w fun e w' => e = .returned (pv a n c i fin (colAt ws fin i)) ∧ Below w.heap.size w w' := by
 obtain ⟨hn, hz, hat⟩ := wds_at hw
 obtain ⟨g, hg⟩ : ∃ g, g = w.heap.size := ⟨_, rfl⟩
 obtain ⟨W1, hW1⟩ : ∃ W, W = (w.alloc (.cells #[.slice a n c, .int .i64 i, .int .i64 fin, .int .i64 0] 113)).alloc (.cells #[.slice none 0 0, .int .i64 0, .int .i64 0, .int .i64 0] 113) := ⟨_, rfl⟩
 have hb1 : Below w.heap.size w W1 := by rw [hW1]; exact (below_alloc1 _ _).alloc (by simp) _
 have p0 : PBox g a n c i fin 0 W1 := by rw [hW1, hg]; exact heap_below (below_alloc1 _ _) (heap_new_at rfl)
 have p1 : PBox (g + 1) none 0 0 0 0 0 W1 := by rw [hW1, hg]; exact heap_new_at (by simp)
 have hwg : w.heap.size ≤ g := Nat.le_of_eq hg.symm
 obtain ⟨⟨c0, c1, c2, c3⟩, _, _, _, q3⟩ := pbox_cells p0
 obtain ⟨W2, hW2⟩ : ∃ W, W = W1.setCell ⟨g, 3, none⟩ (.int .i64 fin) := ⟨_, rfl⟩
 have p2 : PBox g a n c i fin fin W2 := by rw [hW2]; exact heap_setCell_same W1 g 3 _ _ _ p0
 have p3 : PBox (g + 1) none 0 0 0 0 0 W2 := by rw [hW2]; exact heap_other p1 (by omega)
 have hb2 : Below w.heap.size w W2 := by rw [hW2]; exact hb1.setCell (p := ⟨g, 3, none⟩) hwg _
 obtain ⟨⟨d0, d1, d2, d3⟩, _⟩ := pbox_cells p2
 have hM := pMore_any W2 a n c i fin fin
 have fin_ : ∀ (W : World) (x : Int), PBox g a n c i fin x W → PBox (g + 1) none 0 0 0 0 0 W → Below w.heap.size w W → PBox (g + 1) a n c i fin x ((((W.setCell ⟨g + 1, 0, none⟩ (.slice a n c)).setCell ⟨g + 1, 1, none⟩ (.int .i64 i)).setCell ⟨g + 1, 2, none⟩ (.int .i64 fin)).setCell ⟨g + 1, 3, none⟩ (.int .i64 x)) ∧ Below w.heap.size w ((((W.setCell ⟨g + 1, 0, none⟩ (.slice a n c)).setCell ⟨g + 1, 1, none⟩ (.int .i64 i)).setCell ⟨g + 1, 2, none⟩ (.int .i64 fin)).setCell ⟨g + 1, 3, none⟩ (.int .i64 x)) := fun W x _ h1 hb => by
  have k0 := heap_setCell_same W (g + 1) 0 _ _ (.slice a n c) h1
  have k1 := heap_setCell_same _ (g + 1) 1 _ _ (.int .i64 (i : Int)) k0
  have k2 := heap_setCell_same _ (g + 1) 2 _ _ (.int .i64 fin) k1
  have k3 := heap_setCell_same _ (g + 1) 3 _ _ (.int .i64 x) k2
  exact ⟨k3, (((hb.setCell (p := ⟨g + 1, 0, none⟩) (by show w.heap.size ≤ g + 1; omega) _).setCell (p := ⟨g + 1, 1, none⟩) (by show w.heap.size ≤ g + 1; omega) _).setCell (p := ⟨g + 1, 2, none⟩) (by show w.heap.size ≤ g + 1; omega) _).setCell (p := ⟨g + 1, 3, none⟩) (by show w.heap.size ≤ g + 1; omega) _⟩
 by_cases hi : i < n
 ·have hi2 : i < ws.length := by omega
  obtain ⟨b, off, rfl, e0, _, _⟩ := hat i _ (List.getElem?_eq_getElem hi2)
  rw [col_some hi2]
  obtain ⟨s, hs⟩ : ∃ s, s = ws[i].1 := ⟨_, rfl⟩
  rw [← hs] at e0 ⊢
  rw [decide_eq_true hi] at hM
  have k5 : (0 : Int) ≤ (i : Int) := by omega
  have k6 : (i : Int) < (n : Int) := by omega
  clear hs hat
  obtain ⟨HM, Hw, Hn, Hb1, Hp0, Hp1, Hp2, Hp3, Hb2, Hfin_⟩ := hd10 hM hw hn hb1 p0 p1 p2 p3 hb2 fin_; clear hM hw hn hb1 p0 p1 p2 p3 hb2 fin_
  go_enter Tryz.func141, Tryz.ntmps141
  go_upto_region 1 with (fail)
  rw [← hW1, ← hg]
  clear hW1 hg
  go_upto_region 4 with (fail)
  rw [← hW2]
  clear hW2 c0 c1 c2 c3 q3
  go_wp2_with fail
  refine HM.out.mono ?_
  rintro e w2 ⟨rfl, hb3⟩
  have x0 := heap_below hb3 Hp2.out
  have x1 := heap_below hb3 Hp3.out
  obtain ⟨⟨r0, r1, r2, r3⟩, _, _, _, z3⟩ := pbox_cells x0
  obtain ⟨_, f0, f1, f2, f3⟩ := pbox_cells x1
  have hb4 := Hb2.out.trans (hb3.mono Hb2.out.size)
  have e1 := cell_later hb4 e0
  obtain ⟨Hb3, Hb4, Hx0, Hx1⟩ := hd4 hb3 hb4 x0 x1; clear hb3 hb4 x0 x1
  go_wp2_with fail
  have hf := Hfin_.out _ s (heap_setCell_same w2 g 3 _ _ (.int .i64 s) Hx0.out) (heap_other (b := g) (i := 3) (u := .int .i64 s) Hx1.out (by omega)) (Hb4.out.setCell (p := ⟨g, 3, none⟩) hwg _)
  exact bodyPost_ret (results_cell_row rfl _ _ _ _ _ _ _ rfl hf.1 Tryz.underlying113 rfl (by kernel_rfl)) rfl ⟨rfl, hf.2⟩
 ·rw [col_none (by omega)]
  rw [decide_eq_false hi] at hM
  clear hat
  obtain ⟨HM, Hw, Hn, Hb1, Hp0, Hp1, Hp2, Hp3, Hb2, Hfin_⟩ := hd10 hM hw hn hb1 p0 p1 p2 p3 hb2 fin_; clear hM hw hn hb1 p0 p1 p2 p3 hb2 fin_
  go_enter Tryz.func141, Tryz.ntmps141
  go_upto_region 1 with (fail)
  rw [← hW1, ← hg]
  clear hW1 hg
  go_upto_region 4 with (fail)
  rw [← hW2]
  clear hW2 c0 c1 c2 c3 q3
  go_wp2_with fail
  refine HM.out.mono ?_
  rintro e w2 ⟨rfl, hb3⟩
  have x0 := heap_below hb3 Hp2.out
  have x1 := heap_below hb3 Hp3.out
  obtain ⟨⟨r0, r1, r2, r3⟩, _, _, _, z3⟩ := pbox_cells x0
  obtain ⟨_, f0, f1, f2, f3⟩ := pbox_cells x1
  have hb4 := Hb2.out.trans (hb3.mono Hb2.out.size)
  obtain ⟨Hb3, Hb4, Hx0, Hx1⟩ := hd4 hb3 hb4 x0 x1; clear hb3 hb4 x0 x1
  go_wp2_with fail
  have hf := Hfin_.out _ fin Hx0.out Hx1.out Hb4.out
  exact bodyPost_ret (results_cell_row rfl _ _ _ _ _ _ _ rfl hf.1 Tryz.underlying113 rfl (by kernel_rfl)) rfl ⟨rfl, hf.2⟩
end Go.Proofs.YteailgjiifdgcaaGreatDoor
