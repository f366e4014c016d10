/- The given statement, and what it needs. Texts merged: BothP, ByName, Conc, OwnK, Comp, BothD, BothE, BothG, BothL, VariantBothRow. Condition: none beyond what each says. -/
import Derived.Sort.Walk0
import Derived.Lib.AppendZerosOnto
import Derived.Laws.Append
import Derived.Shelf.SlSortCmp.KitK
import Derived.Lib.SlicesCompact
import Derived.Test.YtnelgellbabkoaaRows
import Derived.OpenShut
import Derived.ShutString
import Derived.ChangeOld
import Derived.Test.YtnelgellbabkoaaVariantBothAll1
import Derived.Test.YtnelgellbabkoaaVariantBothAll2
import Derived.Test.YtnelgellbabkoaaVariantBothAll3
import Derived.Test.YtnelgellbabkoaaVariantBothAll4
/- Plain facts: what two wishes make together: sorted by name, without doubles. -/
namespace Go.Proofs.Ytnelgellbabkoaa.BothP
open Go.Proofs.Ytnelgellbabkoaa.SortM

abbrev S := ByteArray × ByteArray
def ltN (x y : S) : Bool := Op.bytesLess x.1.toList y.1.toList
theorem ltN_is (x y : S) : ltN x y = decide (x.1.data.toList < y.1.data.toList) := by unfold ltN; rw [bytesLess_eq, Lib.toList_data, Lib.toList_data]
theorem ltN_irrefl (x : S) : ltN x x = false := by rw [ltN_is]; exact decide_eq_false (List.lt_irrefl _)
theorem ltN_trans {x y z : S} (h1 : ltN x y = true) (h2 : ltN y z = true) : ltN x z = true := by
  rw [ltN_is] at *
  exact decide_eq_true (List.lt_trans (of_decide_eq_true h1) (of_decide_eq_true h2))
theorem ltN_swo : Swo ltN := ⟨fun a b h => by
    rw [ltN_is] at *
    exact decide_eq_false (List.lt_asymm (of_decide_eq_true h)), fun a b c h1 h2 => by
    rw [ltN_is] at *
    have k1 := List.not_lt.1 (of_decide_eq_false h1)
    have k2 := List.not_lt.1 (of_decide_eq_false h2)
    exact decide_eq_false (List.not_lt.2 (List.le_trans k1 k2))⟩
theorem ltN_tri {x y : S} (h1 : ltN x y = false) (h2 : ltN y x = false) : x.1 = y.1 := by
  rw [ltN_is] at *
  have k1 := List.not_lt.1 (of_decide_eq_false h1)
  have k2 := List.not_lt.1 (of_decide_eq_false h2)
  exact ByteArray.ext (Array.ext' (List.le_antisymm k2 k1))
theorem ltN_congr {x y z : S} (h : x.1 = y.1) : ltN x z = ltN y z ∧ ltN z x = ltN z y := by unfold ltN; rw [h]; exact ⟨rfl, rfl⟩

def Str (l : List S) : Prop := l.Pairwise fun x y => ltN x y = true
theorem Str.inj {l : List S} (h : Str l) {x y : S} (hx : x ∈ l) (hy : y ∈ l) (e : x.1 = y.1) : x = y := by
  induction l with
  | nil => cases hx
  | cons z l ih =>
    have hp := List.pairwise_cons.1 h
    rcases List.mem_cons.1 hx with e1 | h1 <;> rcases List.mem_cons.1 hy with e2 | h2
    · rw [e1, e2]
    · have := hp.1 y h2; rw [← e1, (ltN_congr e).1, ltN_irrefl] at this; cases this
    · have := hp.1 x h1; rw [← e2, (ltN_congr e).2, ltN_irrefl] at this; cases this
    · exact ih hp.2 h1 h2
theorem str_uniq : ∀ (a b : List S), Str a → Str b → (∀ x, x ∈ a ↔ x ∈ b) → a = b := by
  intro a
  induction a with
  | nil =>
    intro b _ _ h
    match b with
    | [] => rfl
    | y :: b => exact absurd ((h y).2 (by simp)) (by simp)
  | cons x a ih =>
    intro b ha hb h
    match b with
    | [] => exact absurd ((h x).1 (by simp)) (by simp)
    | y :: b =>
      have pa := List.pairwise_cons.1 ha
      have pb := List.pairwise_cons.1 hb
      have exy : x = y := by
        rcases List.mem_cons.1 ((h x).1 (by simp)) with e | hx
        · exact e
        · rcases List.mem_cons.1 ((h y).2 (by simp)) with e | hy
          · exact e.symm
          · have h1 := pb.1 x hx
            have h2 := ltN_swo.asymm _ _ (pa.1 y hy)
            rw [h1] at h2; cases h2
      subst exy
      congr 1
      refine ih b pa.2 pb.2 fun z => ⟨fun hz => ?_, fun hz => ?_⟩
      · rcases List.mem_cons.1 ((h z).1 (by simp [hz])) with e | hb'
        · subst e; have := pa.1 z hz; rw [ltN_irrefl] at this; cases this
        · exact hb'
      · rcases List.mem_cons.1 ((h z).2 (by simp [hz])) with e | ha'
        · subst e; have := pb.1 z hz; rw [ltN_irrefl] at this; cases this
        · exact ha'

/-- of neighbours that are equal the first ones are dropped -/
def cmpct : List S → List S
  | [] => []
  | [x] => [x]
  | x :: y :: l => if x = y then cmpct (y :: l) else x :: cmpct (y :: l)
theorem mem_cmpct (z : S) : ∀ l : List S, z ∈ cmpct l ↔ z ∈ l
  | [] => Iff.rfl
  | [x] => Iff.rfl
  | x :: y :: l => by
    have ih := mem_cmpct z (y :: l)
    unfold cmpct
    split
    · rename_i e
      subst e
      rw [ih]; simp
    · rw [List.mem_cons, ih]; exact List.mem_cons.symm
theorem cmpct_str : ∀ l : List S, Sorted ltN l → (∀ x ∈ l, ∀ y ∈ l, x.1 = y.1 → x = y) → Str (cmpct l)
  | [], _, _ => List.Pairwise.nil
  | [x], _, _ => List.pairwise_singleton _ _
  | x :: y :: l, hs, he => by
    have hp := List.pairwise_cons.1 hs
    have ih := cmpct_str (y :: l) hp.2 fun a ha b hb => he a (by simp at ha ⊢; exact .inr ha) b (by simp at hb ⊢; exact .inr hb)
    unfold cmpct
    split
    · exact ih
    · rename_i hne
      refine List.pairwise_cons.2 ⟨fun z hz => ?_, ih⟩
      have hz' := (mem_cmpct z _).1 hz
      have hzx := hp.1 z hz'
      cases e : ltN x z
      · exfalso
        have hn := ltN_tri e hzx
        have exz := he x (by simp) z (List.mem_cons_of_mem _ hz') hn
        apply hne
        -- y lies between x and z = x
        have h1 := hp.1 y (by simp)
        have h2 : ltN z y = false := by
          rcases List.mem_cons.1 hz' with e2 | hz2
          · rw [e2]; exact ltN_irrefl _
          · exact (List.pairwise_cons.1 hp.2).1 z hz2
        rw [← exz] at h2
        exact he x (by simp) y (by simp) (ltN_tri h2 h1)
      · rfl

def bothOf (a b : List S) : List S := cmpct (ssort ltN (a ++ b))
theorem mem_both {a b : List S} (x : S) : x ∈ bothOf a b ↔ x ∈ a ∨ x ∈ b := by
  unfold bothOf
  rw [mem_cmpct, mem_ssort ltN_swo, List.mem_append]
/-- of one name there are two values -/
def twoOf (a b : List S) : Bool := a.any fun x => b.any fun y => decide (x.1 = y.1) && !decide (x.2 = y.2)
theorem two_true {a b : List S} : twoOf a b = true ↔ ∃ x ∈ a, ∃ y ∈ b, x.1 = y.1 ∧ x.2 ≠ y.2 := by
  unfold twoOf
  simp only [List.any_eq_true, Bool.and_eq_true, decide_eq_true_eq, Bool.not_eq_true', decide_eq_false_iff_not]
theorem two_comm (a b : List S) : twoOf a b = twoOf b a := by
  have : twoOf a b = true ↔ twoOf b a = true := by
    rw [two_true, two_true]
    exact ⟨fun ⟨x, hx, y, hy, h1, h2⟩ => ⟨y, hy, x, hx, h1.symm, fun e => h2 e.symm⟩, fun ⟨x, hx, y, hy, h1, h2⟩ => ⟨y, hy, x, hx, h1.symm, fun e => h2 e.symm⟩⟩
  exact Bool.eq_iff_iff.2 this
theorem both_str {a b : List S} (ha : Str a) (hb : Str b) (h : twoOf a b = false) : Str (bothOf a b) := by
  unfold bothOf
  refine cmpct_str _ (ssort_sorted ltN_swo _) fun x hx y hy e => ?_
  have hn : ∀ x ∈ a, ∀ y ∈ b, x.1 = y.1 → x = y := fun x hx y hy e => by
    by_cases e2 : x.2 = y.2
    · exact Prod.ext e e2
    · rw [two_true.2 ⟨x, hx, y, hy, e, e2⟩] at h; cases h
  rw [mem_ssort ltN_swo, List.mem_append] at hx hy
  rcases hx with hx | hx <;> rcases hy with hy | hy
  · exact ha.inj hx hy e
  · exact hn x hx y hy e
  · exact (hn y hy x hx e.symm).symm
  · exact hb.inj hx hy e
theorem both_not {a b : List S} (h : twoOf a b = true) : ¬ Str (bothOf a b) := fun hs => by
  obtain ⟨x, hx, y, hy, e1, e2⟩ := two_true.1 h
  have := hs.inj ((mem_both x).2 (.inl hx)) ((mem_both y).2 (.inr hy)) e1
  exact e2 (by rw [this])
theorem both_comm {a b : List S} (ha : Str a) (hb : Str b) (h : twoOf a b = false) : bothOf a b = bothOf b a :=
  str_uniq _ _ (both_str ha hb h) (both_str hb ha (by rw [two_comm]; exact h)) fun x => by rw [mem_both, mem_both]; exact Or.comm
end Go.Proofs.Ytnelgellbabkoaa.BothP

/- The walks of cmp.Compare at strings and of variant.byName, as slices.SortStableFunc asks it. No condition. -/
namespace Go.Proofs.Ytnelgellbabkoaa
open Go.Shelf Go.RowKit Go.Lib Go.Sort SortM BothP

def compareStr (x y : ByteArray) : Int := if Op.bytesLess x.toList y.toList = true then -1 else if Op.bytesLess y.toList x.toList = true then 1 else 0
set_option maxRecDepth 10000 in
theorem compareStr_any (x y : ByteArray) (w : World) : Calls Try.prog 123 #[.string x, .string y] w fun e w' => e = .returned (.int .i64 (compareStr x y)) ∧ w = w' := by
  obtain ⟨p, hp⟩ : ∃ p, p = Op.bytesLess x.toList y.toList := ⟨_, rfl⟩
  obtain ⟨q, hq⟩ : ∃ p, p = Op.bytesLess y.toList x.toList := ⟨_, rfl⟩
  have e : compareStr x y = if p = true then -1 else if q = true then 1 else 0 := by rw [hp, hq]; rfl
  rw [e]
  have hpe := hp.symm
  have hqe := hq.symm
  clear e
  have heq : p = false → (x.toList == y.toList) = !q := fun h => by
    cases hq' : q with
    | true =>
      have h1 : ltN (y, y) (x, x) = true := by rw [← hq', hq]; rfl
      show (x.toList == y.toList) = false
      rw [bytes_dec]
      refine decide_eq_false fun e2 => ?_
      rw [e2, ltN_irrefl] at h1
      cases h1
    | false =>
      have h1 : ltN (y, y) (x, x) = false := by rw [← hq', hq]; rfl
      have h2 : ltN (x, x) (y, y) = false := by rw [← h, hp]; rfl
      have e2 : x = y := ltN_tri h2 h1
      show (x.toList == y.toList) = true
      rw [e2]; simp
  cases p with
  | true =>
    clear heq
    have Hp := Lib.hid hp; have Hq := Lib.hid hq; clear hp hq
    go_enter Try.func123, Try.ntmps123
    go_wp2
    go_ret
    exact ⟨rfl, rfl⟩
  | false =>
    have he := heq rfl
    clear heq
    cases q with
    | true =>
      rw [Bool.not_true] at he
      have Hp := Lib.hid hp; have Hq := Lib.hid hq; clear hp hq
      go_enter Try.func123, Try.ntmps123
      go_wp2
      go_ret
      exact ⟨rfl, rfl⟩
    | false =>
      rw [Bool.not_false] at he
      have Hp := Lib.hid hp; have Hq := Lib.hid hq; clear hp hq
      go_enter Try.func123, Try.ntmps123
      go_wp2
      go_ret
      exact ⟨rfl, rfl⟩
def byN (x y : S) : Int := compareStr x.1 y.1
theorem byN_lt : ltOf byN = ltN := by
  funext x y
  unfold ltOf byN compareStr ltN
  cases h : Op.bytesLess x.1.toList y.1.toList
  · simp only [Bool.false_eq_true, if_false]
    split <;> decide
  · simp only [if_true]; decide
set_option maxRecDepth 10000 in
theorem byName_any (x y : S) (w : World) : Calls Try.prog 96 #[.agg #[.string x.1, .string x.2], .agg #[.string y.1, .string y.2]] w fun e w' => e = .returned (.int .i64 (byN x y)) ∧ ∃ q os', w' = grow (w.drewN q) os' := by
  obtain ⟨c, hc⟩ : ∃ c, c = byN x y := ⟨_, rfl⟩
  have hC := fun W => compareStr_any x.1 y.1 W
  rw [show compareStr x.1 y.1 = c by rw [hc]; rfl] at hC
  rw [← hc]
  have Hc := Lib.hid hc; have HC := Lib.hid hC; clear hc hC
  go_enter Try.func96, Try.ntmps96
  go_wp2_with fail
  refine (HC.out _).mono ?_
  rintro e w2 ⟨rfl, rfl⟩
  go_wp2_with fail
  go_ret
  exact ⟨rfl, 0, _, by rw [alloc_eq_grow, alloc_eq_grow, grow_grow]; rfl⟩
theorem enters_byName : ∀ args w, (callFunc 96 args).run Try.prog w = .ok (.enter 96 args) w := enters_of Try.func96 (by kernel_rfl) rfl
abbrev sEnc : S → List Value := StbSet.enc Prod.fst Prod.snd
theorem byName_lays (blk off size : Nat) (w : World) : CmpLays Try.prog 96 #[] sEnc 2 byN blk off size w := fun m os dk _ x y => by
  have := byName_any x y (sortWorldK sEnc 2 w blk off m dk os)
  exact this
/-- SortStableFunc by the names, of a row that a slice holds -/
theorem sortNames_any {w0 : World} {blk off : Nat} {d0 : Array S} (R : RowK sEnc 2 w0 blk off d0) (cap : Nat) (hn : d0.size ≤ 1000000) :
    Calls Try.prog 95 #[.slice (some ⟨blk, off, none⟩) d0.size cap, .func (.func 96) #[] #[]] w0 (StbSet.Now sEnc 2 w0 blk off (ssort ltN d0.toList)) := by
  have := StbSet.sortStable_any R (byName_lays blk off d0.size w0) enters_byName (by rw [byN_lt]; exact ltN_swo) cap hn
  rw [byN_lt] at this
  exact this
end Go.Proofs.Ytnelgellbabkoaa

/- The walks of slices.Grow (of nothing) and slices.Concat (of two) at settings. Condition: at most a million. -/
namespace Go.Proofs.Ytnelgellbabkoaa
open Go.RowKit

def GrowPost (w : World) (e : Ending) (w' : World) : Prop := ∃ o, e = .returned o ∧ w'.ownsRow w.heap.size 38 2 o 0 [] ∧ Below w.heap.size w w'
set_option maxRecDepth 10000 in
set_option maxHeartbeats 2000000 in
theorem growSet_any (n : Nat) (hn : n ≤ 1000000) (w : World) : Calls Try.prog 121 #[.slice none 0 0, .int .i64 n] w (GrowPost w) := by
  obtain ⟨i0, hi, hz, hsz, hby⟩ := info_parts elem_set.info
  by_cases h0 : n = 0
  · subst h0
    clear hi hz hsz hby
    go_enter Try.func121, Try.ntmps121
    go_wp2_with fail
    go_ret
    exact ⟨_, rfl, World.ownsRow_nil _ _ _ _, Below.refl _ _⟩
  · have hrz : ∀ ty, (Builtin.append_ #[36, 3] ty #[.slice none 0 0, .int .i64 (n : Int)]).run Try.prog w =
      .ok (.slice (some ⟨w.heap.size, 0, none⟩) n (grownCap w n 0 38)) (w.drew.alloc (.cells (#[] ++ Builtin.zeroCells (Value.agg #[.string ⟨#[]⟩, .string ⟨#[]⟩]).cells n ++ Builtin.zeroCells (Value.agg #[.string ⟨#[]⟩, .string ⟨#[]⟩]).cells (grownCap w n 0 38 - n)) 38)) := fun ty => by
      have h := Lib.run_append_grow_zeros w 36 3 ty 38 i0 _ .i64 .i64 Try.underlying36 Try.underlying3 hi hz none 0 0 [] (run_firstCells_none w.drew i0.size 0 0 0) n (by omega) (by rw [hsz]; decide) (by omega) (by omega) (by rw [hby]; omega) (by rw [Nat.zero_add]; exact growslice_fits (by omega) (by rw [hby]; omega))
      rw [Nat.zero_add] at h
      exact h
    have hG1 : n ≤ grownCap w n 0 38 := grownCap_ge w _ _ _
    have hG2 : grownCap w n 0 38 ≤ maxLen := grownCap_le_maxLen w n 0 _ (by unfold maxLen; omega)
    obtain ⟨G, hG⟩ : ∃ G, G = grownCap w n 0 38 := ⟨_, rfl⟩
    rw [← hG] at hrz hG1 hG2
    obtain ⟨Z, hZ⟩ : ∃ Z, Z = (#[] ++ Builtin.zeroCells (Value.agg #[.string ⟨#[]⟩, .string ⟨#[]⟩]).cells n ++ Builtin.zeroCells (Value.agg #[.string ⟨#[]⟩, .string ⟨#[]⟩]).cells (G - n)) := ⟨_, rfl⟩
    have hZs : Z.size = G * 2 := by
      rw [hZ]
      simp only [Array.size_append, size_zeroCells, Value.cells, List.size_toArray, Array.size_empty]
      show 0 + n * 2 + (G - n) * 2 = G * 2
      omega
    rw [← hZ] at hrz
    have hG63 : G ≤ 9223372036854775807 := by unfold maxLen at hG2; exact hG2
    have hpos : (0 : Int) < (n : Int) := by omega
    clear hi hz hsz hby
    have HG := Lib.hid hG; have HZ := Lib.hid hZ; have HZs := Lib.hid hZs; have HG2 := Lib.hid hG2; have H0 := Lib.hid h0; clear hG hZ hZs hG2 h0
    go_enter Try.func121, Try.ntmps121
    go_wp2_with (at_builtin; refine Lib.wpList_append_run _ rfl _ _ _ _ rfl _ _ rfl rfl _ _ (hrz _) ?_)
    all_goals
      go_ret
      refine ⟨_, rfl, ⟨by simp, .inr ⟨_, G, Z, rfl, Nat.le_refl _, ?_, by omega, HG2.out, HZs.out, by simp⟩⟩, ?_⟩
      · exact heap_alloc_new _ _
      · exact bel_drewN (below_alloc1 w _) 1
def ConcPost (w : World) (l : List Setg) (e : Ending) (w' : World) : Prop := ∃ o, e = .returned o ∧ w'.ownsRow w.heap.size 38 2 o l.length (l.flatMap setCells) ∧ Below w.heap.size w w'
set_option maxRecDepth 10000 in
set_option maxHeartbeats 4000000 in
theorem concSet_any {w : World} {g : Nat} {u v : Value} {a b : List Setg} (hg : w.heap[g]? = some (.cells #[u, v] 36 (0, 0))) (ha : RSets w [u] a) (hb : RSets w [v] b) (hla : a.length ≤ 400000) (hlb : b.length ≤ 400000) :
    Calls Try.prog 94 #[.slice (some ⟨g, 0, none⟩) 2 2] w (ConcPost w (a ++ b)) := by
  obtain ⟨Aa, Ca, rfl⟩ := sets_shape ha
  obtain ⟨Ab, Cb, rfl⟩ := sets_shape hb
  have hNwa := sets_news ha
  have hNwb := sets_news hb
  have c0 := cells_at hg 0
  have c1 := cells_at hg 1
  simp only [List.getElem?_toArray, List.getElem?_cons_succ, List.getElem?_cons_zero] at c0 c1
  have hG := growSet_any (a.length + b.length) (by omega) w
  obtain ⟨na, hna⟩ : ∃ n, n = a.length := ⟨_, rfl⟩
  obtain ⟨nb, hnb⟩ : ∃ n, n = b.length := ⟨_, rfl⟩
  rw [← hna] at c0 hG
  rw [← hnb] at c1 hG
  rw [show ((na + nb : Nat) : Int) = (na : Int) + (nb : Int) by omega] at hG
  have hc0 := c0
  have hc1 := c1
  have w1 : IntKind.i64.wrap ((na : Int) + (nb : Int)) = (na : Int) + (nb : Int) := IntWalk.i64_in _ (by omega)
  have w0 : IntKind.i64.wrap (na : Int) = (na : Int) := IntWalk.i64_in _ (by omega)
  have p0 : ¬ (na : Int) < 0 := by omega
  have p1 : ¬ (na : Int) + (nb : Int) < 0 := by omega
  clear hg
  have Ha := Lib.hid ha; have Hb := Lib.hid hb; have HNwa := Lib.hid hNwa; have HNwb := Lib.hid hNwb; have HG := Lib.hid hG; have Hna := Lib.hid hna; have Hnb := Lib.hid hnb; have Hc0 := Lib.hid hc0; have Hc1 := Lib.hid hc1; have Hla := Lib.hid hla; have Hlb := Lib.hid hlb; clear ha hb hNwa hNwb hG hna hnb hc0 hc1 hla hlb
  go_enter Try.func94, Try.ntmps94
  go_wp2_with fail
  refine wp_loop_rounds 3 ?_
  rw [rounds_succ]
  go_wp2_with fail
  rw [rounds_succ]
  go_wp2_with fail
  rw [rounds_succ]
  go_wp2_with fail
  refine HG.out.mono ?_
  rintro e W ⟨o, rfl, hown, hbw⟩
  clear c0 c1 w0 w1 p0 p1
  have Hown := Lib.hid hown; have Hbw := Lib.hid hbw; clear hown hbw
  go_wp2_with fail
  go_loopw [6, 27] (fun x y wr => ∃ (k : Nat) (o : Value) (l : List Setg), x = o ∧ y = .int .i64 k ∧ ((k = 0 ∧ l = []) ∨ (k = 1 ∧ l = a) ∨ (k = 2 ∧ l = a ++ b)) ∧ wr.ownsRow w.heap.size 38 2 o l.length (l.flatMap setCells) ∧ Below w.heap.size w wr) (fun _ y _ => 3 - (intOf y).toNat)
  case atStart => exact ⟨0, _, [], rfl, rfl, .inl ⟨rfl, rfl⟩, Hown.out, Hbw.out⟩
  case round =>
    obtain ⟨k, o, l, rfl, rfl, hc, hown, hbw⟩ := hrel
    rcases hc with ⟨rfl, rfl⟩ | ⟨rfl, rfl⟩ | ⟨rfl, rfl⟩
    ·
      obtain ⟨m0, hm0⟩ : ∃ m, m = ([] : List Setg).length := ⟨_, rfl⟩
      obtain ⟨N0, hN0⟩ : ∃ m, m = ([] : List Setg).flatMap setCells := ⟨_, rfl⟩
      have hres := hown
      rw [← hm0, ← hN0] at hown
      obtain ⟨oa, oc, rfl⟩ := own_shape hown
      have hNa : ∀ j u, (a.flatMap setCells)[j]? = some u → ∃ b off, Aa = some ⟨b, off, none⟩ ∧ wr.cell? ⟨b, off + j, none⟩ = some u := fun j u hu => by
        obtain ⟨b, off, h1, h2⟩ := HNwa.out j u hu
        exact ⟨b, off, h1, cell_later hbw h2⟩
      have g0 := cell_later hbw Hc0.out
      have hbs : w.heap.size ≤ wr.heap.size := hbw.size
      have hm0b : m0 ≤ 1000000 := by rw [hm0]; have := Hla.out; have := Hlb.out; simp; try omega
      have hsb : na ≤ 1000000 := by have := Hla.out; have := Hlb.out; have := Hna.out; have := Hnb.out; omega
      obtain ⟨NS, hNS⟩ : ∃ NS, NS = a.flatMap setCells := ⟨_, rfl⟩
      have hl1 : NS.length = na * 2 := by rw [hNS, setsFlat_len, ← Hna.out]
      have hone : ∀ u ∈ NS, u.oneCell' = true := by rw [hNS]; exact sets_one a
      rw [← hNS] at hNa
      have Hm0 := Lib.hid hm0; have HN0 := Lib.hid hN0; have Hres := Lib.hid hres; have Hown := Lib.hid hown; have HNa := Lib.hid hNa; have Hbw := Lib.hid hbw; have Hbs := Lib.hid hbs; have HNS := Lib.hid hNS; have Hl1 := Lib.hid hl1; have Hone := Lib.hid hone; clear hm0 hN0 hres hown hNa hbw hbs hNS hl1 hone
      go_wp2_with (at_builtin; (refine wpList_append_from elem_set rfl (.tmp 31) (.tmp 32) rfl w.heap.size (.slice oa m0 oc) m0 N0 rfl Hown.out Aa na Ca NS rfl Hl1.out HNa.out Hone.out (by omega) (by unfold maxLen; omega) Hbs.out ?_; intro v1 w1 hown1 hg1 hm1; have Hown1 := Lib.hid hown1; have Hg1 := Lib.hid hg1; clear hown1 hg1 hm1))
      have hb1 : Below w.heap.size w w1 := bel_own Hbw.out Hown.out (Nat.le_refl _) Hg1.out Hbs.out
      have hown2 : w1.ownsRow w.heap.size 38 2 v1 (a : List Setg).length ((a : List Setg).flatMap setCells) := by
        have h9 := Hown1.out
        rw [HN0.out, HNS.out, Hm0.out, Hna.out] at h9
        simpa using h9
      go_roundw
      case rel => exact ⟨1, v1, a, rfl, rfl, .inr (.inl ⟨rfl, rfl⟩), hown2, hb1⟩
      case measure => simp [intOf]
    ·
      obtain ⟨m0, hm0⟩ : ∃ m, m = (l : List Setg).length := ⟨_, rfl⟩
      obtain ⟨N0, hN0⟩ : ∃ m, m = (l : List Setg).flatMap setCells := ⟨_, rfl⟩
      have hres := hown
      rw [← hm0, ← hN0] at hown
      obtain ⟨oa, oc, rfl⟩ := own_shape hown
      have hNb : ∀ j u, (b.flatMap setCells)[j]? = some u → ∃ b off, Ab = some ⟨b, off, none⟩ ∧ wr.cell? ⟨b, off + j, none⟩ = some u := fun j u hu => by
        obtain ⟨b, off, h1, h2⟩ := HNwb.out j u hu
        exact ⟨b, off, h1, cell_later hbw h2⟩
      have g0 := cell_later hbw Hc1.out
      have hbs : w.heap.size ≤ wr.heap.size := hbw.size
      have hm0b : m0 ≤ 1000000 := by rw [hm0]; have := Hla.out; have := Hlb.out; simp; try omega
      have hsb : nb ≤ 1000000 := by have := Hla.out; have := Hlb.out; have := Hna.out; have := Hnb.out; omega
      obtain ⟨NS, hNS⟩ : ∃ NS, NS = b.flatMap setCells := ⟨_, rfl⟩
      have hl1 : NS.length = nb * 2 := by rw [hNS, setsFlat_len, ← Hnb.out]
      have hone : ∀ u ∈ NS, u.oneCell' = true := by rw [hNS]; exact sets_one b
      rw [← hNS] at hNb
      have Hm0 := Lib.hid hm0; have HN0 := Lib.hid hN0; have Hres := Lib.hid hres; have Hown := Lib.hid hown; have HNb := Lib.hid hNb; have Hbw := Lib.hid hbw; have Hbs := Lib.hid hbs; have HNS := Lib.hid hNS; have Hl1 := Lib.hid hl1; have Hone := Lib.hid hone; clear hm0 hN0 hres hown hNb hbw hbs hNS hl1 hone
      go_wp2_with (at_builtin; (refine wpList_append_from elem_set rfl (.tmp 31) (.tmp 32) rfl w.heap.size (.slice oa m0 oc) m0 N0 rfl Hown.out Ab nb Cb NS rfl Hl1.out HNb.out Hone.out (by omega) (by unfold maxLen; omega) Hbs.out ?_; intro v1 w1 hown1 hg1 hm1; have Hown1 := Lib.hid hown1; have Hg1 := Lib.hid hg1; clear hown1 hg1 hm1))
      have hb1 : Below w.heap.size w w1 := bel_own Hbw.out Hown.out (Nat.le_refl _) Hg1.out Hbs.out
      have hown2 : w1.ownsRow w.heap.size 38 2 v1 (l ++ b : List Setg).length ((l ++ b : List Setg).flatMap setCells) := by
        have h9 := Hown1.out
        rw [HN0.out, HNS.out, Hm0.out, Hnb.out] at h9
        simpa using h9
      go_roundw
      case rel => exact ⟨2, v1, l ++ b, rfl, rfl, .inr (.inr ⟨rfl, rfl⟩), hown2, hb1⟩
      case measure => simp [intOf]
    · obtain ⟨oa, oc, rfl⟩ := own_shape hown
      have Hown := Lib.hid hown; have Hbw := Lib.hid hbw; clear hown hbw
      go_wp2_with fail
      go_ret
      exact ⟨_, rfl, Hown.out, Hbw.out⟩
end Go.Proofs.Ytnelgellbabkoaa

/- A bridge between a row that a call owns and the sort's words on rows, at elements of k cells. -/
namespace Go.Proofs.Ytnelgellbabkoaa
open Go.Shelf Go.RowKit Go.Lib Go.Sort
variable {α : Type}
theorem flatMap_len {enc : α → List Value} {k : Nat} (hk : ∀ x, (enc x).length = k) : ∀ l : List α, (l.flatMap enc).length = l.length * k
  | [] => by simp
  | x :: l => by rw [List.flatMap_cons, List.length_append, flatMap_len hk l, hk, List.length_cons, Nat.succ_mul]; omega
/-- the first elements of a row that a call owns -/
theorem owns_take {enc : α → List Value} {k : Nat} (hk : ∀ x, (enc x).length = k) {w : World} {base g n cap : Nat} {e : TypeId} {l : List α} (h : w.ownsRow base e k (.slice (some ⟨g, 0, none⟩) n cap) n (l.flatMap enc)) (hl : l.length = n) (m : Nat) (hm : m ≤ n) : w.ownsRow base e k (.slice (some ⟨g, 0, none⟩) m cap) m ((l.take m).flatMap enc) := by
  rcases h.2 with ⟨e0, _⟩ | ⟨g', cap', cur, e0, hb, hg, hn, hmx, hcs, ht⟩
  · cases e0
  · injection e0 with e1 _ e3
    injection e1 with e1
    injection e1 with e1
    subst e1; subst e3
    have hmk : m * k ≤ n * k := Nat.mul_le_mul_right _ hm
    refine ⟨by rw [flatMap_len hk, List.length_take, Nat.min_eq_left (by omega)], .inr ⟨g, cap, cur, rfl, hb, hg, by omega, hmx, hcs, ?_⟩⟩
    have e5 : (l.take m).flatMap enc = (l.flatMap enc).take (m * k) := by
      have e6 : l.flatMap enc = (l.take m).flatMap enc ++ (l.drop m).flatMap enc := by rw [← List.flatMap_append, List.take_append_drop]
      have e7 : ((l.take m).flatMap enc).length = m * k := by rw [flatMap_len hk, List.length_take, Nat.min_eq_left (by omega)]
      rw [e6, ← e7]
      exact List.take_left.symm
    rw [e5, ← ht, List.take_take, Nat.min_eq_left hmk]
variable [Inhabited α]

theorem flatK_is {enc : α → List Value} {k : Nat} (hk : ∀ x, (enc x).length = k) (k0 : 0 < k) (d : Array α) : (flatK enc k d).toList = d.toList.flatMap enc := by
  apply List.ext_getElem?
  intro t
  by_cases ht : t < d.size * k
  · have hd : t / k < d.size := Nat.div_lt_of_lt_mul (by rwa [Nat.mul_comm])
    have hm : t % k < k := Nat.mod_lt _ k0
    have e := flat_get enc k hk d.toList (t / k) (by simpa using hd) (t % k) hm
    rw [Nat.div_add_mod'] at e
    rw [e, Array.getElem?_toList, getElem?_pos _ t (by simpa using ht)]
    have g := get_flatK enc k d t ht
    rw [getElem!_pos _ t (by simpa using ht)] at g
    rw [g, getElem!_pos d _ hd, Array.getElem_toList, getElem!_pos (enc d[t / k]) _ (by rw [hk]; exact hm), List.getElem?_eq_getElem (by rw [hk]; exact hm)]
  · rw [List.getElem?_eq_none (by simpa using Nat.le_of_not_lt ht), List.getElem?_eq_none (by rw [flatMap_len hk]; simpa using Nat.le_of_not_lt ht)]
theorem rowK_of_owns {enc : α → List Value} {k : Nat} (hk : ∀ x, (enc x).length = k) (h1 : ∀ x, ∀ v ∈ enc x, v.oneCell' = true) (k0 : 0 < k) {w : World} {base g n cap : Nat} {e : TypeId} {l : List α} (h : w.ownsRow base e k (.slice (some ⟨g, 0, none⟩) n cap) n (l.flatMap enc)) (hn : l.length = n) : RowK enc k w g 0 l.toArray := by
  refine ⟨hk, h1, fun j hj => ?_, (h.lt g rfl).2⟩
  have hj' : j < n * k := by rw [← hn]; simpa using hj
  refine ⟨?_, by rw [Nat.zero_add]; exact h.frozenAt j⟩
  rw [Nat.zero_add, h.cellAt j hj']
  have := flatK_is hk k0 l.toArray
  rw [← this, Array.getElem?_toList, getElem?_pos _ j hj, getElem!_pos _ j hj]
  rfl
theorem owns_of_swk {enc : α → List Value} {k : Nat} (hk : ∀ x, (enc x).length = k) (k0 : 0 < k) {w w' : World} {base g n cap : Nat} {e : TypeId} {l : List α} {d : Array α} (h : w.ownsRow base e k (.slice (some ⟨g, 0, none⟩) n cap) n (l.flatMap enc)) (S : SWK enc k w g 0 d w') (hs : d.size = n) :
    w'.ownsRow base e k (.slice (some ⟨g, 0, none⟩) n cap) n (d.toList.flatMap enc) ∧ ∀ w0, Below base w0 w → base ≤ w.heap.size → Below base w0 w' := by
  obtain ⟨m, os, rfl⟩ := S
  rcases h.2 with ⟨e0, _⟩ | ⟨g', cap', cur, e0, hb, hg, hn, hm, hcs, ht⟩
  · cases e0
  · injection e0 with e1 _ e3
    injection e1 with e1
    injection e1 with e1
    subst e1; subst e3
    have hlt : g < w.heap.size := (Array.getElem?_eq_some_iff.1 hg).1
    unfold sortWorldK putRowK
    refine ⟨⟨by rw [flatMap_len hk]; simp [hs], .inr ⟨g, cap, putCells id 0 (flatK enc k d) cur, rfl, hb, ?_, hn, hm, by simpa [putCells] using hcs, ?_⟩⟩, fun w0 hB hbs => ?_⟩
    · rw [heap_grow_old _ _ (by simp [putRow, mapBlock, Sort.ahead]; exact hlt)]
      simp [putRow, mapBlock, Sort.ahead, Array.getElem?_modify, hg, onCells]
    · rw [← flatK_is hk k0]
      have hle : n * k ≤ cap * k := Nat.mul_le_mul_right _ hn
      apply List.ext_getElem?
      intro j
      rw [List.getElem?_take, Array.getElem?_toList, Array.getElem?_toList]
      by_cases hj : j < n * k
      · have hjc : j < cur.size := by omega
        have hjf : j < (flatK enc k d).size := by rw [size_flatK, hs]; exact hj
        simp only [if_pos hj, putCells, Array.getElem?_mapIdx, Array.getElem?_eq_getElem hjc, Option.map_some]
        rw [if_pos ⟨Nat.zero_le _, by omega⟩, Nat.sub_zero, getElem!_pos _ j hjf, getElem?_pos _ j hjf]
        rfl
      · rw [if_neg hj, getElem?_neg _ j (by rw [size_flatK, hs]; exact hj)]
    · refine ⟨hB.os, hB.tape, hB.output, ?_, fun b hb' => ?_⟩
      · have := hB.size
        simp [putRow, mapBlock, Sort.ahead]; omega
      · rw [heap_grow_old _ _ (by simp [putRow, mapBlock, Sort.ahead]; omega), ← hB.block b hb']
        simp [putRow, mapBlock, Sort.ahead, Array.getElem?_modify, show g ≠ b by omega]
/-- cells behind the row's own are written -/
theorem owns_setCells {k : Nat} {base g n cap : Nat} {e : TypeId} {xs : List Value} : ∀ (vs : List Value) (o : Nat) (w : World), w.ownsRow base e k (.slice (some ⟨g, 0, none⟩) n cap) n xs → xs.length ≤ o → base ≤ w.heap.size →
    (w.setCells g o vs).ownsRow base e k (.slice (some ⟨g, 0, none⟩) n cap) n xs ∧ ∀ w0, Below base w0 w → Below base w0 (w.setCells g o vs)
  | [], _, w, h, _, _ => ⟨h, fun _ hb => hb⟩
  | v :: vs, o, w, h, ho, hbs => by
    have h1 := h.stored o v
    rw [List.set_eq_of_length_le ho] at h1
    have h2 := owns_setCells vs (o + 1) _ h1.1 (by omega) (Nat.le_trans hbs h1.2.size)
    refine ⟨h2.1, fun w0 hb => h2.2 w0 ?_⟩
    exact hb.grown h1.2 hbs fun k hk => by cases hk; exact (h.lt g rfl).1
end Go.Proofs.Ytnelgellbabkoaa

/- The walk of slices.Compact at settings, of a row that a call owns. Condition: at most a million. -/
namespace Go.Proofs.Ytnelgellbabkoaa
open Go.Shelf Go.RowKit Go.Lib Go.Sort
attribute [local go_sem ↓] Go.wp_at_zero Go.wp_at_succ

theorem setCells_two : ∀ x : Setg, (setCells x).length = 2 := fun _ => rfl
/-- the cells of an element of a row of settings -/
theorem set_at {w : World} {B g n cap : Nat} {l : List Setg} (h : w.ownsRow B 38 2 (.slice (some ⟨g, 0, none⟩) n cap) n (l.flatMap setCells)) (hn : l.length = n) (i : Nat) (hi : i < n) :
    w.cell? ⟨g, i * 2, none⟩ = some (.string l.toArray[i]!.1) ∧ w.frozen? ⟨g, i * 2, none⟩ = false ∧ w.cell? ⟨g, i * 2 + 1, none⟩ = some (.string l.toArray[i]!.2) ∧ w.frozen? ⟨g, i * 2 + 1, none⟩ = false := by
  have hil : i < l.length := by omega
  have h0 := h.cellAt (i * 2 + 0) (by omega)
  have h1 := h.cellAt (i * 2 + 1) (by omega)
  rw [flat_get setCells 2 setCells_two l i hil 0 (by decide)] at h0
  rw [flat_get setCells 2 setCells_two l i hil 1 (by decide)] at h1
  have e : l.toArray[i]! = l[i] := by rw [getElem!_pos _ i (by simpa using hil)]; rfl
  rw [e]
  exact ⟨h0, h.frozenAt (i * 2 + 0), h1, h.frozenAt (i * 2 + 1)⟩
/-- an element is put -/
theorem set_put {w : World} {B g n cap : Nat} {d : Array Setg} (h : w.ownsRow B 38 2 (.slice (some ⟨g, 0, none⟩) n cap) n (d.toList.flatMap setCells)) (hn : d.size = n) (i : Nat) (hi : i < n) (x : Setg) :
    ((w.setCell ⟨g, i * 2, none⟩ (.string x.1)).setCell ⟨g, i * 2 + 1, none⟩ (.string x.2)).ownsRow B 38 2 (.slice (some ⟨g, 0, none⟩) n cap) n ((d.setIfInBounds i x).toList.flatMap setCells) ∧
    ∀ w0, Below B w0 w → B ≤ w.heap.size → Below B w0 ((w.setCell ⟨g, i * 2, none⟩ (.string x.1)).setCell ⟨g, i * 2 + 1, none⟩ (.string x.2)) ∧ B ≤ ((w.setCell ⟨g, i * 2, none⟩ (.string x.1)).setCell ⟨g, i * 2 + 1, none⟩ (.string x.2)).heap.size := by
  have h1 := h.stored (i * 2) (.string x.1)
  have h2 := h1.1.stored (i * 2 + 1) (.string x.2)
  refine ⟨?_, fun w0 hb hB => ?_⟩
  · rw [Array.toList_setIfInBounds, ← flat_set setCells 2 setCells_two d.toList i (by simpa using (by omega : i < d.size)) x]
    exact h2.1
  · have hg : ∀ k, some g = some k → B ≤ k := fun k hk => by cases hk; exact (h.lt g rfl).1
    exact ⟨(hb.grown h1.2 hB hg).grown h2.2 (Nat.le_trans hB h1.2.size) hg, Nat.le_trans hB (Nat.le_trans h1.2.size h2.2.size)⟩
theorem zero_set : ∀ w, (zeroValue 38).run Try.prog w = .ok (.agg #[.string ⟨#[]⟩, .string ⟨#[]⟩]) w := fun w => by
  obtain ⟨i, hi, hz, _, _⟩ := info_parts elem_set.info
  simp [zeroValue, typeInfo, hi, hz]
theorem clear_sets {W : World} {g o m c : Nat} (ty : TypeId) (hm : 0 < m) (hc : ∀ j, j < m * 2 → (W.cell? ⟨g, o + j, none⟩).isSome = true) (hf : ∀ j, j < m * 2 → W.frozen? ⟨g, o + j, none⟩ = false) :
    (Builtin.clear_ #[36] ty #[.slice (some ⟨g, o, none⟩) m c]).run Try.prog W = .ok (.tuple #[]) (W.setCells g o (Builtin.zeroCells #[.string ⟨#[]⟩, .string ⟨#[]⟩] m).toList) := by
  have hl : (Builtin.zeroCells #[.string ⟨#[]⟩, .string ⟨#[]⟩] m).toList.length = m * 2 := by rw [Array.length_toList, size_zeroCells]; rfl
  have hst := run_storeCells_cells (P := Try.prog) g o (Builtin.zeroCells #[.string ⟨#[]⟩, .string ⟨#[]⟩] m).toList 0 W (by rw [hl]; simpa using hc) (by rw [hl]; simpa using hf) (by
    intro v hv
    simp only [Builtin.zeroCells, Array.toList_map, List.mem_map] at hv
    obtain ⟨t, _, rfl⟩ := hv
    have : t % 2 = 0 ∨ t % 2 = 1 := by omega
    rcases this with h | h <;> simp [h, Value.oneCell'])
  simp only [Nat.add_zero] at hst
  obtain ⟨m', rfl⟩ : ∃ m', m = m' + 1 := ⟨m - 1, by omega⟩
  simp [Builtin.clear_, run_underlying Try.underlying36, zero_set, Value.cells, hst]
def CompPost (B g cap : Nat) (w : World) (c : List Setg) (e : Ending) (w' : World) : Prop := e = .returned (.slice (some ⟨g, 0, none⟩) c.length cap) ∧ w'.ownsRow B 38 2 (.slice (some ⟨g, 0, none⟩) c.length cap) c.length (c.flatMap setCells) ∧ ∀ w0, Below B w0 w → B ≤ w.heap.size → Below B w0 w'
set_option maxRecDepth 10000 in
set_option maxHeartbeats 4000000 in
theorem compactSet_any {w : World} {B g n cap : Nat} {l : List Setg} (h : w.ownsRow B 38 2 (.slice (some ⟨g, 0, none⟩) n cap) n (l.flatMap setCells)) (hn : l.length = n) (hb : n ≤ 1000000) :
    Calls Try.prog 97 #[.slice (some ⟨g, 0, none⟩) n cap] w (CompPost B g cap w (compactUpTo l.toArray n)) := by
  have hcap : n ≤ cap ∧ cap ≤ 9223372036854775807 := by
    rcases h.2 with ⟨e0, _⟩ | ⟨g', cap', cur, e0, _, _, h1, h2, _⟩
    · cases e0
    · injection e0 with e1 _ e3
      subst e3
      exact ⟨h1, by unfold maxLen at h2; exact h2⟩
  have same : ∀ q, (∀ j, j < n → keeps l.toArray j = true) → ∀ e, e = Ending.returned (.slice (some ⟨g, 0, none⟩) n cap) → CompPost B g cap w (compactUpTo l.toArray n) e (w.drewN q) := by
    intro q hall e he
    have e2 : compactUpTo l.toArray n = l := by
      rw [compactUpTo_all l.toArray n hall, ← hn]
      have := range_map_get l.toArray
      simpa using this
    rw [e2]
    refine ⟨by rw [he, hn], by rw [hn]; exact h, fun w0 hb _ => bel_drewN hb q⟩
  obtain ⟨d, hd⟩ : ∃ d, d = l.toArray := ⟨_, rfl⟩
  have hrow : w.ownsRow B 38 2 (.slice (some ⟨g, 0, none⟩) n cap) n (d.toList.flatMap setCells) := by rw [hd]; exact h
  have hds : d.size = n := by rw [hd]; simpa using hn
  rw [← hd] at same ⊢
  have hat := fun i hi => set_at h hn i hi
  rw [← hd] at hat
  clear h
  obtain ⟨hcap1, hcap2⟩ := hcap
  by_cases h2 : n < 2
  · have hs := same 0 (fun j hj => keeps_lt_one d j (by omega)) _ rfl
    have hz : (n : Int) < 2 := by omega
    have Hs := Lib.hid hs; have Hrow := Lib.hid hrow; have Hat := Lib.hid hat; have Hd := Lib.hid hd; have Hsame := Lib.hid same; clear hs hrow hat hd same
    go_enter Try.func97, Try.ntmps97
    go_wp2_with fail
    go_ret
    exact Hs.out
  · have hz : ¬ (n : Int) < 2 := by omega
    have Hrow := Lib.hid hrow; have Hat := Lib.hid hat; have Hd := Lib.hid hd; have Hsame := Lib.hid same; have Hds := Lib.hid hds; have Hn := Lib.hid hn; clear hrow hat hd same hds hn
    go_enter Try.func97, Try.ntmps97
    go_wp2_with fail
    clear hz
    go_loopw [3] (fun x wr => ∃ k q : Nat, x = .int .i64 k ∧ 1 ≤ k ∧ k ≤ n ∧ wr = w.drewN q ∧ ∀ j, j < k → keeps d j = true) (fun x _ => n - (intOf x).toNat)
    case atStart => exact ⟨1, 0, rfl, Nat.le_refl _, by omega, rfl, keeps_lt_one d⟩
    case round =>
      obtain ⟨k, q, rfl, hk1, hk, rfl, hall⟩ := hrel
      by_cases hlt : k < n
      · obtain ⟨kq, hkq⟩ : ∃ kq, kq = k - 1 := ⟨_, rfl⟩
        obtain ⟨c0, _, c1, _⟩ := Hat.out k hlt
        obtain ⟨p0, _, p1, _⟩ := Hat.out kq (by omega)
        obtain ⟨x, hx⟩ : ∃ x, x = d[k]! := ⟨_, rfl⟩
        obtain ⟨y, hy⟩ : ∃ x, x = d[kq]! := ⟨_, rfl⟩
        rw [← hx] at c0 c1
        rw [← hy] at p0 p1
        obtain ⟨x0, hx0⟩ : ∃ v, v = x.1 := ⟨_, rfl⟩
        obtain ⟨x1, hx1⟩ : ∃ v, v = x.2 := ⟨_, rfl⟩
        obtain ⟨y0, hy0⟩ : ∃ v, v = y.1 := ⟨_, rfl⟩
        obtain ⟨y1, hy1⟩ : ∃ v, v = y.2 := ⟨_, rfl⟩
        have hxy : (x = y) ↔ (x0 = y0 ∧ x1 = y1) := by rw [hx0, hx1, hy0, hy1]; exact Prod.ext_iff
        rw [← hx0] at c0
        rw [← hx1] at c1
        rw [← hy0] at p0
        rw [← hy1] at p1
        have hE := set_eqs x0 x1 y0 y1
        have w1 : IntKind.i64.wrap ((k : Int) - 1) = (kq : Int) := by rw [IntWalk.i64_in _ (by omega)]; omega
        have w2 : IntKind.i64.wrap ((k : Int) + 1) = (k : Int) + 1 := IntWalk.i64_in _ (by omega)
        have u1 : (k : Int) < (n : Int) := by omega
        have u2 : (kq : Int) < (n : Int) := by omega
        obtain ⟨c, hc⟩ : ∃ c, c = (decide (x0 = y0) && decide (x1 = y1)) := ⟨_, rfl⟩
        rw [← hc] at hE
        cases c with
        | false =>
          have hne : ¬ x = y := fun e => by
            obtain ⟨e1, e2⟩ := hxy.1 e
            simp [e1, e2] at hc
          have hkeep : ∀ j, j < k + 1 → keeps d j = true := fun j hj => by
            by_cases e : j = k
            · subst e
              exact keeps_pos (by rw [← hkq, ← hx, ← hy]; exact hne)
            · exact hall j (by omega)
          have Hc := Lib.hid hc; have Hx := Lib.hid hx; have Hy := Lib.hid hy; have Hx0 := Lib.hid hx0; have Hx1 := Lib.hid hx1; have Hy0 := Lib.hid hy0; have Hy1 := Lib.hid hy1; have Hxy := Lib.hid hxy; have Hkeep := Lib.hid hkeep; have Hall := Lib.hid hall; have Hkq := Lib.hid hkq; clear hc hx hy hx0 hx1 hy0 hy1 hxy hkeep hall hkq
          go_wp2_with fail
          go_quiet (fail)
          go_wp2_with fail
          go_roundw
          case rel => exact ⟨k + 1, _, by go_num, by omega, by omega, rfl, Hkeep.out⟩
          case measure => simp [intOf]; omega
        | true =>
          have he : x = y := hxy.2 (by simpa using hc.symm)
          have hdup : keeps d k = false := keeps_neg (by omega) (by rw [← hkq, ← hx, ← hy]; exact he)
          have hst := CompInv.start hall hdup
          have u3 : (k : Int) ≤ (n : Int) := by omega
          have u4 : k ≤ n := by omega
          have Hc := Lib.hid hc; have Hx := Lib.hid hx; have Hy := Lib.hid hy; have Hx0 := Lib.hid hx0; have Hx1 := Lib.hid hx1; have Hy0 := Lib.hid hy0; have Hy1 := Lib.hid hy1; have Hxy := Lib.hid hxy; have Hall := Lib.hid hall; have Hkq := Lib.hid hkq; have He := Lib.hid he; have Hdup := Lib.hid hdup; have Hst := Lib.hid hst; clear hc hx hy hx0 hx1 hy0 hy1 hxy hall hkq he hdup hst
          go_wp2_with fail
          go_quiet (fail)
          go_wp2_with fail
          obtain ⟨m, hm⟩ : ∃ m, m = n - k := ⟨_, rfl⟩
          rw [← hm]
          have hkm : k + m = n := by omega
          clear c0 c1 p0 p1 hE w1 w2 u1 u2 u3 u4
          have Hm := Lib.hid hm; clear hm
          go_loopw [3, 5] (fun x y wr => ∃ (kk k2 : Nat) (dk : Array Setg), x = .int .i64 kk ∧ y = .int .i64 k2 ∧ 1 ≤ k2 ∧ k2 ≤ m ∧ CompInv d (k + k2) kk dk ∧ wr.ownsRow B 38 2 (.slice (some ⟨g, 0, none⟩) n cap) n (dk.toList.flatMap setCells) ∧ ∀ w0, Below B w0 w → B ≤ w.heap.size → Below B w0 wr ∧ B ≤ wr.heap.size) (fun _ y _ => m - (intOf y).toNat)
          case atStart => exact ⟨k, 1, d, rfl, rfl, Nat.le_refl _, by omega, Hst.out, Hrow.out, fun w0 hb hB => ⟨bel_drewN hb _, hB⟩⟩
          case round =>
            obtain ⟨kk, k2, dk, rfl, rfl, h1, hle, hI, hR, hB⟩ := hrel
            have hkk := hI.lt
            have hdks : dk.size = n := by rw [hI.size, Hds.out]
            have hds := Hds.out
            have hatk := fun i hi => set_at hR (by simpa using hdks) i hi
            simp only [Array.toArray_toList] at hatk
            by_cases hlt2 : k2 < m
            · obtain ⟨kp, hkp⟩ : ∃ kp, kp = k2 - 1 := ⟨_, rfl⟩
              obtain ⟨c0, _, c1, _⟩ := hatk (k + k2) (by omega)
              obtain ⟨p0, _, p1, _⟩ := hatk (k + kp) (by omega)
              obtain ⟨s0, sf0, s1, sf1⟩ := hatk kk (by omega)
              rw [hI.high (k + k2) (by omega), show (k + k2) * 2 = k * 2 + k2 * 2 from Nat.add_mul _ _ _] at c0 c1
              rw [hI.high (k + kp) (by omega), show (k + kp) * 2 = k * 2 + kp * 2 from Nat.add_mul _ _ _] at p0 p1
              obtain ⟨x, hx⟩ : ∃ x, x = d[k + k2]! := ⟨_, rfl⟩
              obtain ⟨y, hy⟩ : ∃ x, x = d[k + kp]! := ⟨_, rfl⟩
              rw [← hx] at c0 c1
              rw [← hy] at p0 p1
              have hput := fun q => set_put (w := wr.drewN q) (B := B) (g := g) (n := n) (cap := cap) (d := dk) hR hdks kk (by omega) x
              obtain ⟨x0, hx0⟩ : ∃ v, v = x.1 := ⟨_, rfl⟩
              obtain ⟨x1, hx1⟩ : ∃ v, v = x.2 := ⟨_, rfl⟩
              obtain ⟨y0, hy0⟩ : ∃ v, v = y.1 := ⟨_, rfl⟩
              obtain ⟨y1, hy1⟩ : ∃ v, v = y.2 := ⟨_, rfl⟩
              have hxy : (x = y) ↔ (x0 = y0 ∧ x1 = y1) := by rw [hx0, hx1, hy0, hy1]; exact Prod.ext_iff
              rw [← hx0] at c0
              rw [← hx1] at c1
              rw [← hx0, ← hx1] at hput
              rw [← hy0] at p0
              rw [← hy1] at p1
              obtain ⟨o0, ho0⟩ : ∃ v, v = dk[kk]!.1 := ⟨_, rfl⟩
              obtain ⟨o1, ho1⟩ : ∃ v, v = dk[kk]!.2 := ⟨_, rfl⟩
              rw [← ho0] at s0
              rw [← ho1] at s1
              have hE := set_neqs x0 x1 y0 y1
              have w1 : IntKind.i64.wrap ((k2 : Int) - 1) = (kp : Int) := by rw [IntWalk.i64_in _ (by omega)]; omega
              have w2 : IntKind.i64.wrap ((k2 : Int) + 1) = (k2 : Int) + 1 := IntWalk.i64_in _ (by omega)
              have w3 : IntKind.i64.wrap ((kk : Int) + 1) = (kk : Int) + 1 := IntWalk.i64_in _ (by omega)
              have u1 : (k2 : Int) < (m : Int) := by omega
              have u2 : (kp : Int) < (m : Int) := by omega
              have u3 : (kk : Int) < (n : Int) := by omega
              have hms : k + k2 < d.size := by omega
              obtain ⟨c, hc⟩ : ∃ c, c = (decide (x0 = y0) && decide (x1 = y1)) := ⟨_, rfl⟩
              rw [← hc] at hE
              cases c with
              | true =>
                have he : x = y := hxy.2 (by simpa using hc.symm)
                have hsk := hI.skip (keeps_neg (by omega) (by rw [show k + k2 - 1 = k + kp by omega, ← hx, ← hy]; exact he))
                rw [Bool.not_true] at hE
                have Hc := Lib.hid hc; have Hx := Lib.hid hx; have Hy := Lib.hid hy; have Hx0 := Lib.hid hx0; have Hx1 := Lib.hid hx1; have Hy0 := Lib.hid hy0; have Hy1 := Lib.hid hy1; have Hxy := Lib.hid hxy; have Ho0 := Lib.hid ho0; have Ho1 := Lib.hid ho1; have Hput := Lib.hid hput; have HI := Lib.hid hI; have HR := Lib.hid hR; have HB := Lib.hid hB; have Hatk := Lib.hid hatk; have Hdks := Lib.hid hdks; have Hds := Lib.hid hds; have Hkp := Lib.hid hkp; have He := Lib.hid he; have Hsk := Lib.hid hsk; clear hc hx hy hx0 hx1 hy0 hy1 hxy ho0 ho1 hput hI hR hB hatk hdks hds hkp he hsk
                go_wp2_with fail
                go_quiet (fail)
                go_wp2_with fail
                go_roundw
                case rel => exact ⟨kk, k2 + 1, dk, rfl, by go_num, by omega, by omega, Hsk.out, HR.out, fun w0 hb hB => ⟨bel_drewN (HB.out w0 hb hB).1 _, (HB.out w0 hb hB).2⟩⟩
                case measure => simp [intOf]; omega
              | false =>
                have hne : ¬ x = y := fun e => by
                  obtain ⟨e1, e2⟩ := hxy.1 e
                  simp [e1, e2] at hc
                have hsk := hI.keep hms (keeps_pos (by rw [show k + k2 - 1 = k + kp by omega, ← hx, ← hy]; exact hne))
                rw [← hx] at hsk
                rw [Bool.not_false] at hE
                have Hc := Lib.hid hc; have Hx := Lib.hid hx; have Hy := Lib.hid hy; have Hx0 := Lib.hid hx0; have Hx1 := Lib.hid hx1; have Hy0 := Lib.hid hy0; have Hy1 := Lib.hid hy1; have Hxy := Lib.hid hxy; have Ho0 := Lib.hid ho0; have Ho1 := Lib.hid ho1; have Hput := Lib.hid hput; have HI := Lib.hid hI; have HR := Lib.hid hR; have HB := Lib.hid hB; have Hatk := Lib.hid hatk; have Hdks := Lib.hid hdks; have Hds := Lib.hid hds; have Hkp := Lib.hid hkp; have Hne := Lib.hid hne; have Hsk := Lib.hid hsk; clear hc hx hy hx0 hx1 hy0 hy1 hxy ho0 ho1 hput hI hR hB hatk hdks hds hkp hne hsk
                go_wp2_with fail
                go_quiet (fail)
                go_wp2_with fail
                refine ⟨⟨kk + 1, k2 + 1, dk.setIfInBounds kk x, by go_num, by go_num, by omega, by omega, Hsk.out, (Hput.out nq).1, fun w0 hb hBs => (Hput.out nq).2 w0 (bel_drewN (HB.out w0 hb hBs).1 _) (HB.out w0 hb hBs).2⟩, ?_⟩
                simp [intOf]
                omega
            · obtain rfl : k2 = m := by omega
              have hlen := hI.len
              have hI2 := hI
              rw [hkm] at hI2
              have hcl := fun ty => clear_sets (W := wr) (g := g) (o := kk * 2) (m := n - kk) (c := cap - kk) ty (by omega) (fun j hj => by
                obtain ⟨a0, _, a1, _⟩ := hatk (kk + j / 2) (by omega)
                have : j % 2 = 0 ∨ j % 2 = 1 := by omega
                rcases this with e | e
                · rw [show kk * 2 + j = (kk + j / 2) * 2 by omega, a0]; rfl
                · rw [show kk * 2 + j = (kk + j / 2) * 2 + 1 by omega, a1]; rfl) (fun j hj => hR.frozenAt _)
              obtain ⟨Z, hZ⟩ : ∃ Z, Z = (Builtin.zeroCells #[.string ⟨#[]⟩, .string ⟨#[]⟩] (n - kk)).toList := ⟨_, rfl⟩
              rw [← hZ] at hcl
              have hfin : CompPost B g cap w (compactUpTo d n) (.returned (.slice (some ⟨g, 0, none⟩) kk cap)) (wr.setCells g (kk * 2) Z) := by
                have hl : (compactUpTo d n).length = kk := by rw [← hkm]; exact hlen
                have htk : compactUpTo d n = dk.toList.take kk := by
                  apply List.ext_getElem?
                  intro j
                  by_cases hj : j < kk
                  · have hlow := hI.low j hj
                    rw [hkm] at hlow
                    rw [hlow, List.getElem?_take, if_pos hj, Array.getElem?_toList, getElem!_pos dk j (by omega), Array.getElem?_eq_getElem]
                  · rw [List.getElem?_eq_none (by omega), List.getElem?_eq_none (by simp; omega)]
                have ht := owns_take setCells_two hR (by simpa using hdks) kk (by omega)
                have hs : ∀ w0, Below B w0 w → B ≤ w.heap.size → Below B w0 (wr.setCells g (kk * 2) Z) := fun w0 hb hBs =>
                  (owns_setCells Z (kk * 2) wr ht (by rw [ht.1]; exact Nat.le_refl _) (hB w0 hb hBs).2).2 w0 (hB w0 hb hBs).1
                refine ⟨by rw [hl], ?_, hs⟩
                rw [hl, htk]
                have hbs : B ≤ wr.heap.size := by have := (hR.lt g rfl); omega
                exact (owns_setCells Z (kk * 2) wr ht (by rw [ht.1]; exact Nat.le_refl _) hbs).1
              have u3 : (kk : Int) ≤ (n : Int) := by omega
              have u4 : kk ≤ n := by omega
              have u5 : (kk : Int) ≤ (cap : Int) := by omega
              have Hfin := Lib.hid hfin; have HZ := Lib.hid hZ; have HI := Lib.hid hI; have HI2 := Lib.hid hI2; have HR := Lib.hid hR; have HB := Lib.hid hB; have Hatk := Lib.hid hatk; have Hdks := Lib.hid hdks; have Hds := Lib.hid hds; have Hlen := Lib.hid hlen; clear hfin hZ hI hI2 hR hB hatk hdks hds hlen
              go_wp2_with fail
              go_ret
              exact Hfin.out
      · obtain rfl : k = n := by omega
        have hs := Hsame.out q hall _ rfl
        have Hall := Lib.hid hall; have Hs := Lib.hid hs; clear hall hs
        go_wp2_with fail
        go_ret
        exact Hs.out
end Go.Proofs.Ytnelgellbabkoaa

/- Plain facts: slices.Compact, as the kit tells it and as the law wants it. -/
namespace Go.Proofs.Ytnelgellbabkoaa.BothP
open Go.Lib

/-- what is not the same as the one ahead of it -/
def keepL : Option S → List S → List S
  | _, [] => []
  | p, x :: l => if p = some x then keepL (some x) l else x :: keepL (some x) l
theorem keepL_snoc (x : S) : ∀ (l : List S) (p : Option S), keepL p (l ++ [x]) = keepL p l ++ (if (l.getLast?.or p) = some x then [] else [x])
  | [], p => by by_cases h : p = some x <;> simp [keepL, h]
  | y :: l, p => by
    have ih := keepL_snoc x l (some y)
    have e : ((y :: l).getLast?.or p) = (l.getLast?.or (some y)) := by
      cases l with
      | nil => simp
      | cons z l =>
        rw [List.getLast?_cons_cons]
        cases h : (z :: l).getLast? with
        | none => simp at h
        | some _ => rfl
    rw [e]
    simp only [List.cons_append, keepL]
    split <;> rw [ih] <;> simp
theorem cmpct_keep : ∀ (x : S) (l : List S), cmpct (x :: l) = x :: keepL (some x) l
  | x, [] => rfl
  | x, y :: l => by
    have ih := cmpct_keep y l
    unfold cmpct keepL
    by_cases h : x = y
    · subst h
      rw [if_pos rfl, if_pos rfl]; exact ih
    · rw [if_neg h, if_neg (by simpa using h), ih]
theorem compactUpTo_keep (l : List S) : ∀ m, m ≤ l.length → compactUpTo l.toArray m = keepL none (l.take m)
  | 0, _ => by simp [compactUpTo, keepL]
  | m + 1, h => by
    have hm : m < l.length := by omega
    rw [compactUpTo_succ, compactUpTo_keep l m (by omega), List.take_succ_eq_append_getElem hm, keepL_snoc]
    congr 1
    have e1 : l.toArray[m]! = l[m] := by rw [getElem!_pos _ m (by simpa using hm)]; rfl
    rw [e1]
    match m, hm with
    | 0, hm => simp [keeps]
    | k + 1, hm =>
      have e2 : l.toArray[k + 1 - 1]! = l[k] := by rw [Nat.add_sub_cancel, getElem!_pos _ k (by simp; omega)]; rfl
      have e3 : (l.take (k + 1)).getLast? = some l[k] := by
        rw [List.take_succ_eq_append_getElem (by omega)]; exact List.getLast?_concat
      rw [e3]
      unfold keeps
      rw [e1, e2]
      by_cases hx : l[k + 1] = l[k]
      · simp [hx]
      · have hx' : ¬ l[k] = l[k + 1] := fun e => hx e.symm
        simp [hx, hx']
theorem compact_is (l : List S) : compactUpTo l.toArray l.length = cmpct l := by
  rw [compactUpTo_keep l _ (Nat.le_refl _), List.take_length]
  match l with
  | [] => rfl
  | x :: l => rw [cmpct_keep]; simp [keepL]
end Go.Proofs.Ytnelgellbabkoaa.BothP

/- The walk of variant.Both: what it returns. Condition: at most a thousand settings each. -/
namespace Go.Proofs.Ytnelgellbabkoaa
open Go.Shelf Go.RowKit Go.Lib Go.Sort SortM BothP
attribute [local go_sem ↓] Go.wp_at_zero Go.wp_at_succ

/-- two wishes are met together -/
def bothIs (a b : List Setg) : Bool := wishIs a && (wishIs b && wishIs (bothOf a b))
def BothPost (w : World) (a b : List Setg) (e : Ending) (w' : World) : Prop := Below w.heap.size w w' ∧ ((bothIs a b = true ∧ ∃ o, e = .returned (.tuple #[o, .bool true]) ∧ RSets w' [o] (bothOf a b)) ∨ (bothIs a b = false ∧ e = .returned (.tuple #[.slice none 0 0, .bool false])))
set_option maxRecDepth 10000 in
set_option maxHeartbeats 1000000 in
theorem insertion_nil (cv : Value) (w : World) : Calls Try.prog 144 #[.slice none 0 0, .int .i64 0, .int .i64 0, cv] w fun e w' => e = .returned (.tuple #[]) ∧ w = w' := by
  go_enter Try.func144, Try.ntmps144
  go_wp2_with fail
  refine wp_loop_rounds 1 ?_
  rw [rounds_succ]
  go_wp2_with fail
  go_end0
  exact ⟨rfl, rfl⟩
set_option maxRecDepth 10000 in
set_option maxHeartbeats 1000000 in
theorem stable_nil (cv : Value) (w : World) : Calls Try.prog 122 #[.slice none 0 0, .int .i64 0, cv] w fun e w' => e = .returned (.tuple #[]) ∧ w = w' := by
  have h := insertion_nil cv
  have Hh := Lib.hid h; clear h
  go_enter Try.func122, Try.ntmps122
  go_wp2_with fail
  refine wp_loop_rounds 1 ?_
  rw [rounds_succ]
  go_wp2_with fail
  refine (Hh.out _).mono ?_
  rintro e w2 ⟨rfl, rfl⟩
  go_wp2_with fail
  refine wp_loop_rounds 1 ?_
  rw [rounds_succ]
  go_wp2_with fail
  go_end0
  exact ⟨rfl, rfl⟩
set_option maxRecDepth 10000 in
theorem sortStable_nil (cv : Value) (w : World) : Calls Try.prog 95 #[.slice none 0 0, cv] w fun e w' => e = .returned (.tuple #[]) ∧ w = w' := by
  have h := stable_nil cv
  have Hh := Lib.hid h; clear h
  go_enter Try.func95, Try.ntmps95
  go_wp2_with fail
  refine (Hh.out _).mono ?_
  rintro e w2 ⟨rfl, rfl⟩
  go_wp2_with fail
  go_end0
  exact ⟨rfl, rfl⟩
set_option maxRecDepth 10000 in
theorem compact_nil (w : World) : Calls Try.prog 97 #[.slice none 0 0] w fun e w' => e = .returned (.slice none 0 0) ∧ w = w' := by
  go_enter Try.func97, Try.ntmps97
  go_wp2_with fail
  go_ret
  exact ⟨rfl, rfl⟩
/-- SortStableFunc by the names, of a row that a call owns -/
def SortedPost (B : Nat) (v : Value) (n : Nat) (l : List Setg) (w : World) (e : Ending) (w' : World) : Prop := e = .returned (.tuple #[]) ∧ w'.ownsRow B 38 2 v n (l.flatMap setCells) ∧ ∀ w0, Below B w0 w → B ≤ w.heap.size → Below B w0 w' ∧ B ≤ w'.heap.size
theorem sortOwned_any {w : World} {B : Nat} {v : Value} {n : Nat} {l : List Setg} (h : w.ownsRow B 38 2 v n (l.flatMap setCells)) (hn : l.length = n) (hb : n ≤ 1000000) :
    Calls Try.prog 95 #[v, .func (.func 96) #[] #[]] w (SortedPost B v n (ssort ltN l) w) := by
  rcases h.2 with ⟨rfl, rfl⟩ | ⟨g, cap, cur, rfl, hbg, hg, hnc, _, _, _⟩
  · obtain rfl : l = [] := List.eq_nil_of_length_eq_zero hn
    refine (sortStable_nil _ w).mono ?_
    rintro e w' ⟨rfl, rfl⟩
    exact ⟨rfl, World.ownsRow_nil _ _ _ _, fun w0 hb hB => ⟨hb, hB⟩⟩
  · have R := rowK_of_owns (enc := setCells) setCells_two (fun x v hv => by
      have := sets_one [x] v (by simpa using hv)
      exact this) (by decide) h hn
    have R' : RowK sEnc 2 w g 0 l.toArray := R
    have hs : l.toArray.size = n := by simpa using hn
    have hc := sortNames_any R' cap (by rw [hs]; exact hb)
    rw [hs] at hc
    refine hc.mono ?_
    rintro e w' ⟨rfl, d, S, hd⟩
    have hds : d.size = n := by rw [← Array.length_toList, hd, ssort_len ltN_swo, ← hn]
    have ho := owns_of_swk (enc := setCells) setCells_two (by decide) h S hds
    rw [hd] at ho
    refine ⟨rfl, ho.1, fun w0 hb hB => ⟨ho.2 w0 hb hB, Nat.le_trans hB S.le⟩⟩
/-- Compact of a row that a call owns -/
def CompactedPost (B : Nat) (l : List Setg) (w : World) (e : Ending) (w' : World) : Prop := ∃ o, e = .returned o ∧ w'.ownsRow B 38 2 o l.length (l.flatMap setCells) ∧ ∀ w0, Below B w0 w → B ≤ w.heap.size → Below B w0 w'
theorem compactOwned_any {w : World} {B : Nat} {v : Value} {n : Nat} {l : List Setg} (h : w.ownsRow B 38 2 v n (l.flatMap setCells)) (hn : l.length = n) (hb : n ≤ 1000000) :
    Calls Try.prog 97 #[v] w (CompactedPost B (cmpct l) w) := by
  rcases h.2 with ⟨rfl, rfl⟩ | ⟨g, cap, cur, rfl, hbg, hg, hnc, _, _, _⟩
  · obtain rfl : l = [] := List.eq_nil_of_length_eq_zero hn
    refine (compact_nil w).mono ?_
    rintro e w' ⟨rfl, rfl⟩
    exact ⟨_, rfl, World.ownsRow_nil _ _ _ _, fun w0 hb hB => hb⟩
  · have hc := compactSet_any h hn hb
    subst hn
    rw [compact_is] at hc
    refine hc.mono ?_
    rintro e w' ⟨rfl, h1, h2⟩
    exact ⟨_, rfl, h1, h2⟩
theorem sets_size {w : World} {v : Value} {l : List Setg} (h : RSets w [v] l) : ∀ x ∈ l, x.1.size ≤ maxLen ∧ x.2.size ≤ maxLen := by
  obtain ⟨a, cap, _, _, g⟩ := sets_open h
  intro x hx
  obtain ⟨i, hi, rfl⟩ := List.getElem_of_mem hx
  obtain ⟨b, off, _, _, _, h1, h2⟩ := g i _ (List.getElem?_eq_getElem hi)
  exact ⟨h1, h2⟩
set_option maxRecDepth 10000 in
set_option maxHeartbeats 2000000 in
theorem both_any {w : World} {u v : Value} {a b : List Setg} (ha : RSets w [u] a) (hb : RSets w [v] b) (hla : a.length ≤ 1000) (hlb : b.length ≤ 1000) :
    Calls Try.prog 47 #[u, v] w (BothPost w a b) := by
  obtain ⟨au, cu, rfl⟩ := sets_shape ha
  obtain ⟨av, cv, rfl⟩ := sets_shape hb
  obtain ⟨na, hna⟩ : ∃ n, n = a.length := ⟨_, rfl⟩
  obtain ⟨nc, hnc⟩ : ∃ n, n = b.length := ⟨_, rfl⟩
  rw [← hna] at ha ⊢
  rw [← hnc] at hb ⊢
  obtain ⟨u, hu⟩ : ∃ u, u = Value.slice au na cu := ⟨_, rfl⟩
  obtain ⟨v, hv⟩ : ∃ u, u = Value.slice av nc cv := ⟨_, rfl⟩
  rw [← hu] at ha
  rw [← hv] at hb
  have hA := fun W (hbw : Below w.heap.size w W) => wish04_any (stays_slice stays_set _ _ _ _ ha hbw)
  have hB := fun W (hbw : Below w.heap.size w W) => wish04_any (stays_slice stays_set _ _ _ _ hb hbw)
  have hC := fun (W : World) (g : Nat) (hbw : Below w.heap.size w W) (hg : W.heap[g]? = some (Obj.cells #[u, v] 36 (0, 0))) => concSet_any hg (stays_slice stays_set _ _ _ _ ha hbw) (stays_slice stays_set _ _ _ _ hb hbw) (by omega) (by omega)
  have hsz : ∀ x ∈ bothOf a b, x.1.size ≤ maxLen ∧ x.2.size ≤ maxLen := fun x hx => by
    rcases (mem_both x).1 hx with h | h
    · exact sets_size ha x h
    · exact sets_size hb x h
  have hlen : (a ++ b).length ≤ 2000 := by rw [List.length_append]; omega
  obtain ⟨wa, hwa⟩ : ∃ c, c = wishIs a := ⟨_, rfl⟩
  obtain ⟨wb, hwb⟩ : ∃ c, c = wishIs b := ⟨_, rfl⟩
  obtain ⟨wc, hwc⟩ : ∃ c, c = wishIs (bothOf a b) := ⟨_, rfl⟩
  have hbi : bothIs a b = (wa && (wb && wc)) := by rw [hwa, hwb, hwc]; rfl
  rw [← hwa] at hA
  rw [← hwb] at hB
  rw [hu] at hA
  rw [hv] at hB
  rw [hu, hv] at hC
  rw [hu] at ha
  rw [hv] at hb
  clear hla hlb hu hv u v
  cases wa with
  | false =>
    have Ha := Lib.hid ha; have Hb := Lib.hid hb; have HA := Lib.hid hA; have HB := Lib.hid hB; have HC := Lib.hid hC; have Hsz := Lib.hid hsz; have Hlen := Lib.hid hlen; have Hwa := Lib.hid hwa; have Hwb := Lib.hid hwb; have Hwc := Lib.hid hwc; have Hbi := Lib.hid hbi; have Hna := Lib.hid hna; have Hnc := Lib.hid hnc; clear ha hb hA hB hC hsz hlen hwa hwb hwc hbi hna hnc
    go_enter Try.func47, Try.ntmps47
    go_wp2_with fail
    refine (HA.out _ (Below.refl _ _)).mono ?_
    rintro e w1 ⟨rfl, hb1⟩
    have Hb1 := Lib.hid hb1; clear hb1
    go_wp2_with fail
    go_ret2
    exact ⟨Hb1.out, .inr ⟨by rw [Hbi.out]; rfl, rfl⟩⟩
  | true =>
    cases wb with
    | false =>
      have Ha := Lib.hid ha; have Hb := Lib.hid hb; have HA := Lib.hid hA; have HB := Lib.hid hB; have HC := Lib.hid hC; have Hsz := Lib.hid hsz; have Hlen := Lib.hid hlen; have Hwa := Lib.hid hwa; have Hwb := Lib.hid hwb; have Hwc := Lib.hid hwc; have Hbi := Lib.hid hbi; have Hna := Lib.hid hna; have Hnc := Lib.hid hnc; clear ha hb hA hB hC hsz hlen hwa hwb hwc hbi hna hnc
      go_enter Try.func47, Try.ntmps47
      go_wp2_with fail
      refine (HA.out _ (Below.refl _ _)).mono ?_
      rintro e w1 ⟨rfl, hb1⟩
      have Hb1 := Lib.hid hb1; clear hb1
      go_wp2_with fail
      refine (HB.out _ Hb1.out).mono ?_
      rintro e w2 ⟨rfl, hb2⟩
      have hb3 := Hb1.out.trans (hb2.mono Hb1.out.size)
      have Hb2 := Lib.hid hb2; have Hb3 := Lib.hid hb3; clear hb2 hb3
      go_wp2_with fail
      go_ret2
      exact ⟨Hb3.out, .inr ⟨by rw [Hbi.out]; rfl, rfl⟩⟩
    | true =>
      have Ha := Lib.hid ha; have Hb := Lib.hid hb; have HA := Lib.hid hA; have HB := Lib.hid hB; have HC := Lib.hid hC; have Hsz := Lib.hid hsz; have Hlen := Lib.hid hlen; have Hwa := Lib.hid hwa; have Hwb := Lib.hid hwb; have Hwc := Lib.hid hwc; have Hbi := Lib.hid hbi; have Hna := Lib.hid hna; have Hnc := Lib.hid hnc; clear ha hb hA hB hC hsz hlen hwa hwb hwc hbi hna hnc
      go_enter Try.func47, Try.ntmps47
      go_wp2_with fail
      refine (HA.out _ (Below.refl _ _)).mono ?_
      rintro e w1 ⟨rfl, hb1⟩
      have Hb1 := Lib.hid hb1; clear hb1
      go_wp2_with fail
      refine (HB.out _ Hb1.out).mono ?_
      rintro e w2 ⟨rfl, hb2⟩
      have hb3 := Hb1.out.trans (hb2.mono Hb1.out.size)
      have Hb2 := Lib.hid hb2; have Hb3 := Lib.hid hb3; clear hb2 hb3
      obtain ⟨nb, hnb⟩ : ∃ nb, nb = w2.heap.size := ⟨_, rfl⟩
      obtain ⟨W0, hW0⟩ : ∃ W0, W0 = w2.alloc (.cells #[.slice au na cu, .slice av nc cv] 36) := ⟨_, rfl⟩
      have hbW : Below w.heap.size w W0 := by rw [hW0]; exact Hb3.out.trans ((below_alloc1 _ _).mono Hb3.out.size)
      have hcon := HC.out W0 nb hbW (by rw [hW0, hnb]; exact heap_alloc_new _ _)
      have HbW := Lib.hid hbW; have Hcon := Lib.hid hcon; clear hbW hcon
      go_upto_region 3 with fail
      go_wp2_with fail
      rw [← hW0, ← hnb]
      refine Hcon.out.mono ?_
      rintro e w3 ⟨o, rfl, ho, hb4⟩
      have hb5 := HbW.out.trans (hb4.mono HbW.out.size)
      obtain ⟨NL, hNL⟩ : ∃ n, n = (a ++ b).length := ⟨_, rfl⟩
      rw [← hNL] at ho
      have hNLb : NL ≤ 1000000 := by have := Hlen.out; omega
      obtain ⟨oa, oc, rfl⟩ := own_shape ho
      have hso := sortOwned_any ho hNL.symm hNLb
      have Hso := Lib.hid hso; have Hb4 := Lib.hid hb4; have Hb5 := Lib.hid hb5; have Ho := Lib.hid ho; have HW0 := Lib.hid hW0; have Hnb := Lib.hid hnb; have HNL := Lib.hid hNL; have HNLb := Lib.hid hNLb; clear hso hb4 hb5 ho hW0 hnb hNL hNLb
      go_wp2_with fail
      refine Hso.out.mono ?_
      rintro e w4 ⟨rfl, ho2, hb6⟩
      have hb7 := hb6 W0 Hb4.out Hb4.out.size
      have hco := compactOwned_any ho2 (by rw [ssort_len ltN_swo]; exact HNL.out.symm) HNLb.out
      have Ho2 := Lib.hid ho2; have Hb6 := Lib.hid hb6; have Hb7 := Lib.hid hb7; have Hco := Lib.hid hco; clear ho2 hb6 hb7 hco
      go_wp2_with fail
      refine Hco.out.mono ?_
      rintro e w5 ⟨o3, rfl, ho3, hb8⟩
      have hb9 := hb8 W0 Hb7.out.1 Hb7.out.2
      have hbA := HbW.out.trans (hb9.mono HbW.out.size)
      have hrd : RSets w5 [o3] (bothOf a b) := sets_reads Hsz.out ho3
      have hw3 := wish04_any hrd
      rw [show cmpct (ssort ltN (a ++ b)) = bothOf a b from rfl] at ho3
      obtain ⟨pa, pc, rfl⟩ := own_shape ho3
      rw [← Hwc.out] at hw3
      obtain ⟨N3, hN3⟩ : ∃ n, n = (bothOf a b).length := ⟨_, rfl⟩
      rw [← hN3] at hw3 hrd ⊢
      cases wc with
      | true =>
        have Hb8 := Lib.hid hb8; have Hb9 := Lib.hid hb9; have HbA := Lib.hid hbA; have Hrd := Lib.hid hrd; have Hw3 := Lib.hid hw3; have Ho3 := Lib.hid ho3; have HN3 := Lib.hid hN3; clear hb8 hb9 hbA hrd hw3 ho3 hN3
        go_wp2_with fail
        refine Hw3.out.mono ?_
        rintro e w6 ⟨rfl, hbB⟩
        have hbC := HbA.out.trans (hbB.mono HbA.out.size)
        have hrd2 := stays_slice stays_set _ _ _ _ Hrd.out hbB
        have HbB := Lib.hid hbB; have HbC := Lib.hid hbC; have Hrd2 := Lib.hid hrd2; clear hbB hbC hrd2
        go_wp2_with fail
        go_ret2
        exact ⟨HbC.out, .inl ⟨by rw [Hbi.out]; rfl, _, rfl, Hrd2.out⟩⟩
      | false =>
        have Hb8 := Lib.hid hb8; have Hb9 := Lib.hid hb9; have HbA := Lib.hid hbA; have Hrd := Lib.hid hrd; have Hw3 := Lib.hid hw3; have Ho3 := Lib.hid ho3; have HN3 := Lib.hid hN3; clear hb8 hb9 hbA hrd hw3 ho3 hN3
        go_wp2_with fail
        refine Hw3.out.mono ?_
        rintro e w6 ⟨rfl, hbB⟩
        have hbC := HbA.out.trans (hbB.mono HbA.out.size)
        have HbB := Lib.hid hbB; have HbC := Lib.hid hbC; clear hbB hbC
        go_wp2_with fail
        go_ret2
        exact ⟨HbC.out, .inr ⟨by rw [Hbi.out]; rfl, rfl⟩⟩
end Go.Proofs.Ytnelgellbabkoaa

/- Plain facts for the law VariantBoth. -/
namespace Go.Proofs.Ytnelgellbabkoaa
open Go.RowKit Go.Shelf VarM SortM BothP

theorem isSet_eq (x z : Setg) : isSet x z = true ↔ x = z := by
  unfold isSet
  simp only [Bool.and_eq_true, decide_eq_true_eq]
  exact Prod.ext_iff.symm
theorem meets_iff {s w : List Setg} : meetsOf s w = true ↔ ∀ x ∈ w, x ∈ s := by
  unfold meetsOf
  simp only [List.all_eq_true, List.any_eq_true, isSet_eq]
  exact ⟨fun h x hx => by obtain ⟨y, hy, e⟩ := h x hx; exact e ▸ hy, fun h x hx => ⟨x, h x hx, rfl⟩⟩
theorem meets_both (s a b : List Setg) : meetsOf s (bothOf a b) = (meetsOf s a && meetsOf s b) := by
  refine Bool.eq_iff_iff.2 ?_
  rw [Bool.and_eq_true, meets_iff, meets_iff, meets_iff]
  exact ⟨fun h => ⟨fun x hx => h x ((mem_both x).2 (.inl hx)), fun x hx => h x ((mem_both x).2 (.inr hx))⟩, fun h x hx => by
    rcases (mem_both x).1 hx with hx | hx
    · exact h.1 x hx
    · exact h.2 x hx⟩
def partOk (x : Setg) : Bool := nameOf x.1.data.toList && valueOf x.2.data.toList
theorem wish_at {l : List Setg} (h : wishIs l = true) (i : Nat) (hi : i < l.length) : partOk l[i] = true ∧ (0 < i → ltN (l[i - 1]'(by omega)) l[i] = true) := by
  unfold wishIs at h
  rw [List.all_eq_true] at h
  have h1 := h i (List.mem_range.2 hi)
  rw [wishAt_eq hi, Bool.and_eq_true] at h1
  refine ⟨h1.1, fun h0 => ?_⟩
  have h2 := h1.2
  rw [decide_eq_false (by omega), Bool.false_or] at h2
  have e : l.getD (i - 1) (⟨#[]⟩, ⟨#[]⟩) = l[i - 1]'(by omega) := by
    rw [List.getD_eq_getElem?_getD, List.getElem?_eq_getElem (by omega)]; rfl
  rw [e] at h2
  exact h2
theorem wish_mem {l : List Setg} (h : wishIs l = true) : ∀ x ∈ l, partOk x = true := fun x hx => by
  obtain ⟨i, hi, rfl⟩ := List.getElem_of_mem hx
  exact (wish_at h i hi).1
theorem wish_str {l : List Setg} (h : wishIs l = true) : Str l := by
  refine List.pairwise_iff_getElem.2 fun i j hi hj hij => ?_
  have key : ∀ d, (hd : i + d + 1 < l.length) → ltN l[i] l[i + d + 1] = true := by
    intro d
    induction d with
    | zero => intro hd; exact (wish_at h (i + 1) hd).2 (by omega)
    | succ d ih =>
      intro hd
      exact ltN_trans (ih (by omega)) ((wish_at h (i + (d + 1) + 1) hd).2 (by omega))
  obtain ⟨d, rfl⟩ : ∃ d, j = i + d + 1 := ⟨j - i - 1, by omega⟩
  exact key d hj
theorem wish_of {l : List Setg} (h : Str l) (hp : ∀ x ∈ l, partOk x = true) : wishIs l = true := by
  refine wishIs_yes fun i hi => ?_
  rw [wishAt_eq hi]
  have h1 := hp l[i] (List.getElem_mem hi)
  unfold partOk at h1
  rw [h1, Bool.true_and]
  by_cases h0 : i = 0
  · rw [decide_eq_true h0]; rfl
  · rw [decide_eq_false h0, Bool.false_or]
    have e : l.getD (i - 1) (⟨#[]⟩, ⟨#[]⟩) = l[i - 1]'(by omega) := by
      rw [List.getD_eq_getElem?_getD, List.getElem?_eq_getElem (by omega)]; rfl
    rw [e]
    exact List.pairwise_iff_getElem.1 h (i - 1) i (by omega) hi (by omega)
theorem both_wish {a b : List Setg} (ha : wishIs a = true) (hb : wishIs b = true) : wishIs (bothOf a b) = !twoOf a b := by
  cases h : twoOf a b
  · exact wish_of (both_str (wish_str ha) (wish_str hb) h) fun x hx => by
      rcases (mem_both x).1 hx with hx | hx
      · exact wish_mem ha x hx
      · exact wish_mem hb x hx
  · cases e : wishIs (bothOf a b)
    · rfl
    · exact absurd (wish_str e) (both_not h)
theorem both_is {a b : List Setg} (ha : wishIs a = true) (hb : wishIs b = true) : bothIs a b = !twoOf a b := by
  unfold bothIs
  rw [ha, hb, both_wish ha hb]
  rfl
theorem two_none {a b : List Setg} {l : List Var} {s : List Setg} (h : twoOf a b = true) (hm : mayOf l = true) (hn : NamesIs l s) (h1 : meetsOf s a = true) (h2 : meetsOf s b = true) : False := by
  obtain ⟨x, hx, y, hy, e1, e2⟩ := two_true.1 h
  obtain ⟨i, hi, hxi⟩ := List.getElem_of_mem (meets_iff.1 h1 x hx)
  obtain ⟨j, hj, hyj⟩ := List.getElem_of_mem (meets_iff.1 h2 y hy)
  unfold mayOf at hm
  simp only [Bool.and_eq_true, decide_eq_true_eq] at hm
  have hnd := hm.2.2
  have hij : i ≠ j := fun e => by
    subst e
    rw [hxi] at hyj
    exact e2 (by rw [hyj])
  have hil : i < l.length := by rw [hn.1]; exact hi
  have hjl : j < l.length := by rw [hn.1]; exact hj
  have g1 := hn.2 i _ _ (List.getElem?_eq_getElem hil) (List.getElem?_eq_getElem hi)
  have g2 := hn.2 j _ _ (List.getElem?_eq_getElem hjl) (List.getElem?_eq_getElem hj)
  rw [hxi] at g1
  rw [hyj] at g2
  have g3 : l[i].1 = l[j].1 := by rw [g1, g2, e1]
  have hd := List.pairwise_iff_getElem.1 hnd
  rcases Nat.lt_or_gt_of_ne hij with h | h
  · exact hd i j (by simpa using hil) (by simpa using hjl) h (by simpa using g3)
  · exact hd j i (by simpa using hjl) (by simpa using hil) h (by simpa using g3.symm)
end Go.Proofs.Ytnelgellbabkoaa

/- The walk of the law VariantBoth: it returns true. Printed by gen_bothlaw.py. -/
namespace Go.Proofs.Ytnelgellbabkoaa
open Go.RowKit Go.Shelf VarM BothP
attribute [local go_sem ↓] Go.wp_at_zero Go.wp_at_succ

theorem calls_bel {P : Program} {f : FuncId} {args : Array Value} {W : World} {v : Ending} (h : Calls P f args W fun e w' => e = v ∧ ∃ q, w' = W.drewN q) : Calls P f args W fun e w' => e = v ∧ Below W.heap.size W w' :=
  h.mono fun _ _ ⟨he, q, hq⟩ => ⟨he, by rw [hq]; exact bel_drewN (Below.refl _ _) q⟩
def Pt (x y : Setg) : Bool := decide (x.1 = y.1) && !decide (x.2 = y.2)
theorem two_any (a b : List Setg) : twoOf a b = a.any fun x => b.any (Pt x) := rfl
theorem anyP_succ {α : Type} (p : α → Bool) {l : List α} {k : Nat} (h : k < l.length) : (l.take (k + 1)).any p = ((l.take k).any p || p l[k]) := by
  rw [List.take_succ_eq_append_getElem h, List.any_append]; simp
def LawPost (w : World) (e : Ending) (w' : World) : Prop := e = .returned (.bool true) ∧ Below w.heap.size w w'
set_option maxRecDepth 10000 in
set_option maxHeartbeats 8000000 in
theorem variantBoth_true {w : World} {u v t m : Value} {a b s : List Setg} {l : List Var} (ha : RSets w [u] a) (hb : RSets w [v] b) (hs : RSets w [t] s) (hl : RVars w [m] l) :
    Calls Try.prog 12 #[u, v, t, m] w (LawPost w) := by
  have St := fun (W : World) (hw : Below w.heap.size w W) => (⟨stays_slice stays_set _ _ _ _ ha hw, stays_slice stays_set _ _ _ _ hb hw, stays_slice stays_set _ _ _ _ hs hw⟩ : RSets W [u] a ∧ RSets W [v] b ∧ RSets W [t] s)
  have StV := fun (W : World) (hw : Below w.heap.size w W) => stays_slice stays_var _ _ _ _ hl hw
  have hF := fun W (_ : Below w.heap.size w W) => fixed04 W
  have hGa := fun W (hw : Below w.heap.size w W) => greatSets_any (St W hw).1
  have hGb := fun W (hw : Below w.heap.size w W) => greatSets_any (St W hw).2.1
  have hGs := fun W (hw : Below w.heap.size w W) => greatSets_any (St W hw).2.2
  have hGl := fun W (hw : Below w.heap.size w W) => greatVars_any (StV W hw)
  have hWa := fun W (hw : Below w.heap.size w W) => wish04_any (St W hw).1
  have hRa := fun W (hw : Below w.heap.size w W) => calls_bel (wishRef_is (St W hw).1)
  have hRb := fun W (hw : Below w.heap.size w W) => calls_bel (wishRef_is (St W hw).2.1)
  have hMa := fun W (hw : Below w.heap.size w W) => meetsRef_any (St W hw).2.2 (St W hw).1
  have hMb := fun W (hw : Below w.heap.size w W) => meetsRef_any (St W hw).2.2 (St W hw).2.1
  have hVa := fun W (hw : Below w.heap.size w W) => meets_any (St W hw).2.2 (St W hw).1
  have hMay := fun W (hw : Below w.heap.size w W) => calls_bel (mayRef_any (StV W hw))
  have hLeg := fun W (hw : Below w.heap.size w W) => legal_any (StV W hw) (St W hw).2.2
  obtain ⟨wa, hwa⟩ : ∃ c, c = wishIs a := ⟨_, rfl⟩
  obtain ⟨wb, hwb⟩ : ∃ c, c = wishIs b := ⟨_, rfl⟩
  obtain ⟨ma, hma⟩ : ∃ c, c = meetsOf s a := ⟨_, rfl⟩
  obtain ⟨mb, hmb⟩ : ∃ c, c = meetsOf s b := ⟨_, rfl⟩
  obtain ⟨my, hmy⟩ : ∃ c, c = mayOf l := ⟨_, rfl⟩
  rw [← hwa] at hWa hRa
  rw [← hwb] at hRb
  rw [← hma] at hMa hVa
  rw [← hmb] at hMb
  rw [← hmy] at hMay
  obtain ⟨au, cu, eu⟩ := sets_shape ha
  obtain ⟨av, cv, ev⟩ := sets_shape hb
  obtain ⟨at_, ct, et⟩ := sets_shape hs
  obtain ⟨na, hna⟩ : ∃ n, n = a.length := ⟨_, rfl⟩
  obtain ⟨nb, hnb⟩ : ∃ n, n = b.length := ⟨_, rfl⟩
  obtain ⟨ns, hns⟩ : ∃ n, n = s.length := ⟨_, rfl⟩
  rw [← hna] at eu
  rw [← hnb] at ev
  rw [← hns] at et
  subst eu ev et
  have gA : ∀ (i : Nat) (x : Setg), a[i]? = some x → ∃ b off, au = some ⟨b, off, none⟩ ∧ w.cell? ⟨b, off + i * 2, none⟩ = some (.string x.1) ∧ w.cell? ⟨b, off + i * 2 + 1, none⟩ = some (.string x.2) := fun i x hi => by
    obtain ⟨a', c', e, _, g⟩ := sets_open ha
    injection e with e1 _ _
    subst e1
    obtain ⟨b, off, h1, h2, h3, _⟩ := g i x hi
    exact ⟨b, off, h1, h2, h3⟩
  have gB : ∀ (i : Nat) (x : Setg), b[i]? = some x → ∃ b off, av = some ⟨b, off, none⟩ ∧ w.cell? ⟨b, off + i * 2, none⟩ = some (.string x.1) ∧ w.cell? ⟨b, off + i * 2 + 1, none⟩ = some (.string x.2) := fun i x hi => by
    obtain ⟨a', c', e, _, g⟩ := sets_open hb
    injection e with e1 _ _
    subst e1
    obtain ⟨b, off, h1, h2, h3, _⟩ := g i x hi
    exact ⟨b, off, h1, h2, h3⟩
  have hba := fun W (hw : Below w.heap.size w W) h1 h2 => both_any (St W hw).1 (St W hw).2.1 h1 h2
  have hbb := fun W (hw : Below w.heap.size w W) h1 h2 => both_any (St W hw).2.1 (St W hw).1 h1 h2
  have hw0 : Below w.heap.size w w := Below.refl _ _
  have Ha := Lib.hid ha; have Hb := Lib.hid hb; have Hs := Lib.hid hs; have Hl := Lib.hid hl; have HSt := Lib.hid St; have HStV := Lib.hid StV; have HF := Lib.hid hF; have HGa := Lib.hid hGa; have HGb := Lib.hid hGb; have HGs := Lib.hid hGs; have HGl := Lib.hid hGl; have HWa := Lib.hid hWa; have HRa := Lib.hid hRa; have HRb := Lib.hid hRb; have HMa := Lib.hid hMa; have HMb := Lib.hid hMb; have HVa := Lib.hid hVa; have HMay := Lib.hid hMay; have HLeg := Lib.hid hLeg; have Hwa := Lib.hid hwa; have Hwb := Lib.hid hwb; have Hma := Lib.hid hma; have Hmb := Lib.hid hmb; have Hmy := Lib.hid hmy; have Hna := Lib.hid hna; have Hnb := Lib.hid hnb; have Hns := Lib.hid hns; have HgA := Lib.hid gA; have HgB := Lib.hid gB; have Hba := Lib.hid hba; have Hbb := Lib.hid hbb; have Hw0 := Lib.hid hw0; clear ha hb hs hl St StV hF hGa hGb hGs hGl hWa hRa hRb hMa hMb hVa hMay hLeg hwa hwb hma hmb hmy hna hnb hns gA gB hba hbb hw0
  go_enter Try.func12, Try.ntmps12
  go_wp2_with fail
  refine (HGa.out _ Hw0.out).mono ?_
  rintro e w_ ⟨⟨r, rfl, hla⟩, rfl⟩
  cases r with
  | true =>
    have Hla := Lib.hid hla; clear hla
    go_wp2_with fail
    refine (HF.out _ Hw0.out).mono ?_
    rintro e w1 ⟨rfl, hxb1⟩
    have hb1 := Hw0.out.trans (hxb1.mono Hw0.out.size)
    have Hxb1 := Lib.hid hxb1; have Hb1 := Lib.hid hb1; clear hxb1 hb1
    go_wp2_with fail
    go_ret
    exact ⟨rfl, Hb1.out⟩
  | false =>
    have hla := hla rfl
    have Hla := Lib.hid hla; clear hla
    go_wp2_with fail
    refine (HGb.out _ Hw0.out).mono ?_
    rintro e w_ ⟨⟨r, rfl, hlb⟩, rfl⟩
    cases r with
    | true =>
      have Hlb := Lib.hid hlb; clear hlb
      go_wp2_with fail
      refine (HF.out _ Hw0.out).mono ?_
      rintro e w2 ⟨rfl, hxb2⟩
      have hb2 := Hw0.out.trans (hxb2.mono Hw0.out.size)
      have Hxb2 := Lib.hid hxb2; have Hb2 := Lib.hid hb2; clear hxb2 hb2
      go_wp2_with fail
      go_ret
      exact ⟨rfl, Hb2.out⟩
    | false =>
      have hlb := hlb rfl
      have Hlb := Lib.hid hlb; clear hlb
      go_wp2_with fail
      refine (HGs.out _ Hw0.out).mono ?_
      rintro e w_ ⟨⟨r, rfl, hls⟩, rfl⟩
      cases r with
      | true =>
        have Hls := Lib.hid hls; clear hls
        go_wp2_with fail
        refine (HF.out _ Hw0.out).mono ?_
        rintro e w3 ⟨rfl, hxb3⟩
        have hb3 := Hw0.out.trans (hxb3.mono Hw0.out.size)
        have Hxb3 := Lib.hid hxb3; have Hb3 := Lib.hid hb3; clear hxb3 hb3
        go_wp2_with fail
        go_ret
        exact ⟨rfl, Hb3.out⟩
      | false =>
        have hls := hls rfl
        have Hls := Lib.hid hls; clear hls
        go_wp2_with fail
        refine (HGl.out _ Hw0.out).mono ?_
        rintro e w_ ⟨⟨r, rfl, hlv⟩, rfl⟩
        cases r with
        | true =>
          have Hlv := Lib.hid hlv; clear hlv
          go_wp2_with fail
          refine (HF.out _ Hw0.out).mono ?_
          rintro e w4 ⟨rfl, hxb4⟩
          have hb4 := Hw0.out.trans (hxb4.mono Hw0.out.size)
          have Hxb4 := Lib.hid hxb4; have Hb4 := Lib.hid hb4; clear hxb4 hb4
          go_wp2_with fail
          go_ret
          exact ⟨rfl, Hb4.out⟩
        | false =>
          have hlv := hlv rfl
          have Hlv := Lib.hid hlv; clear hlv
          go_wp2_with fail
          have qa : (wa == wa) = true := by simp
          have qa' : (wa != wa) = false := by simp
          have qm : (ma == ma) = true := by simp
          have qm' : (ma != ma) = false := by simp
          refine (HWa.out _ Hw0.out).mono ?_
          rintro e w5 ⟨rfl, hxb5⟩
          have hb5 := Hw0.out.trans (hxb5.mono Hw0.out.size)
          have Hxb5 := Lib.hid hxb5; have Hb5 := Lib.hid hb5; clear hxb5 hb5
          go_wp2_with fail
          refine (HRa.out _ Hb5.out).mono ?_
          rintro e w6 ⟨rfl, hxb6⟩
          have hb6 := Hb5.out.trans (hxb6.mono Hb5.out.size)
          have Hxb6 := Lib.hid hxb6; have Hb6 := Lib.hid hb6; clear hxb6 hb6
          go_wp2_with fail
          refine (HVa.out _ Hb6.out).mono ?_
          rintro e w7 ⟨rfl, hxb7⟩
          have hb7 := Hb6.out.trans (hxb7.mono Hb6.out.size)
          have Hxb7 := Lib.hid hxb7; have Hb7 := Lib.hid hb7; clear hxb7 hb7
          go_wp2_with fail
          refine (HMa.out _ Hb7.out).mono ?_
          rintro e w8 ⟨rfl, hxb8⟩
          have hb8 := Hb7.out.trans (hxb8.mono Hb7.out.size)
          have Hxb8 := Lib.hid hxb8; have Hb8 := Lib.hid hb8; clear hxb8 hb8
          go_wp2_with fail
          clear qa qa' qm qm'
          refine (Hba.out _ Hb8.out (by have := Hla.out; omega) (by have := Hlb.out; omega)).mono ?_
          rintro e w9 ⟨hxb9, hpb9⟩
          have hb9 := Hb8.out.trans (hxb9.mono Hb8.out.size)
          cases wa with
          | false =>
            have hz : e = .returned (.tuple #[.slice none 0 0, .bool false]) := by
              rcases hpb9 with ⟨h1, _⟩ | ⟨_, h2⟩
              · unfold bothIs at h1
                rw [← Hwa.out] at h1
                simp at h1
              · exact h2
            subst hz
            clear hpb9
            have Hxb9 := Lib.hid hxb9; have Hb9 := Lib.hid hb9; clear hxb9 hb9
            go_wp2_with fail
            refine (HRa.out _ Hb9.out).mono ?_
            rintro e w10 ⟨rfl, hxb10⟩
            have hb10 := Hb9.out.trans (hxb10.mono Hb9.out.size)
            have Hxb10 := Lib.hid hxb10; have Hb10 := Lib.hid hb10; clear hxb10 hb10
            go_wp2_with fail
            refine (HF.out _ Hb10.out).mono ?_
            rintro e w11 ⟨rfl, hxb11⟩
            have hb11 := Hb10.out.trans (hxb11.mono Hb10.out.size)
            have Hxb11 := Lib.hid hxb11; have Hb11 := Lib.hid hb11; clear hxb11 hb11
            go_wp2_with fail
            go_ret
            exact ⟨rfl, Hb11.out⟩
          | true =>
            cases wb with
            | false =>
              have hz : e = .returned (.tuple #[.slice none 0 0, .bool false]) := by
                rcases hpb9 with ⟨h1, _⟩ | ⟨_, h2⟩
                · unfold bothIs at h1
                  rw [← Hwb.out] at h1
                  simp at h1
                · exact h2
              subst hz
              clear hpb9
              have Hxb9 := Lib.hid hxb9; have Hb9 := Lib.hid hb9; clear hxb9 hb9
              go_wp2_with fail
              refine (HRa.out _ Hb9.out).mono ?_
              rintro e w12 ⟨rfl, hxb12⟩
              have hb12 := Hb9.out.trans (hxb12.mono Hb9.out.size)
              have Hxb12 := Lib.hid hxb12; have Hb12 := Lib.hid hb12; clear hxb12 hb12
              go_wp2_with fail
              refine (HRb.out _ Hb12.out).mono ?_
              rintro e w13 ⟨rfl, hxb13⟩
              have hb13 := Hb12.out.trans (hxb13.mono Hb12.out.size)
              have Hxb13 := Lib.hid hxb13; have Hb13 := Lib.hid hb13; clear hxb13 hb13
              go_wp2_with fail
              refine (HF.out _ Hb13.out).mono ?_
              rintro e w14 ⟨rfl, hxb14⟩
              have hb14 := Hb13.out.trans (hxb14.mono Hb13.out.size)
              have Hxb14 := Lib.hid hxb14; have Hb14 := Lib.hid hb14; clear hxb14 hb14
              go_wp2_with fail
              go_ret
              exact ⟨rfl, Hb14.out⟩
            | true =>
              have hia := both_is Hwa.out.symm Hwb.out.symm
              have hib := both_is Hwb.out.symm Hwa.out.symm
              rw [two_comm b a] at hib
              obtain ⟨tw, htw⟩ : ∃ c, c = twoOf a b := ⟨_, rfl⟩
              rw [← htw] at hia hib
              cases tw with
              | false =>
                -- both are met together
                have hcm := both_comm (wish_str Hwa.out.symm) (wish_str Hwb.out.symm) htw.symm
                have hwc : wishIs (bothOf a b) = true := by rw [both_wish Hwa.out.symm Hwb.out.symm, ← htw]; rfl
                obtain ⟨c, hc⟩ : ∃ c, c = bothOf a b := ⟨_, rfl⟩
                have hz : ∃ o, e = .returned (.tuple #[o, .bool true]) ∧ RSets w9 [o] c := by
                  rw [hc]
                  rcases hpb9 with ⟨_, h2⟩ | ⟨h1, _⟩
                  · exact h2
                  · rw [hia] at h1; cases h1
                obtain ⟨o, rfl, ho⟩ := hz
                have hc2 : bothOf b a = c := by rw [hc, hcm]
                obtain ⟨ao, co, rfl⟩ := sets_shape ho
                obtain ⟨nc, hnc⟩ : ∃ n, n = c.length := ⟨_, rfl⟩
                rw [← hnc] at ho ⊢
                clear hpb9
                have Hxb9 := Lib.hid hxb9; have Hb9 := Lib.hid hb9; have Hia := Lib.hid hia; have Hib := Lib.hid hib; have Htw := Lib.hid htw; have Hcm := Lib.hid hcm; have Hwc := Lib.hid hwc; have Hc := Lib.hid hc; have Hc2 := Lib.hid hc2; have Ho := Lib.hid ho; have Hnc := Lib.hid hnc; clear hxb9 hb9 hia hib htw hcm hwc hc hc2 ho hnc
                go_wp2_with fail
                refine (HRa.out _ Hb9.out).mono ?_
                rintro e w15 ⟨rfl, hxb15⟩
                have hb15 := Hb9.out.trans (hxb15.mono Hb9.out.size)
                have Hxb15 := Lib.hid hxb15; have Hb15 := Lib.hid hb15; clear hxb15 hb15
                go_wp2_with fail
                refine (HRb.out _ Hb15.out).mono ?_
                rintro e w16 ⟨rfl, hxb16⟩
                have hb16 := Hb15.out.trans (hxb16.mono Hb15.out.size)
                have Hxb16 := Lib.hid hxb16; have Hb16 := Lib.hid hb16; clear hxb16 hb16
                go_wp2_with fail
                refine (Hbb.out _ Hb16.out (by have := Hlb.out; omega) (by have := Hla.out; omega)).mono ?_
                rintro e w17 ⟨hxb17, hpb17⟩
                have hb17 := Hb16.out.trans (hxb17.mono Hb16.out.size)
                have hz : ∃ o, e = .returned (.tuple #[o, .bool true]) ∧ RSets w17 [o] c := by
                  rw [← Hc2.out]
                  rcases hpb17 with ⟨_, h2⟩ | ⟨h1, _⟩
                  · exact h2
                  · rw [Hib.out] at h1; cases h1
                obtain ⟨o2, rfl, ho2⟩ := hz
                obtain ⟨ao2, co2, rfl⟩ := sets_shape ho2
                rw [← Hnc.out] at ho2 ⊢
                clear hpb17
                have ho3 := stays_slice stays_set _ _ _ _ Ho.out (Hxb15.out.trans ((Hxb16.out.trans (hxb17.mono Hxb16.out.size)).mono Hxb15.out.size))
                have hSm := calls_bel (sameRef_any ho3 ho2)
                rw [decide_eq_true (rfl : c = c)] at hSm
                have Hxb17 := Lib.hid hxb17; have Hb17 := Lib.hid hb17; have Ho2 := Lib.hid ho2; have Ho3 := Lib.hid ho3; have HSm := Lib.hid hSm; clear hxb17 hb17 ho2 ho3 hSm
                go_wp2_with fail
                refine HSm.out.mono ?_
                rintro e w90 ⟨rfl, hx90⟩
                have h90 := Hb17.out.trans (hx90.mono Hb17.out.size)
                have Hx90 := Lib.hid hx90; have H90 := Lib.hid h90; clear hx90 h90
                go_wp2_with fail
                refine (HF.out _ H90.out).mono ?_
                rintro e w91 ⟨rfl, hx91⟩
                have h91 := H90.out.trans (hx91.mono H90.out.size)
                have ho4 := stays_slice stays_set _ _ _ _ Ho3.out (Hx90.out.trans (hx91.mono Hx90.out.size))
                have hWc := calls_bel (wishRef_is ho4)
                rw [Hc.out, Hwc.out] at hWc
                have Hx91 := Lib.hid hx91; have H91 := Lib.hid h91; have Ho4 := Lib.hid ho4; have HWc := Lib.hid hWc; clear hx91 h91 ho4 hWc
                go_wp2_with fail
                refine HWc.out.mono ?_
                rintro e w92 ⟨rfl, hx92⟩
                have h92 := H91.out.trans (hx92.mono H91.out.size)
                have ho5 := stays_slice stays_set _ _ _ _ Ho4.out hx92
                have hMc := meetsRef_any (HSt.out _ h92).2.2 ho5
                rw [Hc.out, meets_both, ← Hma.out, ← Hmb.out] at hMc
                have Hx92 := Lib.hid hx92; have H92 := Lib.hid h92; have Ho5 := Lib.hid ho5; have HMc := Lib.hid hMc; clear hx92 h92 ho5 hMc
                go_wp2_with fail
                refine HMc.out.mono ?_
                rintro e w93 ⟨rfl, hx93⟩
                have h93 := H92.out.trans (hx93.mono H92.out.size)
                have Hx93 := Lib.hid hx93; have H93 := Lib.hid h93; clear hx93 h93
                go_wp2_with fail
                refine (HMa.out _ H93.out).mono ?_
                rintro e w94 ⟨rfl, hx94⟩
                have h94 := H93.out.trans (hx94.mono H93.out.size)
                have Hx94 := Lib.hid hx94; have H94 := Lib.hid h94; clear hx94 h94
                cases ma with
                | false =>
                  go_wp2_with fail
                  go_ret
                  exact ⟨rfl, H94.out⟩
                | true =>
                  go_wp2_with fail
                  refine (HMb.out _ H94.out).mono ?_
                  rintro e w95 ⟨rfl, hx95⟩
                  have h95 := H94.out.trans (hx95.mono H94.out.size)
                  have Hx95 := Lib.hid hx95; have H95 := Lib.hid h95; clear hx95 h95
                  cases mb with
                  | false =>
                    go_wp2_with fail
                    go_ret
                    exact ⟨rfl, H95.out⟩
                  | true =>
                    go_wp2_with fail
                    go_ret
                    exact ⟨rfl, H95.out⟩
              | true =>
                have hz : e = .returned (.tuple #[.slice none 0 0, .bool false]) := by
                  rcases hpb9 with ⟨h1, _⟩ | ⟨_, h2⟩
                  · rw [hia] at h1; cases h1
                  · exact h2
                subst hz
                clear hpb9
                have Hxb9 := Lib.hid hxb9; have Hb9 := Lib.hid hb9; have Hia := Lib.hid hia; have Hib := Lib.hid hib; have Htw := Lib.hid htw; clear hxb9 hb9 hia hib htw
                go_wp2_with fail
                refine (HRa.out _ Hb9.out).mono ?_
                rintro e w18 ⟨rfl, hxb18⟩
                have hb18 := Hb9.out.trans (hxb18.mono Hb9.out.size)
                have Hxb18 := Lib.hid hxb18; have Hb18 := Lib.hid hb18; clear hxb18 hb18
                go_wp2_with fail
                refine (HRb.out _ Hb18.out).mono ?_
                rintro e w19 ⟨rfl, hxb19⟩
                have hb19 := Hb18.out.trans (hxb19.mono Hb18.out.size)
                have Hxb19 := Lib.hid hxb19; have Hb19 := Lib.hid hb19; clear hxb19 hb19
                go_wp2_with fail
                refine (Hbb.out _ Hb19.out (by have := Hlb.out; omega) (by have := Hla.out; omega)).mono ?_
                rintro e w20 ⟨hxb20, hpb20⟩
                have hb20 := Hb19.out.trans (hxb20.mono Hb19.out.size)
                have hz : e = .returned (.tuple #[.slice none 0 0, .bool false]) := by
                  rcases hpb20 with ⟨h1, _⟩ | ⟨_, h2⟩
                  · rw [Hib.out] at h1; cases h1
                  · exact h2
                subst hz
                clear hpb20
                have hnil : ∀ W, RSets W [.slice none 0 0] [] := fun W => ⟨none, 0, rfl, Nat.le_refl _, Nat.zero_le _, fun i x hi => by simp at hi⟩
                have hSm := fun W => calls_bel (sameRef_any (hnil W) (hnil W))
                simp only [decide_true] at hSm
                have Hxb20 := Lib.hid hxb20; have Hb20 := Lib.hid hb20; have HSm := Lib.hid hSm; have Hnil := Lib.hid hnil; clear hxb20 hb20 hSm hnil
                go_wp2_with fail
                refine (HSm.out _).mono ?_
                rintro e w90 ⟨rfl, hx90⟩
                have h90 := Hb20.out.trans (hx90.mono Hb20.out.size)
                have Hx90 := Lib.hid hx90; have H90 := Lib.hid h90; clear hx90 h90
                go_wp2_with fail
                go_loopw [13, 90] (fun x y wr => ∃ k : Nat, k ≤ na ∧ y = .int .i64 k ∧ x = .bool ((a.take k).any fun x => b.any (Pt x)) ∧ Below w.heap.size w wr) (fun _ y _ => na - (intOf y).toNat)
                case atStart => exact ⟨0, Nat.zero_le _, rfl, rfl, H90.out⟩
                case round =>
                  obtain ⟨k, hk, rfl, rfl, hbw⟩ := hrel
                  by_cases hlt : k < na
                  · have hka : k < a.length := by have := Hna.out; omega
                    obtain ⟨bl, ofs, rfl, c0, c1⟩ := HgA.out k _ (List.getElem?_eq_getElem hka)
                    have hsucc := anyP_succ (fun x => b.any (Pt x)) hka
                    obtain ⟨x, hx⟩ : ∃ x, x = a[k] := ⟨_, rfl⟩
                    rw [← hx] at c0 c1 hsucc
                    have d0 := cell_later hbw c0
                    have d1 := cell_later hbw c1
                    obtain ⟨x0, hx0⟩ : ∃ v, v = x.1 := ⟨_, rfl⟩
                    obtain ⟨x1, hx1⟩ : ∃ v, v = x.2 := ⟨_, rfl⟩
                    rw [← hx0] at d0
                    rw [← hx1] at d1
                    obtain ⟨T, hT⟩ : ∃ T, T = ((a.take k).any fun x => b.any (Pt x)) := ⟨_, rfl⟩
                    rw [← hT] at hsucc ⊢
                    have k5 : (0 : Int) ≤ (k : Int) := by omega
                    have k9 : k ≤ 1000 := by have := Hla.out; have := Hna.out; omega
                    have k6 : (k : Int) < (na : Int) := by omega
                    clear c0 c1
                    have Hbw := Lib.hid hbw; have Hsucc := Lib.hid hsucc; have Hx := Lib.hid hx; have Hx0 := Lib.hid hx0; have Hx1 := Lib.hid hx1; have HT := Lib.hid hT; clear hbw hsucc hx hx0 hx1 hT
                    go_wp2_with fail
                    obtain ⟨bx, hbx⟩ : ∃ n, n = wr.heap.size := ⟨_, rfl⟩
                    obtain ⟨W0, hW0⟩ : ∃ W0, W0 = wr.alloc (Obj.cells #[.string x0, .string x1] 38) := ⟨_, rfl⟩
                    rw [← hW0, ← hbx]
                    have hX0 : W0.heap[bx]? = some (Obj.cells #[.string x0, .string x1] 38 (0, 0)) := by rw [hW0, hbx]; exact heap_alloc_new _ _
                    have hb0 : Below w.heap.size w W0 := by rw [hW0]; exact Hbw.out.trans ((below_alloc1 _ _).mono Hbw.out.size)
                    clear d0 d1
                    have Hbx := Lib.hid hbx; have HW0 := Lib.hid hW0; have HX0 := Lib.hid hX0; have Hb0 := Lib.hid hb0; clear hbx hW0 hX0 hb0
                    go_loopw [13, 96] (fun p q wr => ∃ j : Nat, j ≤ nb ∧ q = .int .i64 j ∧ p = .bool (T || (b.take j).any (Pt x)) ∧ Below w.heap.size w wr ∧ wr.heap[bx]? = some (Obj.cells #[.string x0, .string x1] 38 (0, 0))) (fun _ q _ => nb - (intOf q).toNat)
                    case atStart => exact ⟨0, Nat.zero_le _, rfl, by simp, Hb0.out, HX0.out⟩
                    case round =>
                      obtain ⟨j, hj, rfl, rfl, hbw2, hX⟩ := hrel
                      by_cases hlt2 : j < nb
                      · have hjb : j < b.length := by have := Hnb.out; omega
                        obtain ⟨bl2, ofs2, rfl, c0, c1⟩ := HgB.out j _ (List.getElem?_eq_getElem hjb)
                        have hsucc2 := anyP_succ (Pt x) hjb
                        obtain ⟨y, hy⟩ : ∃ x, x = b[j] := ⟨_, rfl⟩
                        rw [← hy] at c0 c1 hsucc2
                        have d0 := cell_later hbw2 c0
                        have d1 := cell_later hbw2 c1
                        obtain ⟨y0, hy0⟩ : ∃ v, v = y.1 := ⟨_, rfl⟩
                        obtain ⟨y1, hy1⟩ : ∃ v, v = y.2 := ⟨_, rfl⟩
                        rw [← hy0] at d0
                        rw [← hy1] at d1
                        obtain ⟨Q, hQ⟩ : ∃ Q, Q = (T || (b.take j).any (Pt x)) := ⟨_, rfl⟩
                        rw [← hQ]
                        obtain ⟨n0, hn0⟩ : ∃ n, n = (x0.toList == y0.toList) := ⟨_, rfl⟩
                        obtain ⟨n1, hn1⟩ : ∃ n, n = (x1.toList == y1.toList) := ⟨_, rfl⟩
                        have hnext : (T || (b.take (j + 1)).any (Pt x)) = (Q || (n0 && !n1)) := by
                          rw [hsucc2, hQ, hn0, hn1, bytes_dec, bytes_dec, ← Bool.or_assoc, Hx0.out, Hx1.out, hy0, hy1]; rfl
                        have hp0 := hn0.symm
                        have hp1 := hn1.symm
                        have k7 : (0 : Int) ≤ (j : Int) := by omega
                        have k9 : j ≤ 1000 := by have := Hlb.out; have := Hnb.out; omega
                        have k8 : (j : Int) < (nb : Int) := by omega
                        obtain ⟨by_, hby⟩ : ∃ n, n = wr.heap.size := ⟨_, rfl⟩
                        obtain ⟨W1, hW1⟩ : ∃ W0, W0 = wr.alloc (Obj.cells #[.string y0, .string y1] 38) := ⟨_, rfl⟩
                        have hb1 : Below w.heap.size w W1 := by rw [hW1]; exact hbw2.trans ((below_alloc1 _ _).mono hbw2.size)
                        have hX1 : W1.heap[bx]? = some (Obj.cells #[.string x0, .string x1] 38 (0, 0)) := by rw [hW1]; exact heap_below (below_alloc1 _ _) hX
                        have hY1 : W1.heap[by_]? = some (Obj.cells #[.string y0, .string y1] 38 (0, 0)) := by rw [hW1, hby]; exact heap_alloc_new _ _
                        have f0 := cells_at hX1 0
                        have f1 := cells_at hX1 1
                        have g0 := cells_at hY1 0
                        have g1 := cells_at hY1 1
                        simp only [List.getElem?_toArray, List.getElem?_cons_succ, List.getElem?_cons_zero] at f0 f1 g0 g1
                        clear c0 c1
                        have Hbw2 := Lib.hid hbw2; have HX := Lib.hid hX; have Hsucc2 := Lib.hid hsucc2; have Hy := Lib.hid hy; have Hy0 := Lib.hid hy0; have Hy1 := Lib.hid hy1; have HQ := Lib.hid hQ; have Hn0 := Lib.hid hn0; have Hn1 := Lib.hid hn1; have Hnext := Lib.hid hnext; have Hb1 := Lib.hid hb1; have HX1 := Lib.hid hX1; have HY1 := Lib.hid hY1; clear hbw2 hX hsucc2 hy hy0 hy1 hQ hn0 hn1 hnext hb1 hX1 hY1
                        go_upto_region 19 with fail
                        rw [← hW1, ← hby]
                        clear d0 d1
                        have HW1 := Lib.hid hW1; have Hby := Lib.hid hby; clear hW1 hby
                        cases Q with
                        | true =>
                          go_wp2_with fail
                          go_roundw
                          case rel => exact ⟨j + 1, by omega, by go_num, by rw [Hnext.out]; rfl, Hb1.out, HX1.out⟩
                          case measure => simp [intOf]; omega
                        | false =>
                          cases n0 with
                          | false =>
                            go_wp2_with fail
                            go_roundw
                            case rel => exact ⟨j + 1, by omega, by go_num, by rw [Hnext.out]; rfl, Hb1.out, HX1.out⟩
                            case measure => simp [intOf]; omega
                          | true =>
                            cases n1 with
                            | false =>
                              go_wp2_with fail
                              go_roundw
                              case rel => exact ⟨j + 1, by omega, by go_num, by rw [Hnext.out]; rfl, Hb1.out, HX1.out⟩
                              case measure => simp [intOf]; omega
                            | true =>
                              go_wp2_with fail
                              go_roundw
                              case rel => exact ⟨j + 1, by omega, by go_num, by rw [Hnext.out]; rfl, Hb1.out, HX1.out⟩
                              case measure => simp [intOf]; omega
                      · obtain rfl : nb = j := by omega
                        have hfin : ((a.take (k + 1)).any fun x => b.any (Pt x)) = (T || (b.take nb).any (Pt x)) := by
                          rw [Hsucc.out, List.take_of_length_le (by have := Hnb.out; omega)]
                        obtain ⟨Q, hQ⟩ : ∃ Q, Q = (T || (b.take nb).any (Pt x)) := ⟨_, rfl⟩
                        rw [← hQ] at hfin ⊢
                        have Hbw2 := Lib.hid hbw2; have HX := Lib.hid hX; have Hfin := Lib.hid hfin; have HQ := Lib.hid hQ; clear hbw2 hX hfin hQ
                        go_wp2_with fail
                        go_roundw
                        case rel => exact ⟨k + 1, by omega, by go_num, by rw [Hfin.out], Hbw2.out⟩
                        case measure => simp [intOf]; omega
                  · obtain rfl : na = k := by omega
                    have hfin : ((a.take na).any fun x => b.any (Pt x)) = true := by
                      rw [List.take_of_length_le (by have := Hna.out; omega), ← two_any, ← Htw.out]
                    rw [hfin]
                    have Hbw := Lib.hid hbw; have Hfin := Lib.hid hfin; clear hbw hfin
                    go_wp2_with fail
                    refine (HF.out _ Hbw.out).mono ?_
                    rintro e w91 ⟨rfl, hx91⟩
                    have h91 := Hbw.out.trans (hx91.mono Hbw.out.size)
                    have Hx91 := Lib.hid hx91; have H91 := Lib.hid h91; clear hx91 h91
                    go_wp2_with fail
                    refine (HMay.out _ H91.out).mono ?_
                    rintro e w92 ⟨rfl, hx92⟩
                    have h92 := H91.out.trans (hx92.mono H91.out.size)
                    have Hx92 := Lib.hid hx92; have H92 := Lib.hid h92; clear hx92 h92
                    cases my with
                    | false =>
                      go_wp2_with fail
                      go_ret
                      exact ⟨rfl, H92.out⟩
                    | true =>
                      go_wp2_with fail
                      refine (HLeg.out _ H92.out).mono ?_
                      rintro e w93 ⟨⟨r, rfl, hr⟩, q, rfl⟩
                      have h93 := bel_drewN H92.out q
                      have H93 := Lib.hid h93; clear h93
                      cases r with
                      | false =>
                        have Hr := Lib.hid hr; clear hr
                        go_wp2_with fail
                        go_ret
                        exact ⟨rfl, H93.out⟩
                      | true =>
                        have hNm := hr rfl
                        have Hr := Lib.hid hr; have HNm := Lib.hid hNm; clear hr hNm
                        go_wp2_with fail
                        refine (HMa.out _ H93.out).mono ?_
                        rintro e w94 ⟨rfl, hx94⟩
                        have h94 := H93.out.trans (hx94.mono H93.out.size)
                        have Hx94 := Lib.hid hx94; have H94 := Lib.hid h94; clear hx94 h94
                        cases ma with
                        | false =>
                          go_wp2_with fail
                          go_ret
                          exact ⟨rfl, H94.out⟩
                        | true =>
                          go_wp2_with fail
                          refine (HMb.out _ H94.out).mono ?_
                          rintro e w95 ⟨rfl, hx95⟩
                          have h95 := H94.out.trans (hx95.mono H94.out.size)
                          have Hx95 := Lib.hid hx95; have H95 := Lib.hid h95; clear hx95 h95
                          cases mb with
                          | false =>
                            go_wp2_with fail
                            go_ret
                            exact ⟨rfl, H95.out⟩
                          | true => exact (two_none Htw.out.symm Hmy.out.symm HNm.out Hma.out.symm Hmb.out.symm).elim
end Go.Proofs.Ytnelgellbabkoaa

/- The given statement VariantBothSaid: for every input the law returns true, and leaves what it was given as it was. No condition. -/
namespace Go.Proofs.Ytnelgellbabkoaa.variantBothRow
open Go.ChangeShapes Go.WideShapes Go.ChangeAt Go.RowKit
open Go.ChangeMaps (open_string shut_string)
set_option linter.unusedVariables false

theorem own : ownKnob Try.prog.godebug = none := by kernel_rfl
theorem laidOut : laidOutB Try.prog = true := by kernel_rfl

set_option maxRecDepth 100000 in
theorem lifted (os : Os) (started : os.Started) (H : Type) (enc : TypeId × Value → H) :
    ReturnsInHanded {} Try.checked os 12 .any (Rows.variantBothSpec.pre6 enc Try.prog Try.f12 Rows.variantBothRow.domain false) (Rows.variantBothSpec.post enc Try.prog Try.f12 false true false false) := by
  refine returnsInHanded_of_change (C := Try.checked) own started (by kernel_rfl) Try.func12
    (ChangeSpec.witness6 (enc := enc) (C := Try.checked) false ⟨#[], #[.slice none 0 0, .slice none 0 0, .slice none 0 0, .slice none 0 0], []⟩ 8 (by kernel_rfl) (by kernel_rfl) (by kernel_rfl) (by kernel_rfl)) ?_
  intro W base args ds gs before hval0 hW hcnd _
  have hval : ∀ (j : Nat) t v, Try.f12.params[j]? = some t → args[j]? = some v → Value.okWide Try.prog W .any base t v := hval0
  have hW' := hW
  obtain ⟨p, q, hA0, hV, rfl, hfz, hnd⟩ := hW
  have hA : DataW.TrodAll enc Try.prog W 0 (fun _ => true) true Try.f12.params.toList args.toList ds p := hA0
  rw [Try.params12] at hA hval
  obtain ⟨v0, vs0, d0, ds0, p0, q0, hargs, rfl, rfl, h0, rr0⟩ := trodAll_cons hA
  obtain ⟨v1, vs1, d1, ds1, p1, q1, rfl, rfl, rfl, h1, rr1⟩ := trodAll_cons rr0
  obtain ⟨v2, vs2, d2, ds2, p2, q2, rfl, rfl, rfl, h2, rr2⟩ := trodAll_cons rr1
  obtain ⟨v3, vs3, d3, ds3, p3, q3, rfl, rfl, rfl, h3, rr3⟩ := trodAll_cons rr2
  obtain ⟨rfl, rfl, rfl⟩ := trodAll_nil rr3
  obtain rfl : args = #[v0, v1, v2, v3] := by cases args; simp_all
  obtain ⟨rfl, rfl⟩ := trodVars_none hV
  have lt0 : ∀ x ∈ p0, x.block < W.heap.size := by obtain ⟨m, hm⟩ := h0; exact DataW.trod_lt m _ _ _ hm
  have kk0 := h0
  have lt1 : ∀ x ∈ p1, x.block < W.heap.size := by obtain ⟨m, hm⟩ := h1; exact DataW.trod_lt m _ _ _ hm
  have kk1 := h1
  have lt2 : ∀ x ∈ p2, x.block < W.heap.size := by obtain ⟨m, hm⟩ := h2; exact DataW.trod_lt m _ _ _ hm
  have kk2 := h2
  have lt3 : ∀ x ∈ p3, x.block < W.heap.size := by obtain ⟨m, hm⟩ := h3; exact DataW.trod_lt m _ _ _ hm
  have kk3 := h3
  obtain ⟨ad0, len0, cap0, rfl⟩ := okWide_slice Try.underlying36 (hval 0 36 v0 rfl rfl)
  obtain ⟨fuel0, hf0⟩ := h0
  obtain ⟨l0, r0d⟩ := opens_sets enc W _ _ _ fuel0 _ _ hf0
  simp only [Value.cells] at r0d
  obtain ⟨ad1, len1, cap1, rfl⟩ := okWide_slice Try.underlying36 (hval 1 36 v1 rfl rfl)
  obtain ⟨fuel1, hf1⟩ := h1
  obtain ⟨l1, r1d⟩ := opens_sets enc W _ _ _ fuel1 _ _ hf1
  simp only [Value.cells] at r1d
  obtain ⟨ad2, len2, cap2, rfl⟩ := okWide_slice Try.underlying36 (hval 2 36 v2 rfl rfl)
  obtain ⟨fuel2, hf2⟩ := h2
  obtain ⟨l2, r2d⟩ := opens_sets enc W _ _ _ fuel2 _ _ hf2
  simp only [Value.cells] at r2d
  obtain ⟨ad3, len3, cap3, rfl⟩ := okWide_slice Try.underlying29 (hval 3 29 v3 rfl rfl)
  obtain ⟨fuel3, hf3⟩ := h3
  obtain ⟨l3, r3d⟩ := opens_vars enc W _ _ _ fuel3 _ _ hf3
  simp only [Value.cells] at r3d
  clear hA0 hval0
  refine (variantBoth_true r0d r1d r2d r3d).mono fun e W' ⟨he, bel⟩ => ?_
  subst he
  exact ⟨_, rfl, _, _, _, [], _, [], hW', trodAll_mk1 (shut_bool Try.underlying4 _), (trodAll_cons_mk (Below.trod laidOut (by kernel_rfl) (of_decide_eq_true (by kernel_rfl)) kk0 bel lt0) (trodAll_cons_mk (Below.trod laidOut (by kernel_rfl) (of_decide_eq_true (by kernel_rfl)) kk1 bel lt1) (trodAll_cons_mk (Below.trod laidOut (by kernel_rfl) (of_decide_eq_true (by kernel_rfl)) kk2 bel lt2) (trodAll_cons_mk (Below.trod laidOut (by kernel_rfl) (of_decide_eq_true (by kernel_rfl)) kk3 bel lt3) trodAll_mk0)))), rfl, bel.frame _, fun h => by cases h⟩

theorem over : Rows.variantBothRow.holds Try.pinned (OpenSpec.ofChange Rows.variantBothSpec) :=
  OpenClaim.holds_of_wide 12 Try.f12 rfl rfl rfl rfl rfl rfl rfl ⟨rfl, rfl, rfl, rfl, rfl⟩ rfl rfl rfl rfl rfl (by kernel_rfl) Try.func12 (by kernel_rfl)
    (of_decide_eq_true (by kernel_rfl)) (by unfold Func.isWrapper; first | (rw [if_pos (by decide +kernel)]; kernel_rfl) | (rw [if_neg (by decide +kernel)]; exact ⟨rfl, rfl⟩))
    (fun os started H enc _ => lifted os started H enc)

theorem proved : Rows.VariantBothSaid := over
#print axioms proved
end Go.Proofs.Ytnelgellbabkoaa.variantBothRow
