/- Walks and plain facts. Texts merged: ShrE, SpsN, ShrB, ShrI, ShrJ, ShrK, SpsFx, SpsR, SpsK. Condition: none beyond what each says. -/
import Derived.Lib.AppendZerosOnto
import Derived.Laws.Append
import Derived.Test.YteailgjiifdgcaaGreatDoorSpansSharesAll1
import Derived.Test.YteailgjiifdgcaaGreatDoorSpansSharesAll2
import Derived.Test.YteailgjiifdgcaaGreatDoorSpansSharesAll3
import Derived.Test.YteailgjiifdgcaaGreatDoorSpansSharesAll4
import Derived.Test.YteailgjiifdgcaaGreatDoorSpansSharesAll5
import Derived.Test.YteailgjiifdgcaaGreatDoorSpansSharesAll6
import Derived.Test.YteailgjiifdgcaaGreatDoorSpansSharesAll7
set_option linter.unusedVariables false
set_option linter.unusedSimpArgs false
/- The walk of slices.Equal at spans. No condition. -/
namespace Go.Proofs.YteailgjiifdgcaaGreatDoor
open Go.RowKit Go.Shelf Go.Lib VerN

set_option maxRecDepth 10000 in
set_option maxHeartbeats 1000000 in
theorem equalSpn_any {w : World} {v u : Value} {l m : List BSp} (h : RSps w [v] l) (hm : RSps w [u] m) : Calls Tryz.prog 69 #[v, u] w fun e w' => e = .returned (.bool (decide (l = m))) ∧ ∃ q, w' = w.drewN q := by
  obtain ⟨a, cap, rfl, hz, g⟩ := sps_open h
  obtain ⟨a2, cap2, rfl, hz2, g2⟩ := sps_open hm
  obtain ⟨n, hn⟩ : ∃ n, n = l.length := ⟨_, rfl⟩
  obtain ⟨n2, hn2⟩ : ∃ n, n = m.length := ⟨_, rfl⟩
  obtain ⟨r, hr⟩ : ∃ r, r = decide (l = m) := ⟨_, rfl⟩
  have q1 := fun s t a b => spn_neqs s t a b
  rw [← hr]
  rw [← hn] at hz h ⊢
  rw [← hn2] at hz2 hm ⊢
  have Hh := Lib.hid h; have Hm := Lib.hid hm; have Hg := Lib.hid g; have Hg2 := Lib.hid g2; have Hn := Lib.hid hn; have Hn2 := Lib.hid hn2; have Hr := Lib.hid hr; have Hq1 := Lib.hid q1; clear h hm g g2 hn hn2 hr q1
  go_enter Tryz.func69, Tryz.ntmps69
  by_cases hne : n = n2
  case neg =>
    have k1 : ((n : Int) != (n2 : Int)) = true := by simp; omega
    have hf : r = false := by rw [Hr.out, decide_eq_false_iff_not]; intro e; exact hne (by rw [Hn.out, Hn2.out, e])
    have Hf := Lib.hid hf; have Hne := Lib.hid hne; clear hf hne
    go_wp2_with fail
    go_ret
    exact ⟨ret_bool Hf.out.symm, 0, rfl⟩
  have k1 : ((n : Int) != (n2 : Int)) = false := by simp; omega
  have Hne := Lib.hid hne; clear hne
  go_wp2_with fail
  clear k1
  go_loopw [13] (fun i wr => ∃ k : Nat, k ≤ n ∧ i = .int .i64 k ∧ (∀ j (h1 : j < l.length) (h2 : j < m.length), j < k → l[j] = m[j]) ∧ ∃ q, wr = w.drewN q) (fun i _ => n - (RowKit.intOf i).toNat)
  case atStart => exact ⟨0, Nat.zero_le _, rfl, fun _ _ _ h => by omega, 0, rfl⟩
  case round =>
    obtain ⟨k, hk, rfl, hno, q, rfl⟩ := hrel
    by_cases hlt : k < n
    · have hkl : k < l.length := by have := Hn.out; omega
      have hkm : k < m.length := by have := Hn2.out; have := Hne.out; omega
      obtain ⟨b, off, rfl, d0, d1, _, _⟩ := Hg.out k _ (List.getElem?_eq_getElem hkl)
      obtain ⟨b2, off2, rfl, f0, f1, _, _⟩ := Hg2.out k _ (List.getElem?_eq_getElem hkm)
      have hnx : l[k] = m[k] → ∀ j (h1 : j < l.length) (h2 : j < m.length), j < k + 1 → l[j] = m[j] := fun h j h1 h2 hjk => by
        by_cases e : j = k
        · subst e; exact h
        · exact hno j h1 h2 (by omega)
      have hbd : l[k] ≠ m[k] → l ≠ m := fun h e => h (by subst e; rfl)
      obtain ⟨x, hx⟩ : ∃ x, x = l[k] := ⟨_, rfl⟩
      obtain ⟨y, hy⟩ : ∃ x, x = m[k] := ⟨_, rfl⟩
      rw [← hx] at d0 d1 hnx hbd
      rw [← hy] at f0 f1 hnx hbd
      have q2 := Hq1.out x.1 x.2 y.1 y.2
      have hxy : (decide (x.1 = y.1) && decide (x.2 = y.2)) = decide (x = y) := by
        rw [Bool.eq_iff_iff]
        simp [Prod.ext_iff]
      rw [hxy] at q2
      obtain ⟨s, hs⟩ : ∃ s, s = x.1 := ⟨_, rfl⟩
      obtain ⟨t, ht⟩ : ∃ s, s = x.2 := ⟨_, rfl⟩
      obtain ⟨s', hs'⟩ : ∃ s, s = y.1 := ⟨_, rfl⟩
      obtain ⟨t', ht'⟩ : ∃ s, s = y.2 := ⟨_, rfl⟩
      rw [← hs, ← ht, ← hs', ← ht'] at q2
      rw [← hs] at d0
      rw [← ht] at d1
      rw [← hs'] at f0
      rw [← ht'] at f1
      have k5 : (0 : Int) ≤ (k : Int) := by omega
      have k6 : (k : Int) < (n : Int) := by omega
      have k7 : (k : Int) < (n2 : Int) := by have := Hne.out; omega
      clear hxy
      by_cases e : x = y
      · have hq := hnx e
        rw [decide_eq_true e] at q2
        simp only [Bool.not_true] at q2
        clear e
        have Hno := Lib.hid hno; have Hnx := Lib.hid hnx; have Hbd := Lib.hid hbd; have Hx := Lib.hid hx; have Hy := Lib.hid hy; have Hs := Lib.hid hs; have Ht := Lib.hid ht; have Hs' := Lib.hid hs'; have Ht' := Lib.hid ht'; have Hq := Lib.hid hq; clear hno hnx hbd hx hy hs ht hs' ht' hq
        go_wp2_with fail
        go_region
        go_wp2_with fail
        go_roundw
        case rel => exact ⟨k + 1, by omega, by go_num, Hq.out, _, rfl⟩
        case measure => simp [RowKit.intOf]; omega
      · have hf : r = false := by rw [Hr.out, decide_eq_false_iff_not]; exact hbd e
        rw [decide_eq_false e] at q2
        simp only [Bool.not_false] at q2
        clear e
        have Hno := Lib.hid hno; have Hnx := Lib.hid hnx; have Hbd := Lib.hid hbd; have Hx := Lib.hid hx; have Hy := Lib.hid hy; have Hs := Lib.hid hs; have Ht := Lib.hid ht; have Hs' := Lib.hid hs'; have Ht' := Lib.hid ht'; have Hf := Lib.hid hf; clear hno hnx hbd hx hy hs ht hs' ht' hf
        go_wp2_with fail
        go_region
        go_wp2_with fail
        go_ret
        exact ⟨ret_bool Hf.out.symm, _, rfl⟩
    · obtain rfl : n = k := by omega
      have hf : r = true := by
        rw [Hr.out, decide_eq_true_eq]
        exact List.ext_getElem (by rw [← Hn.out, ← Hn2.out, Hne.out]) (fun j h1 h2 => hno j h1 h2 (by have := Hn.out; omega))
      have Hno := Lib.hid hno; have Hf := Lib.hid hf; clear hno hf
      go_wp2_with fail
      go_ret
      exact ⟨ret_bool Hf.out.symm, _, rfl⟩
end Go.Proofs.YteailgjiifdgcaaGreatDoor

/- The walks of slices.Grow (of nothing) and slices.Concat (of two) at spans. Condition: at most a million. -/
namespace Go.Proofs.YteailgjiifdgcaaGreatDoor
open Go.RowKit

def GrowSpPost (w : World) (e : Ending) (w' : World) : Prop := ∃ o, e = .returned o ∧ w'.ownsRow w.heap.size 34 2 o 0 [] ∧ Below w.heap.size w w'
set_option maxRecDepth 10000 in
set_option maxHeartbeats 2000000 in
theorem growSpn_any (n : Nat) (hn : n ≤ 1000000) (w : World) : Calls Tryz.prog 122 #[.slice none 0 0, .int .i64 n] w (GrowSpPost w) := by
  obtain ⟨i0, hi, hz, hsz, hby⟩ := info_parts elem_spn.info
  by_cases h0 : n = 0
  · subst h0
    clear hi hz hsz hby
    go_enter Tryz.func122, Tryz.ntmps122
    go_wp2_with fail
    go_ret
    exact ⟨_, rfl, World.ownsRow_nil _ _ _ _, Below.refl _ _⟩
  · have hrz : ∀ ty, (Builtin.append_ #[23, 3] ty #[.slice none 0 0, .int .i64 (n : Int)]).run Tryz.prog w =
      .ok (.slice (some ⟨w.heap.size, 0, none⟩) n (grownCap w n 0 34)) (w.drew.alloc (.cells (#[] ++ Builtin.zeroCells (Value.agg #[.string ⟨#[]⟩, .string ⟨#[]⟩]).cells n ++ Builtin.zeroCells (Value.agg #[.string ⟨#[]⟩, .string ⟨#[]⟩]).cells (grownCap w n 0 34 - n)) 34)) := fun ty => by
      have h := Lib.run_append_grow_zeros w 23 3 ty 34 i0 _ .i64 .i64 Tryz.underlying23 Tryz.underlying3 hi hz none 0 0 [] (run_firstCells_none w.drew i0.size 0 0 0) n (by omega) (by rw [hsz]; decide) (by omega) (by omega) (by rw [hby]; omega) (by rw [Nat.zero_add]; exact growslice_fits (by omega) (by rw [hby]; omega))
      rw [Nat.zero_add] at h
      exact h
    have hG1 : n ≤ grownCap w n 0 34 := grownCap_ge w _ _ _
    have hG2 : grownCap w n 0 34 ≤ maxLen := grownCap_le_maxLen w n 0 _ (by unfold maxLen; omega)
    obtain ⟨G, hG⟩ : ∃ G, G = grownCap w n 0 34 := ⟨_, rfl⟩
    rw [← hG] at hrz hG1 hG2
    obtain ⟨Z, hZ⟩ : ∃ Z, Z = (#[] ++ Builtin.zeroCells (Value.agg #[.string ⟨#[]⟩, .string ⟨#[]⟩]).cells n ++ Builtin.zeroCells (Value.agg #[.string ⟨#[]⟩, .string ⟨#[]⟩]).cells (G - n)) := ⟨_, rfl⟩
    have hZs : Z.size = G * 2 := by
      rw [hZ]
      simp only [Array.size_append, size_zeroCells, Value.cells, List.size_toArray, Array.size_empty]
      show 0 + n * 2 + (G - n) * 2 = G * 2
      omega
    rw [← hZ] at hrz
    have hG63 : G ≤ 9223372036854775807 := by unfold maxLen at hG2; exact hG2
    have hpos : (0 : Int) < (n : Int) := by omega
    clear hi hz hsz hby
    have HG := Lib.hid hG; have HZ := Lib.hid hZ; have HZs := Lib.hid hZs; have HG2 := Lib.hid hG2; have H0 := Lib.hid h0; clear hG hZ hZs hG2 h0
    go_enter Tryz.func122, Tryz.ntmps122
    go_wp2_with (at_builtin; refine Lib.wpList_append_run _ rfl _ _ _ _ rfl _ _ rfl rfl _ _ (hrz _) ?_)
    all_goals
      go_ret
      refine ⟨_, rfl, ⟨by simp, .inr ⟨_, G, Z, rfl, Nat.le_refl _, ?_, by omega, HG2.out, HZs.out, by simp⟩⟩, ?_⟩
      · exact heap_alloc_new _ _
      · exact bel_drewN (below_alloc1 w _) 1
def ConcSpPost (w : World) (l : List BSp) (e : Ending) (w' : World) : Prop := ∃ o, e = .returned o ∧ w'.ownsRow w.heap.size 34 2 o l.length (l.flatMap spCells) ∧ Below w.heap.size w w'
set_option maxRecDepth 10000 in
set_option maxHeartbeats 4000000 in
theorem concSpn_any {w : World} {g : Nat} {u v : Value} {a b : List BSp} (hg : w.heap[g]? = some (.cells #[u, v] 23 (0, 0))) (ha : RSps w [u] a) (hb : RSps w [v] b) (hla : a.length ≤ 400000) (hlb : b.length ≤ 400000) :
    Calls Tryz.prog 64 #[.slice (some ⟨g, 0, none⟩) 2 2] w (ConcSpPost w (a ++ b)) := by
  obtain ⟨Aa, Ca, rfl⟩ := sps_shape ha
  obtain ⟨Ab, Cb, rfl⟩ := sps_shape hb
  have hNwa := sps_news ha
  have hNwb := sps_news hb
  have c0 := cells_at hg 0
  have c1 := cells_at hg 1
  simp only [List.getElem?_toArray, List.getElem?_cons_succ, List.getElem?_cons_zero] at c0 c1
  have hG := growSpn_any (a.length + b.length) (by omega) w
  obtain ⟨na, hna⟩ : ∃ n, n = a.length := ⟨_, rfl⟩
  obtain ⟨nb, hnb⟩ : ∃ n, n = b.length := ⟨_, rfl⟩
  rw [← hna] at c0 hG
  rw [← hnb] at c1 hG
  rw [show ((na + nb : Nat) : Int) = (na : Int) + (nb : Int) by omega] at hG
  have hc0 := c0
  have hc1 := c1
  have w1 : IntKind.i64.wrap ((na : Int) + (nb : Int)) = (na : Int) + (nb : Int) := IntWalk.i64_in _ (by omega)
  have w0 : IntKind.i64.wrap (na : Int) = (na : Int) := IntWalk.i64_in _ (by omega)
  have p0 : ¬ (na : Int) < 0 := by omega
  have p1 : ¬ (na : Int) + (nb : Int) < 0 := by omega
  clear hg
  have Ha := Lib.hid ha; have Hb := Lib.hid hb; have HNwa := Lib.hid hNwa; have HNwb := Lib.hid hNwb; have HG := Lib.hid hG; have Hna := Lib.hid hna; have Hnb := Lib.hid hnb; have Hc0 := Lib.hid hc0; have Hc1 := Lib.hid hc1; have Hla := Lib.hid hla; have Hlb := Lib.hid hlb; clear ha hb hNwa hNwb hG hna hnb hc0 hc1 hla hlb
  go_enter Tryz.func64, Tryz.ntmps64
  go_wp2_with fail
  refine wp_loop_rounds 3 ?_
  rw [rounds_succ]
  go_wp2_with fail
  rw [rounds_succ]
  go_wp2_with fail
  rw [rounds_succ]
  go_wp2_with fail
  refine HG.out.mono ?_
  rintro e W ⟨o, rfl, hown, hbw⟩
  clear c0 c1 w0 w1 p0 p1
  have Hown := Lib.hid hown; have Hbw := Lib.hid hbw; clear hown hbw
  go_wp2_with fail
  go_loopw [6, 27] (fun x y wr => ∃ (k : Nat) (o : Value) (l : List BSp), x = o ∧ y = .int .i64 k ∧ ((k = 0 ∧ l = []) ∨ (k = 1 ∧ l = a) ∨ (k = 2 ∧ l = a ++ b)) ∧ wr.ownsRow w.heap.size 34 2 o l.length (l.flatMap spCells) ∧ Below w.heap.size w wr) (fun _ y _ => 3 - (intOf y).toNat)
  case atStart => exact ⟨0, _, [], rfl, rfl, .inl ⟨rfl, rfl⟩, Hown.out, Hbw.out⟩
  case round =>
    obtain ⟨k, o, l, rfl, rfl, hc, hown, hbw⟩ := hrel
    rcases hc with ⟨rfl, rfl⟩ | ⟨rfl, rfl⟩ | ⟨rfl, rfl⟩
    ·
      obtain ⟨m0, hm0⟩ : ∃ m, m = ([] : List BSp).length := ⟨_, rfl⟩
      obtain ⟨N0, hN0⟩ : ∃ m, m = ([] : List BSp).flatMap spCells := ⟨_, rfl⟩
      have hres := hown
      rw [← hm0, ← hN0] at hown
      obtain ⟨oa, oc, rfl⟩ := own_shape hown
      have hNa : ∀ j u, (a.flatMap spCells)[j]? = some u → ∃ b off, Aa = some ⟨b, off, none⟩ ∧ wr.cell? ⟨b, off + j, none⟩ = some u := fun j u hu => by
        obtain ⟨b, off, h1, h2⟩ := HNwa.out j u hu
        exact ⟨b, off, h1, cell_later hbw h2⟩
      have g0 := cell_later hbw Hc0.out
      have hbs : w.heap.size ≤ wr.heap.size := hbw.size
      have hm0b : m0 ≤ 1000000 := by rw [hm0]; have := Hla.out; have := Hlb.out; simp; try omega
      have hsb : na ≤ 1000000 := by have := Hla.out; have := Hlb.out; have := Hna.out; have := Hnb.out; omega
      obtain ⟨NS, hNS⟩ : ∃ NS, NS = a.flatMap spCells := ⟨_, rfl⟩
      have hl1 : NS.length = na * 2 := by rw [hNS, spsFlat_len, ← Hna.out]
      have hone : ∀ u ∈ NS, u.oneCell' = true := by rw [hNS]; exact sps_one a
      rw [← hNS] at hNa
      have Hm0 := Lib.hid hm0; have HN0 := Lib.hid hN0; have Hres := Lib.hid hres; have Hown := Lib.hid hown; have HNa := Lib.hid hNa; have Hbw := Lib.hid hbw; have Hbs := Lib.hid hbs; have HNS := Lib.hid hNS; have Hl1 := Lib.hid hl1; have Hone := Lib.hid hone; clear hm0 hN0 hres hown hNa hbw hbs hNS hl1 hone
      go_wp2_with (at_builtin; (refine wpList_append_from elem_spn rfl (.tmp 31) (.tmp 32) rfl w.heap.size (.slice oa m0 oc) m0 N0 rfl Hown.out Aa na Ca NS rfl Hl1.out HNa.out Hone.out (by omega) (by unfold maxLen; omega) Hbs.out ?_; intro v1 w1 hown1 hg1 hm1; have Hown1 := Lib.hid hown1; have Hg1 := Lib.hid hg1; clear hown1 hg1 hm1))
      have hb1 : Below w.heap.size w w1 := bel_own Hbw.out Hown.out (Nat.le_refl _) Hg1.out Hbs.out
      have hown2 : w1.ownsRow w.heap.size 34 2 v1 (a : List BSp).length ((a : List BSp).flatMap spCells) := by
        have h9 := Hown1.out
        rw [HN0.out, HNS.out, Hm0.out, Hna.out] at h9
        simpa using h9
      go_roundw
      case rel => exact ⟨1, v1, a, rfl, rfl, .inr (.inl ⟨rfl, rfl⟩), hown2, hb1⟩
      case measure => simp [intOf]
    ·
      obtain ⟨m0, hm0⟩ : ∃ m, m = (l : List BSp).length := ⟨_, rfl⟩
      obtain ⟨N0, hN0⟩ : ∃ m, m = (l : List BSp).flatMap spCells := ⟨_, rfl⟩
      have hres := hown
      rw [← hm0, ← hN0] at hown
      obtain ⟨oa, oc, rfl⟩ := own_shape hown
      have hNb : ∀ j u, (b.flatMap spCells)[j]? = some u → ∃ b off, Ab = some ⟨b, off, none⟩ ∧ wr.cell? ⟨b, off + j, none⟩ = some u := fun j u hu => by
        obtain ⟨b, off, h1, h2⟩ := HNwb.out j u hu
        exact ⟨b, off, h1, cell_later hbw h2⟩
      have g0 := cell_later hbw Hc1.out
      have hbs : w.heap.size ≤ wr.heap.size := hbw.size
      have hm0b : m0 ≤ 1000000 := by rw [hm0]; have := Hla.out; have := Hlb.out; simp; try omega
      have hsb : nb ≤ 1000000 := by have := Hla.out; have := Hlb.out; have := Hna.out; have := Hnb.out; omega
      obtain ⟨NS, hNS⟩ : ∃ NS, NS = b.flatMap spCells := ⟨_, rfl⟩
      have hl1 : NS.length = nb * 2 := by rw [hNS, spsFlat_len, ← Hnb.out]
      have hone : ∀ u ∈ NS, u.oneCell' = true := by rw [hNS]; exact sps_one b
      rw [← hNS] at hNb
      have Hm0 := Lib.hid hm0; have HN0 := Lib.hid hN0; have Hres := Lib.hid hres; have Hown := Lib.hid hown; have HNb := Lib.hid hNb; have Hbw := Lib.hid hbw; have Hbs := Lib.hid hbs; have HNS := Lib.hid hNS; have Hl1 := Lib.hid hl1; have Hone := Lib.hid hone; clear hm0 hN0 hres hown hNb hbw hbs hNS hl1 hone
      go_wp2_with (at_builtin; (refine wpList_append_from elem_spn rfl (.tmp 31) (.tmp 32) rfl w.heap.size (.slice oa m0 oc) m0 N0 rfl Hown.out Ab nb Cb NS rfl Hl1.out HNb.out Hone.out (by omega) (by unfold maxLen; omega) Hbs.out ?_; intro v1 w1 hown1 hg1 hm1; have Hown1 := Lib.hid hown1; have Hg1 := Lib.hid hg1; clear hown1 hg1 hm1))
      have hb1 : Below w.heap.size w w1 := bel_own Hbw.out Hown.out (Nat.le_refl _) Hg1.out Hbs.out
      have hown2 : w1.ownsRow w.heap.size 34 2 v1 (l ++ b : List BSp).length ((l ++ b : List BSp).flatMap spCells) := by
        have h9 := Hown1.out
        rw [HN0.out, HNS.out, Hm0.out, Hnb.out] at h9
        simpa using h9
      go_roundw
      case rel => exact ⟨2, v1, l ++ b, rfl, rfl, .inr (.inr ⟨rfl, rfl⟩), hown2, hb1⟩
      case measure => simp [intOf]
    · obtain ⟨oa, oc, rfl⟩ := own_shape hown
      have Hown := Lib.hid hown; have Hbw := Lib.hid hbw; clear hown hbw
      go_wp2_with fail
      go_ret
      exact ⟨_, rfl, Hown.out, Hbw.out⟩
end Go.Proofs.YteailgjiifdgcaaGreatDoor

/- The walks of spans.right, Union and Same. Condition: the library's variables as they were laid; at most two thousand spans of bounds of at most 9000 bytes. -/
namespace Go.Proofs.YteailgjiifdgcaaGreatDoor
open Go.Shelf Go.RowKit Go.Lib VerN

theorem sps_nil0 (w : World) : RSps w [.slice none 0 0] [] := ⟨_, 0, rfl, Nat.zero_le _, Nat.zero_le _, fun i x hi => by simp at hi⟩
/-- what Form hands back reads -/
def formR (l : List Tp) : List BSp := if formOk l = true then formB l else []
theorem smallB_formR (l : List Tp) : SmallB (formR l) := by
  unfold formR
  split
  · exact smallB_form _
  · exact smallB_nil
theorem formR_some (l : List Tp) : ∃ f, tB f = formR l := small_list (smallB_formR l)
/-- the form by its reading -/
theorem formR_any {w : World} {v : Value} {l : List Tp} (h : RSps w [v] (tB l)) (hl : l.length ≤ 2000) (hD : Doors w) : Calls Tryz.prog 51 #[v] w fun e w' => (∃ o, e = .returned (.tuple #[o, .bool (formOk l)]) ∧ RSps w' [o] (formR l)) ∧ Below w.heap.size w w' := by
  refine (form_any h (by omega) hD).mono ?_
  rintro e w' ⟨o, rfl, h1, h2, hb⟩
  refine ⟨⟨o, rfl, ?_⟩, hb⟩
  unfold formR
  cases hf : formOk l with
  | true =>
    rw [if_pos rfl]
    exact sps_reads (fun x hx => by have := smallB_form l x hx; unfold maxLen; omega) (h1 hf)
  | false =>
    rw [if_neg (by simp), h2 hf]
    exact sps_nil0 _
set_option maxRecDepth 10000 in
set_option maxHeartbeats 4000000 in
theorem right_any {w : World} {u v : Value} {a b : List Tp} (ha : RSps w [u] (tB a)) (hb : RSps w [v] (tB b)) (hla : a.length ≤ 2000) (hlb : b.length ≤ 2000) (hD : Doors w) : Calls Tryz.prog 63 #[u, v] w fun e w' => e = .returned (.bool (formOk a && formOk b)) ∧ Below w.heap.size w w' := by
  have hA := formR_any ha hla hD
  have hB := fun (W : World) (k : Below w.heap.size w W) => formR_any (stays_slice stays_spn _ _ _ _ hb k) hlb (hD.below k)
  obtain ⟨p, hp⟩ : ∃ p, p = formOk a := ⟨_, rfl⟩
  obtain ⟨q, hq⟩ : ∃ p, p = formOk b := ⟨_, rfl⟩
  rw [← hp] at hA ⊢
  rw [← hq] at hB ⊢
  have Ha := Lib.hid ha; have Hb := Lib.hid hb; have HA := Lib.hid hA; have HB := Lib.hid hB; have Hp := Lib.hid hp; have Hq := Lib.hid hq; clear ha hb hA hB hp hq
  go_enter Tryz.func63, Tryz.ntmps63
  go_wp2_with fail
  refine HA.out.mono ?_
  rintro e w1 ⟨⟨o, rfl, ho⟩, hb1⟩
  have Ho := Lib.hid ho; have Hb1 := Lib.hid hb1; clear ho hb1
  go_wp2_with fail
  refine (HB.out _ Hb1.out).mono ?_
  rintro e w2 ⟨⟨o2, rfl, ho2⟩, hb2⟩
  have hbw := Hb1.out.trans (hb2.mono Hb1.out.size)
  have Ho2 := Lib.hid ho2; have Hb2 := Lib.hid hb2; have Hbw := Lib.hid hbw; clear ho2 hb2 hbw
  cases p with
  | true =>
    go_wp2_with fail
    go_ret
    exact ⟨by simp, Hbw.out⟩
  | false =>
    go_wp2_with fail
    go_ret
    exact ⟨by simp, Hbw.out⟩
theorem pair_box (w : World) (u v : Value) (t : TypeId) : (w.alloc (.cells #[u, v] t)).heap[w.heap.size]? = some (.cells #[u, v] t (0, 0)) := heap_alloc_new _ _
set_option maxRecDepth 10000 in
set_option maxHeartbeats 4000000 in
theorem union_any {w : World} {u v : Value} {a b : List Tp} (ha : RSps w [u] (tB a)) (hb : RSps w [v] (tB b)) (hla : a.length ≤ 1000) (hlb : b.length ≤ 1000) (hD : Doors w) : Calls Tryz.prog 23 #[u, v] w fun e w' => (∃ o, e = .returned o ∧ RSps w' [o] (unionB a b)) ∧ Below w.heap.size w w' := by
  have hR := right_any ha hb (by omega) (by omega) hD
  obtain ⟨oa, ca, rfl⟩ := sps_shape ha
  obtain ⟨ob, cb, rfl⟩ := sps_shape hb
  obtain ⟨na, hna⟩ : ∃ n, n = (tB a).length := ⟨_, rfl⟩
  obtain ⟨nb, hnb⟩ : ∃ n, n = (tB b).length := ⟨_, rfl⟩
  rw [← hna] at hR ha ⊢
  rw [← hnb] at hR hb ⊢
  obtain ⟨p, hp⟩ : ∃ p, p = (formOk a && formOk b) := ⟨_, rfl⟩
  rw [← hp] at hR
  cases p with
  | false =>
    have hu : unionB a b = [] := by
      unfold unionB
      rw [if_neg]
      rintro ⟨h1, h2, _⟩
      rw [h1, h2] at hp
      cases hp
    rw [hu]
    have Ha := Lib.hid ha; have Hb := Lib.hid hb; have HR := Lib.hid hR; have Hp := Lib.hid hp; have Hu := Lib.hid hu; have Hna := Lib.hid hna; have Hnb := Lib.hid hnb; clear ha hb hR hp hu hna hnb
    go_enter Tryz.func23, Tryz.ntmps23
    go_wp2_with fail
    refine HR.out.mono ?_
    rintro e w1 ⟨rfl, hb1⟩
    have Hb1 := Lib.hid hb1; clear hb1
    go_wp2_with fail
    go_ret
    exact ⟨⟨_, rfl, sps_nil0 _⟩, Hb1.out⟩
  | true =>
    have hab : formOk a = true ∧ formOk b = true := by simpa using hp.symm
    have hu : unionB a b = formR (a ++ b) := by
      unfold unionB formR
      by_cases h : formOk (a ++ b) = true
      · rw [if_pos ⟨hab.1, hab.2, h⟩, if_pos h]
      · rw [if_neg (fun k => h k.2.2), if_neg h]
    rw [hu]
    have Ha := Lib.hid ha; have Hb := Lib.hid hb; have HR := Lib.hid hR; have Hp := Lib.hid hp; have Hu := Lib.hid hu; have Hab := Lib.hid hab; have HD := Lib.hid hD; have Hna := Lib.hid hna; have Hnb := Lib.hid hnb; clear ha hb hR hp hu hab hD hna hnb
    go_enter Tryz.func23, Tryz.ntmps23
    go_wp2_with fail
    refine HR.out.mono ?_
    rintro e w1 ⟨rfl, hb1⟩
    obtain ⟨w2, hw2⟩ : ∃ W, W = w1.alloc (.cells #[.slice oa na ca, .slice ob nb cb] 23) := ⟨_, rfl⟩
    obtain ⟨g, hg⟩ : ∃ g, g = w1.heap.size := ⟨_, rfl⟩
    have hb2 : Below w1.heap.size w1 w2 := by rw [hw2]; exact below_alloc1 _ _
    have hbw := hb1.trans (hb2.mono hb1.size)
    have hbox : w2.heap[g]? = some (.cells #[.slice oa na ca, .slice ob nb cb] 23 (0, 0)) := by rw [hw2, hg]; exact heap_alloc_new _ _
    have hC := concSpn_any hbox (stays_slice stays_spn _ _ _ _ Ha.out hbw) (stays_slice stays_spn _ _ _ _ Hb.out hbw) (by rw [List.length_map]; omega) (by rw [List.length_map]; omega)
    unfold ConcSpPost at hC
    rw [← tB_app] at hC
    have Hb1 := Lib.hid hb1; have Hb2 := Lib.hid hb2; have Hbw := Lib.hid hbw; have Hbox := Lib.hid hbox; have HC := Lib.hid hC; clear hb1 hb2 hbw hbox hC
    go_wp2_with fail
    rw [← hw2, ← hg]
    clear hw2 hg
    refine HC.out.mono ?_
    rintro e w3 ⟨o, rfl, ho, hb3⟩
    have hbw3 := Hbw.out.trans (hb3.mono Hbw.out.size)
    have hrd : RSps w3 [o] (tB (a ++ b)) := sps_reads (fun x hx => by have := smallB_tB _ x hx; unfold maxLen; omega) ho
    have hF := formR_any hrd (by rw [List.length_append]; omega) (HD.out.below hbw3)
    have Ho := Lib.hid ho; have Hb3 := Lib.hid hb3; have Hbw3 := Lib.hid hbw3; have Hrd := Lib.hid hrd; have HF := Lib.hid hF; clear ho hb3 hbw3 hrd hF
    go_wp2_with fail
    refine HF.out.mono ?_
    rintro e w4 ⟨⟨o4, rfl, ho4⟩, hb4⟩
    have hbw4 := Hbw3.out.trans (hb4.mono Hbw3.out.size)
    have Ho4 := Lib.hid ho4; have Hb4 := Lib.hid hb4; have Hbw4 := Lib.hid hbw4; clear ho4 hb4 hbw4
    go_wp2_with fail
    go_ret
    exact ⟨⟨_, rfl, Ho4.out⟩, Hbw4.out⟩
set_option maxRecDepth 10000 in
set_option maxHeartbeats 4000000 in
theorem spsSame_any {w : World} {u v : Value} {a b : List Tp} (ha : RSps w [u] (tB a)) (hb : RSps w [v] (tB b)) (hla : a.length ≤ 2000) (hlb : b.length ≤ 2000) (hD : Doors w) (hok : formOk a = true) (hok2 : formOk b = true) (he : formB a = formB b) : Calls Tryz.prog 26 #[u, v] w fun e w' => e = .returned (.bool true) ∧ Below w.heap.size w w' := by
  have hA := formR_any ha hla hD
  have hB := fun (W : World) (k : Below w.heap.size w W) => formR_any (stays_slice stays_spn _ _ _ _ hb k) hlb (hD.below k)
  have e : formR b = formR a := by unfold formR; rw [hok, hok2, he]
  rw [hok] at hA
  rw [hok2, e] at hB
  have Ha := Lib.hid ha; have Hb := Lib.hid hb; have HA := Lib.hid hA; have HB := Lib.hid hB; have Hok := Lib.hid hok; have Hok2 := Lib.hid hok2; have He := Lib.hid he; have He := Lib.hid e; clear ha hb hA hB hok hok2 he e
  go_enter Tryz.func26, Tryz.ntmps26
  go_wp2_with fail
  refine HA.out.mono ?_
  rintro e w1 ⟨⟨o, rfl, ho⟩, hb1⟩
  have Ho := Lib.hid ho; have Hb1 := Lib.hid hb1; clear ho hb1
  go_wp2_with fail
  refine (HB.out _ Hb1.out).mono ?_
  rintro e w2 ⟨⟨o2, rfl, ho2⟩, hb2⟩
  have hbw := Hb1.out.trans (hb2.mono Hb1.out.size)
  have hE := equalSpn_any (stays_slice stays_spn _ _ _ _ Ho.out hb2) ho2
  rw [decide_eq_true rfl] at hE
  have Ho2 := Lib.hid ho2; have Hb2 := Lib.hid hb2; have Hbw := Lib.hid hbw; have HE := Lib.hid hE; clear ho2 hb2 hbw hE
  go_wp2_with fail
  refine HE.out.mono ?_
  rintro e w3 ⟨rfl, q, rfl⟩
  have hbw3 := bel_drewN Hbw.out q
  have Hbw3 := Lib.hid hbw3; clear hbw3
  go_wp2_with fail
  go_ret
  exact ⟨rfl, Hbw3.out⟩
end Go.Proofs.YteailgjiifdgcaaGreatDoor

/- What the rounds of a loop over spans.both leave as it was; the append of a round; what the iterator hands over. Condition: the library's variables as they were laid; at most sixteen spans each, of bounds of at most 9000 bytes. -/
namespace Go.Proofs.YteailgjiifdgcaaGreatDoor
open Go.Shelf Go.RowKit Go.Lib VerN

/-- the blocks that belong to the row whose slice lies in block lc -/
def Owns (lc : Nat) (W : World) (k : Nat) : Prop := k = lc ∨ ∃ v, W.cell? ⟨lc, 0, none⟩ = some v ∧ v.ownBlock = some k
/-- whatever cells do not belong to the row lie as they lay; the row takes none that was there -/
structure StepK (lc : Nat) (A B : World) : Prop where
  size : A.heap.size ≤ B.heap.size
  keep : ∀ k o, A.heap[k]? = some o → o.isCells = true → ¬ Owns lc A k → B.heap[k]? = some o
  same : ∀ k, k < A.heap.size → Owns lc B k → Owns lc A k
  sane : (∀ k, Owns lc A k → k < A.heap.size) → ∀ k, Owns lc B k → k < B.heap.size
theorem StepK.refl (lc : Nat) (A : World) : StepK lc A A := ⟨Nat.le_refl _, fun _ _ h _ _ => h, fun _ _ h => h, fun h => h⟩
theorem heap_lt {W : World} {k : Nat} {o : Obj} (h : W.heap[k]? = some o) : k < W.heap.size := (Array.getElem?_eq_some_iff.1 h).1
theorem StepK.trans {lc : Nat} {A B C : World} (h : StepK lc A B) (k : StepK lc B C) : StepK lc A C :=
  ⟨Nat.le_trans h.size k.size, fun i o hi hc hn => k.keep i o (h.keep i o hi hc hn) hc fun ho => hn (h.same i (heap_lt hi) ho), fun i hi ho => h.same i hi (k.same i (Nat.lt_of_lt_of_le hi h.size) ho), fun hs => k.sane (h.sane hs)⟩
theorem owns_below {lc n : Nat} {A B : World} (h : Below n A B) (hl : lc < n) (k : Nat) : Owns lc B k ↔ Owns lc A k := by
  unfold Owns
  rw [h.cell (p := ⟨lc, 0, none⟩) hl]
theorem StepK.below {lc : Nat} {A B : World} (h : Below A.heap.size A B) (hl : lc < A.heap.size) : StepK lc A B :=
  ⟨h.size, fun _ _ hk _ _ => heap_below h hk, fun k _ ho => (owns_below h hl k).1 ho, fun hs k ho => Nat.lt_of_lt_of_le (hs k ((owns_below h hl k).1 ho)) h.size⟩
theorem StepK.put {lc n : Nat} (hl : lc < n) (W : World) (l : Nat) (o o' : Obj) (hn : n ≤ l) (h : W.heap[l]? = some o) (ho : o.isCells = false) : StepK lc W (W.putObj l o') := by
  have hb : Below n W (W.putObj l o') := (Below.refl n W).grown (grownBy_putObj' W l o') (by have := heap_lt h; omega) (fun k e => by cases e; omega)
  have hsz : (W.putObj l o').heap.size = W.heap.size := by simp [World.putObj]
  refine ⟨by omega, fun k ob hk hc _ => ?_, fun k _ hk => (owns_below hb hl k).1 hk, fun hs k hk => by rw [hsz]; exact hs k ((owns_below hb hl k).1 hk)⟩
  have hne : k ≠ l := fun e => by subst e; rw [h] at hk; cases hk; rw [ho] at hc; cases hc
  exact (World.putObj_heap_other hne).trans hk
/-- and what lay ahead of all lies as it lay -/
def StepB (lc n₀ : Nat) (A B : World) : Prop := StepK lc A B ∧ Below n₀ A B
theorem StepB.refl (lc n₀ : Nat) (A : World) : StepB lc n₀ A A := ⟨StepK.refl _ _, Below.refl _ _⟩
theorem StepB.trans {lc n₀ : Nat} {A B C : World} (h : StepB lc n₀ A B) (k : StepB lc n₀ B C) : StepB lc n₀ A C := ⟨h.1.trans k.1, h.2.trans k.2⟩
theorem StepB.below {lc n₀ : Nat} {A B : World} (h : Below A.heap.size A B) (hl : lc < A.heap.size) (hn : n₀ ≤ A.heap.size) : StepB lc n₀ A B := ⟨StepK.below h hl, h.mono hn⟩
theorem StepB.put {lc n₀ n : Nat} (hl : lc < n) (hn0 : n₀ ≤ n) (W : World) (l : Nat) (o o' : Obj) (hn : n ≤ l) (h : W.heap[l]? = some o) (ho : o.isCells = false) : StepB lc n₀ W (W.putObj l o') :=
  ⟨StepK.put hl W l o o' hn h ho, (Below.refl n₀ W).grown (grownBy_putObj' W l o') (by have := heap_lt h; omega) (fun k e => by cases e; omega)⟩
theorem cell_keeps {A B : World} {b i : Nat} {v : Value} (h : A.cell? ⟨b, i, none⟩ = some v) (hk : ∀ o, A.heap[b]? = some o → o.isCells = true → B.heap[b]? = some o) : B.cell? ⟨b, i, none⟩ = some v := by
  unfold World.cell? at h ⊢
  simp only at h ⊢
  cases hb : A.heap[b]? with
  | none => rw [hb] at h; cases h
  | some o =>
    rw [hb] at h
    cases o with
    | cells c e f => rw [hk _ hb rfl]; exact h
    | _ => simp at h
/-- the append of a round, and where the row lies behind it -/
theorem wpListIn_append_where {F : Fence} {n : Nat} {P : Program} (w : World) {ops : Array Oper} {rest : List Oper} {o : Oper} {a : Act} {Q : Exit → Act → World → Prop}
    (hg : o.guard = none) (s x : Operand) (t : TypeId) (hop : o.op = Op.call { callee := Callee.builtin Builtin.append, args := #[s, x], argTypes := #[t, t] })
    (base : Nat) (e : TypeId) (i : TypeInfo) (z : Value) (size bytes : Nat) (h1 : P.underlying t = some (.slice e)) (h2 : P.info? e = some i) (h3 : i.zero = some z) (h4 : i.size = size) (h5 : i.bytes = bytes) (h6 : z.cells.size = size) (h7 : 0 < size)
    (v : Value) (k : Nat) (xs : List Value) (hs : a.eval s = v) (hown : w.ownsRow base e size v k xs) (ad : Addr) (m c : Nat) (news : List Value) (hx : a.eval x = .slice (some ad) m c) (hn : news.length = m * size)
    (hc : ∀ j u, news[j]? = some u → w.cell? (ad.add j) = some u) (h1c : ∀ u ∈ news, u.oneCell' = true) (b1 : k + m ≤ maxLen) (b2 : (k + m) * bytes ≤ 140737488355328) (b3 : base ≤ w.heap.size)
    (hK : ∀ v' w', w'.ownsRow base e size v' (k + m) (xs ++ news) → w.grownBy w' v.ownBlock → (v'.ownBlock = v.ownBlock ∨ v'.ownBlock = some w.heap.size) → wpListIn F n P ops Q rest (a.put o.dst v') w') :
    wpListIn F n P ops Q (o :: rest) a w := by
  refine wpListIn_plain hg fun K hK' => ?_
  obtain ⟨v', w', hrun, r1, r2, r3⟩ := run_append_where (P := P) w base t o.type e i z size bytes h1 h2 h3 h4 h5 h6 h7 v k xs hown ad m c news hn hc h1c b1 b2 b3
  unfold Oper.wpIn
  refine ⟨?_, ?_⟩
  · simp [Oper.about, hop, resolve, Target.leads, Sem.run_pure]
  · rw [Oper.semAt_plain F _ _ (by rw [hop]; intro c hc'; cases hc')]
    simp [execOp, hop, resolve, invoke, builtin, hs, hx, hrun, Result.andThen]
    exact hK' _ _ (hK v' w' r1 r2 r3)
/-! what the iterator hands over -/
def rowB (a : BSp) (G : List BSp) : List BSp := (G.filter fun b => meetOk (dS a) (dS b)).map fun b => mtV a.1 a.2 b.1 b.2
theorem pairsB_rows (F G : List BSp) : pairsB F G = F.flatMap fun a => rowB a G := rfl
theorem rowB_take {a : BSp} {G : List BSp} {k : Nat} (h : k < G.length) : rowB a (G.take (k + 1)) = if meetOk (dS a) (dS G[k]) = true then rowB a (G.take k) ++ [mtV a.1 a.2 G[k].1 G[k].2] else rowB a (G.take k) := by
  unfold rowB
  rw [List.take_succ_eq_append_getElem h, List.filter_append, List.map_append]
  cases hm : meetOk (dS a) (dS G[k]) with
  | true => simp [List.filter_cons, hm]
  | false => simp [List.filter_cons, hm]
theorem pairsB_take {F G : List BSp} {i : Nat} (h : i < F.length) : pairsB (F.take (i + 1)) G = pairsB (F.take i) G ++ rowB F[i] G := by
  rw [pairsB_rows, pairsB_rows, List.take_succ_eq_append_getElem h, List.flatMap_append]
  simp
theorem rowB_len (a : BSp) (G : List BSp) : (rowB a G).length ≤ G.length := by
  unfold rowB
  rw [List.length_map]
  exact List.length_filter_le _ _
theorem pairsB_len : ∀ (F G : List BSp), (pairsB F G).length ≤ F.length * G.length
  | [], _ => by simp [pairsB]
  | a :: F, G => by
    have h := pairsB_len F G
    have h2 := rowB_len a G
    have e : pairsB (a :: F) G = rowB a G ++ pairsB F G := by rw [pairsB_rows, List.flatMap_cons]; rfl
    rw [e, List.length_append, List.length_cons, Nat.succ_mul]
    omega
end Go.Proofs.YteailgjiifdgcaaGreatDoor

/- The walk of spans.both: what the iterator hands over. Condition: the library's variables as they were laid; at most sixteen spans each, of bounds of at most 9000 bytes. -/
namespace Go.Proofs.YteailgjiifdgcaaGreatDoor
open Go.Shelf Go.RowKit Go.Lib VerN

attribute [local go_sem] Oper.semAt_some

abbrev LBox (k : Nat) (v : Value) (W : World) : Prop := W.heap[k]? = some (.cells #[v] 23 (0, 0))
abbrev SpBox (k : Nat) (x y : ByteArray) (W : World) : Prop := W.heap[k]? = some (.cells #[.string x, .string y] 34 (0, 0))
theorem owns_nil {lc : Nat} {W : World} (h : LBox lc (.slice none 0 0) W) {k : Nat} (ho : Owns lc W k) : k = lc := by
  rcases ho with e | ⟨v, hv, hb⟩
  · exact e
  · have h0 : W.cell? ⟨lc, 0, none⟩ = some (.slice none 0 0) := cells_at h 0
    rw [h0] at hv
    cases hv
    simp [Value.ownBlock] at hb
theorem lbox_no {lc : Nat} {v : Value} {W : World} (h : LBox lc v W) (hv : ∀ s, v ≠ .string s) {j : Nat} {s : ByteArray} (hc : W.cell? ⟨lc, j, none⟩ = some (.string s)) : False := by
  have h0 := cells_at h j
  rw [h0] at hc
  match j, hc with
  | 0, hc => simp at hc; exact hv s hc
  | j + 1, hc => simp at hc
set_option linter.unusedSimpArgs false in
set_option maxRecDepth 100000 in
set_option maxHeartbeats 8000000 in
theorem both_stops (n : Nat) (hn : 1 ≤ n) (lc Bx By : Nat) (ux uy : Value) (X Y : List BSp) (hX : SmallB X) (hY : SmallB Y) (hlx : X.length ≤ 16) (hly : Y.length ≤ 16) (w : World) (hc0 : LBox lc (.slice none 0 0) w) (hbx : LBox Bx ux w) (hby : LBox By uy w) (hnx : Bx ≠ lc) (hny : By ≠ lc) (hrx : RSps w [ux] X) (hry : RSps w [uy] Y) (n₀ : Nat) (hn₀ : n₀ ≤ lc) (hD : ∀ W', Below n₀ w W' → Doors W') :
    SeqStopsK Fence.wide n Tryz.prog 120 #[.pointer (some ⟨Bx, 0, none⟩), .pointer (some ⟨By, 0, none⟩)] (fun s : BSp => #[.agg #[.string s.1, .string s.2]]) (StepB lc n₀) (fun ys => ys = pairsB X Y) (fun _ => True) 300 w := by
  intro l J Jx W hW hJ hJx hYd h0
  have hJb : ∀ s A B, J s A → Below A.heap.size A B → J s B := fun s A B h hb => hJ s A B none h (grownBy_of_below hb) (by simp)
  have hc1 : LBox lc (.slice none 0 0) W := heap_below hW hc0
  have hbx1 : LBox Bx ux W := heap_below hW hbx
  have hby1 : LBox By uy W := heap_below hW hby
  have hrx1 := stays_slice stays_spn _ _ _ _ hrx hW
  have hry1 := stays_slice stays_spn _ _ _ _ hry hW
  have hlc : lc < W.heap.size := heap_lt hc1
  have hsane : ∀ k, Owns lc W k → k < W.heap.size := fun k ho => by rw [owns_nil hc1 ho]; exact hlc
  have hkw : ∀ wr, StepB lc n₀ W wr → ∀ k o, W.heap[k]? = some o → o.isCells = true → k ≠ lc → wr.heap[k]? = some o := fun wr hs k o hk hc hne => hs.1.keep k o hk hc fun ho => hne (owns_nil hc1 ho)
  have hel : ∀ (wr : World), StepB lc n₀ W wr → ∀ (b j : Nat) (s : ByteArray), W.cell? ⟨b, j, none⟩ = some (.string s) → wr.cell? ⟨b, j, none⟩ = some (.string s) := fun wr hs b j s h => cell_keeps h fun o ho hc => hkw wr hs b o ho hc fun e => by
    subst e
    exact lbox_no hc1 (fun s e => by cases e) h
  obtain ⟨ax, cx, rfl⟩ := sps_shape hrx1
  obtain ⟨ay, cy, rfl⟩ := sps_shape hry1
  have hatx := sps_at hrx1
  have haty := sps_at hry1
  obtain ⟨nx, hnx'⟩ : ∃ n, n = X.length := ⟨_, rfl⟩
  obtain ⟨ny, hny'⟩ : ∃ n, n = Y.length := ⟨_, rfl⟩
  rw [← hnx'] at hbx1 hlx
  rw [← hny'] at hby1 hly
  have d1 : W.cell? ⟨Bx, 0, none⟩ = some (.slice ax nx cx) := cells_at hbx1 0
  have hDW : ∀ wr, Below n₀ W wr → Doors wr := fun wr hb => hD wr ((hW.mono (by have := heap_lt hc0; omega)).trans hb)
  clear hbx hby hc0 hrx hry hrx1 hry1
  have HX := Lib.hid hX; have HY := Lib.hid hY; have HW := Lib.hid hW; have HJ := Lib.hid hJ; have HJx := Lib.hid hJx; have HYd := Lib.hid hYd; have HJb := Lib.hid hJb; have Hc1 := Lib.hid hc1; have Hbx1 := Lib.hid hbx1; have Hby1 := Lib.hid hby1; have Hsane := Lib.hid hsane; have Hkw := Lib.hid hkw; have Hel := Lib.hid hel; have Hatx := Lib.hid hatx; have Haty := Lib.hid haty; have Hnx' := Lib.hid hnx'; have Hny' := Lib.hid hny'; have HD := Lib.hid hD; have HDW := Lib.hid hDW; clear hX hY hW hJ hJx hYd hJb hc1 hbx1 hby1 hsane hkw hel hatx haty hnx' hny' hD hDW
  refine callsIn_of_wp Tryz.func120 rfl trivial ?_ rfl
  simp only [Tryz.ntmps120, List.size_toArray, List.length_cons, List.length_nil, Nat.reduceAdd, Nat.reduceSub, Array.replicate_succ, Array.replicate_zero, List.push_toArray, List.append_toArray, List.nil_append, List.cons_append]
  gi_wp2
  gi_loopw [12] (fun v wr => ∃ i : Nat, i ≤ nx ∧ v = .int .i64 i ∧ J (pairsB (X.take i) Y) wr ∧ StepB lc n₀ W wr) (fun v _ => nx - (RowKit.intOf v).toNat)
  case atStart => exact ⟨0, Nat.zero_le _, rfl, h0, StepB.refl _ _ _⟩
  case round =>
    obtain ⟨i, hi, rfl, hJi, hst⟩ := hrel
    by_cases hlt : i < nx
    · have hiX : i < X.length := by have := Hnx'.out; omega
      obtain ⟨x, hx⟩ : ∃ x, x = X[i] := ⟨_, rfl⟩
      obtain ⟨b, off, rfl, f0, f1⟩ := Hatx.out i x (by rw [hx]; exact List.getElem?_eq_getElem hiX)
      have g0 := Hel.out wr hst _ _ _ f0
      have g1 := Hel.out wr hst _ _ _ f1
      have hxs := HX.out x (by rw [hx]; exact List.getElem_mem hiX)
      have hnext := pairsB_take (G := Y) hiX
      have hprel : (pairsB (X.take i) Y).length ≤ 240 := by
        have h9 := pairsB_len (X.take i) Y
        rw [List.length_take, Nat.min_eq_left (by omega), ← Hny'.out] at h9
        have h8 : i * ny ≤ 15 * 16 := Nat.mul_le_mul (by omega) hly
        omega
      rw [← hx] at hnext
      obtain ⟨pre, hpre⟩ : ∃ p, p = pairsB (X.take i) Y := ⟨_, rfl⟩
      rw [← hpre] at hJi hnext hprel
      obtain ⟨x1, hx1⟩ : ∃ s, s = x.1 := ⟨_, rfl⟩
      obtain ⟨x2, hx2⟩ : ∃ s, s = x.2 := ⟨_, rfl⟩
      rw [← hx1] at g0
      rw [← hx2] at g1
      obtain ⟨W1, hW1⟩ : ∃ V, V = wr.alloc (.cells #[.string x1, .string x2] 34) := ⟨_, rfl⟩
      obtain ⟨bx, hbx⟩ : ∃ b, b = wr.heap.size := ⟨_, rfl⟩
      have hb1 : Below wr.heap.size wr W1 := by rw [hW1]; exact below_alloc1 _ _
      have hlr : lc < wr.heap.size := Nat.lt_of_lt_of_le (heap_lt Hc1.out) hst.1.size
      have hn0r : n₀ ≤ wr.heap.size := by omega
      have hst1 : StepB lc n₀ W W1 := hst.trans (StepB.below hb1 hlr hn0r)
      have hx0 : SpBox bx x1 x2 W1 := by rw [hW1, hbx]; exact heap_alloc_new _ _
      have hnox : ¬ Owns lc W1 bx := fun ho => by
        have h9 := hst.1.sane Hsane.out bx ((owns_below hb1 hlr bx).1 ho)
        omega
      have hJ1 := HJb.out _ _ _ hJi hb1
      have hy1 : LBox By (.slice ay ny cy) W1 := Hkw.out W1 hst1 By _ Hby1.out rfl hny
      have e1 : (wr.alloc (.cells #[.string x1, .string x2] 34)).cell? ⟨By, 0, none⟩ = some (.slice ay ny cy) := by rw [← hW1]; exact cells_at hy1 0
      have k5 : (0 : Int) ≤ (i : Int) := by omega
      have k6 : (i : Int) < (nx : Int) := by omega
      clear f0 f1 d1
      have HJi := Lib.hid hJi; have Hst := Lib.hid hst; have Hx := Lib.hid hx; have Hxs := Lib.hid hxs; have Hnext := Lib.hid hnext; have Hprel := Lib.hid hprel; have Hpre := Lib.hid hpre; have Hx1 := Lib.hid hx1; have Hx2 := Lib.hid hx2; have Hb1 := Lib.hid hb1; have Hst1 := Lib.hid hst1; have Hx0 := Lib.hid hx0; have Hnox := Lib.hid hnox; have HJ1 := Lib.hid hJ1; have Hy1 := Lib.hid hy1; clear hJi hst hx hxs hnext hprel hpre hx1 hx2 hb1 hst1 hx0 hnox hJ1 hy1
      gi_wp2
      rw [← hW1, ← hbx]
      clear hW1 hbx e1 g0 g1
      gi_loopw [18] (fun v wr => ∃ k : Nat, k ≤ ny ∧ v = .int .i64 k ∧ J (pre ++ rowB x (Y.take k)) wr ∧ StepB lc n₀ W1 wr) (fun v _ => ny - (RowKit.intOf v).toNat)
      case atStart => exact ⟨0, Nat.zero_le _, rfl, by rw [show rowB x (Y.take 0) = [] from rfl, List.append_nil]; exact HJ1.out, StepB.refl _ _ _⟩
      case round =>
        obtain ⟨k, hk, rfl, hJk, hsk⟩ := hrel
        by_cases hlk : k < ny
        · have hkY : k < Y.length := by have := Hny'.out; omega
          obtain ⟨y, hy⟩ : ∃ y, y = Y[k] := ⟨_, rfl⟩
          obtain ⟨b2, off2, rfl, f0, f1⟩ := Haty.out k y (by rw [hy]; exact List.getElem?_eq_getElem hkY)
          have hstw := Hst1.out.trans hsk
          have g0 := Hel.out wr hstw _ _ _ f0
          have g1 := Hel.out wr hstw _ _ _ f1
          have hys := HY.out y (by rw [hy]; exact List.getElem_mem hkY)
          have hrow := rowB_take (a := x) hkY
          have hPl : (pre ++ rowB x (Y.take k)).length < 300 := by
            have h9 := rowB_len x (Y.take k)
            rw [List.length_take] at h9
            have := Hprel.out
            rw [List.length_append]
            omega
          rw [← hy] at hrow
          have hxs := Hxs.out
          obtain ⟨m1, m2, hmv⟩ : ∃ p q, (p, q) = mtV x.1 x.2 y.1 y.2 := ⟨_, _, rfl⟩
          obtain ⟨ok, hok⟩ : ∃ b, b = meetOk (dS x) (dS y) := ⟨_, rfl⟩
          have hok2 : meetOk (x.1.data.toList, x.2.data.toList) (y.1.data.toList, y.2.data.toList) = ok := hok.symm
          obtain ⟨V1, hV1⟩ : ∃ V, V = wr.alloc (.cells #[.string y.1, .string y.2] 34) := ⟨_, rfl⟩
          have hbV : Below wr.heap.size wr V1 := by rw [hV1]; exact below_alloc1 _ _
          have hlr : lc < wr.heap.size := Nat.lt_of_lt_of_le (heap_lt Hc1.out) hstw.1.size
          have hn0r : n₀ ≤ wr.heap.size := by omega
          have hsV : StepB lc n₀ wr V1 := StepB.below hbV hlr hn0r
          have hxr : SpBox bx x1 x2 wr := hsk.1.keep bx _ Hx0.out rfl Hnox.out
          have hM := meet_any x.1 x.2 y.1 y.2 (by omega) (by omega) (by omega) (by omega) (HDW.out V1 (hstw.trans hsV).2)
          rw [← hmv, hok2, ← Hx1.out, ← Hx2.out] at hM
          rw [← hmv, ← hok] at hrow
          have xa : (wr.alloc (.cells #[.string y.1, .string y.2] 34)).heap[bx]? = some (.cells #[.string x1, .string x2] 34 (0, 0)) := heap_below (below_alloc1 _ _) hxr
          obtain ⟨xa0, xa1, _, _⟩ := pair_cells xa
          obtain ⟨y1, hy1⟩ : ∃ s, s = y.1 := ⟨_, rfl⟩
          obtain ⟨y2, hy2⟩ : ∃ s, s = y.2 := ⟨_, rfl⟩
          rw [← hy1] at g0
          rw [← hy2] at g1
          rw [← hy1, ← hy2] at hM xa0 xa1 hV1
          have k7 : (0 : Int) ≤ (k : Int) := by omega
          have k8 : (k : Int) < (ny : Int) := by omega
          clear f0 f1 hok2 xa
          have HJk := Lib.hid hJk; have Hsk := Lib.hid hsk; have Hstw := Lib.hid hstw; have Hy := Lib.hid hy; have Hys := Lib.hid hys; have Hrow := Lib.hid hrow; have HPl := Lib.hid hPl; have Hxs := Lib.hid hxs; have Hmv := Lib.hid hmv; have Hok := Lib.hid hok; have HbV := Lib.hid hbV; have HsV := Lib.hid hsV; have Hxr := Lib.hid hxr; have HM := Lib.hid hM; have Hy1 := Lib.hid hy1; have Hy2 := Lib.hid hy2; clear hJk hsk hstw hy hys hrow hPl hxs hmv hok hbV hsV hxr hM hy1 hy2
          gi_wp2
          rw [← hV1]
          clear xa0 xa1 hV1
          refine ⟨trivial, (callsIn_wide.2 HM.out).mono ?_⟩
          rintro e W3 ⟨rfl, hb3⟩
          obtain ⟨V2, hV2⟩ : ∃ V, V = W3.alloc (.cells #[.string m1, .string m2] 34) := ⟨_, rfl⟩
          have hb2 : Below V1.heap.size V1 V2 := by rw [hV2]; exact hb3.alloc hb3.size _
          have hlV : lc < V1.heap.size := Nat.lt_of_lt_of_le hlr HbV.out.size
          have hs2 : StepB lc n₀ wr V2 := HsV.out.trans (StepB.below hb2 hlV (by have := HbV.out.size; omega))
          have hJ2 := HJb.out _ _ _ (HJb.out _ _ _ HJk.out HbV.out) hb2
          cases ok with
          | false =>
            have hrow2 : rowB x (Y.take (k + 1)) = rowB x (Y.take k) := by rw [Hrow.out]; simp
            rw [← hrow2] at hJ2
            have hsk2 := Hsk.out.trans hs2
            rw [hV2] at hJ2 hsk2
            have Hb3 := Lib.hid hb3; have HJ2 := Lib.hid hJ2; have Hsk2 := Lib.hid hsk2; clear hb3 hJ2 hsk2
            clear hV2 hb2 hs2
            gi_wp2
            refine ⟨(fun f hf => by cases hf), ?_⟩
            gi_wp2
            go_roundw
            case rel => exact ⟨k + 1, by omega, by simp, HJ2.out, Hsk2.out⟩
            case measure => simp [RowKit.intOf]; omega
          | true =>
            have hrow2 : rowB x (Y.take (k + 1)) = rowB x (Y.take k) ++ [(m1, m2)] := by rw [Hrow.out]; simp
            have hsk2 := Hsk.out.trans hs2
            rw [hV2] at hJ2 hsk2
            obtain ⟨fn, tmps, assign, body, hyl, hR⟩ := HYd.out _ (m1, m2) _ hJ2 HPl.out
            rw [List.append_assoc, ← hrow2] at hR
            have Hb3 := Lib.hid hb3; have HJ2 := Lib.hid hJ2; have Hsk2 := Lib.hid hsk2; have Hrow2 := Lib.hid hrow2; clear hb3 hJ2 hsk2 hrow2
            clear hV2 hb2 hs2
            gi_wp2
            refine hR.mono ?_
            rintro e W5 (⟨rfl, hJ5, hk5⟩ | ⟨rfl, hJx5⟩)
            · have hsk5 := Hsk2.out.trans hk5
              have HJ5 := Lib.hid hJ5; have Hk5 := Lib.hid hk5; have Hsk5 := Lib.hid hsk5; clear hJ5 hk5 hsk5
              gi_wp2
              go_roundw
              case rel => exact ⟨k + 1, by omega, by simp, HJ5.out, Hsk5.out⟩
              case measure => simp [RowKit.intOf]; omega
            · gi_wp2
              refine bodyPost_ret (results_none rfl _ _ _) rfl ?_
              exact ⟨⟨_, rfl⟩, .inr ⟨_, trivial, hJx5⟩⟩
        · obtain rfl : k = ny := by omega
          have e : Y.take k = Y := List.take_of_length_le (Nat.le_of_eq Hny'.out.symm)
          rw [e, ← Hnext.out] at hJk
          have hstw := Hst1.out.trans hsk
          clear e
          have HJk := Lib.hid hJk; have Hsk := Lib.hid hsk; have Hstw := Lib.hid hstw; clear hJk hsk hstw
          gi_wp2
          go_roundw
          case rel => exact ⟨i + 1, by omega, by simp, HJk.out, Hstw.out⟩
          case measure => simp [RowKit.intOf]; omega
    · obtain rfl : i = nx := by omega
      have e : X.take i = X := List.take_of_length_le (Nat.le_of_eq Hnx'.out.symm)
      rw [e] at hJi
      clear e
      gi_wp2
      go_end0
      exact ⟨⟨_, rfl⟩, .inl ⟨_, rfl, hJi⟩⟩
end Go.Proofs.YteailgjiifdgcaaGreatDoor

/- The walk of spans.Meet: what two sets have in common. Condition: the library's variables as they were laid; at most two thousand spans of bounds of at most 9000 bytes. -/
namespace Go.Proofs.YteailgjiifdgcaaGreatDoor
open Go.Shelf Go.RowKit Go.Lib VerN

attribute [local go_sem] Oper.semAt_some

theorem info_span2 : (Tryz.prog.info? 34).map (fun i => (i.zero, i.size, i.bytes)) = some (some (.agg #[.string ⟨#[]⟩, .string ⟨#[]⟩]), 2, 32) := by kernel_rfl
set_option maxRecDepth 10000 in
theorem both_any (a b : Option Addr) (n m c d : Nat) (w : World) : Calls Tryz.prog 62 #[.slice a n c, .slice b m d] w fun e w' => e = .returned (.func (.func 120) #[] #[.pointer (some ⟨w.heap.size, 0, none⟩), .pointer (some ⟨w.heap.size + 1, 0, none⟩)]) ∧ w' = (w.alloc (.cells #[.slice a n c] 23)).alloc (.cells #[.slice b m d] 23) := by
  go_enter Tryz.func62, Tryz.ntmps62
  go_wp2
  go_ret
  exact ⟨rfl, rfl⟩
theorem lit2' (w : World) (x y : Value) (t : TypeId) {n : Nat} (hn : w.heap.size = n) : ∀ j u, [x, y][j]? = some u → (w.alloc (.cells #[x, y] t)).cell? ((⟨n, 0, none⟩ : Addr).add j) = some u := by
  intro j u hu
  subst hn
  rw [Addr.add_lit, Nat.zero_add, World.cell?_alloc_new]
  simpa using hu
/-- between two rounds -/
structure MI (lc : Nat) (w5 W : World) (pre : List BSp) : Prop where
  bel : Below lc w5 W
  size : lc + 3 ≤ W.heap.size
  row : ∃ v, LBox lc v W ∧ W.ownsRow (lc + 3) 34 2 v pre.length (pre.flatMap spCells)
theorem MI.own {lc B : Nat} {w5 : World} (hB : lc + 3 ≤ B) : OwnFrom B (fun (pre : List BSp) W => MI lc w5 W pre) := by
  rintro pre W W' row h hg hr
  have hr' : ∀ r, row = some r → B ≤ r := fun r e => (hr r e).1
  obtain ⟨v, hv, hrow⟩ := h.row
  have hs := h.size
  refine ⟨h.bel.grown hg (by omega) (fun k e => by have := hr' k e; omega), by have := hg.size; omega, v, heap_kept hg hr' (by omega) hv, hrow.kept hg ?_⟩
  rcases hrow.2 with ⟨rfl, _⟩ | ⟨g, cap, cur, rfl, _, hgb, _⟩
  · exact .inl rfl
  · refine .inr fun e' => ?_
    obtain ⟨_, o, ho, hc⟩ := hr g (by simpa [Value.ownBlock] using e'.symm)
    rw [hgb] at ho
    cases ho
    cases hc
theorem MI.below {lc : Nat} {w5 W W' : World} {pre : List BSp} (h : MI lc w5 W pre) (hb : Below W.heap.size W W') : MI lc w5 W' pre := by
  obtain ⟨v, hv, hrow⟩ := h.row
  have hs := h.size
  exact ⟨h.bel.trans (hb.mono (by omega)), by have := hb.size; omega, v, heap_below hb hv, ownsRow_below hrow hb⟩
/-- a span that is added -/
theorem MI.add {lc : Nat} {w5 W w1 : World} {pre : List BSp} {x : BSp} {tmp : Obj} {B : Nat} (h : MI lc w5 W pre) {v v' : Value} (hv : LBox lc v W) (hrow : W.ownsRow (lc + 3) 34 2 v pre.length (pre.flatMap spCells))
    (hown : w1.ownsRow (lc + 3) 34 2 v' (pre.length + 1) (pre.flatMap spCells ++ spCells x)) (hg : (W.alloc tmp).grownBy w1 v.ownBlock) (hm : v'.ownBlock = v.ownBlock ∨ v'.ownBlock = some (W.alloc tmp).heap.size) :
    KeepsFrom B W (w1.setCell ⟨lc, 0, none⟩ v') ∧ StepB lc lc W (w1.setCell ⟨lc, 0, none⟩ v') ∧ MI lc w5 (w1.setCell ⟨lc, 0, none⟩ v') (pre ++ [x]) ∧ LBox lc v w1 := by
  have hs := h.size
  have hb3 : Below W.heap.size W (W.alloc tmp) := below_alloc1 _ _
  have hz3 : W.heap.size ≤ (W.alloc tmp).heap.size := hb3.size
  have hrow3 : (W.alloc tmp).ownsRow (lc + 3) 34 2 v pre.length (pre.flatMap spCells) := ownsRow_below hrow hb3
  have hz : W.heap.size ≤ w1.heap.size := Nat.le_trans hz3 hg.size
  have hz2 : (w1.setCell ⟨lc, 0, none⟩ v').heap.size = w1.heap.size := by simp [World.setCell]
  have old : ∀ {k : Nat} {o : Obj}, v.ownBlock ≠ some k → W.heap[k]? = some o → w1.heap[k]? = some o := fun {k o} hk ho =>
    (hg.block k (Nat.lt_of_lt_of_le (heap_lt ho) hz3) (fun e => hk e.symm)).trans (heap_below hb3 ho)
  have hlcs : lc < W.heap.size := heap_lt hv
  have hne : v.ownBlock ≠ some lc := fun e => by have := (hrow.lt lc e).1; omega
  have hl1 : LBox lc v w1 := old hne hv
  have hbl1 : Below lc W (W.alloc tmp) := hb3.mono (Nat.le_of_lt hlcs)
  have hbl2 : Below lc W w1 := hbl1.grown hg (Nat.le_trans (Nat.le_of_lt hlcs) hz3) (fun k e => by have := (hrow3.lt k e).1; omega)
  have hbel : Below lc W (w1.setCell ⟨lc, 0, none⟩ v') := hbl2.setCell (p := ⟨lc, 0, none⟩) (Nat.le_refl _) _
  have hl2 : LBox lc v' (w1.setCell ⟨lc, 0, none⟩ v') := heap_setCell_same _ lc 0 _ _ _ hl1
  have hcell : (w1.setCell ⟨lc, 0, none⟩ v').cell? ⟨lc, 0, none⟩ = some v' := cells_at hl2 0
  refine ⟨?_, ⟨⟨by rw [hz2]; exact hz, fun k o hk hc hn => ?_, fun k hk ho => ?_, fun _ k ho => ?_⟩, hbel⟩, ⟨h.bel.trans hbel, by rw [hz2]; exact Nat.le_trans hs hz, v', hl2, ?_⟩, hl1⟩
  · have k1 : KeepsFrom B W (W.alloc tmp) := keepsFrom_below hb3
    have k2 : KeepsFrom B (W.alloc tmp) w1 := ⟨hg.size, fun k o _ hk hc => (hg.block k (Array.getElem?_eq_some_iff.1 hk).1 (fun e => by
      obtain ⟨cs, hcs⟩ := own_type hrow3 k e.symm
      rw [hcs] at hk
      cases hk
      cases hc)).trans hk⟩
    exact (k1.trans k2).trans ((KeepsOthers.setCell _ _ _).from B)
  · have h1 : k ≠ lc := fun e => hn (.inl e)
    have h2 : v.ownBlock ≠ some k := fun e => hn (.inr ⟨v, cells_at hv 0, e⟩)
    exact heap_other (old h2 hk) h1
  · rcases ho with e | ⟨u, hu, hb⟩
    · exact .inl e
    · rw [hcell] at hu
      cases hu
      rcases hm with e | e
      · exact .inr ⟨v, cells_at hv 0, by rw [← e]; exact hb⟩
      · rw [e] at hb
        injection hb with hb
        exact absurd hk (by rw [← hb]; exact Nat.not_lt.2 hz3)
  · rw [hz2]
    rcases ho with e | ⟨u, hu, hb⟩
    · rw [e]; exact Nat.lt_of_lt_of_le hlcs hz
    · rw [hcell] at hu
      cases hu
      exact (hown.lt k hb).2
  · rw [List.flatMap_append, List.length_append]
    have := own_set hown (p := lc) (by omega) 0 v'
    simpa using this
theorem box_own {B b : Nat} {x y : ByteArray} {W W' : World} {row : Option Nat} (h : SpBox b x y W) (hg : W.grownBy W' row) (hr : ∀ r, row = some r → B ≤ r ∧ ∃ o : Obj, W.heap[r]? = some o ∧ o.isCells = false) : SpBox b x y W' := by
  refine (hg.block b (heap_lt h) (fun e => ?_)).trans h
  obtain ⟨_, o, ho, hc⟩ := hr b e.symm
  rw [h] at ho
  cases ho
  cases hc
set_option linter.unusedSimpArgs false in
set_option maxRecDepth 100000 in
set_option maxHeartbeats 8000000 in
theorem meetSps_any {w : World} {u v : Value} {a b l : List Tp} (ha : RSps w [u] (tB a)) (hb : RSps w [v] (tB b)) (hla : a.length ≤ 2000) (hlb : b.length ≤ 2000) (hD : Doors w) (hl : meetP a b l) : Calls Tryz.prog 22 #[u, v] w fun e w' => (∃ o, e = .returned o ∧ RSps w' [o] (meetB a b l)) ∧ Below w.heap.size w w' := by
  have hA := formR_any ha (by omega) hD
  have hB := fun (W : World) (k : Below w.heap.size w W) => formR_any (stays_slice stays_spn _ _ _ _ hb k) (by omega) (hD.below k)
  obtain ⟨p, hp⟩ : ∃ p, p = formOk a := ⟨_, rfl⟩
  obtain ⟨q, hq⟩ : ∃ p, p = formOk b := ⟨_, rfl⟩
  obtain ⟨F, hF⟩ : ∃ F, F = formR a := ⟨_, rfl⟩
  obtain ⟨G, hG⟩ : ∃ F, F = formR b := ⟨_, rfl⟩
  rw [← hp, ← hF] at hA
  rw [← hq, ← hG] at hB
  obtain ⟨ua, uc, rfl⟩ := sps_shape ha
  obtain ⟨va, vc, rfl⟩ := sps_shape hb
  obtain ⟨nu, hnu⟩ : ∃ n, n = (tB a).length := ⟨_, rfl⟩
  obtain ⟨nv, hnv⟩ : ∃ n, n = (tB b).length := ⟨_, rfl⟩
  rw [← hnu] at hA ha ⊢
  rw [← hnv] at hB hb ⊢
  refine (callsIn_wide (n := 8)).1 ?_
  refine callsIn_of_wp_marks Tryz.func22 rfl trivial ?_ rfl
  simp only [Tryz.ntmps22, List.size_toArray, List.length_cons, List.length_nil, Nat.reduceAdd, Nat.reduceSub, Array.replicate_succ, Array.replicate_zero, List.push_toArray, List.append_toArray, List.nil_append, List.cons_append]
  have Ha := Lib.hid ha; have Hb := Lib.hid hb; have HA := Lib.hid hA; have HB := Lib.hid hB; have Hp := Lib.hid hp; have Hq := Lib.hid hq; have HD := Lib.hid hD; have Hl := Lib.hid hl; have HF := Lib.hid hF; have HG := Lib.hid hG; have Hnu := Lib.hid hnu; have Hnv := Lib.hid hnv; clear ha hb hA hB hp hq hD hl hF hG hnu hnv
  gi_wp2
  refine ⟨trivial, (callsIn_wide.2 HA.out).mono ?_⟩
  rintro e w1 ⟨⟨o1, rfl, ho1⟩, hb1⟩
  obtain ⟨a1, c1, rfl⟩ := sps_shape ho1
  obtain ⟨n1, hn1⟩ : ∃ n, n = F.length := ⟨_, rfl⟩
  rw [← hn1] at ho1 ⊢
  have Ho1 := Lib.hid ho1; have Hb1 := Lib.hid hb1; have Hn1 := Lib.hid hn1; clear ho1 hb1 hn1
  gi_wp2
  refine ⟨trivial, (callsIn_wide.2 (HB.out _ Hb1.out)).mono ?_⟩
  rintro e w2 ⟨⟨o2, rfl, ho2⟩, hb2⟩
  obtain ⟨a2, c2, rfl⟩ := sps_shape ho2
  obtain ⟨n2, hn2⟩ : ∃ n, n = G.length := ⟨_, rfl⟩
  rw [← hn2] at ho2 ⊢
  have hbw2 := Hb1.out.trans (hb2.mono Hb1.out.size)
  have ho12 := stays_slice stays_spn _ _ _ _ Ho1.out hb2
  have Ho2 := Lib.hid ho2; have Hb2 := Lib.hid hb2; have Hbw2 := Lib.hid hbw2; have Ho12 := Lib.hid ho12; have Hn2 := Lib.hid hn2; clear ho2 hb2 hbw2 ho12 hn2
  cases p with
  | false =>
    have hn : meetB a b l = [] := by unfold meetB; rw [if_neg]; rintro ⟨h1, _⟩; rw [← Hp.out] at h1; cases h1
    have Hn := Lib.hid hn; clear hn
    gi_wp2
    exact ⟨_, results_tmp rfl _ _ _, ⟨_, rfl, by rw [Hn.out]; exact sps_nil0 _⟩, Hbw2.out⟩
  | true =>
    cases q with
    | false =>
      have hn : meetB a b l = [] := by unfold meetB; rw [if_neg]; rintro ⟨_, h1, _⟩; rw [← Hq.out] at h1; cases h1
      have Hn := Lib.hid hn; clear hn
      gi_wp2
      exact ⟨_, results_tmp rfl _ _ _, ⟨_, rfl, by rw [Hn.out]; exact sps_nil0 _⟩, Hbw2.out⟩
    | true =>
      have hFf : F = formB a := by rw [HF.out]; unfold formR; rw [if_pos Hp.out.symm]
      have hGf : G = formB b := by rw [HG.out]; unfold formR; rw [if_pos Hq.out.symm]
      have hsF : SmallB F := by rw [hFf]; exact smallB_form a
      have hsG : SmallB G := by rw [hGf]; exact smallB_form b
      have hlF : F.length ≤ 16 := by rw [hFf]; exact (formOk_iff.1 Hp.out.symm).2
      have hlG : G.length ≤ 16 := by rw [hGf]; exact (formOk_iff.1 Hq.out.symm).2
      have hpr := pairs_form (l := l) Hp.out.symm Hq.out.symm Hl.out
      have hPl : tB l = pairsB F G := by rw [hFf, hGf]; exact Hl.out
      have hll : l.length ≤ 32 := by have := hpr.2.1; rw [← hFf, ← hGf] at this; omega
      have hml : meetB a b l = formR l := by unfold meetB formR; rw [← Hp.out, ← Hq.out]; simp
      have hBo := both_any a1 a2 n1 n2 c1 c2 (w2.alloc (.cells #[.slice none 0 0] 23))
      have HFf := Lib.hid hFf; have HGf := Lib.hid hGf; have HsF := Lib.hid hsF; have HsG := Lib.hid hsG; have HlF := Lib.hid hlF; have HlG := Lib.hid hlG; have Hpr := Lib.hid hpr; have HPl := Lib.hid hPl; have Hll := Lib.hid hll; have Hml := Lib.hid hml; have HBo := Lib.hid hBo; clear hFf hGf hsF hsG hlF hlG hpr hPl hll hml hBo
      gi_wp2
      refine ⟨trivial, (callsIn_wide.2 HBo.out).mono ?_⟩
      rintro e w4 ⟨rfl, hw4⟩
      subst hw4
      clear HBo
      gi_wp2
      obtain ⟨w5, hw5⟩ : ∃ W, W = (((w2.alloc (.cells #[.slice none 0 0] 23)).alloc (.cells #[.slice a1 n1 c1] 23)).alloc (.cells #[.slice a2 n2 c2] 23)) := ⟨_, rfl⟩
      obtain ⟨lc, hlc⟩ : ∃ k, k = w2.heap.size := ⟨_, rfl⟩
      have k1 : ∀ {w' : World} {o : Obj} {k : Nat} {o' : Obj}, w'.heap[k]? = some o → (w'.alloc o').heap[k]? = some o := fun h => heap_below (below_alloc1 _ _) h
      have q0 : LBox lc (.slice none 0 0) w5 := by rw [hw5, hlc]; exact k1 (k1 (heap_new_at rfl))
      have q1 : LBox (lc + 1) (.slice a1 n1 c1) w5 := by rw [hw5, hlc]; exact k1 (heap_new_at (by simp))
      have q2 : LBox (lc + 1 + 1) (.slice a2 n2 c2) w5 := by rw [hw5, hlc]; exact heap_new_at (by simp)
      have hs5 : w5.heap.size = lc + 3 := by rw [hw5, hlc]; simp
      have hb25 : Below w2.heap.size w2 w5 := by rw [hw5]; exact (((Below.refl _ _).alloc (Nat.le_refl _) _).alloc (by simp) _).alloc (by simp; omega) _
      have hbw5 : Below w.heap.size w w5 := Hbw2.out.trans (hb25.mono Hbw2.out.size)
      have hwl : w.heap.size ≤ lc := by rw [hlc]; exact Hbw2.out.size
      have hr1 := stays_slice stays_spn _ _ _ _ Ho12.out hb25
      have hr2 := stays_slice stays_spn _ _ _ _ Ho2.out hb25
      have hDD : ∀ W', Below lc w5 W' → Doors W' := fun W' k => HD.out.below (hbw5.trans (k.mono hwl))
      have hM0 : MI lc w5 w5 [] := ⟨Below.refl _ _, by rw [hs5]; exact Nat.le_refl _, _, q0, World.ownsRow_nil _ _ _ _⟩
      have hss := both_stops 7 (by omega) lc (lc + 1) (lc + 1 + 1) _ _ F G HsF.out HsG.out HlF.out HlG.out w5 q0 q1 q2 (by omega) (by omega) hr1 hr2 lc (Nat.le_refl _) hDD
      rw [← hw5, ← hlc]
      clear k1 q0 q1 q2 hr1 hr2
      have Hw5 := Lib.hid hw5; have Hlc := Lib.hid hlc; have Hb25 := Lib.hid hb25; have Hbw5 := Lib.hid hbw5; have HDD := Lib.hid hDD; have HM0 := Lib.hid hM0; have Hss := Lib.hid hss; clear hw5 hlc hb25 hbw5 hDD hM0 hss
      refine wpIn_rangeFunc_ownH rfl (by omega) (gf := 120) rfl trivial (enters_of Tryz.func120 (by kernel_rfl) rfl) Hss.out (fun h k => StepB.trans h k) (fun W l o o' h1 h2 h3 _ => StepB.put (n := w5.heap.size) (by omega) (by omega) W l o o' h1 h2 h3) (Below.refl _ _) (fun _ => rfl)
        (fun pre W => MI lc w5 W pre) (fun _ _ _ => False) (MI.own (by omega)) (fun _ _ _ _ _ h _ _ => h) HM0.out
        (fun x a' W => ∃ b, a' = { tmps := #[.slice ua nu uc, .slice va nv vc, undef, undef, .slice none 0 0, .slice a1 n1 c1, .bool true, .slice a2 n2 c2, .bool true, .pointer (some ⟨lc, 0, none⟩), .pointer (some ⟨b, 0, none⟩), undef, undef, .tuple #[.slice a1 n1 c1, .bool true], .slice ua nu uc, .tuple #[.slice a1 n1 c1, .bool true], .slice a1 n1 c1, .bool true, .tuple #[.slice a2 n2 c2, .bool true], .slice va nv vc, .tuple #[.slice a2 n2 c2, .bool true], .slice a2 n2 c2, .bool true, .bool true, .bool false, .bool false, .bool true, .bool false, .bool false, .slice a1 n1 c1, .slice a2 n2 c2,
          .func (.func 120) #[] #[.pointer (some ⟨lc + 1, 0, none⟩), .pointer (some ⟨lc + 1 + 1, 0, none⟩)], .agg #[.string x.1, .string x.2], undef, undef, undef, undef, undef, undef, undef, undef, undef, undef], defers := [] } ∧ SpBox b x.1 x.2 W)
        (fun x a' _ W W' row h hg hr => by obtain ⟨b, e, hb⟩ := h; exact ⟨b, e, box_own hb hg hr⟩) ?assign ?body ?done ?stop
      case assign =>
        intro l pre x W K hI hK
        have hs := hI.size
        gi_wp2
        exact hK _ _ (keepsFrom_below (below_alloc1 _ _)) (StepB.below (below_alloc1 _ _) (by omega) (by omega)) (hI.below (below_alloc1 _ _)) ⟨_, rfl, heap_alloc_new _ _⟩
      case body =>
        rintro l pre x a' W hl ⟨rr, hrr⟩ h ⟨b, rfl, hbx⟩ hlen
        obtain ⟨v, hv, hrow⟩ := h.row
        obtain ⟨a, cap, rfl⟩ := own_shape hrow
        have c0 : W.cell? ⟨lc, 0, none⟩ = some (.slice a pre.length cap) := cells_at hv 0
        obtain ⟨x0, x1, _, _⟩ := pair_cells hbx
        obtain ⟨y1, hy1⟩ : ∃ y, y = x.1 := ⟨_, rfl⟩
        obtain ⟨y2, hy2⟩ : ∃ y, y = x.2 := ⟨_, rfl⟩
        rw [← hy1] at x0
        rw [← hy2] at x1
        have hrow3 := ownsRow_below hrow (below_alloc1 W (.cells #[.string y1, .string y2] 34))
        obtain ⟨i0, hi, hz0, hz1, hz2⟩ := info_parts info_span2
        have hadd := fun (w1 : World) (v' : Value) => h.add (B := w5.heap.size) hv hrow (w1 := w1) (v' := v') (x := x) (tmp := .cells #[.string y1, .string y2] 34)
        have hsp : spCells x = [.string y1, .string y2] := by rw [hy1, hy2]; rfl
        rw [hsp] at hadd
        have hz9 := h.size
        have g1 : pre.length + 1 ≤ maxLen := by unfold maxLen; omega
        have g2 : (pre.length + 1) * 32 ≤ 140737488355328 := by omega
        have g3 : lc + 3 ≤ (W.alloc (.cells #[.string y1, .string y2] 34)).heap.size := by simp; omega
        have g4 := lit2' W (.string y1) (.string y2) 34 (n := W.heap.size) rfl
        have g5 : ∀ u ∈ [Value.string y1, .string y2], u.oneCell' = true := by simp [Value.oneCell']
        have Hv := Lib.hid hv; have Hrow := Lib.hid hrow; have Hrow3 := Lib.hid hrow3; have Hsp := Lib.hid hsp; have Hadd := Lib.hid hadd; have Hz9 := Lib.hid hz9; have Hg1 := Lib.hid g1; have Hg2 := Lib.hid g2; have Hg3 := Lib.hid g3; have Hg4 := Lib.hid g4; have Hg5 := Lib.hid g5; have Hh := Lib.hid h; have Hbx := Lib.hid hbx; have Hy1 := Lib.hid hy1; have Hy2 := Lib.hid hy2; have Hrr := Lib.hid hrr; have Hl := Lib.hid hl; clear hv hrow hrow3 hsp hadd hz9 g1 g2 g3 g4 g5 h hbx hy1 hy2 hrr hl
        gi_wp2_with (gi_at_builtin; refine wpListIn_append_where _ rfl _ _ 23 rfl (lc + 3) 34 i0 (.agg #[.string ⟨#[]⟩, .string ⟨#[]⟩]) 2 32 Tryz.underlying23 hi hz0 hz1 hz2 rfl (by decide) _ _ _ rfl Hrow3.out ⟨W.heap.size, 0, none⟩ 1 1 [.string y1, .string y2] rfl rfl Hg4.out Hg5.out Hg1.out Hg2.out Hg3.out ?_; intro v' w1 hown' hgrow hm; obtain ⟨g', cap', rfl⟩ := ownsRow_succ hown'; have hfin := Hadd.out w1 _ hown' hgrow hm; clear hown' hgrow hm; refine Hid.out ?_)
        have e1 := cells_at hfin.2.2.2 0
        have e2 := frozen_at hfin.2.2.2 0
        simp only [List.getElem?_toArray, List.getElem?_cons_zero] at e1
        have Hfin := Lib.hid hfin; clear hfin
        refine Lib.hid ?_
        gi_wp2
        exact ⟨Hfin.out.1, Hfin.out.2.1, Hfin.out.2.2.1⟩
      case done =>
        rintro D xs W hD' rfl h hK
        obtain ⟨v, hv, hrow⟩ := h.row
        obtain ⟨a, cap, rfl⟩ := own_shape hrow
        have hsm : SmallB (tB l) := smallB_tB l
        rw [← HPl.out] at hrow hv
        have hrd : RSps W [.slice a (tB l).length cap] (tB l) := sps_reads (B := lc + 3) (fun x hx => by have := hsm x hx; unfold maxLen; omega) hrow
        have c0 : W.cell? ⟨lc, 0, none⟩ = some (.slice a (tB l).length cap) := cells_at hv 0
        have hF5 := form_any hrd (by have := Hll.out; omega) (HDD.out W h.bel)
        unfold FormPost at hF5
        obtain ⟨f, hf⟩ : ∃ f, f = formOk l := ⟨_, rfl⟩
        obtain ⟨nl, hnl⟩ : ∃ n, n = (tB l).length := ⟨_, rfl⟩
        rw [← hf] at hF5
        rw [← hnl] at hF5 c0
        have Hrow := Lib.hid hrow; have Hv := Lib.hid hv; have Hsm := Lib.hid hsm; have Hrd := Lib.hid hrd; have HF5 := Lib.hid hF5; have Hf := Lib.hid hf; have Hnl := Lib.hid hnl; have Hh := Lib.hid h; clear hrow hv hsm hrd hF5 hf hnl h
        gi_wp2
        refine ⟨trivial, (callsIn_wide.2 HF5.out).mono ?_⟩
        rintro e W5 ⟨o, rfl, h1, h2, hb5⟩
        have hK5 := heap_below hb5 hK
        have H1 := Lib.hid h1; have H2 := Lib.hid h2; have Hb5 := Lib.hid hb5; clear h1 h2 hb5
        gi_wp2
        refine ⟨by simp, .inl ⟨_, _, rfl, run_takeDeferred hK5, ?_⟩⟩
        refine ⟨_, results_tmp rfl _ _ _, ⟨_, rfl, ?_⟩, ?_⟩
        · rw [Hml.out]
          unfold formR
          cases f with
          | true =>
            rw [if_pos Hf.out.symm]
            exact sps_reads (fun x hx => by have := smallB_form l x hx; unfold maxLen; omega) (ownsRow_putObj (H1.out rfl) _ hK5 rfl)
          | false =>
            rw [if_neg (by rw [← Hf.out]; simp), H2.out rfl]
            exact sps_nil0 _
        · exact (Hbw5.out.trans ((Hh.out.bel.mono hwl).trans (Hb5.out.mono (by have := Hh.out.size; omega)))).trans (belowK_b (w := w) (Nat.le_refl _) _ D _ _ (by omega) hK5 rfl rfl)
      case stop =>
        rintro D c pre W _ _ h _
        exact h.elim
end Go.Proofs.YteailgjiifdgcaaGreatDoor

/- The walk of cooperlaw03.fixed. Condition: the library's variables as they were laid. -/
namespace Go.Proofs.YteailgjiifdgcaaGreatDoor
open Go.Shelf Go.RowKit Go.Lib VerN

def fx3 : List Tp := [⟨(⟨#[53]⟩, ⟨#[53]⟩), by decide⟩, ⟨(⟨#[50]⟩, ⟨#[51]⟩), by decide⟩, ⟨(⟨#[49]⟩, ⟨#[50]⟩), by decide⟩]
def fx4 : List Tp := [⟨(⟨#[49]⟩, ⟨#[51]⟩), by decide⟩, ⟨(⟨#[53]⟩, ⟨#[53]⟩), by decide⟩]
theorem fx3_form : formB fx3 = tB fx4 := by decide
theorem fx4_form : formB fx4 = tB fx4 := by decide
theorem fx3_ok : formOk fx3 = true := by decide
theorem fx4_ok : formOk fx4 = true := by decide
theorem fx4_text : spsText fx4 = ⟨#[49, 58, 51, 44, 53]⟩ := by decide
theorem fx_fixed : (⟨#[49, 58, 51, 44, 53]⟩ : ByteArray).toList = [49, 58, 51, 44, 53] := by rw [Lib.toList_data]
set_option maxRecDepth 10000 in
set_option maxHeartbeats 4000000 in
theorem fixed03_any {w : World} (hD : Doors w) : Calls Tryz.prog 15 #[] w fun e w' => e = .returned (.bool true) ∧ Below w.heap.size w w' := by
  obtain ⟨w0, hW0⟩ : ∃ W, W = w.alloc (.cells #[.string ⟨#[53]⟩, .string ⟨#[53]⟩, .string ⟨#[50]⟩, .string ⟨#[51]⟩, .string ⟨#[49]⟩, .string ⟨#[50]⟩] 34) := ⟨_, rfl⟩
  obtain ⟨nb, hnb⟩ : ∃ n, n = w.heap.size := ⟨_, rfl⟩
  have hw : Below w.heap.size w w0 := by rw [hW0]; exact below_alloc1 _ _
  have hown : w0.ownsRow w.heap.size 34 2 (.slice (some ⟨nb, 0, none⟩) 3 3) 3 ((tB fx3).flatMap spCells) := by
    rw [hW0, hnb]
    exact World.ownsRow_lit (base := w.heap.size) (e := 34) (size := 2) w #[.string ⟨#[53]⟩, .string ⟨#[53]⟩, .string ⟨#[50]⟩, .string ⟨#[51]⟩, .string ⟨#[49]⟩, .string ⟨#[50]⟩] 3 (Nat.le_refl _) (by decide) rfl
  have hrd : RSps w0 [.slice (some ⟨nb, 0, none⟩) 3 3] (tB fx3) := sps_reads (fun x hx => by have := smallB_tB fx3 x hx; unfold maxLen; omega) hown
  have hF := form_any hrd (by decide) (hD.below hw)
  unfold FormPost at hF
  rw [fx3_ok, fx3_form] at hF
  rw [show (tB fx4).length = 2 from rfl] at hF
  obtain ⟨tx, htx⟩ : ∃ t, t = spsText fx4 := ⟨_, rfl⟩
  have hte : (tx.toList == [49, 58, 51, 44, 53]) = true := by
    have h9 := Txt.eq_dec tx ⟨#[49, 58, 51, 44, 53]⟩
    rw [fx_fixed] at h9
    rw [h9, decide_eq_true]
    rw [htx, fx4_text]
  have Hw := Lib.hid hw; have Hown := Lib.hid hown; have Hrd := Lib.hid hrd; have HF := Lib.hid hF; have HD := Lib.hid hD; have Htx := Lib.hid htx; clear hw hown hrd hF hD htx
  go_enter Tryz.func15, Tryz.ntmps15
  go_upto_region 1 with (fail)
  go_wp2_with fail
  rw [← hW0, ← hnb]
  clear hW0 hnb
  refine HF.out.mono ?_
  rintro e w1 ⟨o, rfl, ho, _, hb1⟩
  have ho := ho trivial
  have hrd2 : RSps w1 [o] (tB fx4) := sps_reads (fun x hx => by have := smallB_tB fx4 x hx; unfold maxLen; omega) ho
  obtain ⟨a, c, rfl⟩ := own_shape ho
  have hbw := Hw.out.trans (hb1.mono Hw.out.size)
  have hT := spsText_any hrd2 (by decide) (HD.out.below hbw)
  rw [← Htx.out] at hT
  have Ho := Lib.hid ho; have Hrd2 := Lib.hid hrd2; have Hb1 := Lib.hid hb1; have Hbw := Lib.hid hbw; have HT := Lib.hid hT; clear ho hrd2 hb1 hbw hT
  go_wp2_with fail
  refine HT.out.mono ?_
  rintro e w2 ⟨rfl, hb2⟩
  have hbw2 := Hbw.out.trans (hb2.mono Hbw.out.size)
  have Hb2 := Lib.hid hb2; have Hbw2 := Lib.hid hbw2; clear hb2 hbw2
  go_wp2_with fail
  go_ret
  exact ⟨rfl, Hbw2.out⟩
end Go.Proofs.YteailgjiifdgcaaGreatDoor

/- Plain facts: the document's form of a set of spans (two that meet put together, until none do; then the row) is the program's. No condition. -/
namespace Go.Proofs.YteailgjiifdgcaaGreatDoor
open Go.Lib VerN SortM

def jnT (a b : Tp) : Tp := ⟨jnV a.1.1 a.1.2 b.1.1 b.1.2, by
  have ha := a.2
  have hb := b.2
  have h0 : (ByteArray.mk #[]).size ≤ 9000 := by decide
  unfold jnV
  split
  · constructor
    · show (if _ then _ else _ : ByteArray).size ≤ 9000
      split
      · exact soonerS_size ha.1 hb.1
      · exact h0
    · show (if _ then _ else _ : ByteArray).size ≤ 9000
      split
      · exact laterS_size ha.2 hb.2
      · exact h0
  · exact ⟨h0, h0⟩⟩
def mtT (a b : Tp) : Bool := meetOk (dS a.1) (dS b.1)
def mayT (l : List Tp) : Prop := ∀ s ∈ l, mayS (dS s.1) = true
def covT (l : List Tp) (p : Pt) : Prop := cov (l.map fun x => dS x.1) p
theorem mayT_iff {l : List Tp} : mayT l ↔ allMay (l.map (·.1)) = true := by
  rw [allMay_iff]
  unfold mayT
  rw [List.map_map]
  constructor
  · intro h s hs
    obtain ⟨x, hx, rfl⟩ := List.mem_map.1 hs
    exact h x hx
  · intro h x hx
    exact h _ (List.mem_map.2 ⟨x, hx, rfl⟩)
theorem mt_symm {a b : Tp} (ha : mayS (dS a.1) = true) (hb : mayS (dS b.1) = true) (h : mtT a b = false) : mtT b a = false := by
  unfold mtT at *
  rw [Bool.eq_false_iff] at *
  intro k
  have := (meet_iff hb ha).1 k
  exact h ((meet_iff ha hb).2 ⟨this.2, this.1⟩)
/-- two that meet put together -/
def MStep (l l' : List Tp) : Prop := ∃ a b r, l.Perm (a :: b :: r) ∧ mtT a b = true ∧ l' = jnT a b :: r
def NoMeet (l : List Tp) : Prop := l.Pairwise fun a b => mtT a b = false
theorem covT_cons (a : Tp) (l : List Tp) (p : Pt) : covT (a :: l) p ↔ covS (dS a.1) p ∨ covT l p := by
  unfold covT cov
  simp only [List.map_cons, List.mem_cons, or_and_right, exists_or, exists_eq_left]
theorem covT_perm {a b : List Tp} (h : a.Perm b) (p : Pt) : covT a p ↔ covT b p := cov_perm (h.map _) p
theorem step_facts {l l' : List Tp} (hm : mayT l) (h : MStep l l') : mayT l' ∧ (∀ p, covT l' p ↔ covT l p) ∧ l'.length + 1 = l.length := by
  obtain ⟨a, b, r, hp, hab, rfl⟩ := h
  have ha : mayS (dS a.1) = true := hm a (hp.mem_iff.2 (by simp))
  have hb : mayS (dS b.1) = true := hm b (hp.mem_iff.2 (by simp))
  have e : dS (jnT a b).1 = joinS (dS a.1) (dS b.1) := jn_dS a.1 b.1
  refine ⟨fun s hs => ?_, fun p => ?_, ?_⟩
  · rcases List.mem_cons.1 hs with rfl | hs
    · rw [e]; exact join_may ha hb
    · exact hm s (hp.mem_iff.2 (by simp [hs]))
  · rw [covT_perm hp, covT_cons, covT_cons, covT_cons, e, join_cov ha hb hab, or_assoc]
  · have := hp.length_eq
    simp only [List.length_cons] at *
    omega
/-- the document's form, when no two meet any more -/
theorem refForm_is {l L : List Tp} (hl : mayT l) (hL : mayT L) (hc : ∀ p, covT L p ↔ covT l p) (hn : NoMeet L) : formB l = (sortSp L).map (·.1) := by
  refine form_of (mayT_iff.1 hl) ?_ fun p => ?_
  · rw [List.map_map]
    refine sep_of (fun s hs => ?_) (sortSp_lo L) ?_
    · obtain ⟨x, hx, rfl⟩ := List.mem_map.1 hs
      exact hL x ((sortSp_perm L).mem_iff.1 hx)
    · rw [List.pairwise_map]
      have h2 : L.Pairwise fun a b => (mtT a b = false ∧ mayS (dS a.1) = true ∧ mayS (dS b.1) = true) := hn.imp_of_mem fun ha hb h => ⟨h, hL _ ha, hL _ hb⟩
      have h3 := ((sortSp_perm L).pairwise_iff (fun {a b} h => ⟨mt_symm h.2.1 h.2.2 h.1, h.2.2, h.2.1⟩)).2 h2
      exact h3.imp fun h => h.1
  · rw [List.map_map, List.map_map]
    exact (cov_perm ((sortSp_perm L).map _) p).trans (hc p)
/-- where no two meet of a row of texts, and what is found first is taken: the places -/
theorem pairs_none {l : List Tp} (h : ∀ i k (hi : i < l.length) (hk : k < l.length), i < k → mtT l[i] l[k] = false) : NoMeet l := by
  unfold NoMeet
  rw [List.pairwise_iff_getElem]
  intro i k hi hk hik
  exact h i k hi hk hik
/-- all but two places, of the first n -/
def pickL {α : Type} [Inhabited α] (l : List α) (i k : Nat) : Nat → List α
  | 0 => []
  | n + 1 => if n ≠ i ∧ n ≠ k then pickL l i k n ++ [l[n]!] else pickL l i k n
theorem pick_perm {α : Type} [Inhabited α] (l : List α) {i k : Nat} (hik : i < k) : ∀ n, n ≤ l.length → (l.take n).Perm ((if i < n then [l[i]!] else []) ++ (if k < n then [l[k]!] else []) ++ pickL l i k n)
  | 0, _ => by simp [pickL]
  | n + 1, hn => by
    have ih := pick_perm l hik n (by omega)
    have hl : n < l.length := by omega
    have e : l[n]! = l[n] := getElem!_pos l n hl
    rw [List.take_succ_eq_append_getElem hl]
    unfold pickL
    by_cases h1 : n = i
    · subst h1
      rw [if_neg (Nat.lt_irrefl _), if_neg (by omega)] at ih
      rw [if_pos (by omega), if_neg (by omega), if_neg (by simp), e]
      simp only [List.nil_append, List.append_nil] at ih ⊢
      exact (ih.append_right _).trans List.perm_append_comm
    · by_cases h2 : n = k
      · subst h2
        rw [if_pos hik, if_neg (Nat.lt_irrefl _)] at ih
        rw [if_pos (by omega), if_pos (by omega), if_neg (by simp), e]
        simp only [List.append_nil] at ih
        refine (ih.append_right _).trans ?_
        rw [List.append_assoc, List.append_assoc]
        exact List.Perm.append_left _ List.perm_append_comm
      · rw [if_pos (show n ≠ i ∧ n ≠ k from ⟨h1, h2⟩), e, ← List.append_assoc]
        have c1 : (i < n + 1) = (i < n) := by apply propext; omega
        have c2 : (k < n + 1) = (k < n) := by apply propext; omega
        simp only [c1, c2]
        exact ih.append_right _
theorem pick_all {α : Type} [Inhabited α] (l : List α) {i k : Nat} (hik : i < k) (hk : k < l.length) : l.Perm (l[i]'(by omega) :: l[k] :: pickL l i k l.length) := by
  have h := pick_perm l hik l.length (Nat.le_refl _)
  rw [List.take_length, if_pos (by omega), if_pos hk, getElem!_pos l i (by omega), getElem!_pos l k hk] at h
  exact h
theorem pick_len {α : Type} [Inhabited α] (l : List α) (i k : Nat) : ∀ n, (pickL l i k n).length ≤ n
  | 0 => by simp [pickL]
  | n + 1 => by
    have := pick_len l i k n
    unfold pickL
    split
    · simp; omega
    · omega
theorem step_of {l : List Tp} {i k : Nat} (hik : i < k) (hk : k < l.length) (h : mtT (l[i]'(by omega)) l[k] = true) : MStep l (jnT (l[i]'(by omega)) l[k] :: pickL l i k l.length) :=
  ⟨_, _, _, pick_all l hik hk, h, rfl⟩
end Go.Proofs.YteailgjiifdgcaaGreatDoor

/- The walk of cooperref03.join. Condition: texts of at most a million bytes; spans that may be. -/
namespace Go.Proofs.YteailgjiifdgcaaGreatDoor
open Go.RowKit Go.Lib VerN

set_option linter.unusedSimpArgs false
theorem size0 {s : ByteArray} (h : s.size = 0) : s = ⟨#[]⟩ := Txt.ext ((nil_size s).2 h)
theorem jn_lo (lo hi lp hj : ByteArray) (m1 : mayS (lo.data.toList, hi.data.toList) = true) (m2 : mayS (lp.data.toList, hj.data.toList) = true) : (jnV lo hi lp hj).1 = if lp.size = 0 ∨ (lo.size ≠ 0 ∧ lessL lp.data.toList lo.data.toList = true) then lp else lo := by
  unfold jnV
  rw [if_pos ⟨m1, m2⟩]
  show (if lo.size ≠ 0 ∧ lp.size ≠ 0 then soonerS lo lp else ⟨#[]⟩) = _
  by_cases h1 : lp.size = 0
  · rw [if_neg (fun h => h.2 h1), if_pos (.inl h1)]; exact (size0 h1).symm
  · by_cases h2 : lo.size = 0
    · rw [if_neg (fun h => h.1 h2), if_neg (by rintro (h | h); exact h1 h; exact h.1 h2)]; exact (size0 h2).symm
    · rw [if_pos ⟨h2, h1⟩]
      unfold soonerS
      have e : aheadB lp.data.toList lo.data.toList = lessL lp.data.toList lo.data.toList := by
        rw [ahead_less, decide_eq_true (show lp.data.toList ≠ [] from fun e => h1 ((nil_size lp).1 e)), decide_eq_true (show lo.data.toList ≠ [] from fun e => h2 ((nil_size lo).1 e))]; rfl
      rw [e]
      simp [h1, h2]
theorem jn_hi (lo hi lp hj : ByteArray) (m1 : mayS (lo.data.toList, hi.data.toList) = true) (m2 : mayS (lp.data.toList, hj.data.toList) = true) : (jnV lo hi lp hj).2 = if hj.size = 0 ∨ (hi.size ≠ 0 ∧ lessL hi.data.toList hj.data.toList = true) then hj else hi := by
  unfold jnV
  rw [if_pos ⟨m1, m2⟩]
  show (if hi.size ≠ 0 ∧ hj.size ≠ 0 then laterS hi hj else ⟨#[]⟩) = _
  by_cases h1 : hj.size = 0
  · rw [if_neg (fun h => h.2 h1), if_pos (.inl h1)]; exact (size0 h1).symm
  · by_cases h2 : hi.size = 0
    · rw [if_neg (fun h => h.1 h2), if_neg (by rintro (h | h); exact h1 h; exact h.1 h2)]; exact (size0 h2).symm
    · rw [if_pos ⟨h2, h1⟩]
      unfold laterS
      have e : aheadB hi.data.toList hj.data.toList = lessL hi.data.toList hj.data.toList := by
        rw [ahead_less, decide_eq_true (show hi.data.toList ≠ [] from fun e => h2 ((nil_size hi).1 e)), decide_eq_true (show hj.data.toList ≠ [] from fun e => h1 ((nil_size hj).1 e))]; rfl
      rw [e]
      simp [h1, h2]
set_option maxRecDepth 10000 in
set_option maxHeartbeats 8000000 in
theorem refJoin_any (lo hi lp hj : ByteArray) (hl : lo.size ≤ 1000000) (hh : hi.size ≤ 1000000) (hl2 : lp.size ≤ 1000000) (hh2 : hj.size ≤ 1000000) (m1 : mayS (lo.data.toList, hi.data.toList) = true) (m2 : mayS (lp.data.toList, hj.data.toList) = true) (w : World) : Calls Tryz.prog 119 #[.agg #[.string lo, .string hi], .agg #[.string lp, .string hj]] w fun e w' => e = .returned (.agg #[.string (jnV lo hi lp hj).1, .string (jnV lo hi lp hj).2]) ∧ Below w.heap.size w w' := by
  obtain ⟨w0, hW0⟩ : ∃ W0, W0 = ((w.alloc (.cells #[.string lo, .string hi] 34)).alloc (.cells #[.string lp, .string hj] 34)).alloc (.cells #[.string ⟨#[]⟩, .string ⟨#[]⟩] 34) := ⟨_, rfl⟩
  obtain ⟨nb, hnb⟩ : ∃ nb, nb = w.heap.size := ⟨_, rfl⟩
  have hw : Below w.heap.size w w0 := by rw [hW0]; exact ((below_alloc1 _ _).alloc (below_alloc1 _ _).size _).alloc ((below_alloc1 _ _).alloc (below_alloc1 _ _).size _).size _
  have hb0 : Below w0.heap.size w0 w0 := Below.refl _ _
  have ha : w0.heap[nb]? = some (.cells #[.string lo, .string hi] 34 (0, 0)) := by rw [hW0, hnb]; exact pbox3_0 _ _ _ _ _ _ _
  obtain ⟨a0, a1, a2, a3⟩ := pair_cells ha
  have hb : w0.heap[nb + 1]? = some (.cells #[.string lp, .string hj] 34 (0, 0)) := by rw [hW0, hnb]; exact pbox3_1 _ _ _ _ _ _ _
  obtain ⟨b0, b1, b2, b3⟩ := pair_cells hb
  have hr : w0.heap[nb + 1 + 1]? = some (.cells #[.string ⟨#[]⟩, .string ⟨#[]⟩] 34 (0, 0)) := by rw [hW0, hnb]; exact pbox3_2 _ _ _ _ _ _ _
  obtain ⟨r0, r1, r2, r3⟩ := pair_cells hr
  have hX := fun (W : World) (_ : Below w0.heap.size w0 W) => less1_any lp lo hl2 hl W
  have hY := fun (W : World) (_ : Below w0.heap.size w0 W) => less1_any hi hj hh hh2 W
  have hlv := jn_lo lo hi lp hj m1 m2
  have hsv := jn_hi lo hi lp hj m1 m2
  obtain ⟨rx, hrx⟩ : ∃ x, x = lessL lp.data.toList lo.data.toList := ⟨_, rfl⟩
  obtain ⟨ry, hry⟩ : ∃ x, x = lessL hi.data.toList hj.data.toList := ⟨_, rfl⟩
  obtain ⟨d1, k1⟩ : ∃ x, lp.toList.isEmpty = x := ⟨_, rfl⟩
  obtain ⟨d2, k2⟩ : ∃ x, lo.toList.isEmpty = x := ⟨_, rfl⟩
  obtain ⟨d3, k3⟩ : ∃ x, hj.toList.isEmpty = x := ⟨_, rfl⟩
  obtain ⟨d4, k4⟩ : ∃ x, hi.toList.isEmpty = x := ⟨_, rfl⟩
  rw [← hrx] at hlv
  rw [← hry] at hsv
  have hlv : (jnV lo hi lp hj).1 = if d1 = true ∨ (d2 = false ∧ rx = true) then lp else lo := by rw [hlv, ← k1, ← k2]; simp only [Txt.no_dec, decide_eq_false_iff_not, ne_eq, decide_eq_true_eq]
  have hsv : (jnV lo hi lp hj).2 = if d3 = true ∨ (d4 = false ∧ ry = true) then hj else hi := by rw [hsv, ← k3, ← k4]; simp only [Txt.no_dec, decide_eq_false_iff_not, ne_eq, decide_eq_true_eq]
  have hle : w.heap.size ≤ nb + 1 + 1 := by omega
  obtain ⟨vv1, hvv1⟩ : ∃ x, x = (jnV lo hi lp hj).1 := ⟨_, rfl⟩
  obtain ⟨vv2, hvv2⟩ : ∃ x, x = (jnV lo hi lp hj).2 := ⟨_, rfl⟩
  rw [← hvv1] at hlv ⊢
  rw [← hvv2] at hsv ⊢
  rw [← hrx] at hX
  rw [← hry] at hY
  clear hrx hry m1 m2 hvv1 hvv2
  have HX := Lib.hid hX; have HY := Lib.hid hY; have Hlv := Lib.hid hlv; have Hsv := Lib.hid hsv; have Hle := Lib.hid hle; have Hw := Lib.hid hw; have Hb0 := Lib.hid hb0; have Ha := Lib.hid ha; have Hb := Lib.hid hb; have Hr := Lib.hid hr; clear hX hY hlv hsv hle hw hb0 ha hb hr
  go_enter Tryz.func119, Tryz.ntmps119
  go_upto_region 1 with (fail)
  rw [← hW0, ← hnb]
  clear hW0 hnb
  go_upto_region 2 with (fail)
  obtain ⟨w1, hv⟩ : ∃ W, W = w0.alloc (.cells #[.string lo, .string hi] 34) := ⟨_, rfl⟩
  obtain ⟨go, hg⟩ : ∃ g, g = w0.heap.size := ⟨_, rfl⟩
  have hs : Below w0.heap.size w0 w1 := by rw [hv]; exact below_alloc1 _ _
  have hb1 := Hb0.out.trans (hs.mono Hb0.out.size)
  have hgeo : w0.heap.size ≤ go := by rw [hg]; exact Hb0.out.size
  have hneao : nb ≠ go := by have := (Array.getElem?_eq_some_iff.1 Ha.out).1; omega
  have hnebo : nb + 1 ≠ go := by have := (Array.getElem?_eq_some_iff.1 Hb.out).1; omega
  have hnero : nb + 1 + 1 ≠ go := by have := (Array.getElem?_eq_some_iff.1 Hr.out).1; omega
  have ha := heap_below hs Ha.out
  clear Ha a0 a1 a2 a3
  obtain ⟨a0, a1, a2, a3⟩ := pair_cells ha
  have hb := heap_below hs Hb.out
  clear Hb b0 b1 b2 b3
  obtain ⟨b0, b1, b2, b3⟩ := pair_cells hb
  have hr := heap_below hs Hr.out
  clear Hr r0 r1 r2 r3
  obtain ⟨r0, r1, r2, r3⟩ := pair_cells hr
  have ho : w1.heap[go]? = some (.cells #[.string lo, .string hi] 34 (0, 0)) := by rw [hv, hg]; exact heap_alloc_new _ _
  obtain ⟨o0, o1, o2, o3⟩ := pair_cells ho
  rw [← hv, ← hg]
  clear hv hg
  have Hs := Lib.hid hs; have Hb1 := Lib.hid hb1; have Hgeo := Lib.hid hgeo; have Ha := Lib.hid ha; have Hb := Lib.hid hb; have Hr := Lib.hid hr; have Ho := Lib.hid ho; have Hneao := Lib.hid hneao; have Hnebo := Lib.hid hnebo; have Hnero := Lib.hid hnero; clear hs hb1 hgeo ha hb hr ho hneao hnebo hnero
  cases d1 with
  | false =>
    cases d2 with
    | false =>
      go_wp2_with fail
      refine (HX.out _ Hb1.out).mono ?_
      rintro e w2 ⟨rfl, hs⟩
      have hb2 := Hb1.out.trans (hs.mono Hb1.out.size)
      have ha := heap_below hs Ha.out
      clear Ha a0 a1 a2 a3
      obtain ⟨a0, a1, a2, a3⟩ := pair_cells ha
      have hb := heap_below hs Hb.out
      clear Hb b0 b1 b2 b3
      obtain ⟨b0, b1, b2, b3⟩ := pair_cells hb
      have hr := heap_below hs Hr.out
      clear Hr r0 r1 r2 r3
      obtain ⟨r0, r1, r2, r3⟩ := pair_cells hr
      have ho := heap_below hs Ho.out
      clear Ho o0 o1 o2 o3
      obtain ⟨o0, o1, o2, o3⟩ := pair_cells ho
      have Hs := Lib.hid hs; have Hb2 := Lib.hid hb2; have Ha := Lib.hid ha; have Hb := Lib.hid hb; have Hr := Lib.hid hr; have Ho := Lib.hid ho; clear hs hb2 ha hb hr ho
      cases rx with
      | false =>
        cases d3 with
        | false =>
          cases d4 with
          | false =>
            go_wp2_with fail
            refine (HY.out _ Hb2.out).mono ?_
            rintro e w3 ⟨rfl, hs⟩
            have hb3 := Hb2.out.trans (hs.mono Hb2.out.size)
            have ha := heap_below hs Ha.out
            clear Ha a0 a1 a2 a3
            obtain ⟨a0, a1, a2, a3⟩ := pair_cells ha
            have hb := heap_below hs Hb.out
            clear Hb b0 b1 b2 b3
            obtain ⟨b0, b1, b2, b3⟩ := pair_cells hb
            have hr := heap_below hs Hr.out
            clear Hr r0 r1 r2 r3
            obtain ⟨r0, r1, r2, r3⟩ := pair_cells hr
            have ho := heap_below hs Ho.out
            clear Ho o0 o1 o2 o3
            obtain ⟨o0, o1, o2, o3⟩ := pair_cells ho
            have Hs := Lib.hid hs; have Hb3 := Lib.hid hb3; have Ha := Lib.hid ha; have Hb := Lib.hid hb; have Hr := Lib.hid hr; have Ho := Lib.hid ho; clear hs hb3 ha hb hr ho
            cases ry with
            | false =>
              go_wp2_with fail
              refine bodyPost_spn1 rfl rfl (pair_set _ _ Hr.out) rfl ?_
              exact ⟨ret_spn1 (by first | rfl | (rw [Hlv.out]; rfl)) (by first | rfl | (rw [Hsv.out]; rfl)), pair_bel _ _ (below_on Hw.out Hb3.out) Hle.out⟩
            | true =>
              go_upto_region 6 with (fail)
              obtain ⟨w4, hv⟩ : ∃ W, W = w3.setCell ⟨go, 1, none⟩ (.string hj) := ⟨_, rfl⟩
              have hb4 : Below w0.heap.size w0 w4 := by rw [hv]; exact Hb3.out.setCell (p := ⟨go, 1, none⟩) Hgeo.out _
              have ha : w4.heap[nb]? = some (.cells #[.string lo, .string hi] 34 (0, 0)) := by rw [hv, Below.heap_setCell _ _ _ _ Hneao.out]; exact Ha.out
              clear Ha a0 a1 a2 a3
              obtain ⟨a0, a1, a2, a3⟩ := pair_cells ha
              have hb : w4.heap[nb + 1]? = some (.cells #[.string lp, .string hj] 34 (0, 0)) := by rw [hv, Below.heap_setCell _ _ _ _ Hnebo.out]; exact Hb.out
              clear Hb b0 b1 b2 b3
              obtain ⟨b0, b1, b2, b3⟩ := pair_cells hb
              have hr : w4.heap[nb + 1 + 1]? = some (.cells #[.string ⟨#[]⟩, .string ⟨#[]⟩] 34 (0, 0)) := by rw [hv, Below.heap_setCell _ _ _ _ Hnero.out]; exact Hr.out
              clear Hr r0 r1 r2 r3
              obtain ⟨r0, r1, r2, r3⟩ := pair_cells hr
              have ho : w4.heap[go]? = some (.cells #[.string lo, .string hj] 34 (0, 0)) := by rw [hv]; exact heap_setCell_same _ go 1 _ _ _ Ho.out
              clear Ho o0 o1 o2 o3
              obtain ⟨o0, o1, o2, o3⟩ := pair_cells ho
              rw [← hv]
              clear hv
              have Hb4 := Lib.hid hb4; have Ha := Lib.hid ha; have Hb := Lib.hid hb; have Hr := Lib.hid hr; have Ho := Lib.hid ho; clear hb4 ha hb hr ho
              go_wp2_with fail
              refine bodyPost_spn1 rfl rfl (pair_set _ _ Hr.out) rfl ?_
              exact ⟨ret_spn1 (by first | rfl | (rw [Hlv.out]; rfl)) (by first | rfl | (rw [Hsv.out]; rfl)), pair_bel _ _ (below_on Hw.out Hb4.out) Hle.out⟩
          | true =>
            go_wp2_with fail
            refine bodyPost_spn1 rfl rfl (pair_set _ _ Hr.out) rfl ?_
            exact ⟨ret_spn1 (by first | rfl | (rw [Hlv.out]; rfl)) (by first | rfl | (rw [Hsv.out]; rfl)), pair_bel _ _ (below_on Hw.out Hb2.out) Hle.out⟩
        | true =>
          go_upto_region 6 with (fail)
          obtain ⟨w3, hv⟩ : ∃ W, W = w2.setCell ⟨go, 1, none⟩ (.string hj) := ⟨_, rfl⟩
          have hb3 : Below w0.heap.size w0 w3 := by rw [hv]; exact Hb2.out.setCell (p := ⟨go, 1, none⟩) Hgeo.out _
          have ha : w3.heap[nb]? = some (.cells #[.string lo, .string hi] 34 (0, 0)) := by rw [hv, Below.heap_setCell _ _ _ _ Hneao.out]; exact Ha.out
          clear Ha a0 a1 a2 a3
          obtain ⟨a0, a1, a2, a3⟩ := pair_cells ha
          have hb : w3.heap[nb + 1]? = some (.cells #[.string lp, .string hj] 34 (0, 0)) := by rw [hv, Below.heap_setCell _ _ _ _ Hnebo.out]; exact Hb.out
          clear Hb b0 b1 b2 b3
          obtain ⟨b0, b1, b2, b3⟩ := pair_cells hb
          have hr : w3.heap[nb + 1 + 1]? = some (.cells #[.string ⟨#[]⟩, .string ⟨#[]⟩] 34 (0, 0)) := by rw [hv, Below.heap_setCell _ _ _ _ Hnero.out]; exact Hr.out
          clear Hr r0 r1 r2 r3
          obtain ⟨r0, r1, r2, r3⟩ := pair_cells hr
          have ho : w3.heap[go]? = some (.cells #[.string lo, .string hj] 34 (0, 0)) := by rw [hv]; exact heap_setCell_same _ go 1 _ _ _ Ho.out
          clear Ho o0 o1 o2 o3
          obtain ⟨o0, o1, o2, o3⟩ := pair_cells ho
          rw [← hv]
          clear hv
          have Hb3 := Lib.hid hb3; have Ha := Lib.hid ha; have Hb := Lib.hid hb; have Hr := Lib.hid hr; have Ho := Lib.hid ho; clear hb3 ha hb hr ho
          go_wp2_with fail
          refine bodyPost_spn1 rfl rfl (pair_set _ _ Hr.out) rfl ?_
          exact ⟨ret_spn1 (by first | rfl | (rw [Hlv.out]; rfl)) (by first | rfl | (rw [Hsv.out]; rfl)), pair_bel _ _ (below_on Hw.out Hb3.out) Hle.out⟩
      | true =>
        go_upto_region 4 with (fail)
        obtain ⟨w3, hv⟩ : ∃ W, W = w2.setCell ⟨go, 0, none⟩ (.string lp) := ⟨_, rfl⟩
        have hb3 : Below w0.heap.size w0 w3 := by rw [hv]; exact Hb2.out.setCell (p := ⟨go, 0, none⟩) Hgeo.out _
        have ha : w3.heap[nb]? = some (.cells #[.string lo, .string hi] 34 (0, 0)) := by rw [hv, Below.heap_setCell _ _ _ _ Hneao.out]; exact Ha.out
        clear Ha a0 a1 a2 a3
        obtain ⟨a0, a1, a2, a3⟩ := pair_cells ha
        have hb : w3.heap[nb + 1]? = some (.cells #[.string lp, .string hj] 34 (0, 0)) := by rw [hv, Below.heap_setCell _ _ _ _ Hnebo.out]; exact Hb.out
        clear Hb b0 b1 b2 b3
        obtain ⟨b0, b1, b2, b3⟩ := pair_cells hb
        have hr : w3.heap[nb + 1 + 1]? = some (.cells #[.string ⟨#[]⟩, .string ⟨#[]⟩] 34 (0, 0)) := by rw [hv, Below.heap_setCell _ _ _ _ Hnero.out]; exact Hr.out
        clear Hr r0 r1 r2 r3
        obtain ⟨r0, r1, r2, r3⟩ := pair_cells hr
        have ho : w3.heap[go]? = some (.cells #[.string lp, .string hi] 34 (0, 0)) := by rw [hv]; exact heap_setCell_same _ go 0 _ _ _ Ho.out
        clear Ho o0 o1 o2 o3
        obtain ⟨o0, o1, o2, o3⟩ := pair_cells ho
        rw [← hv]
        clear hv
        have Hb3 := Lib.hid hb3; have Ha := Lib.hid ha; have Hb := Lib.hid hb; have Hr := Lib.hid hr; have Ho := Lib.hid ho; clear hb3 ha hb hr ho
        cases d3 with
        | false =>
          cases d4 with
          | false =>
            go_wp2_with fail
            refine (HY.out _ Hb3.out).mono ?_
            rintro e w4 ⟨rfl, hs⟩
            have hb4 := Hb3.out.trans (hs.mono Hb3.out.size)
            have ha := heap_below hs Ha.out
            clear Ha a0 a1 a2 a3
            obtain ⟨a0, a1, a2, a3⟩ := pair_cells ha
            have hb := heap_below hs Hb.out
            clear Hb b0 b1 b2 b3
            obtain ⟨b0, b1, b2, b3⟩ := pair_cells hb
            have hr := heap_below hs Hr.out
            clear Hr r0 r1 r2 r3
            obtain ⟨r0, r1, r2, r3⟩ := pair_cells hr
            have ho := heap_below hs Ho.out
            clear Ho o0 o1 o2 o3
            obtain ⟨o0, o1, o2, o3⟩ := pair_cells ho
            have Hs := Lib.hid hs; have Hb4 := Lib.hid hb4; have Ha := Lib.hid ha; have Hb := Lib.hid hb; have Hr := Lib.hid hr; have Ho := Lib.hid ho; clear hs hb4 ha hb hr ho
            cases ry with
            | false =>
              go_wp2_with fail
              refine bodyPost_spn1 rfl rfl (pair_set _ _ Hr.out) rfl ?_
              exact ⟨ret_spn1 (by first | rfl | (rw [Hlv.out]; rfl)) (by first | rfl | (rw [Hsv.out]; rfl)), pair_bel _ _ (below_on Hw.out Hb4.out) Hle.out⟩
            | true =>
              go_upto_region 6 with (fail)
              obtain ⟨w5, hv⟩ : ∃ W, W = w4.setCell ⟨go, 1, none⟩ (.string hj) := ⟨_, rfl⟩
              have hb5 : Below w0.heap.size w0 w5 := by rw [hv]; exact Hb4.out.setCell (p := ⟨go, 1, none⟩) Hgeo.out _
              have ha : w5.heap[nb]? = some (.cells #[.string lo, .string hi] 34 (0, 0)) := by rw [hv, Below.heap_setCell _ _ _ _ Hneao.out]; exact Ha.out
              clear Ha a0 a1 a2 a3
              obtain ⟨a0, a1, a2, a3⟩ := pair_cells ha
              have hb : w5.heap[nb + 1]? = some (.cells #[.string lp, .string hj] 34 (0, 0)) := by rw [hv, Below.heap_setCell _ _ _ _ Hnebo.out]; exact Hb.out
              clear Hb b0 b1 b2 b3
              obtain ⟨b0, b1, b2, b3⟩ := pair_cells hb
              have hr : w5.heap[nb + 1 + 1]? = some (.cells #[.string ⟨#[]⟩, .string ⟨#[]⟩] 34 (0, 0)) := by rw [hv, Below.heap_setCell _ _ _ _ Hnero.out]; exact Hr.out
              clear Hr r0 r1 r2 r3
              obtain ⟨r0, r1, r2, r3⟩ := pair_cells hr
              have ho : w5.heap[go]? = some (.cells #[.string lp, .string hj] 34 (0, 0)) := by rw [hv]; exact heap_setCell_same _ go 1 _ _ _ Ho.out
              clear Ho o0 o1 o2 o3
              obtain ⟨o0, o1, o2, o3⟩ := pair_cells ho
              rw [← hv]
              clear hv
              have Hb5 := Lib.hid hb5; have Ha := Lib.hid ha; have Hb := Lib.hid hb; have Hr := Lib.hid hr; have Ho := Lib.hid ho; clear hb5 ha hb hr ho
              go_wp2_with fail
              refine bodyPost_spn1 rfl rfl (pair_set _ _ Hr.out) rfl ?_
              exact ⟨ret_spn1 (by first | rfl | (rw [Hlv.out]; rfl)) (by first | rfl | (rw [Hsv.out]; rfl)), pair_bel _ _ (below_on Hw.out Hb5.out) Hle.out⟩
          | true =>
            go_wp2_with fail
            refine bodyPost_spn1 rfl rfl (pair_set _ _ Hr.out) rfl ?_
            exact ⟨ret_spn1 (by first | rfl | (rw [Hlv.out]; rfl)) (by first | rfl | (rw [Hsv.out]; rfl)), pair_bel _ _ (below_on Hw.out Hb3.out) Hle.out⟩
        | true =>
          go_upto_region 6 with (fail)
          obtain ⟨w4, hv⟩ : ∃ W, W = w3.setCell ⟨go, 1, none⟩ (.string hj) := ⟨_, rfl⟩
          have hb4 : Below w0.heap.size w0 w4 := by rw [hv]; exact Hb3.out.setCell (p := ⟨go, 1, none⟩) Hgeo.out _
          have ha : w4.heap[nb]? = some (.cells #[.string lo, .string hi] 34 (0, 0)) := by rw [hv, Below.heap_setCell _ _ _ _ Hneao.out]; exact Ha.out
          clear Ha a0 a1 a2 a3
          obtain ⟨a0, a1, a2, a3⟩ := pair_cells ha
          have hb : w4.heap[nb + 1]? = some (.cells #[.string lp, .string hj] 34 (0, 0)) := by rw [hv, Below.heap_setCell _ _ _ _ Hnebo.out]; exact Hb.out
          clear Hb b0 b1 b2 b3
          obtain ⟨b0, b1, b2, b3⟩ := pair_cells hb
          have hr : w4.heap[nb + 1 + 1]? = some (.cells #[.string ⟨#[]⟩, .string ⟨#[]⟩] 34 (0, 0)) := by rw [hv, Below.heap_setCell _ _ _ _ Hnero.out]; exact Hr.out
          clear Hr r0 r1 r2 r3
          obtain ⟨r0, r1, r2, r3⟩ := pair_cells hr
          have ho : w4.heap[go]? = some (.cells #[.string lp, .string hj] 34 (0, 0)) := by rw [hv]; exact heap_setCell_same _ go 1 _ _ _ Ho.out
          clear Ho o0 o1 o2 o3
          obtain ⟨o0, o1, o2, o3⟩ := pair_cells ho
          rw [← hv]
          clear hv
          have Hb4 := Lib.hid hb4; have Ha := Lib.hid ha; have Hb := Lib.hid hb; have Hr := Lib.hid hr; have Ho := Lib.hid ho; clear hb4 ha hb hr ho
          go_wp2_with fail
          refine bodyPost_spn1 rfl rfl (pair_set _ _ Hr.out) rfl ?_
          exact ⟨ret_spn1 (by first | rfl | (rw [Hlv.out]; rfl)) (by first | rfl | (rw [Hsv.out]; rfl)), pair_bel _ _ (below_on Hw.out Hb4.out) Hle.out⟩
    | true =>
      cases d3 with
      | false =>
        cases d4 with
        | false =>
          go_wp2_with fail
          refine (HY.out _ Hb1.out).mono ?_
          rintro e w2 ⟨rfl, hs⟩
          have hb2 := Hb1.out.trans (hs.mono Hb1.out.size)
          have ha := heap_below hs Ha.out
          clear Ha a0 a1 a2 a3
          obtain ⟨a0, a1, a2, a3⟩ := pair_cells ha
          have hb := heap_below hs Hb.out
          clear Hb b0 b1 b2 b3
          obtain ⟨b0, b1, b2, b3⟩ := pair_cells hb
          have hr := heap_below hs Hr.out
          clear Hr r0 r1 r2 r3
          obtain ⟨r0, r1, r2, r3⟩ := pair_cells hr
          have ho := heap_below hs Ho.out
          clear Ho o0 o1 o2 o3
          obtain ⟨o0, o1, o2, o3⟩ := pair_cells ho
          have Hs := Lib.hid hs; have Hb2 := Lib.hid hb2; have Ha := Lib.hid ha; have Hb := Lib.hid hb; have Hr := Lib.hid hr; have Ho := Lib.hid ho; clear hs hb2 ha hb hr ho
          cases ry with
          | false =>
            go_wp2_with fail
            refine bodyPost_spn1 rfl rfl (pair_set _ _ Hr.out) rfl ?_
            exact ⟨ret_spn1 (by first | rfl | (rw [Hlv.out]; rfl)) (by first | rfl | (rw [Hsv.out]; rfl)), pair_bel _ _ (below_on Hw.out Hb2.out) Hle.out⟩
          | true =>
            go_upto_region 6 with (fail)
            obtain ⟨w3, hv⟩ : ∃ W, W = w2.setCell ⟨go, 1, none⟩ (.string hj) := ⟨_, rfl⟩
            have hb3 : Below w0.heap.size w0 w3 := by rw [hv]; exact Hb2.out.setCell (p := ⟨go, 1, none⟩) Hgeo.out _
            have ha : w3.heap[nb]? = some (.cells #[.string lo, .string hi] 34 (0, 0)) := by rw [hv, Below.heap_setCell _ _ _ _ Hneao.out]; exact Ha.out
            clear Ha a0 a1 a2 a3
            obtain ⟨a0, a1, a2, a3⟩ := pair_cells ha
            have hb : w3.heap[nb + 1]? = some (.cells #[.string lp, .string hj] 34 (0, 0)) := by rw [hv, Below.heap_setCell _ _ _ _ Hnebo.out]; exact Hb.out
            clear Hb b0 b1 b2 b3
            obtain ⟨b0, b1, b2, b3⟩ := pair_cells hb
            have hr : w3.heap[nb + 1 + 1]? = some (.cells #[.string ⟨#[]⟩, .string ⟨#[]⟩] 34 (0, 0)) := by rw [hv, Below.heap_setCell _ _ _ _ Hnero.out]; exact Hr.out
            clear Hr r0 r1 r2 r3
            obtain ⟨r0, r1, r2, r3⟩ := pair_cells hr
            have ho : w3.heap[go]? = some (.cells #[.string lo, .string hj] 34 (0, 0)) := by rw [hv]; exact heap_setCell_same _ go 1 _ _ _ Ho.out
            clear Ho o0 o1 o2 o3
            obtain ⟨o0, o1, o2, o3⟩ := pair_cells ho
            rw [← hv]
            clear hv
            have Hb3 := Lib.hid hb3; have Ha := Lib.hid ha; have Hb := Lib.hid hb; have Hr := Lib.hid hr; have Ho := Lib.hid ho; clear hb3 ha hb hr ho
            go_wp2_with fail
            refine bodyPost_spn1 rfl rfl (pair_set _ _ Hr.out) rfl ?_
            exact ⟨ret_spn1 (by first | rfl | (rw [Hlv.out]; rfl)) (by first | rfl | (rw [Hsv.out]; rfl)), pair_bel _ _ (below_on Hw.out Hb3.out) Hle.out⟩
        | true =>
          go_wp2_with fail
          refine bodyPost_spn1 rfl rfl (pair_set _ _ Hr.out) rfl ?_
          exact ⟨ret_spn1 (by first | rfl | (rw [Hlv.out]; rfl)) (by first | rfl | (rw [Hsv.out]; rfl)), pair_bel _ _ (below_on Hw.out Hb1.out) Hle.out⟩
      | true =>
        go_upto_region 6 with (fail)
        obtain ⟨w2, hv⟩ : ∃ W, W = w1.setCell ⟨go, 1, none⟩ (.string hj) := ⟨_, rfl⟩
        have hb2 : Below w0.heap.size w0 w2 := by rw [hv]; exact Hb1.out.setCell (p := ⟨go, 1, none⟩) Hgeo.out _
        have ha : w2.heap[nb]? = some (.cells #[.string lo, .string hi] 34 (0, 0)) := by rw [hv, Below.heap_setCell _ _ _ _ Hneao.out]; exact Ha.out
        clear Ha a0 a1 a2 a3
        obtain ⟨a0, a1, a2, a3⟩ := pair_cells ha
        have hb : w2.heap[nb + 1]? = some (.cells #[.string lp, .string hj] 34 (0, 0)) := by rw [hv, Below.heap_setCell _ _ _ _ Hnebo.out]; exact Hb.out
        clear Hb b0 b1 b2 b3
        obtain ⟨b0, b1, b2, b3⟩ := pair_cells hb
        have hr : w2.heap[nb + 1 + 1]? = some (.cells #[.string ⟨#[]⟩, .string ⟨#[]⟩] 34 (0, 0)) := by rw [hv, Below.heap_setCell _ _ _ _ Hnero.out]; exact Hr.out
        clear Hr r0 r1 r2 r3
        obtain ⟨r0, r1, r2, r3⟩ := pair_cells hr
        have ho : w2.heap[go]? = some (.cells #[.string lo, .string hj] 34 (0, 0)) := by rw [hv]; exact heap_setCell_same _ go 1 _ _ _ Ho.out
        clear Ho o0 o1 o2 o3
        obtain ⟨o0, o1, o2, o3⟩ := pair_cells ho
        rw [← hv]
        clear hv
        have Hb2 := Lib.hid hb2; have Ha := Lib.hid ha; have Hb := Lib.hid hb; have Hr := Lib.hid hr; have Ho := Lib.hid ho; clear hb2 ha hb hr ho
        go_wp2_with fail
        refine bodyPost_spn1 rfl rfl (pair_set _ _ Hr.out) rfl ?_
        exact ⟨ret_spn1 (by first | rfl | (rw [Hlv.out]; rfl)) (by first | rfl | (rw [Hsv.out]; rfl)), pair_bel _ _ (below_on Hw.out Hb2.out) Hle.out⟩
  | true =>
    go_upto_region 4 with (fail)
    obtain ⟨w2, hv⟩ : ∃ W, W = w1.setCell ⟨go, 0, none⟩ (.string lp) := ⟨_, rfl⟩
    have hb2 : Below w0.heap.size w0 w2 := by rw [hv]; exact Hb1.out.setCell (p := ⟨go, 0, none⟩) Hgeo.out _
    have ha : w2.heap[nb]? = some (.cells #[.string lo, .string hi] 34 (0, 0)) := by rw [hv, Below.heap_setCell _ _ _ _ Hneao.out]; exact Ha.out
    clear Ha a0 a1 a2 a3
    obtain ⟨a0, a1, a2, a3⟩ := pair_cells ha
    have hb : w2.heap[nb + 1]? = some (.cells #[.string lp, .string hj] 34 (0, 0)) := by rw [hv, Below.heap_setCell _ _ _ _ Hnebo.out]; exact Hb.out
    clear Hb b0 b1 b2 b3
    obtain ⟨b0, b1, b2, b3⟩ := pair_cells hb
    have hr : w2.heap[nb + 1 + 1]? = some (.cells #[.string ⟨#[]⟩, .string ⟨#[]⟩] 34 (0, 0)) := by rw [hv, Below.heap_setCell _ _ _ _ Hnero.out]; exact Hr.out
    clear Hr r0 r1 r2 r3
    obtain ⟨r0, r1, r2, r3⟩ := pair_cells hr
    have ho : w2.heap[go]? = some (.cells #[.string lp, .string hi] 34 (0, 0)) := by rw [hv]; exact heap_setCell_same _ go 0 _ _ _ Ho.out
    clear Ho o0 o1 o2 o3
    obtain ⟨o0, o1, o2, o3⟩ := pair_cells ho
    rw [← hv]
    clear hv
    have Hb2 := Lib.hid hb2; have Ha := Lib.hid ha; have Hb := Lib.hid hb; have Hr := Lib.hid hr; have Ho := Lib.hid ho; clear hb2 ha hb hr ho
    cases d3 with
    | false =>
      cases d4 with
      | false =>
        go_wp2_with fail
        refine (HY.out _ Hb2.out).mono ?_
        rintro e w3 ⟨rfl, hs⟩
        have hb3 := Hb2.out.trans (hs.mono Hb2.out.size)
        have ha := heap_below hs Ha.out
        clear Ha a0 a1 a2 a3
        obtain ⟨a0, a1, a2, a3⟩ := pair_cells ha
        have hb := heap_below hs Hb.out
        clear Hb b0 b1 b2 b3
        obtain ⟨b0, b1, b2, b3⟩ := pair_cells hb
        have hr := heap_below hs Hr.out
        clear Hr r0 r1 r2 r3
        obtain ⟨r0, r1, r2, r3⟩ := pair_cells hr
        have ho := heap_below hs Ho.out
        clear Ho o0 o1 o2 o3
        obtain ⟨o0, o1, o2, o3⟩ := pair_cells ho
        have Hs := Lib.hid hs; have Hb3 := Lib.hid hb3; have Ha := Lib.hid ha; have Hb := Lib.hid hb; have Hr := Lib.hid hr; have Ho := Lib.hid ho; clear hs hb3 ha hb hr ho
        cases ry with
        | false =>
          go_wp2_with fail
          refine bodyPost_spn1 rfl rfl (pair_set _ _ Hr.out) rfl ?_
          exact ⟨ret_spn1 (by first | rfl | (rw [Hlv.out]; rfl)) (by first | rfl | (rw [Hsv.out]; rfl)), pair_bel _ _ (below_on Hw.out Hb3.out) Hle.out⟩
        | true =>
          go_upto_region 6 with (fail)
          obtain ⟨w4, hv⟩ : ∃ W, W = w3.setCell ⟨go, 1, none⟩ (.string hj) := ⟨_, rfl⟩
          have hb4 : Below w0.heap.size w0 w4 := by rw [hv]; exact Hb3.out.setCell (p := ⟨go, 1, none⟩) Hgeo.out _
          have ha : w4.heap[nb]? = some (.cells #[.string lo, .string hi] 34 (0, 0)) := by rw [hv, Below.heap_setCell _ _ _ _ Hneao.out]; exact Ha.out
          clear Ha a0 a1 a2 a3
          obtain ⟨a0, a1, a2, a3⟩ := pair_cells ha
          have hb : w4.heap[nb + 1]? = some (.cells #[.string lp, .string hj] 34 (0, 0)) := by rw [hv, Below.heap_setCell _ _ _ _ Hnebo.out]; exact Hb.out
          clear Hb b0 b1 b2 b3
          obtain ⟨b0, b1, b2, b3⟩ := pair_cells hb
          have hr : w4.heap[nb + 1 + 1]? = some (.cells #[.string ⟨#[]⟩, .string ⟨#[]⟩] 34 (0, 0)) := by rw [hv, Below.heap_setCell _ _ _ _ Hnero.out]; exact Hr.out
          clear Hr r0 r1 r2 r3
          obtain ⟨r0, r1, r2, r3⟩ := pair_cells hr
          have ho : w4.heap[go]? = some (.cells #[.string lp, .string hj] 34 (0, 0)) := by rw [hv]; exact heap_setCell_same _ go 1 _ _ _ Ho.out
          clear Ho o0 o1 o2 o3
          obtain ⟨o0, o1, o2, o3⟩ := pair_cells ho
          rw [← hv]
          clear hv
          have Hb4 := Lib.hid hb4; have Ha := Lib.hid ha; have Hb := Lib.hid hb; have Hr := Lib.hid hr; have Ho := Lib.hid ho; clear hb4 ha hb hr ho
          go_wp2_with fail
          refine bodyPost_spn1 rfl rfl (pair_set _ _ Hr.out) rfl ?_
          exact ⟨ret_spn1 (by first | rfl | (rw [Hlv.out]; rfl)) (by first | rfl | (rw [Hsv.out]; rfl)), pair_bel _ _ (below_on Hw.out Hb4.out) Hle.out⟩
      | true =>
        go_wp2_with fail
        refine bodyPost_spn1 rfl rfl (pair_set _ _ Hr.out) rfl ?_
        exact ⟨ret_spn1 (by first | rfl | (rw [Hlv.out]; rfl)) (by first | rfl | (rw [Hsv.out]; rfl)), pair_bel _ _ (below_on Hw.out Hb2.out) Hle.out⟩
    | true =>
      go_upto_region 6 with (fail)
      obtain ⟨w3, hv⟩ : ∃ W, W = w2.setCell ⟨go, 1, none⟩ (.string hj) := ⟨_, rfl⟩
      have hb3 : Below w0.heap.size w0 w3 := by rw [hv]; exact Hb2.out.setCell (p := ⟨go, 1, none⟩) Hgeo.out _
      have ha : w3.heap[nb]? = some (.cells #[.string lo, .string hi] 34 (0, 0)) := by rw [hv, Below.heap_setCell _ _ _ _ Hneao.out]; exact Ha.out
      clear Ha a0 a1 a2 a3
      obtain ⟨a0, a1, a2, a3⟩ := pair_cells ha
      have hb : w3.heap[nb + 1]? = some (.cells #[.string lp, .string hj] 34 (0, 0)) := by rw [hv, Below.heap_setCell _ _ _ _ Hnebo.out]; exact Hb.out
      clear Hb b0 b1 b2 b3
      obtain ⟨b0, b1, b2, b3⟩ := pair_cells hb
      have hr : w3.heap[nb + 1 + 1]? = some (.cells #[.string ⟨#[]⟩, .string ⟨#[]⟩] 34 (0, 0)) := by rw [hv, Below.heap_setCell _ _ _ _ Hnero.out]; exact Hr.out
      clear Hr r0 r1 r2 r3
      obtain ⟨r0, r1, r2, r3⟩ := pair_cells hr
      have ho : w3.heap[go]? = some (.cells #[.string lp, .string hj] 34 (0, 0)) := by rw [hv]; exact heap_setCell_same _ go 1 _ _ _ Ho.out
      clear Ho o0 o1 o2 o3
      obtain ⟨o0, o1, o2, o3⟩ := pair_cells ho
      rw [← hv]
      clear hv
      have Hb3 := Lib.hid hb3; have Ha := Lib.hid ha; have Hb := Lib.hid hb; have Hr := Lib.hid hr; have Ho := Lib.hid ho; clear hb3 ha hb hr ho
      go_wp2_with fail
      refine bodyPost_spn1 rfl rfl (pair_set _ _ Hr.out) rfl ?_
      exact ⟨ret_spn1 (by first | rfl | (rw [Hlv.out]; rfl)) (by first | rfl | (rw [Hsv.out]; rfl)), pair_bel _ _ (below_on Hw.out Hb3.out) Hle.out⟩
end Go.Proofs.YteailgjiifdgcaaGreatDoor
