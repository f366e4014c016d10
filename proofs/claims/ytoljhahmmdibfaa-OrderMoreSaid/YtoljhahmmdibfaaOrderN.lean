/- The walk of OrderMore: it returns true. No condition. -/
import Derived.Test.YtoljhahmmdibfaaOrderR
import Derived.Test.YtoljhahmmdibfaaOrderK
import Derived.Test.YtoljhahmmdibfaaOrderM2
import Derived.Test.YtoljhahmmdibfaaOpen2
set_option linter.unusedVariables false
set_option linter.unusedSimpArgs false
namespace Go.Proofs.Ytoljhahmmdibfaa
open Go.RowKit OrderM

theorem mat_made {w0 w : World} {g n : Nat} (h : w.ownsRow w0.heap.size 35 1 (.slice (some ⟨g, 0, none⟩) n n) n (madeCells #[Value.slice none 0 0] n).toList) : Mat w0.heap.size g n w (List.replicate n []) (List.replicate n (.slice none 0 0)) := by
  rw [toList_madeCells_one (.slice none 0 0) n] at h
  refine ⟨by simp, by simp, h, ?_, ?_⟩
  · intro i v l hv hl
    obtain ⟨_, hv⟩ := List.getElem?_eq_some_iff.1 hv
    obtain ⟨_, hl⟩ := List.getElem?_eq_some_iff.1 hl
    simp at hv hl
    subst hv; subst hl
    exact World.ownsRow_nil _ _ _ _
  · intro i j u v hu hv hij k hk
    obtain ⟨_, hu⟩ := List.getElem?_eq_some_iff.1 hu
    simp at hu
    subst hu
    simp [Value.ownBlock] at hk
theorem matS_made {g n k : Nat} (h : MatS g (List.replicate n (.slice none 0 0)) k) : k = g := by
  rcases h with h | ⟨v, hv, hk⟩
  · exact h
  · rw [List.mem_replicate] at hv
    rw [hv.2] at hk
    simp [Value.ownBlock] at hk
theorem rowOf {l : List Int} (E : G) (p : Nat) (h : p < E.length) (hl : E[p] = l) : E.getD p [] = l := by simp [List.getD, h, hl]
theorem news_of {w : World} {a : Option Addr} {l : List Int} (h : ∀ (i : Nat) (hi : i < l.length), ∃ b off, a = some ⟨b, off, none⟩ ∧ w.cell? ⟨b, off + i, none⟩ = some (.int .i64 l[i]) ∧ -9223372036854775808 ≤ l[i] ∧ l[i] ≤ 9223372036854775807) :
    ∀ j u, (l.map (Value.int .i64))[j]? = some u → ∃ b off, a = some ⟨b, off, none⟩ ∧ w.cell? ⟨b, off + j, none⟩ = some u := by
  intro j u hu
  simp at hu
  obtain ⟨x, hx, rfl⟩ := hu
  obtain ⟨hj, rfl⟩ := List.getElem?_eq_some_iff.1 hx
  obtain ⟨b, off, h1, h2, _⟩ := h j hj
  exact ⟨b, off, h1, h2⟩

abbrev REdZ : Rd G := RSlZ 1 24 (RSlZ 1 8 (RInt .i64))
theorem opensZ_edges : OpensZ Try.prog 34 REdZ := opensZ_slice Try.underlying34 (by kernel_rfl) (by kernel_rfl) (by decide) (opensZ_slice Try.underlying35 (by kernel_rfl) (by kernel_rfl) (by decide) (opensZ_int Try.underlying3))
theorem edges_of_z {w : World} {cs : List Value} {E : G} (h : REdZ w cs E) : REd w cs E ∧ ∀ l ∈ E, l.length ≤ 17592186044416 := by
  obtain ⟨⟨a, cap, h1, h2, h3, h4⟩, _⟩ := h
  refine ⟨⟨a, cap, h1, h2, h3, fun i x hi => ?_⟩, fun l hl => ?_⟩
  · obtain ⟨b, off, ecs, g1, g2, g3, g4⟩ := h4 i x hi
    exact ⟨b, off, ecs, g1, g2, g3, g4.1⟩
  · obtain ⟨i, hi, rfl⟩ := List.mem_iff_getElem.1 hl
    obtain ⟨b, off, ecs, g1, g2, g3, g4⟩ := h4 i _ (List.getElem?_eq_getElem hi)
    have := g4.2
    omega
def cntE (E : G) : Nat → Nat
  | 0 => 0
  | k + 1 => cntE E k + (1 + (E.getD k []).length)
theorem cntE_le (E : G) (h : ∀ l ∈ E, l.length ≤ 17592186044416) : ∀ k, k ≤ E.length → cntE E k ≤ k * 17592186044417 := by
  intro k
  induction k with
  | zero => intro _; simp [cntE]
  | succ k ih =>
    intro hk
    have h1 := ih (by omega)
    have h2 : (E.getD k []).length ≤ 17592186044416 := by
      rw [show E.getD k [] = E[k] by simp [List.getD, show k < E.length by omega]]
      exact h _ (List.getElem_mem _)
    unfold cntE
    omega
theorem cntE_row (E : G) (p : Nat) : ∀ k, p < k → (E.getD p []).length ≤ cntE E k := by
  intro k
  induction k with
  | zero => intro h; omega
  | succ k ih =>
    intro h
    unfold cntE
    by_cases e : p = k
    · subst e; omega
    · have := ih (by omega); omega
/-- what the first loop counts, where there are few -/
def CntIs (E : G) (k : Nat) (s : Int) : Prop := k ≤ 40 → s = cntE E k

theorem cntE_mono (E : G) {k m : Nat} (h : k ≤ m) : cntE E k ≤ cntE E m := by
  induction h with
  | refl => exact Nat.le_refl _
  | @step m _ ih => show _ ≤ cntE E m + (1 + (E.getD m []).length); omega
theorem getD_set_le (b : G) (i j : Nat) (l : List Int) (x : Int) (h : l = b.getD i [] ++ [x]) : ((b.set i l).getD j []).length ≤ (b.getD j []).length + 1 := by
  by_cases e : i = j
  · subst e
    by_cases hi : i < b.length
    · simp [List.getD, hi, h]
    · rw [List.set_eq_of_length_le (by omega)]; omega
  · simp [List.getD, List.getElem?_set, e]
theorem backRow_le (n p : Nat) (j : Nat) : ∀ (l : List Int) (b : G), ((backRow n p b l).getD j []).length ≤ (b.getD j []).length + l.length := by
  intro l
  induction l with
  | nil => intro b; simp [backRow]
  | cons t r ih =>
    intro b
    have h1 := ih (backStep n p b t)
    have h2 : ((backStep n p b t).getD j []).length ≤ (b.getD j []).length + 1 := by
      unfold backStep
      split
      · exact getD_set_le b _ j _ _ rfl
      · omega
    have h3 : backRow n p b (t :: r) = backRow n p (backStep n p b t) r := rfl
    rw [h3, List.length_cons]
    omega
theorem upRow_le (p : Nat) (j : Nat) : ∀ (l : List Int) (b : G), ((upRow p b l).getD j []).length ≤ (b.getD j []).length + l.length := by
  intro l
  induction l with
  | nil => intro b; simp [upRow]
  | cons t r ih =>
    intro b
    have h1 := ih (upStep p b t)
    have h2 : ((upStep p b t).getD j []).length ≤ (b.getD j []).length + 1 := by
      unfold upStep
      split
      · exact getD_set_le b _ j _ _ rfl
      · omega
    have h3 : upRow p b (t :: r) = upRow p (upStep p b t) r := rfl
    rw [h3, List.length_cons]
    omega
theorem backs_le (E : G) (j : Nat) : ∀ p, ((backs E p).getD j []).length ≤ cntE E p := by
  intro p
  induction p with
  | zero => by_cases h : j < E.length <;> simp [backs, cntE, List.getD, h]
  | succ p ih =>
    have := backRow_le E.length p j (E.getD p []) (backs E p)
    unfold backs cntE
    omega
theorem ups_le (E : G) (j : Nat) : ∀ p, ((ups E p).getD j []).length ≤ cntE E p := by
  intro p
  induction p with
  | zero => by_cases h : j < E.length <;> simp [ups, cntE, List.getD, h]
  | succ p ih =>
    have := upRow_le p j (E.getD p []) (ups E p)
    unfold ups cntE
    omega

def AllIn (b : G) : Prop := ∀ l ∈ b, ∀ x ∈ l, -9223372036854775808 ≤ x ∧ x ≤ 9223372036854775807
theorem allIn_set {b : G} (h : AllIn b) (i : Nat) (l : List Int) (x : Int) (hx : -9223372036854775808 ≤ x ∧ x ≤ 9223372036854775807) (hl : l = b.getD i [] ++ [x]) : AllIn (b.set i l) := by
  intro r hr y hy
  rcases List.mem_or_eq_of_mem_set hr with hr | rfl
  · exact h r hr y hy
  · rw [hl] at hy
    rcases List.mem_append.1 hy with hy | hy
    · by_cases hi : i < b.length
      · rw [show b.getD i [] = b[i] by simp [List.getD, hi]] at hy
        exact h _ (List.getElem_mem hi) y hy
      · rw [show b.getD i [] = [] by simp [List.getD, hi]] at hy; simp at hy
    · simp at hy; rw [hy]; exact hx
theorem allIn_back (n p : Nat) (hp : p ≤ 1000) : ∀ (l : List Int) (b : G), AllIn b → AllIn (backRow n p b l) := by
  intro l
  induction l with
  | nil => intro b h; exact h
  | cons t r ih =>
    intro b h
    have h3 : backRow n p b (t :: r) = backRow n p (backStep n p b t) r := rfl
    rw [h3]
    apply ih
    unfold backStep
    split
    · exact allIn_set h _ _ p (by omega) rfl
    · exact h
theorem allIn_up (p : Nat) : ∀ (l : List Int) (b : G), (∀ x ∈ l, -9223372036854775808 ≤ x ∧ x ≤ 9223372036854775807) → AllIn b → AllIn (upRow p b l) := by
  intro l
  induction l with
  | nil => intro b _ h; exact h
  | cons t r ih =>
    intro b hl h
    have h3 : upRow p b (t :: r) = upRow p (upStep p b t) r := rfl
    rw [h3]
    apply ih _ (fun x hx => hl x (by simp [hx]))
    unfold upStep
    split
    · exact allIn_set h _ _ t (hl t (by simp)) rfl
    · exact h
theorem allIn_empty (n : Nat) : AllIn (List.replicate n []) := by
  intro l hl x hx
  rw [List.mem_replicate] at hl
  rw [hl.2] at hx; simp at hx
theorem allIn_backs (E : G) : ∀ p, p ≤ 1000 → AllIn (backs E p) := by
  intro p
  induction p with
  | zero => intro _; exact allIn_empty _
  | succ p ih => intro h; exact allIn_back _ p (by omega) _ _ (ih (by omega))
theorem allIn_ups (E : G) (h : AllIn E) : ∀ p, AllIn (ups E p) := by
  intro p
  induction p with
  | zero => exact allIn_empty _
  | succ p ih =>
    refine allIn_up p _ _ (fun x hx => ?_) ih
    by_cases hi : p < E.length
    · rw [show E.getD p [] = E[p] by simp [List.getD, hi]] at hx
      exact h _ (List.getElem_mem hi) x hx
    · rw [show E.getD p [] = [] by simp [List.getD, hi]] at hx; simp at hx
theorem allIn_read {w : World} {cs : List Value} {E : G} (h : REd w cs E) : AllIn E := by
  intro l hl x hx
  obtain ⟨a, cap, h1, h2, h3, h4⟩ := h
  obtain ⟨i, hi, rfl⟩ := List.mem_iff_getElem.1 hl
  obtain ⟨b, off, ecs, _, _, _, g4⟩ := h4 i _ (List.getElem?_eq_getElem hi)
  obtain ⟨_, _, _, _, _, k4⟩ := g4
  obtain ⟨j, hj, rfl⟩ := List.mem_iff_getElem.1 hx
  obtain ⟨_, _, _, _, _, _, m4⟩ := k4 j _ (List.getElem?_eq_getElem hj)
  exact wf_i64 m4.2
/-- how many places the way round has -/
def LenPost (w : World) (b : Bool) (e : Ending) (w' : World) : Prop := ∃ a n c, e = .returned (.slice a n c) ∧ n ≤ c ∧ c ≤ maxLen ∧ decide (0 < n) = b ∧ ((n : Int) == 0) = !b ∧ Below w.heap.size w w'
theorem circle_len (ev : Value) (E : G) (w : World) (b : Bool) (hE : E.length ≤ 1000) (hed : REd w [ev] E) (hb : b = true ↔ HasCyc E) : Calls Try.prog 23 #[ev] w (LenPost w b) := by
  refine (circle_any ev E w hE hed).mono ?_
  rintro e w2 ⟨v, L, rfl, hL, hb2, hcase⟩
  obtain ⟨la, lc, hv, hlc, hlm, _⟩ := ints_form hL
  subst hv
  refine ⟨la, L.length, lc, rfl, hlc, hlm, ?_, ?_, hb2⟩
  · rcases hcase with ⟨hnil, D, hD, hall⟩ | ⟨hcyc, _⟩
    · have : b = false := by
        cases b
        · rfl
        · exact absurd (hb.1 rfl) (topo_none hD hall)
      rw [this, hnil]; rfl
    · rw [hb.2 ⟨L, hcyc⟩]; simp; exact List.length_pos_iff.2 hcyc.1
  · rcases hcase with ⟨hnil, D, hD, hall⟩ | ⟨hcyc, _⟩
    · have : b = false := by
        cases b
        · rfl
        · exact absurd (hb.1 rfl) (topo_none hD hall)
      rw [this, hnil]; rfl
    · have := List.length_pos_iff.2 hcyc.1
      rw [hb.2 ⟨L, hcyc⟩, Bool.not_true, beq_eq_false_iff_ne]; omega
theorem Tri.reads {w0 w : World} {n mb bb ub : Nat} {M B U : G} (h : Tri w0 n mb bb ub M B U w) (hn : n ≤ maxLen) (hM : AllIn M) (hB : AllIn B) (hU : AllIn U) :
    REd w [.slice (some ⟨mb, 0, none⟩) n n] M ∧ REd w [.slice (some ⟨bb, 0, none⟩) n n] B ∧ REd w [.slice (some ⟨ub, 0, none⟩) n n] U ∧ M.length = n ∧ B.length = n ∧ U.length = n := by
  obtain ⟨Mv, Bv, Uv, h1, h2, h3, _⟩ := h.ex
  exact ⟨h1.reads hn hM, h2.reads hn hB, h3.reads hn hU, h1.len, h2.len, h3.len⟩

/-- a row that is appended to a new one -/
theorem moved_new {w w3 : World} {v : Value} {g n cap : Nat} (h : Moved w (.slice (some ⟨w.heap.size, 0, none⟩) n cap) v) : Moved w (.slice none 0 0) v := by
  intro k hk
  rcases h k hk with h1 | h1
  · right; simp [Value.ownBlock] at h1; omega
  · exact .inr h1

set_option maxRecDepth 10000 in
set_option maxHeartbeats 4000000 in
theorem orderMore_true (ev : Value) (E : G) (a b : Int) (ha : 0 ≤ a ∧ a ≤ 255) (hb : 0 ≤ b ∧ b ≤ 255) (w : World) (hed : REd w [ev] E) (hlen : ∀ l ∈ E, l.length ≤ 17592186044416) :
    Calls Try.prog 5 #[ev, .int .u8 a, .int .u8 b] w fun e w' => e = .returned (.bool true) ∧ Below w.heap.size w w' := by
  have HED := Lib.hid hed
  obtain ⟨ea, ecap, hev, hec, hem, hrows⟩ := edge_cell hed
  subst hev
  have HRW := Lib.hid hrows; clear hrows hed
  unfold maxLen at hem
  obtain ⟨i0, hi, hz0, hz1, hz2⟩ := info_parts elem_rows.info
  have Hi := Lib.hid hi; have Hz0 := Lib.hid hz0; have Hz1 := Lib.hid hz1; have Hz2 := Lib.hid hz2; have Hlen := Lib.hid hlen; clear hi hz0 hz1 hz2 hlen
  go_enter Try.func5, Try.ntmps5
  go_wp2_with fail
  go_loop [8, 24] (fun n i => ∃ k : Nat, ∃ s : Int, k ≤ E.length ∧ i = .int .i64 k ∧ n = .int .i64 s ∧ CntIs E k s) (fun _ i => E.length - (intOf i).toNat)
  case atStart => exact ⟨0, 0, by omega, rfl, rfl, fun _ => rfl⟩
  case round =>
    obtain ⟨k, s, hk, rfl, rfl, hcs⟩ := hrel
    by_cases hlt : k < E.length
    · have hc1 : k < 40 → 0 ≤ s ∧ s ≤ 703687441776680 ∧ s = cntE E k := by
        intro h
        have h1 := hcs (by omega)
        have h2 := cntE_le E Hlen.out k hk
        omega
      have hc2 : (E[k]).length ≤ 17592186044416 := Hlen.out _ (List.getElem_mem hlt)
      have hc3 : CntIs E (k + 1) (s + (1 + (E[k]).length)) ∨ 40 ≤ k := by
        by_cases h : k < 40
        · left
          intro _
          have := (hc1 h).2.2
          simp only [cntE, show E.getD k [] = E[k] by simp [List.getD, hlt]]
          omega
        · exact .inr (by omega)
      have Hc3 := Lib.hid hc3; clear hc3
      clear hcs
      obtain ⟨eb, eo, hea, rv, hrc, hrow⟩ := HRW.out k hlt
      subst hea
      obtain ⟨ra, rcap, hrv, hrl, hrm, _⟩ := ints_form hrow
      subst hrv
      unfold maxLen at hrm
      clear hrow
      by_cases h40 : k < 40
      · have x1 := (hc1 h40).1
        have x2 := (hc1 h40).2.1
        clear hc1
        go_wp2_with fail
        go_round
        case rel => exact ⟨k + 1, _, by omega, by go_num, rfl, by rcases Hc3.out with h | h; exact h; omega⟩
        case measure => simp [intOf]; omega
      · clear hc1
        go_wp2_with fail
        go_round
        case rel => exact ⟨k + 1, _, by omega, by go_num, rfl, fun h => by omega⟩
        case measure => simp [intOf]; omega
    · by_cases hbig : 40 < E.length
      · go_wp2_with (go_at_call 22; refine (fixed15 _).mono ?_; rintro e w2 ⟨rfl, hb2⟩)
        go_ret
        exact ⟨rfl, hb2⟩
      · by_cases hs : 240 < s
        · go_wp2_with (go_at_call 22; refine (fixed15 _).mono ?_; rintro e w2 ⟨rfl, hb2⟩)
          go_ret
          exact ⟨rfl, hb2⟩
        · by_cases hn0 : E.length = 0
          · have hz : ((E.length : Int) == 0) = true := by rw [hn0]; rfl
            have HN0 := Lib.hid hn0; clear hn0
            go_wp2_with (go_at_call 22; refine (fixed15 _).mono ?_; rintro e w2 ⟨rfl, hb2⟩)
            go_ret
            exact ⟨rfl, hb2⟩
          · have hz : ((E.length : Int) == 0) = false := by rw [beq_eq_false_iff_ne]; omega
            have hn : 0 < E.length := by omega
            clear hn0
            have hcn : cntE E E.length ≤ 240 := by
              obtain rfl : k = E.length := by omega
              have h1 := hcs (by omega)
              omega
            have hrow : ∀ p, p < E.length → (E.getD p []).length ≤ 240 := by
              intro p hp
              have h2 := cntE_row E p E.length hp
              omega
            have Hrow := Lib.hid hrow; have Hcs := Lib.hid hcs; have Hcn := Lib.hid hcn; clear hrow hcs hcn
            go_wp2_with fail
            refine (circle_any _ E _ (by omega) HED.out).mono ?_
            rintro e w2 ⟨v, L, rfl, hL, hb2, hcase⟩
            have hed2 := stays_edges _ _ _ _ HED.out hb2
            have hs2 := hb2.size
            have hhad : ∃ hd : Bool, decide (0 < L.length) = hd ∧ (hd = true ↔ HasCyc E) := by
              rcases hcase with ⟨hnil, D, hD, hall⟩ | ⟨hcyc, _⟩
              · exact ⟨false, by rw [hnil]; rfl, by simp; exact topo_none hD hall⟩
              · exact ⟨true, by simp; exact List.length_pos_iff.2 hcyc.1, by simp; exact ⟨L, hcyc⟩⟩
            obtain ⟨hd, hhd, hhc⟩ := hhad
            obtain ⟨la, lc, hv, hlc, hlm, _⟩ := ints_form hL
            subst hv
            unfold maxLen at hlm
            have Hb2 := Lib.hid hb2; have Hed2 := Lib.hid hed2; have Hhc := Lib.hid hhc; clear hb2 hed2 hhc
            clear hL hcase
            go_wp2_with (at_make; refine wpList_make_full _ rfl _ _ 34 rfl w.heap.size 35 i0 (.slice none 0 0) 1 Try.underlying34 Hi.out Hz0.out Hz1.out _ _ _ _ E.length rfl rfl rfl rfl (by rw [Hz2.out]; omega) (by unfold maxLen; omega) (by omega) ?_)
            intro w3 hown3 hgrow3
            have m3 := mat_made hown3
            have b3 := hgrow3
            have Hm3 := Lib.hid m3; have Hb3 := Lib.hid b3; clear m3 b3
            have s3 := (hown3.lt w2.heap.size rfl).2
            clear hown3 hgrow3
            go_wp2_with (at_make; refine wpList_make_full _ rfl _ _ 34 rfl w.heap.size 35 i0 (.slice none 0 0) 1 Try.underlying34 Hi.out Hz0.out Hz1.out _ _ _ _ E.length rfl rfl rfl rfl (by rw [Hz2.out]; omega) (by unfold maxLen; omega) (by omega) ?_)
            intro w4 hown4 hgrow4
            have m4 := mat_made hown4
            have b4 := hgrow4
            have Hm4 := Lib.hid m4; have Hb4 := Lib.hid b4; clear m4 b4
            have s4 := (hown4.lt w3.heap.size rfl).2
            clear hown4 hgrow4
            go_wp2_with (at_make; refine wpList_make_full _ rfl _ _ 34 rfl w.heap.size 35 i0 (.slice none 0 0) 1 Try.underlying34 Hi.out Hz0.out Hz1.out _ _ _ _ E.length rfl rfl rfl rfl (by rw [Hz2.out]; omega) (by unfold maxLen; omega) (by omega) ?_)
            intro w5 hown5 hgrow5
            have m5 := mat_made hown5
            have s5 := (hown5.lt w4.heap.size rfl).2
            have e3 := grownBy_below Hb3.out
            have e4 := grownBy_below Hb4.out
            have e5 := grownBy_below hgrow5
            have hT : Tri w E.length w2.heap.size w3.heap.size w4.heap.size (mores E 0) (backs E 0) (ups E 0) w5 := by
              have g4 : w3.heap.size ≤ w4.heap.size := e4.size
              refine ⟨⟨_, _, _, Hm3.out.kept (S := fun _ => False) ((Frm.of_below e4).trans (Frm.of_below e5) (fun _ _ h => h)) (fun _ _ h => h), Hm4.out.kept (S := fun _ => False) (Frm.of_below e5) (fun _ _ h => h), m5, ?_, ?_, ?_⟩, ?_⟩
              · intro k h1 h2; have := matS_made h1; have := matS_made h2; omega
              · intro k h1 h2; have := matS_made h1; have := matS_made h2; omega
              · intro k h1 h2; have := matS_made h1; have := matS_made h2; omega
              · exact ((Hb2.out.trans (e3.mono hs2)).trans (e4.mono (by omega))).trans (e5.mono (by omega))
            obtain ⟨g3, hg3⟩ : ∃ g, g = w2.heap.size := ⟨_, rfl⟩
            obtain ⟨g4, hg4⟩ : ∃ g, g = w3.heap.size := ⟨_, rfl⟩
            obtain ⟨g5, hg5⟩ : ∃ g, g = w4.heap.size := ⟨_, rfl⟩
            rw [← hg3, ← hg4, ← hg5] at hT
            rw [← hg3, ← hg4, ← hg5]
            have HT := Lib.hid hT
            clear hT hown5 hgrow5 m5 e3 e4 e5 hg3 hg4 hg5 s3 s4 s5
            go_wp2_with fail
            go_loopw [57] (fun i wr => ∃ p : Nat, p ≤ E.length ∧ i = .int .i64 p ∧ Tri w E.length g3 g4 g5 (mores E p) (backs E p) (ups E p) wr) (fun i _ => E.length - (intOf i).toNat)
            case atStart => exact ⟨0, by omega, rfl, HT.out⟩
            case round =>
              obtain ⟨p, hp, rfl, hT⟩ := hrel
              have HT1 := Lib.hid hT
              by_cases hpl : p < E.length
              · obtain ⟨eb, eo, hea, rv, hrc, hrow⟩ := HRW.out p hpl
                subst hea
                obtain ⟨ra, rcap, hrv, hrl, hrm, hrcell⟩ := ints_form hrow
                subst hrv
                have hRl := Hrow.out p hpl
                have hgd : E.getD p [] = E[p] := by simp [List.getD, hpl]
                rw [hgd] at hRl
                obtain ⟨R, hR⟩ : ∃ R, R = E[p] := ⟨_, rfl⟩
                rw [← hR] at hrow hrc hrl hrcell hRl
                have rc := cell_later hT.bel hrc
                unfold maxLen at hrm
                have hnews : ∀ j u, (R.map (Value.int .i64))[j]? = some u → ∃ b off, ra = some ⟨b, off, none⟩ ∧ (wr.alloc (.cells #[] 3)).cell? ⟨b, off + j, none⟩ = some u := by
                  intro j u hu
                  obtain ⟨b, off, h1, h2⟩ := news_of hrcell j u hu
                  exact ⟨b, off, h1, cell_later (hT.bel.alloc hT.bel.size _) h2⟩
                have hown0 : (wr.alloc (.cells #[] 3)).ownsRow w.heap.size 3 1 (.slice (some ⟨wr.heap.size, 0, none⟩) 0 0) 0 [] := World.ownsRow_lit (base := w.heap.size) (e := 3) (size := 1) wr #[] 0 hT.bel.size (by decide) rfl
                have hbz := hT.bel.size
                have Hnews := Lib.hid hnews; have Hown0 := Lib.hid hown0; have Hrcell := Lib.hid hrcell; have HR := Lib.hid hR; clear hnews hown0 hrcell hR
                clear hT hrow hrc hgd
                go_wp2_with (at_builtin; refine wpList_append_from elem_int rfl _ _ rfl w.heap.size (.slice (some ⟨wr.heap.size, 0, none⟩) 0 0) 0 [] rfl Hown0.out ra R.length rcap (R.map (Value.int .i64)) rfl (by simp) Hnews.out (by simp [Value.oneCell']) (by omega) (by unfold maxLen; omega) (by simp; omega) ?_)
                intro v4 w4 hown4 hgr4 hmv4
                obtain ⟨a4, c4, rfl⟩ := slice_shape hown4
                have hf4 : Frm (fun _ => False) wr w4 := ((Frm.refl _ wr).alloc _).grown hgr4 (fun k hk => by simp [Value.ownBlock] at hk; left; omega)
                obtain ⟨am, cm, _, _, hst⟩ := HT1.out.atM p hpl
                obtain ⟨cc4, ff4⟩ := hst w4 (hf4.mono (fun _ _ h => h.elim))
                have hmv : ∀ v, Moved wr v (.slice a4 R.length c4) := by
                  intro v k hk
                  rcases hmv4 k hk with h | h
                  · right; simp [Value.ownBlock] at h; omega
                  · right; simp at h; omega
                have hput := HT1.out.putM p hpl R _ (.slice a4 R.length c4) (hst wr (Frm.refl _ _)).1 (hf4.mono (fun _ _ h => h.elim)) (by simpa using hown4) (hmv _)
                have hmo : (mores E p).set p R = mores E (p + 1) := by rw [HR.out]; exact mores_set E p hpl
                rw [hmo] at hput
                have Hput := Lib.hid hput; clear hput
                clear hown4 hgr4 hmv4 hf4 hst hmv hmo
                go_wp2_with fail
                obtain ⟨w5, hw5⟩ : ∃ w5, w5 = w4.setCell ⟨g3, p, none⟩ (.slice a4 R.length c4) := ⟨_, rfl⟩
                rw [← hw5] at Hput ⊢
                clear hw5 cc4 ff4 rc
                go_loopw [70] (fun i wr => ∃ q : Nat, q ≤ R.length ∧ i = .int .i64 q ∧ Tri w E.length g3 g4 g5 (mores E (p + 1)) (backRow E.length p (backs E p) (R.take q)) (upRow p (ups E p) (R.take q)) wr) (fun i _ => R.length - (intOf i).toNat)
                case atStart => exact ⟨0, by omega, rfl, Hput.out⟩
                case round =>
                  obtain ⟨q, hq, rfl, hT2⟩ := hrel
                  have HT2 := Lib.hid hT2
                  have hbq := hT2.bel.size
                  by_cases hql : q < R.length
                  · obtain ⟨bb, off, hra, hrk, hr1, hr2⟩ := Hrcell.out q hql
                    subst hra
                    have zk := cell_later hT2.bel hrk
                    obtain ⟨t, ht⟩ : ∃ t, t = R[q] := ⟨_, rfl⟩
                    rw [← ht] at zk hr1 hr2
                    have hTk : R.take (q + 1) = R.take q ++ [t] := by rw [List.take_add_one, List.getElem?_eq_getElem hql, ht]; rfl
                    have hsb : backRow E.length p (backs E p) (R.take (q + 1)) = backStep E.length p (backRow E.length p (backs E p) (R.take q)) t := by rw [hTk, backRow_snoc]
                    have hsu : upRow p (ups E p) (R.take (q + 1)) = upStep p (upRow p (ups E p) (R.take q)) t := by rw [hTk, upRow_snoc]
                    have hlq : cntE E p + q ≤ 240 := by
                      have h1 := cntE_mono E (show p + 1 ≤ E.length by omega)
                      have h2 := Hcn.out
                      have h4 : cntE E (p + 1) = cntE E p + (1 + (E.getD p []).length) := rfl
                      rw [h4] at h1
                      have h3 : E.getD p [] = R := by rw [HR.out]; simp [List.getD, hpl]
                      rw [h3] at h1
                      omega
                    have hbl : ∀ j, ((backRow E.length p (backs E p) (R.take q)).getD j []).length ≤ 240 := by
                      intro j
                      have h1 := backRow_le E.length p j (R.take q) (backs E p)
                      have h2 := backs_le E j p
                      rw [List.length_take] at h1
                      omega
                    have hul : ∀ j, ((upRow p (ups E p) (R.take q)).getD j []).length ≤ 240 := by
                      intro j
                      have h1 := upRow_le p j (R.take q) (ups E p)
                      have h2 := ups_le E j p
                      rw [List.length_take] at h1
                      omega
                    obtain ⟨bk, hbk⟩ : ∃ bk, bk = backRow E.length p (backs E p) (R.take q) := ⟨_, rfl⟩
                    obtain ⟨uk, huk⟩ : ∃ uk, uk = upRow p (ups E p) (R.take q) := ⟨_, rfl⟩
                    rw [← hbk] at hsb hbl HT2
                    rw [← huk] at hsu hul HT2
                    have Hbl := Lib.hid hbl; have Hul := Lib.hid hul; have Hsb := Lib.hid hsb; have Hsu := Lib.hid hsu; clear hbl hul hsb hsu
                    clear ht hTk hrk hlq hT2 hbk huk
                    by_cases h1 : 0 ≤ t ∧ t < E.length
                    · obtain ⟨h1a, h1b⟩ := h1
                      obtain ⟨tn, rfl⟩ := Int.eq_ofNat_of_zero_le h1a
                      have htn : tn < E.length := by omega
                      obtain ⟨ab, cb, cc, ow, ne⟩ := HT2.out.atB tn htn
                      have hlb := Hbl.out tn
                      have hbs : backStep E.length p bk tn = bk.set tn (bk.getD tn [] ++ [(p : Int)]) := by unfold backStep; rw [if_pos ⟨h1a, h1b⟩]; simp
                      obtain ⟨BR, hBR⟩ : ∃ BR, BR = bk.getD tn [] := ⟨_, rfl⟩
                      rw [← hBR] at cc ow ne hlb hbs
                      have How := Lib.hid ow; have Hne := Lib.hid ne; have Hbs := Lib.hid hbs; clear ow ne hbs
                      clear hBR h1a
                      by_cases h2 : (p : Int) < tn
                      · go_wp2_with (at_builtin; refine wpList_append_some elem_int (w := wr) rfl (.tmp 86) (.tmp 88) rfl w.heap.size (.slice ab BR.length cb) BR.length (BR.map (Value.int .i64)) rfl How.out 1 (by decide) #[.int .i64 p] rfl rfl (by simp [Value.oneCell']) (by omega) (by unfold maxLen; omega) hbq ?_)
                        intro g6 c6 w6 hown6 hg6 hm6
                        have hf6 : Frm (fun k => (Value.slice ab BR.length cb).ownBlock = some k) wr w6 := (Frm.refl _ wr).grown hg6 (fun k hk => .inr hk)
                        obtain ⟨cc6, ff6⟩ := Hne.out w6 hf6
                        have hT7 := HT2.out.putB tn htn (BR ++ [(p : Int)]) _ _ cc hf6 (by simpa using hown6) hm6
                        rw [← Hbs.out] at hT7
                        have hne := hT7.ne.2.2
                        have HT7 := Lib.hid hT7; clear hT7
                        clear hown6 hg6 hm6 hf6 cc
                        obtain ⟨au, cu, ccu, owu, neu⟩ := HT7.out.atU p hpl
                        have hlu := Hul.out p
                        obtain ⟨UR, hUR⟩ : ∃ UR, UR = uk.getD p [] := ⟨_, rfl⟩
                        have hus : upStep p uk (tn : Int) = uk.set p (UR ++ [(tn : Int)]) := by unfold upStep; rw [if_pos h2, hUR]
                        rw [← hUR] at ccu owu neu hlu
                        have Howu := Lib.hid owu; have Hneu := Lib.hid neu; have Hus := Lib.hid hus; clear owu neu hus
                        clear hUR
                        have cc5 : w6.cell? ⟨g5, p, none⟩ = some (.slice au UR.length cu) := by
                          rw [← ccu, World.cell?_setCell_other _ _ _ _ (fun e => hne (by cases e; rfl))]
                        have hne2 : ¬ g4 = g5 := hne
                        have hne3 : ¬ g5 = g4 := fun e => hne e.symm
                        go_wp2_with (at_builtin; refine wpList_append_some elem_int (w := w6.setCell ⟨g4, tn, none⟩ (.slice (some ⟨g6, 0, none⟩) (BR.length + 1) c6)) rfl (.tmp 99) (.tmp 101) rfl w.heap.size (.slice au UR.length cu) UR.length (UR.map (Value.int .i64)) rfl Howu.out 1 (by decide) #[.int .i64 tn] (by simp : Value.slice (some ⟨w6.heap.size, 0, none⟩) 1 1 = Value.slice (some ⟨(w6.setCell ⟨g4, tn, none⟩ (.slice (some ⟨g6, 0, none⟩) (BR.length + 1) c6)).heap.size, 0, none⟩) 1 1) rfl (by simp [Value.oneCell']) (by omega) (by unfold maxLen; omega) HT7.out.bel.size ?_)
                        intro g8 c8 w8 hown8 hg8 hm8
                        have hf8 : Frm (fun k => (Value.slice au UR.length cu).ownBlock = some k) (w6.setCell ⟨g4, tn, none⟩ (.slice (some ⟨g6, 0, none⟩) (BR.length + 1) c6)) w8 := (Frm.refl _ _).grown hg8 (fun k hk => .inr hk)
                        obtain ⟨cc8, ff8⟩ := Hneu.out w8 hf8
                        have hT9 := HT7.out.putU p hpl (UR ++ [(tn : Int)]) _ _ ccu hf8 (by simpa using hown8) hm8
                        rw [← Hus.out] at hT9
                        have HT9 := Lib.hid hT9; clear hT9
                        clear hown8 hg8 hm8 hf8
                        go_wp2_with fail
                        go_roundw
                        case rel => exact ⟨q + 1, by omega, by go_num, by rw [Hsb.out, Hsu.out]; first | exact HT9.out | (rw [Hbs.out]; exact HT9.out)⟩
                        case measure => simp [intOf]; omega
                      · have hus : upStep p uk tn = uk := by unfold upStep; rw [if_neg h2]
                        have Hus := Lib.hid hus; clear hus
                        go_wp2_with (at_builtin; refine wpList_append_some elem_int (w := wr) rfl (.tmp 86) (.tmp 88) rfl w.heap.size (.slice ab BR.length cb) BR.length (BR.map (Value.int .i64)) rfl How.out 1 (by decide) #[.int .i64 p] rfl rfl (by simp [Value.oneCell']) (by omega) (by unfold maxLen; omega) hbq ?_)
                        intro g6 c6 w6 hown6 hg6 hm6
                        have hf6 : Frm (fun k => (Value.slice ab BR.length cb).ownBlock = some k) wr w6 := (Frm.refl _ wr).grown hg6 (fun k hk => .inr hk)
                        obtain ⟨cc6, ff6⟩ := Hne.out w6 hf6
                        have hT7 := HT2.out.putB tn htn (BR ++ [(p : Int)]) _ _ cc hf6 (by simpa using hown6) hm6
                        rw [← Hbs.out] at hT7
                        have hne := hT7.ne.2.2
                        have HT7 := Lib.hid hT7; clear hT7
                        clear hown6 hg6 hm6 hf6 cc
                        go_wp2_with fail
                        go_roundw
                        case rel => exact ⟨q + 1, by omega, by go_num, by rw [Hsb.out, Hsu.out, Hus.out]; exact HT7.out⟩
                        case measure => simp [intOf]; omega
                    · have hbs : backStep E.length p bk t = bk := by unfold backStep; rw [if_neg h1]
                      have Hbs := Lib.hid hbs; clear hbs
                      by_cases h2 : (p : Int) < t
                      · have h3 : (E.length : Int) ≤ t := by omega
                        have h4 : 0 ≤ t := by omega
                        clear h1
                        obtain ⟨au, cu, ccu, owu, neu⟩ := HT2.out.atU p hpl
                        have hlu := Hul.out p
                        obtain ⟨UR, hUR⟩ : ∃ UR, UR = uk.getD p [] := ⟨_, rfl⟩
                        have hus : upStep p uk t = uk.set p (UR ++ [t]) := by unfold upStep; rw [if_pos h2, hUR]
                        rw [← hUR] at ccu owu neu hlu
                        have Howu := Lib.hid owu; have Hneu := Lib.hid neu; have Hus := Lib.hid hus; clear owu neu hus
                        clear hUR
                        go_wp2_with (at_builtin; refine wpList_append_some elem_int (w := wr) rfl (.tmp 99) (.tmp 101) rfl w.heap.size (.slice au UR.length cu) UR.length (UR.map (Value.int .i64)) rfl Howu.out 1 (by decide) #[.int .i64 t] rfl rfl (by simp [Value.oneCell']) (by omega) (by unfold maxLen; omega) HT2.out.bel.size ?_)
                        intro g8 c8 w8 hown8 hg8 hm8
                        have hf8 : Frm (fun k => (Value.slice au UR.length cu).ownBlock = some k) (wr) w8 := (Frm.refl _ _).grown hg8 (fun k hk => .inr hk)
                        obtain ⟨cc8, ff8⟩ := Hneu.out w8 hf8
                        have hT9 := HT2.out.putU p hpl (UR ++ [t]) _ _ ccu hf8 (by simpa using hown8) hm8
                        rw [← Hus.out] at hT9
                        have HT9 := Lib.hid hT9; clear hT9
                        clear hown8 hg8 hm8 hf8
                        go_wp2_with fail
                        go_roundw
                        case rel => exact ⟨q + 1, by omega, by go_num, by rw [Hsb.out, Hsu.out]; first | exact HT9.out | (rw [Hbs.out]; exact HT9.out)⟩
                        case measure => simp [intOf]; omega
                      · have hus : upStep p uk t = uk := by unfold upStep; rw [if_neg h2]
                        have Hus := Lib.hid hus; clear hus
                        have h5 : t < 0 := by omega
                        clear h1
                        go_wp2_with fail
                        go_roundw
                        case rel => exact ⟨q + 1, by omega, by go_num, by rw [Hsb.out, Hsu.out, Hus.out, Hbs.out]; exact HT2.out⟩
                        case measure => simp [intOf]; omega
                  · have hfull : R.take q = R := List.take_of_length_le (by omega)
                    rw [hfull] at HT2
                    have h3 : R = E.getD p [] := by rw [HR.out]; simp [List.getD, hpl]
                    have hT3 : Tri w E.length g3 g4 g5 (mores E (p + 1)) (backs E (p + 1)) (ups E (p + 1)) wr := by
                      have := HT2.out
                      rw [h3] at this
                      exact this
                    have HT3 := Lib.hid hT3; clear hT3
                    clear hT2 h3 hfull
                    go_wp2_with fail
                    go_roundw
                    case rel => exact ⟨p + 1, by omega, by go_num, HT3.out⟩
                    case measure => simp [intOf]; omega
              · obtain rfl : p = E.length := by omega
                rw [mores_all] at hT HT1
                have hbz := hT.bel.size
                obtain ⟨kn, rfl⟩ := Int.eq_ofNat_of_zero_le ha.1
                obtain ⟨tn, rfl⟩ := Int.eq_ofNat_of_zero_le hb.1
                have hk : kn % E.length < E.length := Nat.mod_lt _ hn
                have hm0 : (kn : Int) % (E.length : Int) = ((kn % E.length : Nat) : Int) := by simp
                have hm1 : (tn : Int) % (E.length : Int) = ((tn % E.length : Nat) : Int) := by simp
                obtain ⟨am, cm, ccm, owm, nem⟩ := hT.atM (kn % E.length) hk
                have hlm2 := Hrow.out (kn % E.length) hk
                obtain ⟨MR, hMR⟩ : ∃ MR, MR = E.getD (kn % E.length) [] := ⟨_, rfl⟩
                rw [← hMR] at ccm owm nem hlm2
                have hm2 : 0 ≤ (kn : Int) % (E.length : Int) := by rw [hm0]; omega
                have hm3 : (kn : Int) % (E.length : Int) < E.length := by rw [hm0]; omega
                have hm4 : 0 ≤ (tn : Int) % (E.length : Int) := by rw [hm1]; omega
                have owd : (wr.drew).ownsRow w.heap.size 3 1 (.slice am MR.length cm) MR.length (MR.map (Value.int .i64)) := owm
                have hbd : w.heap.size ≤ (wr.drew).heap.size := hbz
                have hm5 : (tn : Int) % (E.length : Int) < E.length := by rw [hm1]; have := Nat.mod_lt tn hn; omega
                have hm6 : -9223372036854775808 ≤ (tn : Int) % (E.length : Int) ∧ (tn : Int) % (E.length : Int) ≤ 9223372036854775807 := by omega
                have hix : ((kn : Int) % (E.length : Int)).toNat = kn % E.length := by rw [hm0]; exact Int.toNat_natCast _
                have cca : ∀ o : Obj, (wr.alloc o).cell? ⟨g3, kn % E.length, none⟩ = some (.slice am MR.length cm) := fun o => ((Frm.refl _ wr).alloc o).keep ccm
                have hEn : ¬ E = [] := fun e => by rw [e] at hn; exact absurd hn (by simp)
                have hwt : IntKind.i64.wrap (tn : Int) = (tn : Int) := IntWalk.i64_in _ (by omega)
                have htm : (tn : Int).tmod (E.length : Int) = (tn : Int) % (E.length : Int) := Int.tmod_eq_emod_of_nonneg (by omega)
                have Howm := Lib.hid owm; have Howd := Lib.hid owd; have Hnem := Lib.hid nem; have HMR := Lib.hid hMR; have Hm0 := Lib.hid hm0; have Hm1 := Lib.hid hm1; have Hm6 := Lib.hid hm6; clear owm owd nem hMR hm0 hm1 hm6
                clear hT
                go_wp2_with fail
                go_region_law (refine step_append_some elem_int (w := wr.drew) rfl (.tmp 115) (.tmp 120) rfl w.heap.size (.slice am MR.length cm) MR.length (MR.map (Value.int .i64)) rfl Howd.out 1 (by decide) #[.int .i64 ((tn : Int) % (E.length : Int))] rfl rfl (by simp [Value.oneCell']) (by omega) (by unfold maxLen; omega) hbd ?_; intro g8 c8 w8 hown8 hg8 hm8; obtain ⟨cc8, ff8⟩ := Hnem.out w8 ((Frm.drew (Frm.refl _ wr)).grown hg8 (fun k hk => .inr hk)))
                all_goals
                  have hf8 : Frm (fun k => (Value.slice am MR.length cm).ownBlock = some k) wr w8 := (Frm.drew (Frm.refl _ wr)).grown hg8 (fun k hk => .inr hk)
                  have hT9 := HT1.out.putM (kn % E.length) hk (MR ++ [(tn : Int) % (E.length : Int)]) _ _ ccm hf8 (by simpa using hown8) hm8
                  have hplus : E.set (kn % E.length) (MR ++ [(tn : Int) % (E.length : Int)]) = plus E (kn % E.length) ((tn : Int) % (E.length : Int)) := by unfold plus; rw [HMR.out]
                  rw [hplus] at hT9
                  obtain ⟨w9, hw9⟩ : ∃ w9, w9 = w8.setCell ⟨g3, kn % E.length, none⟩ (.slice (some ⟨g8, 0, none⟩) (MR.length + 1) c8) := ⟨_, rfl⟩
                  rw [← hw9] at hT9
                  first | rw [← hw9] | skip
                  have ha1 := allIn_set (allIn_read HED.out) (kn % E.length) (MR ++ [(tn : Int) % (E.length : Int)]) ((tn : Int) % (E.length : Int)) Hm6.out (by rw [HMR.out])
                  rw [hplus] at ha1
                  have ha2 := allIn_backs E E.length (by omega)
                  have ha3 := allIn_ups E (allIn_read HED.out) E.length
                  have HT9 := Lib.hid hT9; have Ha1 := Lib.hid ha1; have Ha2 := Lib.hid ha2; have Ha3 := Lib.hid ha3; have Hplus := Lib.hid hplus; have Hw9 := Lib.hid hw9; clear hT9 ha1 ha2 ha3 hplus hw9
                  clear hown8 hg8 hm8 hf8 cc8 ff8 cca ccm
                  go_wp2_with fail
                  refine (fixed15 _).mono ?_
                  rintro e wa ⟨rfl, hba⟩
                  have hT10 := HT9.out.kept hba
                  have Hba := Lib.hid hba; have HT10 := Lib.hid hT10; clear hba hT10
                  cases hd
                  · obtain ⟨_, _, hu, _, _, lu⟩ := HT10.out.reads (by unfold maxLen; omega) Ha1.out Ha2.out Ha3.out
                    have Hu := Lib.hid hu; have Hlu := Lib.hid lu; clear hu lu
                    go_wp2_with fail
                    refine (circle_len _ _ _ false (by rw [Hlu.out]; omega) Hu.out ⟨(fun h => by cases h), fun h => absurd h (up_cyc E)⟩).mono ?_
                    rintro e wb ⟨a1, n1, d1, rfl, hn1, hd1, hz1, hz2, hbb⟩
                    have hT11 := HT10.out.kept hbb
                    obtain ⟨_, hB, _, _, lB, _⟩ := hT11.reads (by unfold maxLen; omega) Ha1.out Ha2.out Ha3.out
                    unfold maxLen at hd1
                    have Hbb := Lib.hid hbb; have HT11 := Lib.hid hT11; have HB := Lib.hid hB; have HlB := Lib.hid lB; clear hbb hT11 hB lB
                    go_wp2_with fail
                    refine (circle_len _ _ _ false (by rw [HlB.out]; omega) HB.out (by rw [back_cyc]; exact Hhc.out)).mono ?_
                    rintro e wc ⟨a2, n2, d2, rfl, hn2, hd2, hz3, hz4, hbc⟩
                    unfold maxLen at hd2
                    have hbel := (HT11.out.kept hbc).bel
                    have Hbc := Lib.hid hbc; have Hbel := Lib.hid hbel; clear hbc hbel
                    go_wp2_with fail
                    go_ret
                    exact ⟨rfl, Hbel.out⟩
                  · obtain ⟨hM, _, _, lM, _, _⟩ := HT10.out.reads (by unfold maxLen; omega) Ha1.out Ha2.out Ha3.out
                    have HM := Lib.hid hM; have HlM := Lib.hid lM; clear hM lM
                    go_wp2_with fail
                    refine (circle_len _ _ _ true (by rw [HlM.out]; omega) HM.out ⟨fun _ => plus_cyc E _ _ hk (Hhc.out.1 (by trivial)), fun _ => rfl⟩).mono ?_
                    rintro e wb ⟨a1, n1, d1, rfl, hn1, hd1, hz1, hz2, hbb⟩
                    have hT11 := HT10.out.kept hbb
                    obtain ⟨_, _, hu, _, _, lu⟩ := hT11.reads (by unfold maxLen; omega) Ha1.out Ha2.out Ha3.out
                    unfold maxLen at hd1
                    have Hbb := Lib.hid hbb; have HT11 := Lib.hid hT11; have Hu := Lib.hid hu; have Hlu := Lib.hid lu; clear hbb hT11 hu lu
                    go_wp2_with fail
                    refine (circle_len _ _ _ false (by rw [Hlu.out]; omega) Hu.out ⟨(fun h => by cases h), fun h => absurd h (up_cyc E)⟩).mono ?_
                    rintro e wc ⟨a2, n2, d2, rfl, hn2, hd2, hz3, hz4, hbc⟩
                    have hT12 := HT11.out.kept hbc
                    obtain ⟨_, hB, _, _, lB, _⟩ := hT12.reads (by unfold maxLen; omega) Ha1.out Ha2.out Ha3.out
                    unfold maxLen at hd2
                    have Hbc := Lib.hid hbc; have HT12 := Lib.hid hT12; have HB := Lib.hid hB; have HlB := Lib.hid lB; clear hbc hT12 hB lB
                    go_wp2_with fail
                    refine (circle_len _ _ _ true (by rw [HlB.out]; omega) HB.out (by rw [back_cyc]; simpa using Hhc.out)).mono ?_
                    rintro e we ⟨a3, n3, d3, rfl, hn3, hd3, hz5, hz6, hbe⟩
                    unfold maxLen at hd3
                    have hbel := (HT12.out.kept hbe).bel
                    have Hbe := Lib.hid hbe; have Hbel := Lib.hid hbel; clear hbe hbel
                    go_wp2_with fail
                    go_ret
                    exact ⟨rfl, Hbel.out⟩
end Go.Proofs.Ytoljhahmmdibfaa
