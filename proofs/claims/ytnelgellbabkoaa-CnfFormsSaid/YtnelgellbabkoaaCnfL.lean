/- The walk of the law CnfForms. Condition: none but the reach of what comes in. -/
import Derived.Test.YtnelgellbabkoaaCnfC
import Derived.Test.YtnelgellbabkoaaApp
namespace Go.Proofs.Ytnelgellbabkoaa
open Go.RowKit Go.Lib Go.Sort

/-- the other row -/
def oth (l : List Int) (t : Nat) : Nat → List Int
  | 0 => []
  | k + 1 => (l.getD ((k + t) % l.length) 0 :: oth l t k) ++ [l.getD ((k + t) % l.length) 0]
theorem oth_len (l : List Int) (t : Nat) : ∀ k, (oth l t k).length = 2 * k
  | 0 => rfl
  | k + 1 => by simp [oth, oth_len l t k]; omega
theorem oth_mem (l : List Int) (t : Nat) (h : 0 < l.length) : ∀ k, ∀ x, x ∈ oth l t k ↔ ∃ j, j < k ∧ x = l.getD ((j + t) % l.length) 0
  | 0, x => by simp [oth]
  | k + 1, x => by
    have ih := oth_mem l t h k x
    simp only [oth, List.mem_append, List.mem_cons, List.mem_singleton, List.not_mem_nil, or_false, ih]
    constructor
    · rintro ((e | ⟨j, hj, e⟩) | e)
      · exact ⟨k, by omega, e⟩
      · exact ⟨j, by omega, e⟩
      · exact ⟨k, by omega, e⟩
    · rintro ⟨j, hj, e⟩
      by_cases hjk : j = k
      · subst hjk; exact .inr e
      · exact .inl (.inr ⟨j, by omega, e⟩)
theorem oth_all (l : List Int) (t : Nat) : ∀ x, x ∈ oth l t l.length ↔ x ∈ l := by
  by_cases h0 : 0 < l.length
  · intro x
    rw [oth_mem l t h0]
    constructor
    · rintro ⟨j, hj, e⟩
      have hlt := Nat.mod_lt (j + t) h0
      rw [List.getD_eq_getElem?_getD, List.getElem?_eq_getElem hlt] at e
      simp at e
      rw [e]; exact List.getElem_mem hlt
    · intro hx
      obtain ⟨i, hi, e⟩ := List.mem_iff_getElem.1 hx
      obtain ⟨n, hn⟩ : ∃ n, n = l.length := ⟨_, rfl⟩
      rw [← hn] at h0 hi ⊢
      have ht := Nat.mod_lt t h0
      refine ⟨(i + (n - t % n)) % n, Nat.mod_lt _ h0, ?_⟩
      have e2 : ((i + (n - t % n)) % n + t) % n = i := by
        rw [Nat.mod_add_mod, Nat.add_assoc]
        have e3 : (n - t % n + t) % n = 0 := by
          have := Nat.div_add_mod t n
          have e4 : n - t % n + t = n * (t / n + 1) := by rw [Nat.mul_add]; omega
          rw [e4]; exact Nat.mul_mod_right _ _
        rw [Nat.add_mod, e3, Nat.add_zero, Nat.mod_mod, Nat.mod_eq_of_lt hi]
      rw [e2, List.getD_eq_getElem?_getD, List.getElem?_eq_getElem (by omega)]
      simp [e]
  · have : l = [] := List.eq_nil_of_length_eq_zero (by omega)
    subst this
    intro x; simp [oth]

def OthIn (B : Nat) (w : World) (v : Value) (n : Nat) (xs : List Value) : Prop := ∃ m, m = n ∧ w.ownsRow B 3 1 v m xs
theorem formPost_congr {W : World} {a b : List Int} (h : CnfM.form a = CnfM.form b) : FormPost W a = FormPost W b := by unfold FormPost; rw [h]
set_option maxRecDepth 10000 in
set_option maxHeartbeats 2000000 in
theorem cnfForms_any {w : World} {v : Value} {l : List Int} (h : RIs w [v] l) (t : Nat) (ht : t ≤ 255) : Calls Try.prog 3 #[v, .int .u8 t] w fun e w' => e = .returned (.bool true) ∧ Below w.heap.size w w' := by
  obtain ⟨a, cap, rfl, hz, g⟩ := ints_open h
  have hX := fun (W : World) => fixed12 W
  obtain ⟨n, hn⟩ : ∃ n, n = l.length := ⟨_, rfl⟩
  rw [← hn] at hz h ⊢
  by_cases h100 : 100 < n
  · have Hh := Lib.hid h; have Hg := Lib.hid g; have Hn := Lib.hid hn; have HX := Lib.hid hX; clear h g hn hX
    go_enter Try.func3, Try.ntmps3
    go_wp2_with fail
    refine (HX.out _).mono ?_
    rintro e w1 ⟨rfl, hb1⟩
    have Hb1 := Lib.hid hb1; clear hb1
    go_wp2_with fail
    go_ret
    exact ⟨rfl, Hb1.out⟩
  · have h100' : n ≤ 100 := by omega
    have hR : ∀ W, Below w.heap.size w W → RIs W [.slice a n cap] l := fun W hb => stays_slice (stays_int .i64) _ _ _ _ h hb
    have hwf : ∀ x ∈ l, -9223372036854775808 ≤ x ∧ x ≤ 9223372036854775807 := fun x hx => by
      obtain ⟨i, hi, e⟩ := List.mem_iff_getElem.1 hx
      obtain ⟨_, _, _, _, h1⟩ := g i hi
      rw [e] at h1; exact h1
    have hother : ∀ x, x ∈ oth l t n ↔ x ∈ l := by rw [hn]; exact oth_all l t
    have hsame : CnfM.form (oth l t n) = CnfM.form l := CnfM.form_same l _ hother
    clear h100
    have Hh := Lib.hid h; have Hg := Lib.hid g; have Hn := Lib.hid hn; have HX := Lib.hid hX; have HR := Lib.hid hR; have Hwf := Lib.hid hwf; have Hother := Lib.hid hother; have Hsame := Lib.hid hsame; clear h g hn hX hR hwf hother hsame
    go_enter Try.func3, Try.ntmps3
    go_wp2_with fail
    go_loopw [5, 18] (fun o i wr => ∃ k : Nat, k ≤ n ∧ i = .int .i64 k ∧ OthIn w.heap.size wr o (2 * k) ((oth l t k).map intv) ∧ Below w.heap.size w wr) (fun _ i _ => n - (intOf i).toNat)
    case atStart => exact ⟨0, Nat.zero_le _, rfl, ⟨_, rfl, World.ownsRow_nil _ _ _ _⟩, Below.refl _ _⟩
    case round =>
      obtain ⟨k, hk, rfl, ⟨_, rfl, ho⟩, hb⟩ := hrel
      obtain ⟨oa, oc, rfl⟩ := own_shape ho
      have hB := hb.size
      by_cases hlt : k < n
      · obtain ⟨j, hj⟩ : ∃ j, j = (k + t) % n := ⟨_, rfl⟩
        have hjn : j < n := by rw [hj]; exact Nat.mod_lt _ (by omega)
        have hjl : j < l.length := by have := Hn.out; omega
        obtain ⟨b, off, rfl, d, _⟩ := Hg.out j hjl
        have d1 := cell_later hb d
        obtain ⟨x, hx⟩ : ∃ x, x = l[j] := ⟨_, rfl⟩
        rw [← hx] at d1 d
        have e1 : ((k : Int) + (t : Int)) % (n : Int) = (j : Int) := by rw [hj]; simp
        have hnext : oth l t (k + 1) = (x :: oth l t k) ++ [x] := by
          have : l.getD ((k + t) % l.length) 0 = x := by
            rw [← Hn.out, ← hj, List.getD_eq_getElem?_getD, List.getElem?_eq_getElem hjl, hx]; rfl
          rw [oth, this]
        have hne : (n : Int) ≠ 0 := by omega
        have k5 : (0 : Int) ≤ (j : Int) := by omega
        have k6 : (j : Int) < (n : Int) := by omega
        have hol : (oth l t k).length = 2 * k := oth_len l t k
        have hlit : (wr.alloc (.cells #[.int .i64 x] 3)).ownsRow w.heap.size 3 1 (.slice (some ⟨wr.heap.size, 0, none⟩) 1 1) 1 [.int .i64 x] := World.ownsRow_lit (base := w.heap.size) (e := 3) (size := 1) wr #[.int .i64 x] 1 hB (by decide) rfl
        have hnews : ∀ j u, ((oth l t k).map intv)[j]? = some u → ∃ b off, oa = some ⟨b, off, none⟩ ∧ (wr.alloc (.cells #[.int .i64 x] 3)).cell? ⟨b, off + j, none⟩ = some u := by
          obtain ⟨a2, c2, e2, _, _, h3⟩ := Sl.of_owns (ho.alloc (.cells #[.int .i64 x] 3))
          cases e2
          exact h3
        have h1c : ∀ u ∈ (oth l t k).map intv, u.oneCell' = true := by
          intro u hu; obtain ⟨y, _, rfl⟩ := List.mem_map.1 hu; rfl
        obtain ⟨N, hN⟩ : ∃ N, N = (oth l t k).map intv := ⟨_, rfl⟩
        have hNl : N.length = 2 * k * 1 := by rw [hN]; simp [hol]
        rw [← hN] at ho hnews h1c
        have Ho := Lib.hid ho; have Hb := Lib.hid hb; have Hd := Lib.hid d; have Hx := Lib.hid hx; have Hnext := Lib.hid hnext; have Hj := Lib.hid hj; have Hol := Lib.hid hol; have Hlit := Lib.hid hlit; have Hnews := Lib.hid hnews; have H1c := Lib.hid h1c; have HN := Lib.hid hN; have HNl := Lib.hid hNl; clear ho hb d hx hnext hj hol hlit hnews h1c hN hNl
        go_wp2_with (first | (at_builtin; (refine wpList_append_from elem_int rfl (.tmp 32) (.tmp 33) rfl w.heap.size (.slice (some ⟨wr.heap.size, 0, none⟩) 1 1) 1 [.int .i64 x] rfl Hlit.out oa (2 * k) oc N rfl HNl.out Hnews.out H1c.out (by omega) (by unfold maxLen; omega) (by simp; omega) ?_; intro v8 w8 hown8 hg8 hm8; obtain ⟨a8, c8, rfl⟩ := own_shape hown8; have hB8 : w.heap.size ≤ w8.heap.size := (by have := hg8.size; simp at this; omega); have Hown8 := Lib.hid hown8; have Hg8 := Lib.hid hg8; clear hown8 hg8 hm8)) | (at_builtin; (refine wpList_append_lit elem_int rfl (.tmp 34) (.tmp 36) rfl w.heap.size (.slice a8 (1 + 2 * k) c8) (1 + 2 * k) _ rfl Hown8.out 1 #[.int .i64 x] rfl rfl (by simp [Value.oneCell']) (by omega) (by unfold maxLen; omega) hB8 ?_; intro v9 w9 hown9 hg9 hm9; obtain ⟨a9, c9, rfl⟩ := own_shape hown9; have Hown9 := Lib.hid hown9; have Hg9 := Lib.hid hg9; clear hown9 hg9 hm9)))
        have ho9 : w9.ownsRow w.heap.size 3 1 (.slice a9 (1 + 2 * k + 1) c9) (1 + 2 * k + 1) ((oth l t (k + 1)).map intv) := by
          have := Hown9.out
          rw [HN.out] at this
          rw [Hnext.out]
          simpa using this
        have hb8 := bel_own (Hb.out.alloc hB (.cells #[.int .i64 x] 3)) Hlit.out (Nat.le_refl _) Hg8.out (by simp; omega)
        have hb9 := bel_own hb8 Hown8.out (Nat.le_refl _) Hg9.out hB8
        have Ho9 := Lib.hid ho9; have Hb8 := Lib.hid hb8; have Hb9 := Lib.hid hb9; clear ho9 hb8 hb9
        go_wp2_with fail
        go_roundw
        case rel => exact ⟨k + 1, by omega, by go_num, ⟨_, by omega, Ho9.out⟩, Hb9.out⟩
        case measure => simp [intOf]; omega
      · obtain rfl : k = n := by omega
        have hF1 := form_any (HR.out wr hb) (by have := Hn.out; omega)
        have hrd : RIs wr [.slice oa (2 * k) oc] (oth l t k) := by
          have hl2 := oth_len l t k
          have := ho
          rw [← hl2] at this ⊢
          exact ints_reads (fun x hx => Hwf.out x ((Hother.out x).1 hx)) this
        have hF2 := fun (W : World) (hb2 : Below wr.heap.size wr W) => form_any (stays_slice (stays_int .i64) _ _ _ _ hrd hb2) (by rw [oth_len]; omega)
        have hF2' : ∀ (W : World), Below wr.heap.size wr W → Calls Try.prog 14 #[.slice oa (2 * k) oc] W (FormPost W l) := fun W hb2 => by rw [← formPost_congr Hsame.out]; exact hF2 W hb2
        obtain ⟨f, ok, hf⟩ : ∃ f ok, CnfM.form l = (f, ok) := ⟨_, _, rfl⟩
        have hfw : ∀ x ∈ f, -9223372036854775808 ≤ x ∧ x ≤ 9223372036854775807 := fun x hx => Hwf.out x (CnfM.form_mem l x (by rw [hf]; exact hx))
        have e1 : (ok == ok) = true := by simp
        have hB2 := hb.size
        have Ho := Lib.hid ho; have Hb := Lib.hid hb; have HF1 := Lib.hid hF1; have Hrd := Lib.hid hrd; have HF2 := Lib.hid hF2; have HF2' := Lib.hid hF2'; have Hf := Lib.hid hf; have Hfw := Lib.hid hfw; clear ho hb hF1 hrd hF2 hF2' hf hfw
        go_wp2_with fail
        refine HF1.out.mono ?_
        rintro e w1 ⟨r1, rfl, h1, hb1⟩
        rw [Hf.out] at h1 ⊢
        dsimp only at h1 ⊢
        have hC2 := HF2'.out w1 hb1
        have hr1 := ints_reads Hfw.out h1
        have H1 := Lib.hid h1; have Hb1 := Lib.hid hb1; have HC2 := Lib.hid hC2; have Hr1 := Lib.hid hr1; clear h1 hb1 hC2 hr1
        go_wp2_with fail
        refine HC2.out.mono ?_
        rintro e w2 ⟨r2, rfl, h2, hb2⟩
        rw [Hf.out] at h2 ⊢
        dsimp only at h2 ⊢
        have hr2 := ints_reads Hfw.out h2
        have hbw := Hb.out.trans ((Hb1.out.mono hB2).trans (hb2.mono (by have := Hb1.out.size; omega)))
        have hz2 : w.heap.size ≤ w2.heap.size := hbw.size
        have hr1' := stays_slice (stays_int .i64) _ _ _ _ Hr1.out hb2
        have H2 := Lib.hid h2; have Hb2 := Lib.hid hb2; have Hr2 := Lib.hid hr2; have Hbw := Lib.hid hbw; have Hr1' := Lib.hid hr1'; clear h2 hb2 hr2 hbw hr1'
        go_wp2_with fail
        refine (HX.out w2).mono ?_
        rintro e w3 ⟨rfl, hb3⟩
        have hS := same12_any (stays_slice (stays_int .i64) _ _ _ _ Hr1'.out hb3) (stays_slice (stays_int .i64) _ _ _ _ Hr2.out hb3)
        rw [decide_eq_true rfl] at hS
        have Hb3 := Lib.hid hb3; have HS := Lib.hid hS; clear hb3 hS
        go_wp2_with fail
        refine HS.out.mono ?_
        rintro e w4 ⟨rfl, q, rfl⟩
        go_wp2_with fail
        go_ret
        exact ⟨rfl, bel_drewN (Hbw.out.trans (Hb3.out.mono hz2)) _⟩
theorem opens_ints12 : Opens Try.prog 22 RIs := opens_ints_of Try.underlying22 Try.underlying3 (by kernel_rfl)
theorem cnfForms_true {v : Value} {l : List Int} (t : Int) (ht : 0 ≤ t ∧ t ≤ 255) (w : World) (h : RIs w [v] l) : Calls Try.prog 3 #[v, .int .u8 t] w fun e w' => e = .returned (.bool true) ∧ Below w.heap.size w w' := by
  obtain ⟨n, rfl⟩ := Int.eq_ofNat_of_zero_le ht.1
  exact cnfForms_any h n (by omega)
end Go.Proofs.Ytnelgellbabkoaa
