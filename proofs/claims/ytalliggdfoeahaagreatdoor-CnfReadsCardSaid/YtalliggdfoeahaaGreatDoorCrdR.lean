/- The walk of cnf.Read: the clauses of a text. Condition: the library's variables as they were laid, and a text of at most 3000 bytes. -/
import Derived.Test.YtalliggdfoeahaaGreatDoorCrdN
import Derived.Test.YtalliggdfoeahaaGreatDoorCrdT
import Derived.Test.YtalliggdfoeahaaGreatDoorOwnK
import Derived.Test.YtalliggdfoeahaaGreatDoorIdxInts
import Derived.Deep.RegionHeld3
set_option linter.unusedVariables false
set_option linter.unusedSimpArgs false
namespace Go.Proofs.YtalliggdfoeahaaGreatDoor
open Go.RowKit Go.Lib Go.Sort VerN
open CnfM (InR)

theorem flat_int (L : List Int) : L.flatMap (fun x => [intv x]) = L.map intv := by
  induction L with
  | nil => rfl
  | cons x L ih => rw [List.flatMap_cons, ih]; rfl
/-- a row without its last one -/
theorem own_cut {w : World} {B g n cap : Nat} {L : List Int} (h : w.ownsRow B 3 1 (.slice (some ⟨g, 0, none⟩) n cap) n (L.map intv)) (hl : L.length = n) (m : Nat) (hm : m ≤ n) : w.ownsRow B 3 1 (.slice (some ⟨g, 0, none⟩) m cap) m ((L.take m).map intv) := by
  rw [← flat_int] at h ⊢
  exact owns_take (enc := fun x : Int => [intv x]) (fun _ => rfl) h hl m hm
theorem small_snoc {l : List (List Int)} {c : List Int} (h : Small l) (hl : l.length < 4000) (hc : c.length ≤ 4000) (hx : ∀ x ∈ c, InR x) : Small (l ++ [c]) := by
  refine ⟨by simp; omega, fun d hd => ?_⟩
  rcases List.mem_append.1 hd with hd | hd
  · exact h.2 d hd
  · rw [List.mem_singleton.1 hd]; exact ⟨hc, hx⟩
def ReadPost (s : ByteArray) (w : World) (e : Ending) (w' : World) : Prop :=
  (e = .returned (.tuple #[.int .i64 0, .slice none 0 0, .bool false]) ∨ ∃ (x : Int) (v : Value) (L : List (List Int)), e = .returned (.tuple #[.int .i64 x, v, .bool true]) ∧ InR x ∧ Small L ∧ RIss w' [v] L ∧ cnfL x L = s.data.toList ∧ atomsOf 0 L ≤ x) ∧ Below w.heap.size w w'
def RdI (w : World) (k : Nat) (v : Value) (W : World) : Prop := ∃ vs L, L.length = k ∧ Small L ∧ Rws w.heap.size W v vs L ∧ Below w.heap.size w W
theorem read_no {s : ByteArray} {w w' : World} (h : Below w.heap.size w w') : ReadPost s w (.returned (.tuple #[.int .i64 0, .slice none 0 0, .bool false])) w' := ⟨.inl rfl, h⟩
theorem txts_at {w : World} {g n cap : Nat} {l : List ByteArray} (h : RTs w [.slice (some ⟨g, 0, none⟩) n cap] l) (i : Nat) (hi : i < l.length) : w.cell? ⟨g, i, none⟩ = some (.string l[i]) := by
  obtain ⟨a, cap', hv, _, hg⟩ := txts_open h
  injection hv with h1 _ _
  obtain ⟨b, off, ha, hc, _⟩ := hg i hi
  rw [ha] at h1
  injection h1 with h1
  injection h1 with h2 h3
  subst h2
  subst h3
  rwa [Nat.zero_add] at hc
theorem trim_len (l p : List UInt8) : (trimPrefix l p).length ≤ l.length := by
  unfold trimPrefix
  split
  · simp
  · exact Nat.le_refl _
theorem own_shape_pos {w : World} {B : Nat} {e : TypeId} {size : Nat} {v : Value} {n : Nat} {xs : List Value} (h : w.ownsRow B e size v n xs) (hn : 0 < n) : ∃ g cap, v = .slice (some ⟨g, 0, none⟩) n cap := by
  rcases h.2 with ⟨h1, h2⟩ | ⟨g, cap, _, h1, _⟩
  · omega
  · exact ⟨_, cap, h1⟩
theorem own_cap5 {w : World} {B : Nat} {e : TypeId} {size g n cap : Nat} {xs : List Value} (h : w.ownsRow B e size (.slice (some ⟨g, 0, none⟩) (n + 1) cap) (n + 1) xs) : (n : Int) ≤ (cap : Int) := by
  rcases h.2 with ⟨e0, _⟩ | ⟨g', cap', cur, e0, _, _, hn, _⟩
  · cases e0
  · injection e0 with _ _ e3
    omega
theorem own_int {w : World} {B g n cap : Nat} {L : List Int} (h : w.ownsRow B 3 1 (.slice (some ⟨g, 0, none⟩) n cap) n (L.map intv)) (i : Nat) (hi : i < L.length) : w.cell? ⟨g, i, none⟩ = some (.int .i64 L[i]) := by
  have := h.cells (g := g) rfl i (.int .i64 L[i]) (by rw [List.getElem?_map, List.getElem?_eq_getElem hi]; rfl)
  rw [Addr.add_lit, Nat.zero_add] at this
  exact this
set_option maxRecDepth 10000 in
theorem badClause_any {w : World} {u : Value} {c : List Int} (hc : RIs w [u] c) : Calls Tryz.prog 17 #[u] w fun e w' => e = .returned (.bool (c.any CnfM.wrong)) ∧ Below w.heap.size w w' := by
  have hC := IdxInt.has_any (stays_int .i64) CnfM.wrong 19 #[] enters_wrong hc (wrong_pred c w)
  obtain ⟨r, hr⟩ : ∃ r, r = c.any CnfM.wrong := ⟨_, rfl⟩
  rw [← hr] at hC ⊢
  have HC := Lib.hid hC; have Hc := Lib.hid hc; have Hr := Lib.hid hr; clear hC hc hr
  go_enter Tryz.func17, Tryz.ntmps17
  go_wp2_with fail
  refine HC.out.mono ?_
  rintro e w1 ⟨rfl, hb1⟩
  have Hb1 := Lib.hid hb1; clear hb1
  go_wp2_with fail
  go_ret
  exact ⟨rfl, Hb1.out⟩
theorem enters_badClause : ∀ args w, (callFunc 17 args).run Tryz.prog w = .ok (.enter 17 args) w := enters_of Tryz.func17 (by kernel_rfl) rfl
theorem badClause_pred (l : List (List Int)) (w : World) : IdxInts.Pred RIs (fun c => c.any CnfM.wrong) 17 #[] l w := by
  intro W u0 c _ _ h
  exact badClause_any h
set_option maxRecDepth 10000 in
set_option maxHeartbeats 40000000 in
theorem cnfRead_any (s : ByteArray) (hs : s.size ≤ 3000) {w : World} (hD : Doors w) : Calls Tryz.prog 5 #[.string s] w (ReadPost s w) := by
  obtain ⟨nl, hnl⟩ : ∃ n, n = (cutS 10 s).length := ⟨_, rfl⟩
  have hnl1 := cutS_size 10 s
  have hS := split_any s 10 (by omega) hD
  rw [← hnl] at hS hnl1
  obtain ⟨hnl0, hnl2⟩ := hnl1
  have HS := Lib.hid hS; have Hnl := Lib.hid hnl; have HD := Lib.hid hD; clear hS hnl hD
  go_enter Tryz.func5, Tryz.ntmps5
  go_wp2_with fail
  refine HS.out.mono ?_
  rintro e w1 ⟨gl, rfl, hrd, hb1⟩
  have hat := txts_at hrd
  obtain ⟨x0, hx0⟩ : ∃ x, x = (cutS 10 s)[0]'(by have := Hnl.out; omega) := ⟨_, rfl⟩
  have c0 := hat 0 (by have := Hnl.out; omega)
  rw [← hx0] at c0
  have hx0z : x0.size ≤ 3000 := by rw [hx0]; have := cutS_piece (List.getElem_mem (by have := Hnl.out; omega : 0 < (cutS 10 s).length)); omega
  have hP := Tryz.strings_CutPrefix x0 ⟨#[112, 32, 99, 110, 102, 32]⟩ w1
  obtain ⟨hd, hhd⟩ : ∃ x : ByteArray, x = ⟨(trimPrefix x0.data.toList (⟨#[112, 32, 99, 110, 102, 32]⟩ : ByteArray).data.toList).toArray⟩ := ⟨_, rfl⟩
  have hdz : hd.size ≤ 3000 := by
    have h1 : hd.data.toList.length ≤ x0.data.toList.length := by rw [hhd]; exact trim_len _ _
    rw [Txt.len, Txt.len] at h1
    omega
  obtain ⟨ok, hok⟩ : ∃ b, b = hasPrefix x0.data.toList (⟨#[112, 32, 99, 110, 102, 32]⟩ : ByteArray).data.toList := ⟨_, rfl⟩
  rw [← hhd, ← hok] at hP
  have hS1 := split_any hd 32 (by omega) (HD.out.below hb1)
  obtain ⟨m1, hm1⟩ : ∃ n, n = (cutS 32 hd).length := ⟨_, rfl⟩
  rw [← hm1] at hS1
  have Hrd := Lib.hid hrd; have Hb1 := Lib.hid hb1; have Hat := Lib.hid hat; have Hx0 := Lib.hid hx0; have HP := Lib.hid hP; have Hhd := Lib.hid hhd; have Hok := Lib.hid hok; have HS1 := Lib.hid hS1; have Hm1 := Lib.hid hm1; clear hrd hb1 hat hx0 hP hhd hok hS1 hm1
  go_wp2_with fail
  refine HP.out.mono ?_
  rintro e wq ⟨rfl, rfl⟩
  go_wp2_with fail
  refine HS1.out.mono ?_
  rintro e w2 ⟨gh, rfl, hrh, hb2⟩
  have hbw2 := Hb1.out.trans (hb2.mono Hb1.out.size)
  have hN := numbers_any hrh (fun x hx => by have := cutS_piece hx; omega) (by have := cutS_size 32 hd; omega) (HD.out.below hbw2)
  unfold NumsPost at hN
  rw [← Hm1.out] at hN
  have Hrh := Lib.hid hrh; have Hb2 := Lib.hid hb2; have Hbw2 := Lib.hid hbw2; have HN := Lib.hid hN; clear hrh hb2 hbw2 hN
  go_wp2_with fail
  refine HN.out.mono ?_
  rintro e w3 ⟨⟨fv, L, rfl, hLl, hLr, hrow⟩ | rfl, hb3⟩
  case inr =>
    have hbw3 := Hbw2.out.trans (hb3.mono Hbw2.out.size)
    have Hb3 := Lib.hid hb3; have Hbw3 := Lib.hid hbw3; clear hb3 hbw3
    cases ok with
    | false =>
      go_wp2_with fail
      go_ret3
      exact read_no Hbw3.out
    | true =>
      go_wp2_with fail
      go_ret3
      exact read_no Hbw3.out
  have hbw3 := Hbw2.out.trans (hb3.mono Hbw2.out.size)
  cases ok with
  | false =>
    have Hb3 := Lib.hid hb3; have Hbw3 := Lib.hid hbw3; have HLl := Lib.hid hLl; have HLr := Lib.hid hLr; have Hrow := Lib.hid hrow; clear hb3 hbw3 hLl hLr hrow
    go_wp2_with fail
    go_ret3
    exact read_no Hbw3.out
  | true =>
    by_cases h2 : m1 = 2
    · subst h2
      obtain ⟨gf, fc, rfl⟩ := own_shape_pos hrow (by decide)
      obtain ⟨x, y, rfl⟩ : ∃ x y, L = [x, y] := by
        match L, hLl with
        | [x, y], _ => exact ⟨x, y, rfl⟩
      have cx := own_int hrow 0 (by simp)
      have cy := own_int hrow 1 (by simp)
      simp only [List.getElem_cons_zero, List.getElem_cons_succ] at cx cy
      have hxr : InR x := hLr x (by simp)
      have hyr : InR y := hLr y (by simp)
      by_cases hy0 : y < 0
      · have k3 : decide (y < 0) = true := decide_eq_true hy0
        have Hb3 := Lib.hid hb3; have Hbw3 := Lib.hid hbw3; have HLl := Lib.hid hLl; have HLr := Lib.hid hLr; have Hrow := Lib.hid hrow; have Hxr := Lib.hid hxr; have Hyr := Lib.hid hyr; clear hb3 hbw3 hLl hLr hrow hxr hyr
        go_wp2_with fail
        go_ret3
        exact read_no Hbw3.out
      · have k3 : decide (y < 0) = false := decide_eq_false hy0
        obtain ⟨zz, hzz⟩ : ∃ z, z = IntKind.i64.wrap (y + 2) := ⟨_, rfl⟩
        by_cases hyn : (nl : Int) = zz
        · have k4 : ((nl : Int) == zz) = true := beq_iff_eq.2 hyn
          obtain ⟨N, hN⟩ : ∃ N, nl = N + 2 := by
            refine ⟨nl - 2, ?_⟩
            have := hyr.1
            have := hyr.2
            by_cases hbig : y + 2 ≤ 9223372036854775807
            · rw [IntWalk.i64_in _ (by omega)] at hzz; omega
            · have e : IntKind.i64.wrap (y + 2) < 0 := by rw [IntKind.wrap_i64]; omega
              omega
          subst hN
          have k5 : IntKind.i64.wrap (y + 2) = zz := hzz.symm
          have h0 : RdI w3 0 (.slice none 0 0) w3 := ⟨[], [], rfl, ⟨by simp, fun c hc => by simp at hc⟩, Rws.nil _ _, Below.refl _ _⟩
          have cl : ∀ W, Below w3.heap.size w3 W → ∀ k (hk : 1 + k < (cutS 10 s).length), W.cell? ⟨gl, 1 + k, none⟩ = some (.string (cutS 10 s)[1 + k]) := fun W hW k hk => cell_later hW (cell_later hb3 (cell_later Hb2.out (Hat.out _ hk)))
          have cf : ∀ W, Below w3.heap.size w3 W → W.cell? ⟨gf, 0, none⟩ = some (.int .i64 x) := fun W hW => cell_later hW cx
          have Hb3 := Lib.hid hb3; have Hbw3 := Lib.hid hbw3; have HLl := Lib.hid hLl; have HLr := Lib.hid hLr; have Hrow := Lib.hid hrow; have Hxr := Lib.hid hxr; have Hyr := Lib.hid hyr; have Hzz := Lib.hid hzz; have Hyn := Lib.hid hyn; have H0 := Lib.hid h0; have Hcl := Lib.hid cl; have Hcf := Lib.hid cf; clear hb3 hbw3 hLl hLr hrow hxr hyr hzz hyn h0 cl cf
          go_wp2_with fail
          go_loopw [10, 62] (fun v i wr => ∃ k : Nat, k ≤ N ∧ i = .int .i64 k ∧ RdI w3 k v wr) (fun _ i _ => N - (intOf i).toNat)
          case atStart => exact ⟨0, Nat.zero_le _, rfl, H0.out⟩
          case round =>
            obtain ⟨k, hk, rfl, ⟨vs, L, hLk, hsm, hrw, hbr3⟩⟩ := hrel
            have hbr := Hbw3.out.trans (hbr3.mono Hbw3.out.size)
            have hrow0 := hrw.row
            rw [hLk] at hrow0
            obtain ⟨oa, oc, rfl⟩ := own_shape hrow0
            by_cases hlt : k < N
            · have hk1 : 1 + k < (cutS 10 s).length := by have := Hnl.out; omega
              have d1 := Hcl.out wr hbr3 k hk1
              obtain ⟨q, hq⟩ : ∃ x, x = (cutS 10 s)[1 + k] := ⟨_, rfl⟩
              rw [← hq] at d1
              have hqz : q.size ≤ 3000 := by rw [hq]; have := cutS_piece (List.getElem_mem hk1); omega
              have hSq := split_any q 32 (by omega) (HD.out.below hbr)
              obtain ⟨mq, hmq⟩ : ∃ n, n = (cutS 32 q).length := ⟨_, rfl⟩
              have hmq1 := cutS_size 32 q
              rw [← hmq] at hSq hmq1
              obtain ⟨m, hm⟩ : ∃ m, mq = m + 1 := ⟨mq - 1, by omega⟩
              subst hm
              have hm3 : m ≤ 3000 := by omega
              have k7 : (0 : Int) ≤ (k : Int) := by omega
              have k8 : (k : Int) < (N : Int) := by omega
              clear hmq1
              have Hq := Lib.hid hq; have HSq := Lib.hid hSq; have Hmq := Lib.hid hmq; have HLk := Lib.hid hLk; have Hsm := Lib.hid hsm; have Hrw := Lib.hid hrw; have Hbr := Lib.hid hbr; have Hbr3 := Lib.hid hbr3; have Hrow0 := Lib.hid hrow0; clear hq hSq hmq hLk hsm hrw hbr hbr3 hrow0
              go_wp2_with fail
              refine HSq.out.mono ?_
              rintro e w4 ⟨gq, rfl, hrq, hb4⟩
              have hbw4 := Hbr.out.trans (hb4.mono Hbr.out.size)
              have hN4 := numbers_any hrq (fun x hx => by have := cutS_piece hx; omega) (by have := Hmq.out; omega) (HD.out.below hbw4)
              unfold NumsPost at hN4
              rw [← Hmq.out] at hN4
              have Hrq := Lib.hid hrq; have Hb4 := Lib.hid hb4; have Hbw4 := Lib.hid hbw4; have HN4 := Lib.hid hN4; clear hrq hb4 hbw4 hN4
              go_wp2_with fail
              refine HN4.out.mono ?_
              rintro e w5 ⟨⟨rv, R, rfl, hRl, hRr, hrowq⟩ | rfl, hb5⟩
              case inr =>
                have hbw5 := Hbw4.out.trans (hb5.mono Hbw4.out.size)
                have Hb5 := Lib.hid hb5; have Hbw5 := Lib.hid hbw5; clear hb5 hbw5
                go_wp2_with fail
                go_ret3
                exact read_no Hbw5.out
              obtain ⟨gr, rc, rfl⟩ := own_shape_pos hrowq (by omega)
              have hbw5 := Hbw4.out.trans (hb5.mono Hbw4.out.size)
              have hb35 := Hbr3.out.trans ((Hb4.out.trans (hb5.mono Hb4.out.size)).mono Hbr3.out.size)
              have hIx := Tryz.slices_Index_int gr 0 (m + 1) rc R 0 w5 (by omega) (by omega) (fun j hj => by
                rw [Nat.zero_add, List.getD_eq_getElem?_getD, List.getElem?_eq_getElem hj]
                exact own_int hrowq j hj)
              rw [List.take_of_length_le (by omega)] at hIx
              obtain ⟨ix, hix⟩ : ∃ z, z = Lib.idxOf R 0 := ⟨_, rfl⟩
              rw [← hix] at hIx
              have hrw5 := (Hrw.out.below Hb4.out).below hb5
              have hrow5 := ownsRow_below (ownsRow_below Hrow0.out Hb4.out) hb5
              have hz5 := hb35.size
              have hrc := own_cap5 hrowq
              have Hb5 := Lib.hid hb5; have Hbw5 := Lib.hid hbw5; have Hb35 := Lib.hid hb35; have HIx := Lib.hid hIx; have Hix := Lib.hid hix; have HRl := Lib.hid hRl; have HRr := Lib.hid hRr; have Hrowq := Lib.hid hrowq; have Hrw5 := Lib.hid hrw5; have Hrow5 := Lib.hid hrow5; clear hb5 hbw5 hb35 hIx hix hRl hRr hrowq hrw5 hrow5
              by_cases hlast : ix = (m : Int)
              · have k9 : (ix == (m : Int)) = true := beq_iff_eq.2 hlast
                go_wp2_with fail
                refine HIx.out.mono ?_
                rintro e wz ⟨rfl, rfl⟩
                go_wp2_with (at_builtin; (refine wpList_append_lit elem_ints rfl (.tmp 82) (.tmp 88) rfl w3.heap.size (.slice oa k oc) k vs rfl Hrow5.out 1 #[.slice (some ⟨gr, 0, none⟩) m rc] rfl rfl (by simp [Value.oneCell']) (by omega) (by unfold maxLen; omega) (by omega) ?_; intro v9 w9 hown9 hg9 hm9; obtain ⟨a9, c9, rfl⟩ := own_shape hown9; have hb9 := (bel_own Hb35.out Hrow5.out (Nat.le_refl _) hg9 (by omega) : Below w3.heap.size w3 w9); have Hown9 := Lib.hid hown9; have Hb9 := Lib.hid hb9; have Hg9 := Lib.hid hg9; clear hown9 hg9 hm9 hb9))
                go_roundw
                case rel =>
                  have hu := own_cut (ownsRow_mono Hrowq.out (Hbr3.out.trans (Hb4.out.mono Hbr3.out.size)).size) HRl.out m (by omega)
                  have hp := Hrw5.out.push (f := R.take m) (v' := .slice a9 (k + 1) c9) (u := .slice (some ⟨gr, 0, none⟩) m rc) (w' := w9) (by rw [List.length_take, HRl.out, Nat.min_eq_left (by omega)]; exact hu) (by rw [HLk.out]; exact Hown9.out) Hg9.out
                  exact ⟨_, _, _, _, _, _, _, _, ⟨k + 1, by omega, rfl, ⟨_, _, by rw [List.length_append, HLk.out]; rfl, small_snoc Hsm.out (by rw [HLk.out]; omega) (by rw [List.length_take, HRl.out]; omega) (fun z hz => HRr.out z (List.mem_of_mem_take hz)), hp, Hb9.out⟩⟩, rfl, rfl, rfl, rfl, rfl, rfl, rfl, by go_num⟩
                case measure => (simp [intOf]) <;> omega
              · have k9 : (ix == (m : Int)) = false := by rw [beq_eq_false_iff_ne]; exact hlast
                have Hlast := Lib.hid hlast; clear hlast
                go_wp2_with fail
                refine HIx.out.mono ?_
                rintro e wz ⟨rfl, rfl⟩
                go_wp2_with fail
                go_ret3
                exact read_no Hbw5.out
            · obtain rfl : k = N := by omega
              have hread := hrw.reads fun f hf x hx => (hsm.2 f hf).2 x hx
              have hri : ∀ W, Below wr.heap.size wr W → RIss W [.slice oa k oc] L := fun W h => stays_slice (stays_slice (stays_int .i64)) _ _ _ _ hread h
              have hAt := fun (W : World) (h : Below wr.heap.size wr W) => atoms_any (hri W h)
              have hCt := fun (W : World) (h : Below wr.heap.size wr W) => IdxInts.has_any (stays_slice (stays_int .i64)) (fun c => c.any CnfM.wrong) 17 #[] enters_badClause (hri W h) (badClause_pred L W)
              have hTt := fun (W : World) (h : Below wr.heap.size wr W) => cnfText_any (hri W h) hsm x Hxr.out (HD.out.below (hbr.trans (h.mono hbr.size)))
              have hcf2 : ∀ W, Below wr.heap.size wr W → W.cell? ⟨gf, 0, none⟩ = some (.int .i64 x) := fun W h => Hcf.out W (hbr3.trans (h.mono hbr3.size))
              obtain ⟨at_, hat_⟩ : ∃ z, z = atomsOf 0 L := ⟨_, rfl⟩
              obtain ⟨p, hp⟩ : ∃ z, z = L.any fun c => c.any CnfM.wrong := ⟨_, rfl⟩
              obtain ⟨T, hT⟩ : ∃ T : ByteArray, T = ⟨(cnfL x L).toArray⟩ := ⟨_, rfl⟩
              rw [← hat_] at hAt
              rw [← hp] at hCt
              rw [← hT] at hTt
              have k1 : (T.toList == s.toList) = decide (T = s) := Txt.eq_dec _ _
              clear cx cy
              by_cases hle : x < at_
              · have k2 : decide (x < at_) = true := decide_eq_true hle
                have Hread := Lib.hid hread; have Hri := Lib.hid hri; have HAt := Lib.hid hAt; have HCt := Lib.hid hCt; have HTt := Lib.hid hTt; have Hcf2 := Lib.hid hcf2; have Hat_ := Lib.hid hat_; have Hp := Lib.hid hp; have HT := Lib.hid hT; have HLk := Lib.hid hLk; have Hsm := Lib.hid hsm; have Hrw := Lib.hid hrw; have Hbr := Lib.hid hbr; have Hbr3 := Lib.hid hbr3; have Hrow0 := Lib.hid hrow0; clear hread hri hAt hCt hTt hcf2 hat_ hp hT hLk hsm hrw hbr hbr3 hrow0
                clear k1
                go_upto_region 15 with fail
                have mixed : Tryz.prog.follows .mixedOrders = true := by kernel_rfl
                have hbz := bel_drewN (Below.refl wr.heap.size wr) 1
                have hcz := Hcf2.out _ hbz
                have hc00 := Hcf2.out wr (Below.refl _ _)
                first | go_region_with (first | (go_at_call 7; refine (HAt.out _ (by exact hbz)).mono ?_; rintro e wz ⟨rfl, rfl⟩) | (go_at_call 16; refine (HCt.out _ (by exact hbz)).mono ?_; rintro e wz ⟨rfl, hsz⟩; replace hbz := hbz.trans (hsz.mono hbz.size); replace hcz := Hcf2.out _ hbz) | (go_at_call 6; refine (HTt.out _ (by exact hbz)).mono ?_; rintro e wz ⟨rfl, hsz⟩; replace hbz := hbz.trans (hsz.mono hbz.size); replace hcz := Hcf2.out _ hbz)) | fail "the region"
                all_goals
                  go_wp2_with fail
                  go_ret3
                  exact read_no (Hbr.out.trans (hbz.mono Hbr.out.size))
              · have k2 : decide (x < at_) = false := decide_eq_false hle
                cases p with
                | true =>
                  have Hread := Lib.hid hread; have Hri := Lib.hid hri; have HAt := Lib.hid hAt; have HCt := Lib.hid hCt; have HTt := Lib.hid hTt; have Hcf2 := Lib.hid hcf2; have Hat_ := Lib.hid hat_; have Hp := Lib.hid hp; have HT := Lib.hid hT; have HLk := Lib.hid hLk; have Hsm := Lib.hid hsm; have Hrw := Lib.hid hrw; have Hbr := Lib.hid hbr; have Hbr3 := Lib.hid hbr3; have Hrow0 := Lib.hid hrow0; clear hread hri hAt hCt hTt hcf2 hat_ hp hT hLk hsm hrw hbr hbr3 hrow0
                  clear k1
                  go_upto_region 15 with fail
                  have mixed : Tryz.prog.follows .mixedOrders = true := by kernel_rfl
                  have hbz := bel_drewN (Below.refl wr.heap.size wr) 1
                  have hcz := Hcf2.out _ hbz
                  have hc00 := Hcf2.out wr (Below.refl _ _)
                  first | go_region_with (first | (go_at_call 7; refine (HAt.out _ (by exact hbz)).mono ?_; rintro e wz ⟨rfl, rfl⟩) | (go_at_call 16; refine (HCt.out _ (by exact hbz)).mono ?_; rintro e wz ⟨rfl, hsz⟩; replace hbz := hbz.trans (hsz.mono hbz.size); replace hcz := Hcf2.out _ hbz) | (go_at_call 6; refine (HTt.out _ (by exact hbz)).mono ?_; rintro e wz ⟨rfl, hsz⟩; replace hbz := hbz.trans (hsz.mono hbz.size); replace hcz := Hcf2.out _ hbz)) | fail "the region"
                  all_goals
                    go_wp2_with fail
                    go_ret3
                    exact read_no (Hbr.out.trans (hbz.mono Hbr.out.size))
                | false =>
                  by_cases hts : T = s
                  · have k3 : (T.toList == s.toList) = true := by rw [k1, decide_eq_true hts]
                    have htx : cnfL x L = s.data.toList := by rw [← hts, hT]
                    have hle2 : atomsOf 0 L ≤ x := by rw [← hat_]; omega
                    clear k1
                    have Hread := Lib.hid hread; have Hri := Lib.hid hri; have HAt := Lib.hid hAt; have HCt := Lib.hid hCt; have HTt := Lib.hid hTt; have Hcf2 := Lib.hid hcf2; have Hat_ := Lib.hid hat_; have Hp := Lib.hid hp; have HT := Lib.hid hT; have HLk := Lib.hid hLk; have Hsm := Lib.hid hsm; have Hrw := Lib.hid hrw; have Hbr := Lib.hid hbr; have Hbr3 := Lib.hid hbr3; have Hrow0 := Lib.hid hrow0; have Htx := Lib.hid htx; have Hts := Lib.hid hts; clear hread hri hAt hCt hTt hcf2 hat_ hp hT hLk hsm hrw hbr hbr3 hrow0 htx hts
                    go_upto_region 15 with fail
                    have mixed : Tryz.prog.follows .mixedOrders = true := by kernel_rfl
                    have hbz := bel_drewN (Below.refl wr.heap.size wr) 1
                    have hcz := Hcf2.out _ hbz
                    have hc00 := Hcf2.out wr (Below.refl _ _)
                    go_region_held3 (fun w' => w'.cell? ⟨gf, 0, none⟩ = some (.int .i64 x)) (first | exact hcz | go_keep) (first | (go_at_call 7; refine (HAt.out _ (by exact hbz)).mono ?_; rintro e wz ⟨rfl, rfl⟩) | (go_at_call 16; refine (HCt.out _ (by exact hbz)).mono ?_; rintro e wz ⟨rfl, hsz⟩; replace hbz := hbz.trans (hsz.mono hbz.size); replace hcz := Hcf2.out _ hbz) | (go_at_call 6; refine (HTt.out _ (by exact hbz)).mono ?_; rintro e wz ⟨rfl, hsz⟩; replace hbz := hbz.trans (hsz.mono hbz.size); replace hcz := Hcf2.out _ hbz))
                    all_goals
                      go_wp2_with fail
                      go_ret3
                      exact ⟨.inr ⟨x, _, L, rfl, Hxr.out, Hsm.out, Hri.out _ hbz, Htx.out, by omega⟩, Hbr.out.trans (hbz.mono Hbr.out.size)⟩
                  · have k3 : (T.toList == s.toList) = false := by rw [k1, decide_eq_false hts]
                    clear k1
                    have Hread := Lib.hid hread; have Hri := Lib.hid hri; have HAt := Lib.hid hAt; have HCt := Lib.hid hCt; have HTt := Lib.hid hTt; have Hcf2 := Lib.hid hcf2; have Hat_ := Lib.hid hat_; have Hp := Lib.hid hp; have HT := Lib.hid hT; have HLk := Lib.hid hLk; have Hsm := Lib.hid hsm; have Hrw := Lib.hid hrw; have Hbr := Lib.hid hbr; have Hbr3 := Lib.hid hbr3; have Hrow0 := Lib.hid hrow0; have Hts := Lib.hid hts; clear hread hri hAt hCt hTt hcf2 hat_ hp hT hLk hsm hrw hbr hbr3 hrow0 hts
                    go_upto_region 15 with fail
                    have mixed : Tryz.prog.follows .mixedOrders = true := by kernel_rfl
                    have hbz := bel_drewN (Below.refl wr.heap.size wr) 1
                    have hcz := Hcf2.out _ hbz
                    have hc00 := Hcf2.out wr (Below.refl _ _)
                    go_region_held3 (fun w' => w'.cell? ⟨gf, 0, none⟩ = some (.int .i64 x)) (first | exact hcz | go_keep) (first | (go_at_call 7; refine (HAt.out _ (by exact hbz)).mono ?_; rintro e wz ⟨rfl, rfl⟩) | (go_at_call 16; refine (HCt.out _ (by exact hbz)).mono ?_; rintro e wz ⟨rfl, hsz⟩; replace hbz := hbz.trans (hsz.mono hbz.size); replace hcz := Hcf2.out _ hbz) | (go_at_call 6; refine (HTt.out _ (by exact hbz)).mono ?_; rintro e wz ⟨rfl, hsz⟩; replace hbz := hbz.trans (hsz.mono hbz.size); replace hcz := Hcf2.out _ hbz))
                    all_goals
                      go_wp2_with fail
                      go_ret3
                      exact read_no (Hbr.out.trans (hbz.mono Hbr.out.size))
        · have k4 : ((nl : Int) == zz) = false := by rw [beq_eq_false_iff_ne]; exact hyn
          have k5 : IntKind.i64.wrap (y + 2) = zz := hzz.symm
          have Hb3 := Lib.hid hb3; have Hbw3 := Lib.hid hbw3; have HLl := Lib.hid hLl; have HLr := Lib.hid hLr; have Hrow := Lib.hid hrow; have Hxr := Lib.hid hxr; have Hyr := Lib.hid hyr; have Hzz := Lib.hid hzz; have Hyn := Lib.hid hyn; clear hb3 hbw3 hLl hLr hrow hxr hyr hzz hyn
          go_wp2_with fail
          go_ret3
          exact read_no Hbw3.out
    · obtain ⟨fa, fc, rfl⟩ := own_shape hrow
      have k2 : ((m1 : Int) == 2) = false := by rw [beq_eq_false_iff_ne]; omega
      have Hb3 := Lib.hid hb3; have Hbw3 := Lib.hid hbw3; have HLl := Lib.hid hLl; have HLr := Lib.hid hLr; have Hrow := Lib.hid hrow; clear hb3 hbw3 hLl hLr hrow
      go_wp2_with fail
      go_ret3
      exact read_no Hbw3.out
end Go.Proofs.YtalliggdfoeahaaGreatDoor
