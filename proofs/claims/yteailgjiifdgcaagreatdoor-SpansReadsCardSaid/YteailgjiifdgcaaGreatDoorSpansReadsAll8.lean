/- Walks and plain facts. Texts merged: SpsX, SpsP, SpnRf, SpsS, SpsU, SpsY, SpsV. Condition: none beyond what each says. -/
import Derived.Deep.RegionHeld3
import Derived.Test.YteailgjiifdgcaaGreatDoorSpansReadsAll1
import Derived.Test.YteailgjiifdgcaaGreatDoorSpansReadsAll2
import Derived.Test.YteailgjiifdgcaaGreatDoorSpansReadsAll3
import Derived.Test.YteailgjiifdgcaaGreatDoorSpansReadsAll4
import Derived.Test.YteailgjiifdgcaaGreatDoorSpansReadsAll5
import Derived.Test.YteailgjiifdgcaaGreatDoorSpansReadsAll6
import Derived.Test.YteailgjiifdgcaaGreatDoorSpansReadsAll7
/- The walk of cooperref03.Form. Condition: at most two thousand spans of bounds of at most 9000 bytes. -/
namespace Go.Proofs.YteailgjiifdgcaaGreatDoor
open Go.Shelf Go.RowKit Go.Lib Go.Sort SortM VerN

theorem own_cap2 {w : World} {B : Nat} {e : TypeId} {size g n cap : Nat} {xs : List Value} (h : w.ownsRow B e size (.slice (some ⟨g, 0, none⟩) n cap) n xs) : n ≤ cap := by
  rcases h.2 with ⟨e0, _⟩ | ⟨g', cap', cur, e0, _, _, hn, _⟩
  · cases e0
  · injection e0 with _ _ e3
    omega
theorem own_shape_pos {w : World} {B : Nat} {e : TypeId} {size : Nat} {v : Value} {n : Nat} {xs : List Value} (h : w.ownsRow B e size v n xs) (hn : 0 < n) : ∃ g cap, v = .slice (some ⟨g, 0, none⟩) n cap := by
  rcases h.2 with ⟨h1, h2⟩ | ⟨g, cap, _, h1, _⟩
  · omega
  · exact ⟨_, cap, h1⟩
theorem ins_span (l : List Tp) (x : Tp) : sortSp (l ++ [x]) = ins (Go.Proofs.ltOf cfSp) x (sortSp l) := ssort_snoc l x
theorem sorted_span (l : List Tp) : Sorted (Go.Proofs.ltOf cfSp) (sortSp l) := ssort_sorted swoSp l
/-- the row behind k rounds -/
def InsI (w2 : World) (l : List Tp) (k : Nat) (v : Value) (W : World) : Prop := ∃ g c, v = .slice (some ⟨g, 0, none⟩) k c ∧ W.ownsRow w2.heap.size 34 2 v k ((tB (sortSp (l.take k))).flatMap spCells) ∧ Below w2.heap.size w2 W
theorem insI_step {w2 wr W V : World} {l : List Tp} {k M g n c : Nat} {P : List Tp} {x : Tp} {x1 x2 : ByteArray} {T1 T2 : List Value} (hk : k < l.length) (hx : x = l[k]) (hP : P = sortSp (l.take k)) (hR : ins (Go.Proofs.ltOf cfSp) x P = P.take M ++ x :: P.drop M) (hx1 : x1 = x.1.1) (hx2 : x2 = x.1.2) (hT1 : T1 = (tB (P.take M)).flatMap spCells) (hT2 : T2 = (tB (P.drop M)).flatMap spCells) (hbr : Below w2.heap.size w2 wr) (hb9 : Below wr.heap.size wr W) (hb11 : Below W.heap.size W V) (hown : V.ownsRow W.heap.size 34 2 (.slice (some ⟨g, 0, none⟩) n c) n (T1 ++ [.string x1, .string x2] ++ T2)) (hn : n = k + 1) : InsI w2 l (k + 1) (.slice (some ⟨g, 0, none⟩) n c) V := by
  subst hn
  have hrW : Below w2.heap.size w2 W := hbr.trans (hb9.mono hbr.size)
  refine ⟨g, c, rfl, ?_, hrW.trans (hb11.mono hrW.size)⟩
  have e : l.take (k + 1) = l.take k ++ [x] := by rw [hx]; exact (List.take_append_getElem hk).symm
  rw [e, ins_span, ← hP, hR]
  have h := ownsRow_mono hown hrW.size
  have e2 : (tB (P.take M ++ x :: P.drop M)).flatMap spCells = T1 ++ [.string x1, .string x2] ++ T2 := by
    rw [hT1, hT2, hx1, hx2]
    unfold tB
    rw [List.map_append, List.flatMap_append, List.map_cons, List.flatMap_cons, List.append_assoc]
    rfl
  rw [e2]
  exact h
def slLen : Value → Nat
  | .slice _ n _ => n
  | _ => 0
def boN : Value → Nat
  | .bool true => 1
  | _ => 0
def RefFormPost (l : List Tp) (w : World) (e : Ending) (w' : World) : Prop :=
  ∃ o, e = .returned (.tuple #[o, .bool (formOk l)]) ∧ (formOk l = true → w'.ownsRow w.heap.size 34 2 o (formB l).length ((formB l).flatMap spCells)) ∧ Below w.heap.size w w'
theorem refForm_no {l : List Tp} {w w' : World} {o : Value} (h : formOk l = false) (hb : Below w.heap.size w w') : RefFormPost l w (.returned (.tuple #[o, .bool false])) w' :=
  ⟨_, by rw [h], (fun k => by rw [h] at k; cases k), hb⟩
/-- what is left when two that meet are put together, again and again -/
structure Left (l L : List Tp) : Prop where
  may : mayT L
  cov : ∀ p, covT L p ↔ covT l p
  len : L.length ≤ l.length
theorem Left.step {l L M : List Tp} (h : Left l L) (hs : MStep L M) : Left l M ∧ M.length < L.length := by
  obtain ⟨h1, h2, h3⟩ := step_facts h.may hs
  exact ⟨⟨h1, fun p => (h2 p).trans (h.cov p), by have := h.len; omega⟩, by omega⟩
theorem formOk_of {l : List Tp} (h : allMay (tB l) = true) {L : List Tp} (hf : formB l = tB (sortSp L)) : formOk l = decide (L.length ≤ 16) := by
  unfold formOk
  rw [h, hf, List.length_map, (sortSp_perm L).length_eq]
  rfl
theorem ltOf_behind (x y : Tp) : ltLo x.1.1.data.toList y.1.1.data.toList = Go.Proofs.ltOf cfSp x y := (ltSp x y).symm
set_option linter.unusedSimpArgs false in
set_option maxRecDepth 10000 in
set_option maxHeartbeats 40000000 in
theorem refForm_any {w : World} {v : Value} {l : List Tp} (h : RSps w [v] (tB l)) (hl : l.length ≤ 2000) : Calls Tryz.prog 21 #[v] w (RefFormPost l w) := by
  have hat0 := fun a c (e : v = .slice a (tB l).length c) => sps_at (by rw [← e]; exact h)
  obtain ⟨a, cap, rfl⟩ := sps_shape h
  have hat := hat0 a cap rfl
  clear hat0
  obtain ⟨n, hn⟩ : ∃ n, n = (tB l).length := ⟨_, rfl⟩
  have hnl : n = l.length := by rw [hn, List.length_map]
  rw [← hn] at h ⊢
  have hn1 : n ≤ 2000 := by omega
  have Hh := Lib.hid h; have Hn := Lib.hid hn; have Hnl := Lib.hid hnl; have Hat := Lib.hid hat; clear h hn hnl hat
  go_enter Tryz.func21, Tryz.ntmps21
  go_wp2_with fail
  go_loopw [12] (fun i wr => ∃ k : Nat, k ≤ n ∧ i = .int .i64 k ∧ mayT (l.take k) ∧ Below w.heap.size w wr) (fun i _ => n - (RowKit.intOf i).toNat)
  case atStart => exact ⟨0, Nat.zero_le _, rfl, (fun s hs => by simp at hs), Below.refl _ _⟩
  case round =>
    obtain ⟨k, hk, rfl, hmay, hbr⟩ := hrel
    by_cases hlt : k < n
    · have hkl : k < l.length := by have := Hnl.out; omega
      obtain ⟨y, hy⟩ : ∃ y, y = l[k] := ⟨_, rfl⟩
      obtain ⟨b, off, rfl, c0, c1⟩ := Hat.out k y.1 (by rw [hy, List.getElem?_map, List.getElem?_eq_getElem hkl]; rfl)
      have d0 := cell_later hbr c0
      have d1 := cell_later hbr c1
      have hys := y.2
      have hM := refMay2_any y.1.1 y.1.2 (by omega) (by omega) wr
      obtain ⟨r, hr⟩ : ∃ b, b = mayS (dS y.1) := ⟨_, rfl⟩
      have hr2 : mayS (y.1.1.data.toList, y.1.2.data.toList) = r := hr.symm
      rw [hr2] at hM
      have hnx : r = true → mayT (l.take (k + 1)) := fun h s hs => by
        rw [List.take_succ_eq_append_getElem hkl] at hs
        rcases List.mem_append.1 hs with hs | hs
        · exact hmay s hs
        · rw [List.mem_singleton.1 hs, ← hy, ← hr]; exact h
      have hno : r = false → formOk l = false := fun h => by
        unfold formOk
        cases ha : allMay (tB l) with
        | false => rfl
        | true =>
          have h9 := mayT_iff.2 ha y (by rw [hy]; exact List.getElem_mem _)
          rw [← hr, h] at h9
          cases h9
      obtain ⟨y1, hy1⟩ : ∃ s, s = y.1.1 := ⟨_, rfl⟩
      obtain ⟨y2, hy2⟩ : ∃ s, s = y.1.2 := ⟨_, rfl⟩
      rw [← hy1] at d0
      rw [← hy2] at d1
      rw [← hy1, ← hy2] at hM
      have k5 : (0 : Int) ≤ (k : Int) := by omega
      have k6 : (k : Int) < (n : Int) := by omega
      clear c0 c1 hr2
      cases r with
      | true =>
        have hnx := hnx rfl
        have Hmay := Lib.hid hmay; have Hbr := Lib.hid hbr; have Hy := Lib.hid hy; have Hys := Lib.hid hys; have HM := Lib.hid hM; have Hr := Lib.hid hr; have Hnx := Lib.hid hnx; have Hno := Lib.hid hno; have Hy1 := Lib.hid hy1; have Hy2 := Lib.hid hy2; clear hmay hbr hy hys hM hr hnx hno hy1 hy2
        go_wp2_with fail
        refine HM.out.mono ?_
        rintro e w5 ⟨rfl, hb5⟩
        have hbw := Hbr.out.trans (hb5.mono Hbr.out.size)
        have Hb5 := Lib.hid hb5; have Hbw := Lib.hid hbw; clear hb5 hbw
        go_wp2_with fail
        go_roundw
        case rel => exact ⟨k + 1, by omega, by go_num, Hnx.out, Hbw.out⟩
        case measure => (simp [RowKit.intOf]) <;> omega
      | false =>
        have hno := hno rfl
        have Hmay := Lib.hid hmay; have Hbr := Lib.hid hbr; have Hy := Lib.hid hy; have Hys := Lib.hid hys; have HM := Lib.hid hM; have Hr := Lib.hid hr; have Hnx := Lib.hid hnx; have Hno := Lib.hid hno; have Hy1 := Lib.hid hy1; have Hy2 := Lib.hid hy2; clear hmay hbr hy hys hM hr hnx hno hy1 hy2
        go_wp2_with fail
        refine HM.out.mono ?_
        rintro e w5 ⟨rfl, hb5⟩
        have hbw := Hbr.out.trans (hb5.mono Hbr.out.size)
        have hbw2 := hbw.alloc hbw.size (.cells #[] 34)
        have Hb5 := Lib.hid hb5; have Hbw := Lib.hid hbw; have Hbw2 := Lib.hid hbw2; clear hb5 hbw hbw2
        go_wp2_with fail
        go_ret2
        exact refForm_no Hno.out Hbw2.out
    · obtain rfl : k = n := by omega
      rw [List.take_of_length_le (Nat.le_of_eq Hnl.out.symm)] at hmay
      have hal : allMay (tB l) = true := mayT_iff.1 hmay
      have hrd := stays_slice stays_spn _ _ _ _ Hh.out hbr
      have hl0 : Left l l := ⟨hmay, fun _ => Iff.rfl, Nat.le_refl _⟩
      have Hmay := Lib.hid hmay; have Hbr := Lib.hid hbr; have Hal := Lib.hid hal; have Hrd := Lib.hid hrd; have Hl0 := Lib.hid hl0; clear hmay hbr hal hrd hl0
      go_wp2_with fail
      go_loopw [0, 5] (fun v m wq => ∃ (L : List Tp) (b : Bool), m = .bool b ∧ RSps wq [v] (tB L) ∧ Left l L ∧ (b = false → NoMeet L) ∧ Below w.heap.size w wq) (fun v m _ => 2 * slLen v + boN m)
      case atStart => exact ⟨l, true, rfl, Hrd.out, Hl0.out, (fun h => by cases h), Hbr.out⟩
      case round =>
        obtain ⟨L, b, rfl, hrd, hleft, hnm, hbq⟩ := hrel
        obtain ⟨La, Lc, rfl⟩ := sps_shape hrd
        have hLl : L.length ≤ 2000 := by have := hleft.len; omega
        cases b with
        | true =>
          have hME := refMerged_any hrd hleft.may hLl
          have hln : (tB L).length = L.length := List.length_map _
          obtain ⟨M, hM⟩ : ∃ M, M = (tB L).length := ⟨_, rfl⟩
          rw [← hM] at hrd hME hln ⊢
          have Hrd := Lib.hid hrd; have Hleft := Lib.hid hleft; have Hnm := Lib.hid hnm; have Hbq := Lib.hid hbq; have HME := Lib.hid hME; have Hln := Lib.hid hln; have HM := Lib.hid hM; clear hrd hleft hnm hbq hME hln hM
          go_wp2_with fail
          refine HME.out.mono ?_
          intro e w5 hpost
          obtain ⟨hb5, hpost⟩ := hpost
          rcases hpost with ⟨o, L', rfl, hst, ho⟩ | ⟨rfl, hnm2⟩
          · obtain ⟨hl2, hlt2⟩ := Hleft.out.step hst
            have hbw := Hbq.out.trans (hb5.mono Hbq.out.size)
            have hrd2 : RSps w5 [o] (tB L') := sps_reads (fun x hx => by have := smallB_tB L' x hx; unfold maxLen; omega) (by rw [List.length_map]; exact ho)
            obtain ⟨oa, oc, rfl⟩ := own_shape ho
            have Hst := Lib.hid hst; have Ho := Lib.hid ho; have Hb5 := Lib.hid hb5; have Hl2 := Lib.hid hl2; have Hlt2 := Lib.hid hlt2; have Hbw := Lib.hid hbw; have Hrd2 := Lib.hid hrd2; clear hst ho hb5 hl2 hlt2 hbw hrd2
            go_wp2_with fail
            go_roundw
            case rel => exact ⟨L', true, rfl, Hrd2.out, Hl2.out, (fun h => by cases h), Hbw.out⟩
            case measure => have := Hln.out; have := Hlt2.out; simp [slLen, boN]; omega
          · have hbw := Hbq.out.trans (hb5.mono Hbq.out.size)
            have hrd2 := stays_slice stays_spn _ _ _ _ Hrd.out hb5
            have Hnm2 := Lib.hid hnm2; have Hb5 := Lib.hid hb5; have Hbw := Lib.hid hbw; have Hrd2 := Lib.hid hrd2; clear hnm2 hb5 hbw hrd2
            go_wp2_with fail
            go_roundw
            case rel => exact ⟨L, false, rfl, Hrd2.out, Hleft.out, (fun _ => Hnm2.out), Hbw.out⟩
            case measure => simp [slLen, boN]
        | false =>
          have hf := refForm_is Hmay.out hleft.may hleft.cov (hnm rfl)
          have hfo := formOk_of Hal.out hf
          have hatL := sps_at hrd
          obtain ⟨w2, hw2⟩ : ∃ w2, w2 = wr := ⟨_, rfl⟩
          obtain ⟨m, hm⟩ : ∃ m, m = (tB L).length := ⟨_, rfl⟩
          have hml : m = L.length := by rw [hm, List.length_map]
          have hm1 : m ≤ 2000 := by omega
          rw [← hm] at hrd ⊢
          rw [← hw2] at hatL hbq hrd ⊢
          have hst : InsI w2 L 0 (.slice (some ⟨w2.heap.size, 0, none⟩) 0 0) (w2.alloc (.cells #[] 34)) := ⟨_, _, rfl, lit_sps (Nat.le_refl _), below_alloc1 _ _⟩
          have Hrd := Lib.hid hrd; have Hleft := Lib.hid hleft; have Hnm := Lib.hid hnm; have Hbq := Lib.hid hbq; have Hf := Lib.hid hf; have Hfo := Lib.hid hfo; have HatL := Lib.hid hatL; have Hm := Lib.hid hm; have Hml := Lib.hid hml; have Hst := Lib.hid hst; clear hrd hleft hnm hbq hf hfo hatL hm hml hst
          clear hw2
          go_wp2_with fail
          go_loopw [6, 32] (fun v i wr => ∃ k : Nat, k ≤ m ∧ i = .int .i64 k ∧ InsI w2 L k v wr) (fun _ i _ => m - (RowKit.intOf i).toNat)
          case atStart => exact ⟨0, Nat.zero_le _, rfl, Hst.out⟩
          case round =>
            obtain ⟨k, hk, rfl, gw, cw, rfl, hrow, hbr⟩ := hrel
            obtain ⟨wo, hwo⟩ : ∃ W, W = wr := ⟨_, rfl⟩
            rw [← hwo] at hrow hbr ⊢
            clear hwo
            by_cases hlt : k < m
            · have hkl : k < L.length := by have := Hml.out; omega
              obtain ⟨x, hx⟩ : ∃ x, x = L[k] := ⟨_, rfl⟩
              obtain ⟨b, off, rfl, f0, f1⟩ := HatL.out k x.1 (by rw [hx, List.getElem?_map, List.getElem?_eq_getElem hkl]; rfl)
              have f0 := cell_later hbr f0
              have f1 := cell_later hbr f1
              obtain ⟨P, hP⟩ : ∃ P, P = sortSp (L.take k) := ⟨_, rfl⟩
              have hPl : P.length = k := by rw [hP, (sortSp_perm _).length_eq, List.length_take]; omega
              have hPs : Sorted (Go.Proofs.ltOf cfSp) P := by rw [hP]; exact sorted_span _
              rw [← hP] at hrow
              have k5 : (0 : Int) ≤ (k : Int) := by omega
              have k6 : (k : Int) < (m : Int) := by omega
              have hcell : ∀ j u, ((tB P).flatMap spCells)[j]? = some u → wo.cell? ⟨gw, j, none⟩ = some u := fun j u hu => by
                have := hrow.cells (g := gw) rfl j u hu
                rw [Addr.add_lit, Nat.zero_add] at this
                exact this
              have hxs := x.2
              obtain ⟨x1, hx1⟩ : ∃ s, s = x.1.1 := ⟨_, rfl⟩
              obtain ⟨x2, hx2⟩ : ∃ s, s = x.1.2 := ⟨_, rfl⟩
              rw [← hx1] at f0
              rw [← hx2] at f1
              have Hx := Lib.hid hx; have HP := Lib.hid hP; have HPl := Lib.hid hPl; have HPs := Lib.hid hPs; have Hrow := Lib.hid hrow; have Hbr := Lib.hid hbr; have Hcell := Lib.hid hcell; have Hxs := Lib.hid hxs; have Hx1 := Lib.hid hx1; have Hx2 := Lib.hid hx2; have Hf0 := Lib.hid f0; have Hf1 := Lib.hid f1; clear hx hP hPl hPs hrow hbr hcell hxs hx1 hx2 f0 f1
              go_wp2_with fail
              go_loopw [8] (fun v wq => ∃ q : Nat, q ≤ k ∧ v = .int .i64 q ∧ (∀ i (hi : i < P.length), q ≤ i → Go.Proofs.ltOf cfSp x P[i] = true) ∧ Below wo.heap.size wo wq) (fun v _ => (RowKit.intOf v).toNat)
              case atStart => exact ⟨k, Nat.le_refl _, rfl, (fun i hi h => by have := HPl.out; omega), Below.refl _ _⟩
              case round =>
                obtain ⟨q, hq, rfl, hall, hbq⟩ := hrel
                by_cases hq0 : 0 < q
                · obtain ⟨p, rfl⟩ : ∃ p, q = p + 1 := ⟨q - 1, by omega⟩
                  have hpl : p < P.length := by have := HPl.out; omega
                  obtain ⟨y, hy⟩ : ∃ y, y = P[p] := ⟨_, rfl⟩
                  have hyt : (tB P)[p]'(by rw [List.length_map]; exact hpl) = y.1 := by rw [hy]; exact List.getElem_map _
                  have hyc := sps_flat (tB P) p (by rw [List.length_map]; exact hpl)
                  rw [hyt] at hyc
                  have d2 := Hcell.out _ _ ((hyc 0 (by decide)).trans (show (spCells y.1)[0]? = some (Value.string y.1.1) from rfl))
                  have d3 := Hcell.out _ _ ((hyc 1 (by decide)).trans (show (spCells y.1)[1]? = some (Value.string y.1.2) from rfl))
                  have hys := y.2
                  have hcf : ∀ W, Below wo.heap.size wo W → W.cell? ⟨gw, p * 2, none⟩ = some (.string y.1.1) ∧ W.cell? ⟨gw, p * 2 + 1, none⟩ = some (.string y.1.2) ∧ W.cell? ⟨b, off + k * 2, none⟩ = some (.string x1) ∧ W.cell? ⟨b, off + k * 2 + 1, none⟩ = some (.string x2) :=
                    fun W hW => ⟨cell_later hW d2, cell_later hW d3, cell_later hW Hf0.out, cell_later hW Hf1.out⟩
                  have hL := fun (W : World) (_ : Below wo.heap.size wo W) => behind_any y.1.1 y.1.2 x1 x2 (by omega) (by rw [Hx1.out]; have := Hxs.out; omega) W
                  have hle : ltLo x1.data.toList y.1.1.data.toList = Go.Proofs.ltOf cfSp x y := by rw [Hx1.out]; exact ltOf_behind x y
                  rw [hle] at hL
                  obtain ⟨y1, hy1⟩ : ∃ s, s = y.1.1 := ⟨_, rfl⟩
                  obtain ⟨y2, hy2⟩ : ∃ s, s = y.1.2 := ⟨_, rfl⟩
                  rw [← hy1, ← hy2] at hL
                  simp only [← hy1, ← hy2] at hcf
                  have u2 : IntKind.i64.wrap ((p : Int) + 1 - 1) = (p : Int) := by rw [IntWalk.i64_in _ (by omega)]; omega
                  have u3 : IntKind.i64.wrap (p : Int) = (p : Int) := IntWalk.i64_in _ (by omega)
                  have v1 : decide ((0 : Int) < (p : Int) + 1) = true := decide_eq_true (by omega)
                  have v2 : (0 : Int) < (p : Int) + 1 := by omega
                  have v3 : (p : Int) < (k : Int) := by omega
                  have v4 : (0 : Int) ≤ (p : Int) := by omega
                  obtain ⟨r, hr⟩ : ∃ r, r = Go.Proofs.ltOf cfSp x y := ⟨_, rfl⟩
                  rw [← hr] at hL
                  have hbz := bel_drewN (Below.refl wr.heap.size wr) 1
                  have hcz := hcf _ (hbq.trans (hbz.mono hbq.size))
                  clear hle d2 d3 hyc hyt
                  have hnx : r = true → ∀ i (hi : i < P.length), p ≤ i → Go.Proofs.ltOf cfSp x P[i] = true := fun h i hi hpi => by
                    by_cases e : i = p
                    · subst e; rw [← hy, ← hr]; exact h
                    · exact hall i hi (by omega)
                  have hR : r = false → _ := fun h => ins_round swoSp (x := x) HPs.out (at_ := p + 1) (by have := HPl.out; omega) hall (fun _ => by rw [show P[p + 1 - 1]'(by have := HPl.out; omega) = y by rw [hy]; rfl, ← hr]; exact h)
                  have Hall := Lib.hid hall; have Hbq := Lib.hid hbq; have HL := Lib.hid hL; have Hy := Lib.hid hy; have Hys := Lib.hid hys; have Hr := Lib.hid hr; have Hy1 := Lib.hid hy1; have Hy2 := Lib.hid hy2; have Hnx := Lib.hid hnx; have HR := Lib.hid hR; clear hall hbq hL hy hys hr hy1 hy2 hnx hR
                  have Hcz := Lib.hid hcf
                  clear hcf
                  go_upto_region 15 with (fail)
                  go_region_held3 (fun w' => w'.cell? ⟨gw, p * 2, none⟩ = some (.string y1) ∧ w'.cell? ⟨gw, p * 2 + 1, none⟩ = some (.string y2) ∧ w'.cell? ⟨b, off + k * 2, none⟩ = some (.string x1) ∧ w'.cell? ⟨b, off + k * 2 + 1, none⟩ = some (.string x2)) (first | exact hcz | go_keep) (first | (go_at_call 61; refine (HL.out _ (by exact Hbq.out.trans (hbz.mono Hbq.out.size))).mono ?_; rintro e wz ⟨rfl, hsz⟩; replace hbz := hbz.trans (hsz.mono hbz.size); replace hcz := Hcz.out _ (Hbq.out.trans (hbz.mono Hbq.out.size))))
                  have hb9 := Hbq.out.trans (hbz.mono Hbq.out.size)
                  cases r with
                  | true =>
                    have hnx2 := Hnx.out rfl
                    have Hb9 := Lib.hid hb9; have Hnx2 := Lib.hid hnx2; clear hb9 hnx2
                    go_wp2_with fail
                    go_roundw
                    case rel => exact ⟨p, by omega, by go_num, Hnx2.out, Hb9.out⟩
                    case measure => (simp [RowKit.intOf]) <;> omega
                  | false =>
                    have hR := HR.out rfl
                    clear HR
                    have Hb9 := Lib.hid hb9; have HR := Lib.hid hR; clear hb9 hR
                    go_upto_region 18 with (fail)
                    obtain ⟨T1, hT1⟩ : ∃ T, T = (tB (P.take (p + 1))).flatMap spCells := ⟨_, rfl⟩
                    obtain ⟨T2, hT2⟩ : ∃ T, T = (tB (P.drop (p + 1))).flatMap spCells := ⟨_, rfl⟩
                    have hM : p + 1 ≤ P.length := by have := HPl.out; omega
                    have hl1 : T1.length = (p + 1) * 2 := by have := HPl.out; rw [hT1, spsFlat_len, List.length_map, List.length_take]; omega
                    have hl2 : T2.length = (k - (p + 1)) * 2 := by have := HPl.out; rw [hT2, spsFlat_len, List.length_map, List.length_drop]; omega
                    have hN12 : (tB P).flatMap spCells = T1 ++ T2 := by rw [hT1, hT2, ← List.flatMap_append, tB, tB, ← List.map_append, List.take_append_drop]
                    have hone1 : ∀ u ∈ T1, u.oneCell' = true := by rw [hT1]; exact sps_one _
                    have hone2 : ∀ u ∈ T2, u.oneCell' = true := by rw [hT2]; exact sps_one _
                    have hc1 : ∀ V, Below wz.heap.size wz V → ∀ j u, T1[j]? = some u → ∃ b off, some (⟨gw, 0, none⟩ : Addr) = some ⟨b, off, none⟩ ∧ V.cell? ⟨b, off + j, none⟩ = some u := fun V hV j u hu => by
                      have hj := (List.getElem?_eq_some_iff.1 hu).1
                      exact ⟨gw, 0, rfl, by rw [Nat.zero_add]; exact cell_later hV (cell_later Hb9.out (Hcell.out j u (by rw [hN12, List.getElem?_append_left hj]; exact hu)))⟩
                    have hc2 : ∀ V, Below wz.heap.size wz V → ∀ j u, T2[j]? = some u → ∃ b off, some (⟨gw, (p + 1) * 2, none⟩ : Addr) = some ⟨b, off, none⟩ ∧ V.cell? ⟨b, off + j, none⟩ = some u := fun V hV j u hu =>
                      ⟨gw, (p + 1) * 2, rfl, cell_later hV (cell_later Hb9.out (Hcell.out _ u (by rw [hN12, List.getElem?_append_right (by omega), show (p + 1) * 2 + j - T1.length = j by omega]; exact hu)))⟩
                    have hlit1 := lit_sps (w := wz) (B := wz.heap.size) (Nat.le_refl _)
                    have hba1 : Below wz.heap.size wz (wz.alloc (.cells #[] 34)) := below_alloc1 _ _
                    have hc10 := hc1 _ hba1
                    have hMk : p + 1 ≤ k := by have := HPl.out; omega
                    have hMi : (p : Int) + 1 ≤ (cw : Int) := by have := own_cap2 Hrow.out; omega
                    have hMt : ((p : Int) + 1).toNat = p + 1 := by omega
                    have hM0 : (0 : Int) ≤ (p : Int) + 1 := by omega
                    have HT1 := Lib.hid hT1; have HT2 := Lib.hid hT2; have HM := Lib.hid hM; have Hl1 := Lib.hid hl1; have Hl2 := Lib.hid hl2; have HN12 := Lib.hid hN12; have Hone1 := Lib.hid hone1; have Hone2 := Lib.hid hone2; have Hc1 := Lib.hid hc1; have Hc2 := Lib.hid hc2; have Hlit1 := Lib.hid hlit1; have Hba1 := Lib.hid hba1; have Hc10 := Lib.hid hc10; clear hT1 hT2 hM hl1 hl2 hN12 hone1 hone2 hc1 hc2 hlit1 hba1 hc10
                    go_upto_region 19 with (at_builtin; (refine wpList_append_from elem_spn rfl (.tmp 54) (.tmp 57) rfl wz.heap.size (.slice (some ⟨wz.heap.size, 0, none⟩) 0 0) 0 [] rfl Hlit1.out (some ⟨gw, 0, none⟩) (p + 1) cw T1 rfl Hl1.out Hc10.out Hone1.out (by omega) (by unfold maxLen; omega) (by simp) ?_; intro v7 w7 hown7 hg7 hm7; obtain ⟨a7, c7, rfl⟩ := own_shape hown7; have hb7 := (bel_own Hba1.out Hlit1.out (Nat.le_refl _) hg7 (by have := Hba1.out.size; omega) : Below wz.heap.size wz w7); have Hown7 := Lib.hid hown7; have Hb7 := Lib.hid hb7; clear hown7 hg7 hm7 hb7))
                    have hown8 : w7.ownsRow wz.heap.size 34 2 (.slice a7 (p + 1) c7) (p + 1) T1 := by simpa using Hown7.out
                    obtain ⟨N8, hN8⟩ : ∃ x, x = p + 1 := ⟨_, rfl⟩
                    rw [← hN8] at hown8
                    rw [← hN8]
                    have hN8' : N8 ≤ 2000 := by omega
                    clear Hown7
                    have hz7 := Hb7.out.size
                    have f2 := cell_later (Hb9.out.trans (Hb7.out.mono Hb9.out.size)) Hf0.out
                    have f3 := cell_later (Hb9.out.trans (Hb7.out.mono Hb9.out.size)) Hf1.out
                    have Hown8 := Lib.hid hown8; have HN8 := Lib.hid hN8; clear hown8 hN8
                    go_upto_region 20 with (at_builtin; (refine wpList_append_lit elem_spn rfl (.tmp 59) (.tmp 64) rfl wz.heap.size (.slice a7 N8 c7) N8 T1 rfl Hown8.out 1 #[.string x1, .string x2] rfl rfl (by simp [Value.oneCell']) (by omega) (by unfold maxLen; omega) (by omega) ?_; intro v9 w9 hown9 hg9 hm9; obtain ⟨a9, c9, rfl⟩ := own_shape hown9; have hb19 := (bel_own Hb7.out Hown8.out (Nat.le_refl _) hg9 (by have := Hb7.out.size; omega) : Below wz.heap.size wz w9); have Hown9 := Lib.hid hown9; have Hb19 := Lib.hid hb19; clear hown9 hg9 hm9 hb19))
                    by_cases hcc : p + 1 < cw
                    · have hcd : decide ((p : Int) + 1 < (cw : Int)) = true := decide_eq_true (by omega)
                      have hcd2 : (p : Int) + 1 ≤ (k : Int) := by omega
                      go_upto_region 21 with (at_builtin; (refine wpList_append_from elem_spn rfl (.tmp 66) (.tmp 69) rfl wz.heap.size (.slice a9 (N8 + 1) c9) (N8 + 1) (T1 ++ [.string x1, .string x2]) rfl Hown9.out (some ⟨gw, (p + 1) * 2, none⟩) (k - (p + 1)) (cw - (p + 1)) T2 rfl Hl2.out (Hc2.out _ Hb19.out) Hone2.out (by omega) (by unfold maxLen; omega) (by have := Hb19.out.size; omega) ?_; intro v11 w11 hown11 hg11 hm11; obtain ⟨a11, c11, rfl⟩ := own_shape_pos hown11 (by omega); have hb11 := (bel_own Hb19.out Hown9.out (Nat.le_refl _) hg11 (by have := Hb19.out.size; omega) : Below wz.heap.size wz w11); have Hown11 := Lib.hid hown11; have Hb11 := Lib.hid hb11; clear hown11 hg11 hm11 hb11))
                      go_wp2_with fail
                      go_roundw
                      case rel => exact ⟨k + 1, by omega, by go_num, insI_step hkl Hx.out HP.out HR.out Hx1.out Hx2.out HT1.out HT2.out Hbr.out Hb9.out Hb11.out Hown11.out (by have := HN8.out; omega)⟩
                      case measure => (simp [RowKit.intOf]) <;> omega
                    · have hcd : decide ((p : Int) + 1 < (cw : Int)) = false := decide_eq_false (by omega)
                      have hcd2 : (p : Int) + 1 ≤ (k : Int) := by omega
                      have hkc := own_cap2 Hrow.out
                      have hT0 : T2 = [] := List.eq_nil_of_length_eq_zero (by have := Hl2.out; omega)
                      have hc3 : ∀ V : World, ∀ j u, T2[j]? = some u → ∃ b off, some (⟨gw, 0, none⟩ : Addr) = some ⟨b, off, none⟩ ∧ V.cell? ⟨b, off + j, none⟩ = some u := fun V j u hu => by rw [hT0] at hu; simp at hu
                      have HT0 := Lib.hid hT0; have Hc3 := Lib.hid hc3; clear hT0 hc3
                      go_upto_region 21 with (at_builtin; (refine wpList_append_from elem_spn rfl (.tmp 66) (.tmp 69) rfl wz.heap.size (.slice a9 (N8 + 1) c9) (N8 + 1) (T1 ++ [.string x1, .string x2]) rfl Hown9.out (some ⟨gw, 0, none⟩) (k - (p + 1)) (cw - (p + 1)) T2 rfl Hl2.out (Hc3.out w9) Hone2.out (by omega) (by unfold maxLen; omega) (by have := Hb19.out.size; omega) ?_; intro v11 w11 hown11 hg11 hm11; obtain ⟨a11, c11, rfl⟩ := own_shape_pos hown11 (by omega); have hb11 := (bel_own Hb19.out Hown9.out (Nat.le_refl _) hg11 (by have := Hb19.out.size; omega) : Below wz.heap.size wz w11); have Hown11 := Lib.hid hown11; have Hb11 := Lib.hid hb11; clear hown11 hg11 hm11 hb11))
                      go_wp2_with fail
                      go_roundw
                      case rel => exact ⟨k + 1, by omega, by go_num, insI_step hkl Hx.out HP.out HR.out Hx1.out Hx2.out HT1.out HT2.out Hbr.out Hb9.out Hb11.out Hown11.out (by have := HN8.out; omega)⟩
                      case measure => (simp [RowKit.intOf]) <;> omega
                · obtain rfl : q = 0 := by omega
                  have hR := ins_round swoSp (x := x) HPs.out (at_ := 0) (Nat.zero_le _) hall (fun h => absurd h (Nat.lt_irrefl 0))
                  have v1 : decide ((0 : Int) < ((0 : Nat) : Int)) = false := by simp
                  have Hall := Lib.hid hall; have Hbq := Lib.hid hbq; have HR := Lib.hid hR; clear hall hbq hR
                  go_upto_region 15 with (fail)
                  go_quiet (fail)
                  obtain ⟨wz, hwz⟩ : ∃ W, W = wr.drewN nq := ⟨_, rfl⟩
                  have hb9 : Below wo.heap.size wo wz := by rw [hwz]; exact bel_drewN Hbq.out nq
                  rw [← hwz]
                  have Hb9 := Lib.hid hb9; clear hb9
                  clear hwz
                  go_upto_region 18 with (fail)
                  obtain ⟨T1, hT1⟩ : ∃ T, T = (tB (P.take (0))).flatMap spCells := ⟨_, rfl⟩
                  obtain ⟨T2, hT2⟩ : ∃ T, T = (tB (P.drop (0))).flatMap spCells := ⟨_, rfl⟩
                  have hM : 0 ≤ P.length := by have := HPl.out; omega
                  have hl1 : T1.length = (0) * 2 := by have := HPl.out; rw [hT1, spsFlat_len, List.length_map, List.length_take]; omega
                  have hl2 : T2.length = (k - (0)) * 2 := by have := HPl.out; rw [hT2, spsFlat_len, List.length_map, List.length_drop]; omega
                  have hN12 : (tB P).flatMap spCells = T1 ++ T2 := by rw [hT1, hT2, ← List.flatMap_append, tB, tB, ← List.map_append, List.take_append_drop]
                  have hone1 : ∀ u ∈ T1, u.oneCell' = true := by rw [hT1]; exact sps_one _
                  have hone2 : ∀ u ∈ T2, u.oneCell' = true := by rw [hT2]; exact sps_one _
                  have hc1 : ∀ V, Below wz.heap.size wz V → ∀ j u, T1[j]? = some u → ∃ b off, some (⟨gw, 0, none⟩ : Addr) = some ⟨b, off, none⟩ ∧ V.cell? ⟨b, off + j, none⟩ = some u := fun V hV j u hu => by
                    have hj := (List.getElem?_eq_some_iff.1 hu).1
                    exact ⟨gw, 0, rfl, by rw [Nat.zero_add]; exact cell_later hV (cell_later Hb9.out (Hcell.out j u (by rw [hN12, List.getElem?_append_left hj]; exact hu)))⟩
                  have hc2 : ∀ V, Below wz.heap.size wz V → ∀ j u, T2[j]? = some u → ∃ b off, some (⟨gw, (0) * 2, none⟩ : Addr) = some ⟨b, off, none⟩ ∧ V.cell? ⟨b, off + j, none⟩ = some u := fun V hV j u hu =>
                    ⟨gw, (0) * 2, rfl, cell_later hV (cell_later Hb9.out (Hcell.out _ u (by rw [hN12, List.getElem?_append_right (by omega), show (0) * 2 + j - T1.length = j by omega]; exact hu)))⟩
                  have hlit1 := lit_sps (w := wz) (B := wz.heap.size) (Nat.le_refl _)
                  have hba1 : Below wz.heap.size wz (wz.alloc (.cells #[] 34)) := below_alloc1 _ _
                  have hc10 := hc1 _ hba1
                  have hMk : 0 ≤ k := by have := HPl.out; omega
                  have hMi : (0 : Int) ≤ (cw : Int) := by have := own_cap2 Hrow.out; omega
                  have HT1 := Lib.hid hT1; have HT2 := Lib.hid hT2; have HM := Lib.hid hM; have Hl1 := Lib.hid hl1; have Hl2 := Lib.hid hl2; have HN12 := Lib.hid hN12; have Hone1 := Lib.hid hone1; have Hone2 := Lib.hid hone2; have Hc1 := Lib.hid hc1; have Hc2 := Lib.hid hc2; have Hlit1 := Lib.hid hlit1; have Hba1 := Lib.hid hba1; have Hc10 := Lib.hid hc10; clear hT1 hT2 hM hl1 hl2 hN12 hone1 hone2 hc1 hc2 hlit1 hba1 hc10
                  go_upto_region 19 with (at_builtin; (refine wpList_append_from elem_spn rfl (.tmp 54) (.tmp 57) rfl wz.heap.size (.slice (some ⟨wz.heap.size, 0, none⟩) 0 0) 0 [] rfl Hlit1.out (some ⟨gw, 0, none⟩) (0) cw T1 rfl Hl1.out Hc10.out Hone1.out (by omega) (by unfold maxLen; omega) (by simp) ?_; intro v7 w7 hown7 hg7 hm7; obtain ⟨a7, c7, rfl⟩ := own_shape hown7; have hb7 := (bel_own Hba1.out Hlit1.out (Nat.le_refl _) hg7 (by have := Hba1.out.size; omega) : Below wz.heap.size wz w7); have Hown7 := Lib.hid hown7; have Hb7 := Lib.hid hb7; clear hown7 hg7 hm7 hb7))
                  have hown8 : w7.ownsRow wz.heap.size 34 2 (.slice a7 (0) c7) (0) T1 := by simpa using Hown7.out
                  obtain ⟨N8, hN8⟩ : ∃ x, x = 0 := ⟨_, rfl⟩
                  rw [← hN8] at hown8
                  obtain rfl := hN8
                  have hN8 : (0 : Nat) = 0 := rfl
                  have hN8' : 0 ≤ 2000 := by omega
                  clear Hown7
                  have hz7 := Hb7.out.size
                  have f2 := cell_later (Hb9.out.trans (Hb7.out.mono Hb9.out.size)) Hf0.out
                  have f3 := cell_later (Hb9.out.trans (Hb7.out.mono Hb9.out.size)) Hf1.out
                  have Hown8 := Lib.hid hown8; have HN8 := Lib.hid hN8; clear hown8 hN8
                  go_upto_region 20 with (at_builtin; (refine wpList_append_lit elem_spn rfl (.tmp 59) (.tmp 64) rfl wz.heap.size (.slice a7 0 c7) 0 T1 rfl Hown8.out 1 #[.string x1, .string x2] rfl rfl (by simp [Value.oneCell']) (by omega) (by unfold maxLen; omega) (by omega) ?_; intro v9 w9 hown9 hg9 hm9; obtain ⟨a9, c9, rfl⟩ := own_shape hown9; have hb19 := (bel_own Hb7.out Hown8.out (Nat.le_refl _) hg9 (by have := Hb7.out.size; omega) : Below wz.heap.size wz w9); have Hown9 := Lib.hid hown9; have Hb19 := Lib.hid hb19; clear hown9 hg9 hm9 hb19))
                  by_cases hcc : 0 < cw
                  · have hcd : decide ((0 : Int) < (cw : Int)) = true := decide_eq_true (by omega)
                    have hcd2 : (0 : Int) ≤ (k : Int) := by omega
                    go_upto_region 21 with (at_builtin; (refine wpList_append_from elem_spn rfl (.tmp 66) (.tmp 69) rfl wz.heap.size (.slice a9 (0 + 1) c9) (0 + 1) (T1 ++ [.string x1, .string x2]) rfl Hown9.out (some ⟨gw, (0) * 2, none⟩) (k) (cw) T2 rfl Hl2.out (Hc2.out _ Hb19.out) Hone2.out (by omega) (by unfold maxLen; omega) (by have := Hb19.out.size; omega) ?_; intro v11 w11 hown11 hg11 hm11; obtain ⟨a11, c11, rfl⟩ := own_shape_pos hown11 (by omega); have hb11 := (bel_own Hb19.out Hown9.out (Nat.le_refl _) hg11 (by have := Hb19.out.size; omega) : Below wz.heap.size wz w11); have Hown11 := Lib.hid hown11; have Hb11 := Lib.hid hb11; clear hown11 hg11 hm11 hb11))
                    go_wp2_with fail
                    go_roundw
                    case rel => exact ⟨k + 1, by omega, by go_num, insI_step hkl Hx.out HP.out HR.out Hx1.out Hx2.out HT1.out HT2.out Hbr.out Hb9.out Hb11.out Hown11.out (by have := HN8.out; omega)⟩
                    case measure => (simp [RowKit.intOf]) <;> omega
                  · have hcd : decide ((0 : Int) < (cw : Int)) = false := decide_eq_false (by omega)
                    have hcd2 : (0 : Int) ≤ (k : Int) := by omega
                    have hkc := own_cap2 Hrow.out
                    have hT0 : T2 = [] := List.eq_nil_of_length_eq_zero (by have := Hl2.out; omega)
                    have hc3 : ∀ V : World, ∀ j u, T2[j]? = some u → ∃ b off, some (⟨gw, 0, none⟩ : Addr) = some ⟨b, off, none⟩ ∧ V.cell? ⟨b, off + j, none⟩ = some u := fun V j u hu => by rw [hT0] at hu; simp at hu
                    have HT0 := Lib.hid hT0; have Hc3 := Lib.hid hc3; clear hT0 hc3
                    go_upto_region 21 with (at_builtin; (refine wpList_append_from elem_spn rfl (.tmp 66) (.tmp 69) rfl wz.heap.size (.slice a9 (0 + 1) c9) (0 + 1) (T1 ++ [.string x1, .string x2]) rfl Hown9.out (some ⟨gw, 0, none⟩) (k) (cw) T2 rfl Hl2.out (Hc3.out w9) Hone2.out (by omega) (by unfold maxLen; omega) (by have := Hb19.out.size; omega) ?_; intro v11 w11 hown11 hg11 hm11; obtain ⟨a11, c11, rfl⟩ := own_shape_pos hown11 (by omega); have hb11 := (bel_own Hb19.out Hown9.out (Nat.le_refl _) hg11 (by have := Hb19.out.size; omega) : Below wz.heap.size wz w11); have Hown11 := Lib.hid hown11; have Hb11 := Lib.hid hb11; clear hown11 hg11 hm11 hb11))
                    go_wp2_with fail
                    go_roundw
                    case rel => exact ⟨k + 1, by omega, by go_num, insI_step hkl Hx.out HP.out HR.out Hx1.out Hx2.out HT1.out HT2.out Hbr.out Hb9.out Hb11.out Hown11.out (by have := HN8.out; omega)⟩
                    case measure => (simp [RowKit.intOf]) <;> omega
            · obtain rfl : k = m := by omega
              have htk : L.take k = L := List.take_of_length_le (Nat.le_of_eq Hml.out.symm)
              rw [htk] at hrow
              have hw2 := Hbq.out.trans (hbr.mono Hbq.out.size)
              have hb2 := hw2.alloc hw2.size (.cells #[] 34)
              have hown := ownsRow_mono hrow Hbq.out.size
              rw [show tB (sortSp L) = formB l from Hf.out.symm] at hown
              have hml2 : (formB l).length = k := by rw [Hf.out, List.length_map, (sortSp_perm L).length_eq]; exact Hml.out.symm
              by_cases h16 : 16 < k
              · have kk : decide ((16 : Int) < (k : Int)) = true := decide_eq_true (by omega)
                have hno : formOk l = false := by rw [Hfo.out, decide_eq_false]; have := Hml.out; omega
                have Hrow := Lib.hid hrow; have Hbr := Lib.hid hbr; have Hw2 := Lib.hid hw2; have Hb2 := Lib.hid hb2; have Hown := Lib.hid hown; have Hml2 := Lib.hid hml2; have Hno := Lib.hid hno; clear hrow hbr hw2 hb2 hown hml2 hno
                go_wp2_with fail
                go_ret2
                exact refForm_no Hno.out Hb2.out
              · have kk : decide ((16 : Int) < (k : Int)) = false := decide_eq_false (by omega)
                have hyes : formOk l = true := by rw [Hfo.out, decide_eq_true]; have := Hml.out; omega
                have Hrow := Lib.hid hrow; have Hbr := Lib.hid hbr; have Hw2 := Lib.hid hw2; have Hb2 := Lib.hid hb2; have Hown := Lib.hid hown; have Hml2 := Lib.hid hml2; have Hyes := Lib.hid hyes; clear hrow hbr hw2 hb2 hown hml2 hyes
                go_wp2_with fail
                go_ret2
                exact ⟨.slice (some ⟨gw, 0, none⟩) k cw, (by rw [Hyes.out]; rfl), (fun _ => by have h9 := Hown.out; rw [Hml2.out]; exact h9), Hw2.out⟩
end Go.Proofs.YteailgjiifdgcaaGreatDoor

/- The walk of spans.Read: the set of a text. Condition: the library's variables as they were laid, and a text of at most 1000 bytes. -/
namespace Go.Proofs.YteailgjiifdgcaaGreatDoor
open Go.RowKit Go.Shelf Go.Lib VerN

attribute [local go_sem] Oper.semAt_some

def rowsB (pre : List ByteArray) : List Value := pre.flatMap fun p => spCells (spV p)
theorem rowsB_snoc (pre : List ByteArray) (x : ByteArray) : rowsB (pre ++ [x]) = rowsB pre ++ spCells (spV x) := by simp [rowsB]
theorem rowsB_len (pre : List ByteArray) : (rowsB pre).length = pre.length * 2 := by
  induction pre with
  | nil => rfl
  | cons x r ih => simp only [rowsB, List.flatMap_cons, List.length_append, List.length_cons] at ih ⊢; rw [ih]; simp [spCells]; omega
theorem rowsB_map (pre : List ByteArray) : rowsB pre = (pre.map spV).flatMap spCells := by rw [List.flatMap_map]; rfl
/-- between two rounds -/
structure SI (w W : World) (pre : List ByteArray) : Prop where
  bel : Below w.heap.size w W
  r2 : W.heap[w.heap.size]? = some (.cells #[.slice none 0 0] 23 (0, 0))
  r3 : W.heap[w.heap.size + 1]? = some (.cells #[.bool false] 4 (0, 0))
  out : ∃ v, W.heap[w.heap.size + 1 + 1]? = some (.cells #[v] 23 (0, 0)) ∧ W.ownsRow (w.heap.size + 6) 34 2 v pre.length (rowsB pre)
  ok : ∀ p ∈ pre, spOk p.data.toList = true
/-- behind a round that told that it is no version -/
structure SX (w W : World) (pre : List ByteArray) : Prop where
  bel : Below w.heap.size w W
  r2 : W.heap[w.heap.size]? = some (.cells #[.slice none 0 0] 23 (0, 0))
  r3 : W.heap[w.heap.size + 1]? = some (.cells #[.bool false] 4 (0, 0))
  bad : ∃ p ∈ pre, spOk p.data.toList = false
theorem SI.own {w : World} {B : Nat} (hB : w.heap.size + 6 ≤ B) : OwnFrom B (fun (pre : List ByteArray) W => SI w W pre) := by
  rintro pre W W' row h hg hr
  have hr' : ∀ r, row = some r → B ≤ r := fun r e => (hr r e).1
  obtain ⟨v, hv, hrow⟩ := h.out
  refine ⟨h.bel.grown hg h.bel.size (fun k e => by have := hr' k e; omega), heap_kept hg hr' (by omega) h.r2, heap_kept hg hr' (by omega) h.r3, ⟨v, heap_kept hg hr' (by omega) hv, hrow.kept hg ?_⟩, h.ok⟩
  rcases hrow.2 with ⟨rfl, _⟩ | ⟨g, cap, cur, rfl, _, hgb, _⟩
  · exact .inl rfl
  · refine .inr fun e' => ?_
    obtain ⟨_, o, ho, hc⟩ := hr g (by simpa [Value.ownBlock] using e'.symm)
    rw [hgb] at ho
    cases ho
    cases hc
theorem SX.own {w : World} {B : Nat} (hB : w.heap.size + 6 ≤ B) : OwnFrom B (fun (pre : List ByteArray) W => SX w W pre) := by
  rintro pre W W' row h hg hr
  have hr' : ∀ r, row = some r → B ≤ r := fun r e => (hr r e).1
  exact ⟨h.bel.grown hg h.bel.size (fun k e => by have := hr' k e; omega), heap_kept hg hr' (by omega) h.r2, heap_kept hg hr' (by omega) h.r3, h.bad⟩
theorem SI.lets (w : World) : Lets (w.heap.size + 1 + 1 + 1) (fun (pre : List ByteArray) W => SI w W pre) := by
  rintro pre W i u h
  obtain ⟨v, hv, hrow⟩ := h.out
  exact ⟨h.bel.setCell (p := ⟨w.heap.size + 1 + 1 + 1, i, none⟩) (by show w.heap.size ≤ w.heap.size + 1 + 1 + 1; omega) _, heap_other h.r2 (by omega), heap_other h.r3 (by omega), ⟨v, heap_other hv (by omega), own_set hrow (by omega) i u⟩, h.ok⟩
theorem SX.lets (w : World) : Lets (w.heap.size + 1 + 1 + 1) (fun (pre : List ByteArray) W => SX w W pre) := by
  rintro pre W i u h
  exact ⟨h.bel.setCell (p := ⟨w.heap.size + 1 + 1 + 1, i, none⟩) (by show w.heap.size ≤ w.heap.size + 1 + 1 + 1; omega) _, heap_other h.r2 (by omega), heap_other h.r3 (by omega), h.bad⟩
theorem SI.size {w W : World} {pre : List ByteArray} (h : SI w W pre) (hs : w.heap.size + 6 ≤ W.heap.size) : ∀ k, sb w k → k < W.heap.size := by
  rintro k (rfl | rfl | rfl) <;> omega
/-- a part that is added -/
theorem SI.add {w W W3 w1 : World} {pre : List ByteArray} {x : ByteArray} {tmp : Obj} {B : Nat} (h : SI w W pre) (hs : w.heap.size + 6 ≤ W.heap.size) (hb : Below W.heap.size W W3) {v v' : Value}
    (hv : W.heap[w.heap.size + 1 + 1]? = some (.cells #[v] 23 (0, 0))) (hrow : W.ownsRow (w.heap.size + 6) 34 2 v pre.length (rowsB pre))
    (hown : w1.ownsRow (w.heap.size + 6) 34 2 v' (pre.length + 1) (rowsB pre ++ spCells (spV x))) (hg : (W3.alloc tmp).grownBy w1 v.ownBlock) (hx : spOk x.data.toList = true) :
    KeepsFrom B W (w1.setCell ⟨w.heap.size + 1 + 1, 0, none⟩ v') ∧ KeepS (sb w) W (w1.setCell ⟨w.heap.size + 1 + 1, 0, none⟩ v') ∧ SI w (w1.setCell ⟨w.heap.size + 1 + 1, 0, none⟩ v') (pre ++ [x]) ∧ w1.heap[w.heap.size + 1 + 1]? = some (.cells #[v] 23 (0, 0)) ∧ w.heap.size + 6 ≤ (w1.setCell ⟨w.heap.size + 1 + 1, 0, none⟩ v').heap.size := by
  have hb3 : Below W.heap.size W (W3.alloc tmp) := hb.alloc hb.size _
  have hrow3 : (W3.alloc tmp).ownsRow (w.heap.size + 6) 34 2 v pre.length (rowsB pre) := ownsRow_below hrow hb3
  have old : ∀ {k : Nat} {o : Obj}, k < w.heap.size + 6 → W.heap[k]? = some o → w1.heap[k]? = some o := fun {k o} hk ho =>
    (hg.block k (by have := hb3.size; have := (Array.getElem?_eq_some_iff.1 ho).1; omega) (fun e => by have := (hrow3.lt k e.symm).1; omega)).trans (heap_below hb3 ho)
  refine ⟨?_, ?_, ⟨?_, heap_other (old (by omega) h.r2) (by omega), heap_other (old (by omega) h.r3) (by omega), ⟨v', heap_setCell_same _ _ 0 _ _ _ (old (by omega) hv), ?_⟩, ?_⟩, old (by omega) hv, by have := hg.size; have := hb3.size; simp [World.setCell]; omega⟩
  · have k1 : KeepsFrom B W (W3.alloc tmp) := keepsFrom_below hb3
    have k2 : KeepsFrom B (W3.alloc tmp) w1 := ⟨hg.size, fun k o _ hk hc => (hg.block k (Array.getElem?_eq_some_iff.1 hk).1 (fun e => by
      obtain ⟨cs, hcs⟩ := own_type hrow3 k e.symm
      rw [hcs] at hk
      cases hk
      cases hc)).trans hk⟩
    exact (k1.trans k2).trans ((KeepsOthers.setCell _ _ _).from B)
  · intro k hk
    have hlt := h.size hs k hk
    have hlt6 : k < w.heap.size + 6 := by rcases hk with rfl | rfl | rfl <;> omega
    have hne : k ≠ w.heap.size + 1 + 1 := by rcases hk with h | h | h <;> omega
    rw [Below.heap_setCell _ _ _ _ hne]
    cases ho : W.heap[k]? with
    | none => exact absurd ho (by rw [Array.getElem?_eq_getElem hlt]; simp)
    | some o => exact old hlt6 ho
  · exact ((h.bel.trans (hb3.mono h.bel.size)).grown hg (by have := hb3.size; have := h.bel.size; omega) (fun k e => by have := (hrow3.lt k e).1; omega)).setCell (p := ⟨w.heap.size + 1 + 1, 0, none⟩) (by show w.heap.size ≤ w.heap.size + 1 + 1; omega) _
  · rw [rowsB_snoc, List.length_append]
    exact own_set hown (by omega) 0 v'
  · intro p hp
    rcases List.mem_append.1 hp with hp | hp
    · exact h.ok p hp
    · rw [List.mem_singleton] at hp; subst hp; exact hx
/-- a round that tells that it is no version -/
theorem SI.no {w W W3 : World} {pre : List ByteArray} {x : ByteArray} {B : Nat} (h : SI w W pre) (hs : w.heap.size + 6 ≤ W.heap.size) (hb : Below W.heap.size W W3) (hx : spOk x.data.toList = false) :
    KeepsFrom B W ((W3.setCell ⟨w.heap.size, 0, none⟩ (.slice none 0 0)).setCell ⟨w.heap.size + 1, 0, none⟩ (.bool false)) ∧ SX w ((W3.setCell ⟨w.heap.size, 0, none⟩ (.slice none 0 0)).setCell ⟨w.heap.size + 1, 0, none⟩ (.bool false)) (pre ++ [x]) := by
  refine ⟨((keepsFrom_below hb).trans ((KeepsOthers.setCell _ _ _).from B)).trans ((KeepsOthers.setCell _ _ _).from B), ?_, ?_, ?_, ?_⟩
  · exact (((h.bel.trans (hb.mono h.bel.size)).setCell (p := ⟨w.heap.size, 0, none⟩) (Nat.le_refl _) _).setCell (p := ⟨w.heap.size + 1, 0, none⟩) (by show w.heap.size ≤ w.heap.size + 1; omega) _)
  · exact heap_other (heap_setCell_same _ _ 0 _ _ _ (heap_below hb h.r2)) (by omega)
  · exact heap_setCell_same _ _ 0 _ _ _ (heap_other (heap_below hb h.r3) (by omega))
  · exact ⟨x, by simp, hx⟩
def rdSp (t : ByteArray) : List BSp := (cutS 44 t).map spV
theorem spV_size (s : ByteArray) : (spV s).1.size ≤ s.size ∧ (spV s).2.size ≤ s.size := by
  have h := cut_small s
  have e : ∀ l : List UInt8, (⟨l.toArray⟩ : ByteArray).size = l.length := fun l => rfl
  unfold spV spB
  split
  · split
    · exact ⟨by rw [e]; exact h.1, by rw [e]; exact h.2⟩
    · exact ⟨by rw [e]; exact h.1, by rw [e]; exact h.1⟩
  · exact ⟨Nat.zero_le _, Nat.zero_le _⟩
theorem rd_list (t : ByteArray) (ht : t.size ≤ 9000) : ∃ l : List Tp, tB l = rdSp t := by
  have hs : ∀ s ∈ cutS 44 t, (spV s).1.size ≤ 9000 ∧ (spV s).2.size ≤ 9000 := fun s h => by
    have h1 := cutS_piece h
    have h2 := spV_size s
    omega
  refine ⟨(cutS 44 t).pmap (fun s h => (⟨spV s, h⟩ : Tp)) hs, ?_⟩
  unfold rdSp tB
  rw [List.map_pmap]
  simp
theorem lit2 (w : World) (x y : Value) (t : TypeId) {n : Nat} (hn : w.heap.size = n) : ∀ j u, [x, y][j]? = some u → (w.alloc (.cells #[x, y] t)).cell? ((⟨n, 0, none⟩ : Addr).add j) = some u := by
  intro j u hu
  subst hn
  rw [Addr.add_lit, Nat.zero_add, World.cell?_alloc_new]
  simpa using hu
def RdPost (t : ByteArray) (w : World) (e : Ending) (w' : World) : Prop :=
  ((∃ v, e = .returned (.tuple #[v, .bool true]) ∧ ((t = ⟨#[33]⟩ ∧ v = .slice none 0 0) ∨ (t ≠ ⟨#[33]⟩ ∧ (∀ p ∈ cutS 44 t, spOk p.data.toList = true) ∧ (∀ l, tB l = rdSp t → spsText l = t) ∧ w'.ownsRow w.heap.size 34 2 v (rdSp t).length ((rdSp t).flatMap spCells)))) ∨
    (e = .returned (.tuple #[.slice none 0 0, .bool false]) ∧ t ≠ ⟨#[33]⟩ ∧ ((∃ p ∈ cutS 44 t, spOk p.data.toList = false) ∨ ∀ l, tB l = rdSp t → spsText l ≠ t))) ∧ Below w.heap.size w w'
theorem info_span : (Tryz.prog.info? 34).map (fun i => (i.zero, i.size, i.bytes)) = some (some (.agg #[.string ⟨#[]⟩, .string ⟨#[]⟩]), 2, 32) := by kernel_rfl
set_option maxRecDepth 100000 in
set_option maxHeartbeats 4000000 in
theorem spsRead_any (s : ByteArray) (hs : s.size ≤ 1000) {w : World} (hD : Doors w) : Calls Tryz.prog 16 #[.string s] w (RdPost s w) := by
  refine (callsIn_wide (n := 8)).1 ?_
  refine callsIn_of_wp_marks Tryz.func16 rfl trivial ?_ rfl
  simp only [Tryz.ntmps16, List.size_toArray, List.length_cons, List.length_nil, Nat.reduceAdd, Nat.reduceSub, Array.replicate_succ, Array.replicate_zero, List.push_toArray, List.append_toArray, List.nil_append, List.cons_append]
  have e33 : (⟨#[33]⟩ : ByteArray).toList = [33] := by rw [Lib.toList_data]
  by_cases h0 : s = ⟨#[33]⟩
  · have k1 : (s.toList == [33]) = true := by rw [← e33, Txt.eq_dec, decide_eq_true h0]
    clear e33
    have HD := Lib.hid hD; have H0 := Lib.hid h0; clear hD h0
    gi_wp2
    refine ⟨_, results_cells rfl rfl rfl (heap_below (below_alloc1 _ _) (heap_below (below_alloc1 _ _) (heap_new_at rfl))) (heap_below (below_alloc1 _ _) (heap_new_at (by simp))) (Tryz.isAgg23 _) (Tryz.isAgg4 _), ?_⟩
    exact ⟨.inl ⟨_, rfl, .inl ⟨H0.out, rfl⟩⟩, (((Below.refl _ w).alloc (Nat.le_refl _) _).alloc (by simp) _).alloc (by simp; omega) _⟩
  · have k1 : (s.toList == [33]) = false := by rw [← e33, Txt.eq_dec, decide_eq_false h0]
    clear e33
    have hq := splitSeq_any s 44 (((w.alloc (.cells #[.slice none 0 0] 23)).alloc (.cells #[.bool false] 4)).alloc (.cells #[.slice none 0 0] 23))
    have Hq := Lib.hid hq; have HD := Lib.hid hD; have H0 := Lib.hid h0; clear hq hD h0
    gi_wp2
    refine ⟨trivial, (callsIn_wide.2 Hq.out).mono ?_⟩
    rintro e w2 ⟨rfl, rfl⟩
    gi_wp2
    have hsb : SBox (w.heap.size + 1 + 1 + 1) (w.heap.size + 1 + 1 + 1 + 1) (w.heap.size + 1 + 1 + 1 + 1 + 1) 44 s ((((((w.alloc (.cells #[.slice none 0 0] 23)).alloc (.cells #[.bool false] 4)).alloc (.cells #[.slice none 0 0] 23)).alloc (.cells #[.string s] 9)).alloc (.cells #[.string ⟨#[44]⟩] 9)).alloc (.cells #[.int .i64 0] 3)) := by
      have a1 := heap_new_at (w := (((w.alloc (.cells #[.slice none 0 0] 23)).alloc (.cells #[.bool false] 4)).alloc (.cells #[.slice none 0 0] 23))) (o := .cells #[.string s] 9) (n := w.heap.size + 1 + 1 + 1) (by simp)
      have a2 := heap_new_at (w := ((((w.alloc (.cells #[.slice none 0 0] 23)).alloc (.cells #[.bool false] 4)).alloc (.cells #[.slice none 0 0] 23)).alloc (.cells #[.string s] 9))) (o := .cells #[.string ⟨#[44]⟩] 9) (n := w.heap.size + 1 + 1 + 1 + 1) (by simp)
      have a3 := heap_new_at (w := (((((w.alloc (.cells #[.slice none 0 0] 23)).alloc (.cells #[.bool false] 4)).alloc (.cells #[.slice none 0 0] 23)).alloc (.cells #[.string s] 9)).alloc (.cells #[.string ⟨#[44]⟩] 9))) (o := .cells #[.int .i64 0] 3) (n := w.heap.size + 1 + 1 + 1 + 1 + 1) (by simp)
      exact ⟨heap_below (below_alloc1 _ _) (heap_below (below_alloc1 _ _) a1), heap_below (below_alloc1 _ _) a2, a3⟩
    obtain ⟨W0, hW0⟩ : ∃ W0, W0 = ((((((w.alloc (.cells #[.slice none 0 0] 23)).alloc (.cells #[.bool false] 4)).alloc (.cells #[.slice none 0 0] 23)).alloc (.cells #[.string s] 9)).alloc (.cells #[.string ⟨#[44]⟩] 9)).alloc (.cells #[.int .i64 0] 3)) := ⟨_, rfl⟩
    have hs0 : W0.heap.size = w.heap.size + 6 := by rw [hW0]; simp
    rw [← hW0] at hsb ⊢
    have hSI : SI w W0 [] := by
      rw [hW0]
      have k1 : ∀ {w' : World} {o : Obj} {k : Nat} {o' : Obj}, w'.heap[k]? = some o → (w'.alloc o').heap[k]? = some o := fun h => heap_below (below_alloc1 _ _) h
      refine ⟨(((((((Below.refl _ w).alloc (Nat.le_refl _) _).alloc (by simp) _).alloc (by simp; omega) _).alloc (by simp; omega) _).alloc (by simp; omega) _).alloc (by simp; omega) _), k1 (k1 (k1 (k1 (k1 (heap_new_at rfl))))), k1 (k1 (k1 (k1 (heap_new_at (by simp))))), ⟨_, k1 (k1 (k1 (heap_new_at (by simp)))), World.ownsRow_nil _ _ _ _⟩, (fun p hp => by cases hp)⟩
    have HW0 := Lib.hid hW0; clear hW0
    refine wpIn_range_own rfl (by omega) (gf := fSplit) rfl trivial (enters_of Tryz.func167 (by kernel_rfl) rfl) (split_stops 7 (by omega) _ _ _ 44 s (by omega) W0 (by omega) (by omega) (by omega) (by omega) (by omega) hsb)
      (fun k hk => by rcases hk with h | h | h <;> omega) (by omega) (Below.refl _ _) rfl
      (fun pre W => w.heap.size + 6 ≤ W.heap.size ∧ SI w W pre) (fun pre W => w.heap.size + 6 ≤ W.heap.size ∧ SX w W pre) (OwnFrom.and (ownFrom_size _) (SI.own (by omega))) (OwnFrom.and (ownFrom_size _) (SX.own (by omega))) (fun pre W i u h => ⟨by simp [World.setCell]; exact h.1, SI.lets w pre W i u h.2⟩) (fun pre W i u h => ⟨by simp [World.setCell]; exact h.1, SX.lets w pre W i u h.2⟩) ⟨by omega, hSI⟩
      (fun x => { tmps := #[.string s, undef, .pointer (some ⟨w.heap.size, 0, none⟩), .pointer (some ⟨w.heap.size + 1, 0, none⟩), .pointer (some ⟨w.heap.size + 1 + 1, 0, none⟩), .string x, undef, undef, .string s, .bool false, .string s,
        .func (.func fSplit) #[] #[.pointer (some ⟨w.heap.size + 1 + 1 + 1 + 1, 0, none⟩), .pointer (some ⟨w.heap.size + 1 + 1 + 1, 0, none⟩), .pointer (some ⟨w.heap.size + 1 + 1 + 1 + 1 + 1, 0, none⟩)], .string x, undef, undef, undef, undef, undef, undef, undef, undef, undef, undef, undef, undef, undef, undef, undef, undef], defers := [] }) ?assign ?body ?done ?stop
    case assign =>
      intro l x W K hK
      gi_wp2
      exact hK
    case body =>
      rintro l pre x W ⟨hsz, h⟩ ⟨hx, hpx⟩
      obtain ⟨v, hv, hrow⟩ := h.out
      obtain ⟨a, cap, rfl⟩ := own_shape hrow
      have hR := spanRead_any x (by omega) (HD.out.below h.bel)
      obtain ⟨b, hb⟩ : ∃ b, b = spOk x.data.toList := ⟨_, rfl⟩
      obtain ⟨y1, hy1⟩ : ∃ y, y = (spV x).1 := ⟨_, rfl⟩
      obtain ⟨y2, hy2⟩ : ∃ y, y = (spV x).2 := ⟨_, rfl⟩
      have c0 : W.cell? ⟨w.heap.size + 1 + 1, 0, none⟩ = some (.slice a pre.length cap) := cells_at hv 0
      rw [← hb, ← hy1, ← hy2] at hR
      have hpl : pre.length ≤ 1000 := by
        have h1 := hpx.length_le
        have h2 : (cutS 44 s).length ≤ s.size + 1 := by rw [cutS_len, ← dlen s]; exact (cutL_len 44 _).2
        rw [List.length_append, List.length_singleton] at h1
        omega
      have Hv := Lib.hid hv; have Hrow := Lib.hid hrow; have HR := Lib.hid hR; have Hh := Lib.hid h; have Hc0 := Lib.hid c0; have Hx := Lib.hid hx; have Hpx := Lib.hid hpx; have Hy1 := Lib.hid hy1; have Hy2 := Lib.hid hy2; clear hv hrow hR h c0 hx hpx hy1 hy2
      gi_wp2
      refine ⟨trivial, (CallsIn.inRound l (callsIn_wide.2 HR.out)).mono ?_⟩
      rintro e W2 ⟨rfl, hb2⟩
      have hb3 : Below W.heap.size W (W2.alloc (.cells #[.string y1, .string y2] 34)) := hb2.alloc hb2.size _
      have r2 := heap_below hb3 Hh.out.r2
      have r3 := heap_below hb3 Hh.out.r3
      have d0 : (W2.alloc (.cells #[.string y1, .string y2] 34)).cell? ⟨w.heap.size + 1 + 1, 0, none⟩ = some (.slice a pre.length cap) := cell_later hb3 Hc0.out
      have d1 : (W2.alloc (.cells #[.string y1, .string y2] 34)).cell? ⟨w.heap.size, 0, none⟩ = some (.slice none 0 0) := cells_at r2 0
      have d2 : (W2.alloc (.cells #[.string y1, .string y2] 34)).cell? ⟨w.heap.size + 1, 0, none⟩ = some (.bool false) := cells_at r3 0
      have f1 := frozen_at r2 0
      have f2 := frozen_at r3 0
      have Hb2 := Lib.hid hb2; have Hb3 := Lib.hid hb3; have Hr2 := Lib.hid r2; have Hr3 := Lib.hid r3; have Hb := Lib.hid hb; clear hb2 hb3 r2 r3 hb
      clear Hq
      cases b with
      | false =>
        have hno := Hh.out.no (B := W0.heap.size) hsz Hb3.out Hb.out.symm
        have hs3 : w.heap.size + 6 ≤ (((W2.alloc (.cells #[.string y1, .string y2] 34)).setCell ⟨w.heap.size, 0, none⟩ (.slice none 0 0)).setCell ⟨w.heap.size + 1, 0, none⟩ (.bool false)).heap.size := by have := Hb3.out.size; simp [World.setCell] at this ⊢; omega
        have Hno := Lib.hid hno; clear hno
        gi_wp2
        exact ⟨Hno.out.1, hs3, Hno.out.2⟩
      | true =>
        have hrow3 := ownsRow_below Hrow.out Hb3.out
        obtain ⟨i0, hi, hz0, hz1, hz2⟩ := info_parts info_span
        have hadd := fun (w1 : World) (v' : Value) => Hh.out.add (B := W0.heap.size) hsz Hb3.out Hv.out Hrow.out (w1 := w1) (v' := v') (x := x) (tmp := .cells #[.string y1, .string y2] 34)
        have hsp : spCells (spV x) = [.string y1, .string y2] := by rw [Hy1.out, Hy2.out]; rfl
        rw [hsp] at hadd
        have hz9 : w.heap.size + 6 ≤ (W2.alloc (.cells #[.string y1, .string y2] 34)).heap.size := by have := Hb3.out.size; omega
        have g1 : pre.length + 1 ≤ maxLen := by unfold maxLen; omega
        have g2 : (pre.length + 1) * 32 ≤ 140737488355328 := by omega
        have g3 : w.heap.size + 6 ≤ ((W2.alloc (.cells #[.string y1, .string y2] 34)).alloc (.cells #[.string y1, .string y2] 34)).heap.size := by simp at hz9 ⊢; omega
        have g4 := lit2 (W2.alloc (.cells #[.string y1, .string y2] 34)) (.string y1) (.string y2) 34 (n := W2.heap.size + 1) (by simp)
        have g5 : ∀ u ∈ [Value.string y1, .string y2], u.oneCell' = true := by simp [Value.oneCell']
        have Hrow3 := Lib.hid hrow3; have Hsp := Lib.hid hsp; have Hadd := Lib.hid hadd; have Hz9 := Lib.hid hz9; have Hg1 := Lib.hid g1; have Hg2 := Lib.hid g2; have Hg3 := Lib.hid g3; have Hg4 := Lib.hid g4; have Hg5 := Lib.hid g5; clear hrow3 hsp hadd hz9 g1 g2 g3 g4 g5
        gi_wp2_with (gi_at_builtin; refine wpListIn_append_own _ rfl _ _ 23 rfl (w.heap.size + 6) 34 i0 (.agg #[.string ⟨#[]⟩, .string ⟨#[]⟩]) 2 32 Tryz.underlying23 hi hz0 hz1 hz2 rfl (by decide) _ _ _ rfl (Hrow3.out.alloc _) ⟨W2.heap.size + 1, 0, none⟩ 1 1 [.string y1, .string y2] rfl rfl Hg4.out Hg5.out Hg1.out Hg2.out Hg3.out ?_; intro v' w1 hown' hgrow _; obtain ⟨g', cap', rfl⟩ := ownsRow_succ hown'; have hfin := Hadd.out w1 _ hown' hgrow Hb.out.symm; clear hown' hgrow; refine Hid.out ?_)
        have e1 := cells_at hfin.2.2.2.1 0
        have e2 := frozen_at hfin.2.2.2.1 0
        simp only [List.getElem?_toArray, List.getElem?_cons_zero] at e1
        have Hfin := Lib.hid hfin; clear hfin
        refine Lib.hid ?_
        gi_wp2
        exact ⟨Hfin.out.1, Hfin.out.2.1, Hfin.out.2.2.2.2, Hfin.out.2.2.1⟩
    case done =>
      rintro D ys W hD rfl ⟨hsz, h⟩ hK
      obtain ⟨v, hv, hrow⟩ := h.out
      obtain ⟨a, cap, rfl⟩ := own_shape hrow
      have c0 : W.cell? ⟨w.heap.size + 1 + 1, 0, none⟩ = some (.slice a (cutS 44 s).length cap) := cells_at hv 0
      obtain ⟨l, hl⟩ := rd_list s (by omega)
      have hll : l.length = (cutS 44 s).length := by have := congrArg List.length hl; simpa [rdSp] using this
      have hn1 : (cutS 44 s).length ≤ s.size + 1 := by rw [cutS_len, ← dlen s]; exact (cutL_len 44 _).2
      have hrl : (rdSp s).length = (cutS 44 s).length := by simp [rdSp]
      have hrd : RSps W [.slice a (cutS 44 s).length cap] (tB l) := by
        rw [hl]
        refine sps_reads (B := w.heap.size + 6) (fun x hx => ?_) ?_
        · obtain ⟨p, hp, rfl⟩ := List.mem_map.1 hx
          have h1 := cutS_piece hp
          have h2 := spV_size p
          unfold maxLen; omega
        · rw [hrl]
          have h3 := hrow
          rw [rowsB_map] at h3
          exact h3
      have hT := spsText_any hrd (by omega) (HD.out.below h.bel)
      have hall := h.ok
      have hinj : ∀ l', tB l' = rdSp s → l' = l := fun l' h' => (List.map_inj_right fun _ _ e => Subtype.ext e).1 (h'.trans hl.symm)
      obtain ⟨T, hTT⟩ : ∃ T, T = spsText l := ⟨_, rfl⟩
      rw [← hTT] at hT
      have k2 : (T.toList == s.toList) = decide (T = s) := Txt.eq_dec _ _
      by_cases htx : T = s
      · have k3 : (T.toList == s.toList) = true := by rw [k2, decide_eq_true htx]
        clear k2
        have Hv := Lib.hid hv; have Hrow := Lib.hid hrow; have Hh := Lib.hid h; have HT := Lib.hid hT; have Hall := Lib.hid hall; have Hinj := Lib.hid hinj; have HTT := Lib.hid hTT; have Htx := Lib.hid htx; have Hrd := Lib.hid hrd; have Hl := Lib.hid hl; have Hll := Lib.hid hll; have Hrl := Lib.hid hrl; clear hv hrow h hT hall hinj hTT htx hrd hl hll hrl
        gi_wp2
        refine ⟨trivial, (callsIn_wide.2 HT.out).mono ?_⟩
        rintro e W5 ⟨rfl, hb5⟩
        have r2 := heap_below hb5 Hh.out.r2
        have r3 := heap_below hb5 Hh.out.r3
        have hK5 := heap_below hb5 hK
        have c5 := cell_later hb5 c0
        have hrow5 := ownsRow_below Hrow.out hb5
        have c1 := cells_at r2 0
        have c2 := cells_at r3 0
        have f1 := frozen_at r2 0
        have f2 := frozen_at r3 0
        simp only [List.getElem?_toArray, List.getElem?_cons_zero] at c1 c2
        have Hb5 := Lib.hid hb5; have Hr2 := Lib.hid r2; have Hr3 := Lib.hid r3; have Hrow5 := Lib.hid hrow5; clear hb5 r2 r3 hrow5
        gi_wp2
        have hK2 : ((W5.setCell ⟨w.heap.size, 0, none⟩ (.slice a (cutS 44 s).length cap)).setCell ⟨w.heap.size + 1, 0, none⟩ (.bool true)).heap[D]? = some (.deferred (some [])) := heap_other (heap_other hK5 (by omega)) (by omega)
        have x1 := heap_other (b := w.heap.size + 1) (i := 0) (u := .bool true) (heap_setCell_same W5 w.heap.size 0 _ _ (.slice a (cutS 44 s).length cap) Hr2.out) (by omega)
        have x2 := heap_setCell_same _ (w.heap.size + 1) 0 _ _ (.bool true) (heap_other (b := w.heap.size) (i := 0) (u := .slice a (cutS 44 s).length cap) Hr3.out (by omega))
        have hb9 : Below w.heap.size w ((W5.setCell ⟨w.heap.size, 0, none⟩ (.slice a (cutS 44 s).length cap)).setCell ⟨w.heap.size + 1, 0, none⟩ (.bool true)) := ((Hh.out.bel.trans (Hb5.out.mono Hh.out.bel.size)).setCell (p := ⟨w.heap.size, 0, none⟩) (Nat.le_refl _) _).setCell (p := ⟨w.heap.size + 1, 0, none⟩) (by show w.heap.size ≤ w.heap.size + 1; omega) _
        have ho : ((W5.setCell ⟨w.heap.size, 0, none⟩ (.slice a (cutS 44 s).length cap)).setCell ⟨w.heap.size + 1, 0, none⟩ (.bool true)).ownsRow (w.heap.size + 6) 34 2 (.slice a (cutS 44 s).length cap) (cutS 44 s).length (rowsB (cutS 44 s)) := own_set (own_set Hrow5.out (p := w.heap.size) (by omega) 0 (.slice a (cutS 44 s).length cap)) (p := w.heap.size + 1) (by omega) 0 (.bool true)
        refine ⟨by simp, .inl ⟨_, _, rfl, run_takeDeferred hK2, ?_⟩⟩
        refine ⟨_, results_cells rfl rfl rfl ((World.putObj_heap_other (by omega)).trans x1) ((World.putObj_heap_other (by omega)).trans x2) (Tryz.isAgg23 _) (Tryz.isAgg4 _), ?_⟩
        refine ⟨.inl ⟨_, rfl, .inr ⟨H0.out, Hall.out, fun l' h' => by rw [Hinj.out l' h', ← HTT.out, Htx.out], ?_⟩⟩, hb9.trans (belowK_b (w := w) (Nat.le_refl _) _ D _ _ (by omega) hK2 rfl rfl)⟩
        have e9 : (rdSp s).flatMap spCells = rowsB (cutS 44 s) := (rowsB_map _).symm
        rw [e9, Hrl.out]
        exact ownsRow_mono (ownsRow_putObj ho _ hK2 rfl) (by omega)
      · have k3 : (T.toList == s.toList) = false := by rw [k2, decide_eq_false htx]
        clear k2
        have Hv := Lib.hid hv; have Hrow := Lib.hid hrow; have Hh := Lib.hid h; have HT := Lib.hid hT; have Hall := Lib.hid hall; have Hinj := Lib.hid hinj; have HTT := Lib.hid hTT; have Htx := Lib.hid htx; have Hrd := Lib.hid hrd; have Hl := Lib.hid hl; have Hll := Lib.hid hll; have Hrl := Lib.hid hrl; clear hv hrow h hT hall hinj hTT htx hrd hl hll hrl
        gi_wp2
        refine ⟨trivial, (callsIn_wide.2 HT.out).mono ?_⟩
        rintro e W5 ⟨rfl, hb5⟩
        have r2 := heap_below hb5 Hh.out.r2
        have r3 := heap_below hb5 Hh.out.r3
        have hK5 := heap_below hb5 hK
        have c5 := cell_later hb5 c0
        have hrow5 := ownsRow_below Hrow.out hb5
        have c1 := cells_at r2 0
        have c2 := cells_at r3 0
        have f1 := frozen_at r2 0
        have f2 := frozen_at r3 0
        simp only [List.getElem?_toArray, List.getElem?_cons_zero] at c1 c2
        have Hb5 := Lib.hid hb5; have Hr2 := Lib.hid r2; have Hr3 := Lib.hid r3; have Hrow5 := Lib.hid hrow5; clear hb5 r2 r3 hrow5
        gi_wp2
        have hK2 : ((W5.setCell ⟨w.heap.size, 0, none⟩ (.slice none 0 0)).setCell ⟨w.heap.size + 1, 0, none⟩ (.bool false)).heap[D]? = some (.deferred (some [])) := heap_other (heap_other hK5 (by omega)) (by omega)
        have x1 := heap_other (b := w.heap.size + 1) (i := 0) (u := .bool false) (heap_setCell_same W5 w.heap.size 0 _ _ (.slice none 0 0) Hr2.out) (by omega)
        have x2 := heap_setCell_same _ (w.heap.size + 1) 0 _ _ (.bool false) (heap_other (b := w.heap.size) (i := 0) (u := .slice none 0 0) Hr3.out (by omega))
        have hb9 : Below w.heap.size w ((W5.setCell ⟨w.heap.size, 0, none⟩ (.slice none 0 0)).setCell ⟨w.heap.size + 1, 0, none⟩ (.bool false)) := ((Hh.out.bel.trans (Hb5.out.mono Hh.out.bel.size)).setCell (p := ⟨w.heap.size, 0, none⟩) (Nat.le_refl _) _).setCell (p := ⟨w.heap.size + 1, 0, none⟩) (by show w.heap.size ≤ w.heap.size + 1; omega) _
        have ho : ((W5.setCell ⟨w.heap.size, 0, none⟩ (.slice none 0 0)).setCell ⟨w.heap.size + 1, 0, none⟩ (.bool false)).ownsRow (w.heap.size + 6) 34 2 (.slice a (cutS 44 s).length cap) (cutS 44 s).length (rowsB (cutS 44 s)) := own_set (own_set Hrow5.out (p := w.heap.size) (by omega) 0 (.slice none 0 0)) (p := w.heap.size + 1) (by omega) 0 (.bool false)
        refine ⟨by simp, .inl ⟨_, _, rfl, run_takeDeferred hK2, ?_⟩⟩
        refine ⟨_, results_cells rfl rfl rfl ((World.putObj_heap_other (by omega)).trans x1) ((World.putObj_heap_other (by omega)).trans x2) (Tryz.isAgg23 _) (Tryz.isAgg4 _), ?_⟩
        refine ⟨.inr ⟨rfl, H0.out, .inr fun l' h' => by rw [Hinj.out l' h', ← HTT.out]; exact Htx.out⟩, hb9.trans (belowK_b (w := w) (Nat.le_refl _) _ D _ _ (by omega) hK2 rfl rfl)⟩
    case stop =>
      rintro D pre W hD hpre ⟨hsz, h⟩ hK
      obtain ⟨p, hp, hf⟩ := h.bad
      have hbad : ∃ p ∈ cutS 44 s, spOk p.data.toList = false := ⟨p, hpre.subset hp, hf⟩
      have Hbad := Lib.hid hbad; clear hbad
      gi_wp2
      refine ⟨by simp, .inl ⟨_, _, rfl, run_takeDeferred hK, ?_⟩⟩
      refine ⟨_, results_cells rfl rfl rfl ((World.putObj_heap_other (by omega)).trans h.r2) ((World.putObj_heap_other (by omega)).trans h.r3) (Tryz.isAgg23 _) (Tryz.isAgg4 _), ?_⟩
      exact ⟨.inr ⟨rfl, H0.out, .inl Hbad.out⟩, h.bel.trans (belowK_b (w := w) (Nat.le_refl _) _ D _ _ (by omega) hK rfl rfl)⟩
end Go.Proofs.YteailgjiifdgcaaGreatDoor

/- The walk of the document's Read of spans. Condition: a text of at most a hundred thousand bytes. -/
namespace Go.Proofs.YteailgjiifdgcaaGreatDoor
open Go.RowKit Go.Lib VerN

/-- the span of a text as the document reads it, and whether -/
def rfB (s : ByteArray) : ByteArray × ByteArray := if (cutS 58 s).length = 1 then (s, s) else ((cutS 58 s).getD 0 noTxt, (cutS 58 s).getD 1 noTxt)
def rfOk (s : ByteArray) : Bool := if 2 < (cutS 58 s).length then false else spRefOk s.data.toList
theorem rfB_data (s : ByteArray) : ((rfB s).1.data.toList, (rfB s).2.data.toList) = spRefO s.data.toList := by
  unfold rfB spRefO
  rw [cutS_len]
  split
  · rfl
  · exact Prod.ext (getD_data 58 s 0) (getD_data 58 s 1)
/-- what it hands back: whatever at a text that tells of no span -/
def refReadPost (s : ByteArray) (w : World) (e : Ending) (w' : World) : Prop :=
  ∃ x y, e = .returned (.tuple #[.agg #[.string x, .string y], .bool (rfOk s)]) ∧ (rfOk s = true → (x, y) = rfB s) ∧ Below w.heap.size w w'
set_option maxRecDepth 10000 in
set_option maxHeartbeats 4000000 in
theorem refRead_any (s : ByteArray) (hs : s.size ≤ 100000) (w : World) : Calls Tryz.prog 55 #[.string s] w (refReadPost s w) := by
  unfold refReadPost
  obtain ⟨w0, hW0⟩ : ∃ W0, W0 = w.alloc (.cells #[.string ⟨#[]⟩, .string ⟨#[]⟩] 34) := ⟨_, rfl⟩
  obtain ⟨nb, hnb⟩ : ∃ nb, nb = w.heap.size := ⟨_, rfl⟩
  have hw : Below w.heap.size w w0 := by rw [hW0]; exact below_alloc1 _ _
  have hr : w0.heap[nb]? = some (.cells #[.string ⟨#[]⟩, .string ⟨#[]⟩] 34 (0, 0)) := by rw [hW0, hnb]; exact pbox1_0 _ _ _
  have hle : w.heap.size ≤ nb := by omega
  have hC := cut1_any s (by omega) 58 (by omega) w0
  rw [show UInt8.ofNat 58 = (58 : UInt8) from rfl] at hC
  obtain ⟨ps, hps⟩ : ∃ ps, ps = cutS 58 s := ⟨_, rfl⟩
  rw [← hps] at hC
  have hpz : ∀ i, (ps.getD i noTxt).size ≤ 100000 := fun i => by
    by_cases h : i < ps.length
    · rw [List.getD, List.getElem?_eq_getElem h]
      have := cutS_piece (c := 58) (s := s) (by rw [← hps]; exact List.getElem_mem h)
      show ps[i].size ≤ 100000
      omega
    · rw [List.getD, List.getElem?_eq_none (by omega)]; decide
  have hp1 : 1 ≤ ps.length ∧ ps.length ≤ 1000000 := by
    have := cutL_len 58 s.data.toList
    rw [hps, cutS_len, ← Txt.len] at *
    omega
  have HC := Lib.hid hC; have Hw := Lib.hid hw; have Hr := Lib.hid hr; have Hps := Lib.hid hps; have Hpz := Lib.hid hpz; have Hp1 := Lib.hid hp1; have Hle := Lib.hid hle; clear hC hw hr hps hpz hp1 hle
  go_enter Tryz.func55, Tryz.ntmps55
  go_upto_region 1 with (fail)
  rw [← hW0, ← hnb]
  clear hW0 hnb
  go_wp2_with fail
  refine HC.out.mono ?_
  rintro e w1 ⟨v, rfl, hown, hb1⟩
  obtain ⟨a, cap, rfl⟩ := own_shape hown
  obtain ⟨n, hn⟩ : ∃ n, n = ps.length := ⟨_, rfl⟩
  rw [← hn] at hown ⊢
  have hn1 : 1 ≤ n ∧ n ≤ 1000000 := by rw [hn]; exact Hp1.out
  have Hown := Lib.hid hown; have Hb1 := Lib.hid hb1; have Hn := Lib.hid hn; clear hown hb1 hn
  go_upto_region 3 with (fail)
  obtain ⟨w2, hv⟩ : ∃ W, W = w1.alloc (.cells #[.string ⟨#[]⟩, .string ⟨#[]⟩] 34) := ⟨_, rfl⟩
  obtain ⟨g, hg⟩ : ∃ g, g = w1.heap.size := ⟨_, rfl⟩
  have hs2 : Below w1.heap.size w1 w2 := by rw [hv]; exact below_alloc1 _ _
  have hb2 := Hb1.out.trans (hs2.mono Hb1.out.size)
  have ho : w2.heap[g]? = some (.cells #[.string ⟨#[]⟩, .string ⟨#[]⟩] 34 (0, 0)) := by rw [hv, hg]; exact heap_alloc_new _ _
  have hr2 := heap_below hb2 Hr.out
  have hown2 := ownsRow_below Hown.out hs2
  rw [← hv, ← hg]
  clear hv hg
  obtain ⟨o0, o1, o2, o3⟩ := pair_cells ho
  obtain ⟨r0, r1, r2, r3⟩ := pair_cells hr2
  have Hs2 := Lib.hid hs2; have Hb2 := Lib.hid hb2; have Ho := Lib.hid ho; have Hr2 := Lib.hid hr2; have Hown2 := Lib.hid hown2; clear hs2 hb2 ho hr2 hown2
  by_cases h2 : 2 < n
  · have k1 : decide ((2 : Int) < (n : Int)) = true := by simp; omega
    have hok : rfOk s = false := by unfold rfOk; rw [← Hps.out, ← Hn.out, if_pos h2]
    have Hok := Lib.hid hok; clear hok
    go_wp2_with fail
    refine bodyPost_spn2 rfl rfl rfl (pair_set _ _ Hr2.out) rfl ?_
    exact ⟨_, _, ret_spn2 rfl rfl Hok.out.symm, (fun h => by rw [Hok.out] at h; cases h), pair_bel _ _ (below_on Hw.out Hb2.out) Hle.out⟩
  · have k1 : decide ((2 : Int) < (n : Int)) = false := by simp; omega
    by_cases h1 : n = 1
    · subst h1
      have hok : rfOk s = mayL s.data.toList := by
        unfold rfOk spRefOk
        rw [← cutS_len, ← Hps.out, ← Hn.out]
        rfl
      have hB : rfB s = (s, s) := by unfold rfB; rw [← Hps.out, ← Hn.out]; rfl
      have hM := may1_any s (by omega) w2
      obtain ⟨p, hp⟩ : ∃ x, x = mayL s.data.toList := ⟨_, rfl⟩
      rw [← hp] at hok hM
      clear hp
      have Hok := Lib.hid hok; have HB := Lib.hid hB; have HM := Lib.hid hM; clear hok hB hM
      go_wp2_with fail
      refine HM.out.mono ?_
      rintro e w3 ⟨rfl, hs3⟩
      have hb3 := Hb2.out.trans (hs3.mono Hb2.out.size)
      have hr3 := heap_below hs3 Hr2.out
      obtain ⟨r0, r1, r2, r3⟩ := pair_cells hr3
      have Hs3 := Lib.hid hs3; have Hb3 := Lib.hid hb3; have Hr3 := Lib.hid hr3; clear hs3 hb3 hr3
      go_wp2_with fail
      refine bodyPost_spn2 rfl rfl rfl (pair_set _ _ Hr3.out) rfl ?_
      exact ⟨_, _, ret_spn2 rfl rfl Hok.out.symm, fun _ => HB.out.symm, pair_bel _ _ (below_on Hw.out Hb3.out) Hle.out⟩
    · obtain rfl : n = 2 := by omega
      have hlen : ps.length = 2 := Hn.out.symm
      obtain ⟨b0, cap0, hsh, c0⟩ := texts_cell Hown2.out 0 (by omega)
      obtain ⟨b1, cap1, hsh1, c1⟩ := texts_cell Hown2.out 1 (by omega)
      simp only [Value.slice.injEq] at hsh hsh1
      obtain ⟨rfl, -, rfl⟩ := hsh
      obtain ⟨hbb, -, rfl⟩ := hsh1
      simp only [Option.some.injEq, Addr.mk.injEq, and_true] at hbb
      subst hbb
      obtain ⟨x, hx⟩ : ∃ x, x = ps.getD 0 noTxt := ⟨_, rfl⟩
      obtain ⟨y, hy⟩ : ∃ x, x = ps.getD 1 noTxt := ⟨_, rfl⟩
      have zx := Hpz.out 0
      have zy := Hpz.out 1
      rw [← hx] at zx
      rw [← hy] at zy
      rw [show ps[0]'(by omega) = x by rw [hx, List.getD, List.getElem?_eq_getElem (by omega)]; rfl] at c0
      rw [show ps[1]'(by omega) = y by rw [hy, List.getD, List.getElem?_eq_getElem (by omega)]; rfl] at c1
      have hB : rfB s = (x, y) := by unfold rfB; rw [← Hps.out, if_neg (by omega), ← hx, ← hy]
      have hok : rfOk s = (mayS (x.data.toList, y.data.toList) && decide (txR x y = s)) := by
        unfold rfOk spRefOk
        rw [← cutS_len, ← Hps.out, if_neg (by omega), if_neg (by omega), ← rfB_data, hB, ← txR_data]
        exact congrArg _ (decide_eq_decide.2 ba_eq.symm)
      clear hx hy hlen
      have HB := Lib.hid hB; have Hok := Lib.hid hok; clear hB hok
      go_upto_region 7 with (fail)
      go_cut [6] (fun v W => CutBox w2 x y v W)
      case first =>
        have hcz : (w2.drewN 1).cell? ⟨b0, 0, none⟩ = some (.string x) ∧ (w2.drewN 1).cell? ⟨b0, 1, none⟩ = some (.string y) := ⟨c0, c1⟩
        have hcf : ∀ W, Below w2.heap.size w2 W → W.cell? ⟨b0, 0, none⟩ = some (.string x) ∧ W.cell? ⟨b0, 1, none⟩ = some (.string y) := fun W k => ⟨cell_later k c0, cell_later k c1⟩
        have hbz := bel_drewN (Below.refl w2.heap.size w2) 1
        have Hcz := Lib.hid hcf
        clear hcf
        go_region_held3 (fun w' => w'.cell? ⟨b0, 0, none⟩ = some (.string x) ∧ w'.cell? ⟨b0, 1, none⟩ = some (.string y)) (first | exact hcz | exact Hcz.out _ (hbz.alloc hbz.size _) | exact Hcz.out _ (pair_bel _ _ hbz hbz.size) | go_keep) (fail)
        all_goals
          go_wp2_with fail
          go_meet
          exact ⟨_, rfl, heap_alloc_new _ _, hbz.alloc hbz.size _⟩
      case rest =>
        obtain ⟨gz, rfl, hz, hs3⟩ := hcut
        have hb3 := Hb2.out.trans (hs3.mono Hb2.out.size)
        have hr3 := heap_below hs3 Hr2.out
        clear o0 o1 o2 o3 r0 r1 r2 r3 c0 c1
        obtain ⟨z0, z1, z2, z3⟩ := pair_cells hz
        obtain ⟨r0, r1, r2, r3⟩ := pair_cells hr3
        have hP := fun (W : World) (_ : Below wc.heap.size wc W) => refMay2_any x y (by omega) (by omega) W
        have hT := fun (W : World) (_ : Below wc.heap.size wc W) => refText_any x y (by omega) (by omega) W
        have hcf : ∀ W, Below wc.heap.size wc W → (W.cell? ⟨gz, 0, none⟩ = some (.string x) ∧ W.cell? ⟨gz, 1, none⟩ = some (.string y)) ∧ W.cell? ⟨nb, 0, none⟩ = some (.string ⟨#[]⟩) ∧ W.cell? ⟨nb, 1, none⟩ = some (.string ⟨#[]⟩) ∧ W.frozen? ⟨nb, 0, none⟩ = false ∧ W.frozen? ⟨nb, 1, none⟩ = false := fun W k => ⟨⟨(pair_cells (heap_below k hz)).1, (pair_cells (heap_below k hz)).2.1⟩, pair_cells (heap_below k hr3)⟩
        obtain ⟨p, hp⟩ : ∃ q, q = mayS (x.data.toList, y.data.toList) := ⟨_, rfl⟩
        obtain ⟨tx, htx⟩ : ∃ q, q = txR x y := ⟨_, rfl⟩
        obtain ⟨d, k3⟩ : ∃ q, (tx.toList == s.toList) = q := ⟨_, rfl⟩
        have hok2 : rfOk s = (p && d) := by rw [Hok.out, ← hp, ← htx, ← k3, Txt.eq_dec]
        rw [← hp] at hP
        rw [← htx] at hT
        have hbz := bel_drewN (Below.refl wc.heap.size wc) 1
        have hcz := hcf _ hbz
        clear hp htx Hok
        have Hb3 := Lib.hid hb3; have Hs3 := Lib.hid hs3; have Hr3 := Lib.hid hr3; have Hz := Lib.hid hz; have HP := Lib.hid hP; have HT := Lib.hid hT; have Hok2 := Lib.hid hok2; clear hb3 hs3 hr3 hz hP hT hok2
        have Hcz := Lib.hid hcf
        clear hcf
        cases p with
        | false =>
          go_wp2_with fail
          first
            | go_region_with (go_at_call 59; refine (HP.out _ (by exact hbz)).mono ?_; rintro e wz ⟨rfl, hsz⟩; replace hbz := hbz.trans (hsz.mono hbz.size); obtain ⟨⟨q0, q1⟩, q2, q3, q4, q5⟩ := Hcz.out _ hbz; replace hcz := Hcz.out _ hbz)
            | fail "the region"
          all_goals
            have hr9 := heap_below hbz Hr3.out
            have hb9 := Hb3.out.trans (hbz.mono Hb3.out.size)
            have Hr9 := Lib.hid hr9; have Hb9 := Lib.hid hb9; clear hr9 hb9
            go_wp2_with fail
            refine bodyPost_spn2 rfl rfl rfl (pair_set _ _ Hr9.out) rfl ?_
            exact ⟨_, _, ret_spn2 rfl rfl (by rw [Hok2.out] <;> rfl), (fun _ => HB.out.symm), pair_bel _ _ (below_on Hw.out Hb9.out) Hle.out⟩
        | true =>
          cases d with
          | false =>
            go_wp2_with fail
            first
              | go_region_with (first | (go_at_call 59; refine (HP.out _ (by exact hbz)).mono ?_; rintro e wz ⟨rfl, hsz⟩; replace hbz := hbz.trans (hsz.mono hbz.size); obtain ⟨⟨q0, q1⟩, q2, q3, q4, q5⟩ := Hcz.out _ hbz; replace hcz := Hcz.out _ hbz) | (go_at_call 114; refine (HT.out _ (by exact hbz)).mono ?_; rintro e wz ⟨rfl, hsz⟩; replace hbz := hbz.trans (hsz.mono hbz.size); obtain ⟨⟨q0, q1⟩, q2, q3, q4, q5⟩ := Hcz.out _ hbz; replace hcz := Hcz.out _ hbz))
              | fail "the region"
            all_goals
              have hr9 := heap_below hbz Hr3.out
              have hb9 := Hb3.out.trans (hbz.mono Hb3.out.size)
              have Hr9 := Lib.hid hr9; have Hb9 := Lib.hid hb9; clear hr9 hb9
              go_wp2_with fail
              refine bodyPost_spn2 rfl rfl rfl (pair_set _ _ Hr9.out) rfl ?_
              exact ⟨_, _, ret_spn2 rfl rfl (by rw [Hok2.out] <;> rfl), (fun _ => HB.out.symm), pair_bel _ _ (below_on Hw.out Hb9.out) Hle.out⟩
          | true =>
            go_wp2_with fail
            first
              | go_region_with (first | (go_at_call 59; refine (HP.out _ (by exact hbz)).mono ?_; rintro e wz ⟨rfl, hsz⟩; replace hbz := hbz.trans (hsz.mono hbz.size); obtain ⟨⟨q0, q1⟩, q2, q3, q4, q5⟩ := Hcz.out _ hbz; replace hcz := Hcz.out _ hbz) | (go_at_call 114; refine (HT.out _ (by exact hbz)).mono ?_; rintro e wz ⟨rfl, hsz⟩; replace hbz := hbz.trans (hsz.mono hbz.size); obtain ⟨⟨q0, q1⟩, q2, q3, q4, q5⟩ := Hcz.out _ hbz; replace hcz := Hcz.out _ hbz))
              | fail "the region"
            all_goals
              have hr9 := heap_below hbz Hr3.out
              have hb9 := Hb3.out.trans (hbz.mono Hb3.out.size)
              have Hr9 := Lib.hid hr9; have Hb9 := Lib.hid hb9; clear hr9 hb9
              go_wp2_with fail
              refine bodyPost_spn2 rfl rfl rfl (pair_set _ _ Hr9.out) rfl ?_
              exact ⟨_, _, ret_spn2 rfl rfl (by rw [Hok2.out] <;> rfl), (fun _ => HB.out.symm), pair_bel _ _ (below_on Hw.out Hb9.out) Hle.out⟩
end Go.Proofs.YteailgjiifdgcaaGreatDoor

/- Plain facts: which texts are sets of spans, by the program's way and by the document's. No condition. -/
namespace Go.Proofs.YteailgjiifdgcaaGreatDoor
open Go.Lib VerN

theorem part_comma {p : List UInt8} (h : partL p = true) : (44 : UInt8) ∉ p := by
  intro hx
  unfold partL at h
  rcases Bool.or_eq_true _ _ ▸ h with h | h
  · unfold letOk at h
    simp only [Bool.and_eq_true, List.all_eq_true] at h
    have := (isLet_iff _).1 (h.2 44 hx)
    simp at this
  · unfold digOk at h
    simp only [Bool.and_eq_true, List.all_eq_true] at h
    have := (isDig_iff _).1 (h.1.1.2 44 hx)
    simp at this
theorem may_comma {l : List UInt8} (h : mayL l = true) : (44 : UInt8) ∉ l := by
  intro hx
  have hg := glue_cut 46 l []
  rw [List.nil_append] at hg
  rw [← hg] at hx
  rcases glue_mem _ _ _ hx with e | ⟨p, hp, hx⟩
  · exact absurd e (by decide)
  · exact part_comma (((may_iff l).1 h).2.2.1 p hp) hx
theorem bound_comma {l : List UInt8} (h : boundB l = true) : (44 : UInt8) ∉ l := by
  rcases bound_iff.1 h with h | h
  · rw [h]; simp
  · exact may_comma h
theorem piece_comma {s : BSp} (h : mayS (dS s) = true) : (44 : UInt8) ∉ (pieceB s).data.toList := by
  have e : (pieceB s).data.toList = textS (dS s) := txS_data _ _
  have h1 := mayS_iff.1 h
  rw [e, textS_of h]
  unfold textR
  split
  · exact bound_comma h1.1
  · intro k
    rcases List.mem_append.1 k with k | k
    · exact bound_comma h1.1 k
    · rcases List.mem_cons.1 k with k | k
      · exact absurd k (by decide)
      · exact bound_comma h1.2.1 k
theorem cut_tail : ∀ (r : List (List UInt8)) (x : List UInt8), (44 : UInt8) ∉ x → (∀ p ∈ r, (44 : UInt8) ∉ p) → cutL 44 (x ++ Lib.joinTail [44] r) = x :: r
  | [], x, hx, _ => by
    have : Lib.joinTail [44] [] = [] := rfl
    rw [this, List.append_nil]
    exact cutF_none 44 x [] (fun y hy e => hx (e ▸ hy))
  | y :: r, x, hx, hr => by
    have : Lib.joinTail [44] (y :: r) = 44 :: (y ++ Lib.joinTail [44] r) := by simp [Lib.joinTail]
    rw [this, cutL_join, cut_tail r y (hr y (by simp)) fun p hp => hr p (by simp [hp])]
    have : cutL 44 x = [x] := cutF_none 44 x [] (fun y hy e => hx (e ▸ hy))
    rw [this]; rfl
theorem cut_joined {L : List (List UInt8)} (h0 : L ≠ []) (h : ∀ p ∈ L, (44 : UInt8) ∉ p) : cutL 44 (Lib.join L [44]) = L := by
  cases L with
  | nil => exact absurd rfl h0
  | cons x r => rw [Lib.join_cons, cut_tail r x (h x (by simp)) fun p hp => h p (by simp [hp])]
/-- the document's text of a form -/
def refTx (F : List BSp) : ByteArray := if F.length = 0 then ⟨#[33]⟩ else joinF F
theorem formOk_iff {l : List Tp} : formOk l = true ↔ allMay (tB l) = true ∧ (formB l).length ≤ 16 := by unfold formOk; simp
theorem joined_len {l : List Tp} {t : ByteArray} (hf : formOk l = true) (h0 : (formB l).length ≠ 0) (h : joinF (formB l) = t) : (cutS 44 t).length = (formB l).length := by
  have hs := (form_sep (formOk_iff.1 hf).1).1.1
  rw [cutS_len, ← h]
  show (cutL 44 (Lib.join (((formB l).map pieceB).map (·.data.toList)) [44])).length = _
  rw [cut_joined]
  · simp
  · intro e
    have := congrArg List.length e
    simp at this
    exact h0 (by rw [this]; rfl)
  · intro p hp
    obtain ⟨y, hy, rfl⟩ := List.mem_map.1 hp
    obtain ⟨z, hz, rfl⟩ := List.mem_map.1 hy
    exact piece_comma (hs _ (List.mem_map.2 ⟨z, hz, rfl⟩))
/-- both ways of reading tell the same of a text -/
theorem reads_one {t : ByteArray} {l : List Tp} (h0 : t ≠ ⟨#[33]⟩) (hok : ∀ p ∈ cutS 44 t, spOk p.data.toList = true) : spsText l = t ↔ ((cutS 44 t).length ≤ 40 ∧ formOk l = true ∧ refTx (formB l) = t) := by
  constructor
  · intro h
    unfold spsText at h
    split at h
    · exfalso
      subst h
      have := hok ⟨#[]⟩ (by rw [show cutS 44 ⟨#[]⟩ = [⟨#[]⟩] from rfl]; exact List.mem_singleton.2 rfl)
      revert this
      decide
    · rename_i hf
      have hf : formOk l = true := by simpa using hf
      split at h
      · exact absurd h.symm h0
      · rename_i hn
        refine ⟨?_, hf, by unfold refTx; rw [if_neg hn]; exact h⟩
        rw [joined_len hf hn h]
        have := (formOk_iff.1 hf).2
        omega
  · rintro ⟨_, hf, h⟩
    unfold refTx at h
    split at h
    · exact absurd h.symm h0
    · rename_i hn
      unfold spsText
      rw [if_neg (by rw [hf]; simp), if_neg hn]
      exact h
end Go.Proofs.YteailgjiifdgcaaGreatDoor

/- The walk of cooperref03.Text. Condition: at most two thousand spans of bounds of at most 9000 bytes. -/
namespace Go.Proofs.YteailgjiifdgcaaGreatDoor
open Go.Shelf Go.RowKit Go.Lib VerN

theorem join_snoc (L : List (List UInt8)) (y : List UInt8) : Lib.join (L ++ [y]) [44] = if L = [] then y else Lib.join L [44] ++ 44 :: y := by
  cases L with
  | nil => rw [if_pos rfl, List.nil_append, Lib.join_one]
  | cons x r =>
    rw [if_neg (by simp), List.cons_append, Lib.join_cons, Lib.join_cons]
    have : Lib.joinTail [44] (r ++ [y]) = Lib.joinTail [44] r ++ 44 :: y := by simp [Lib.joinTail]
    rw [this, List.append_assoc]
/-- the spans' texts, with commas -/
def refStr (F : List BSp) : ByteArray := ⟨(Lib.join ((F.map fun s => txR s.1 s.2).map (·.data.toList)) [44]).toArray⟩
theorem refStr_data (F : List BSp) : (refStr F).data.toList = Lib.join ((F.map fun s => txR s.1 s.2).map (·.data.toList)) [44] := rfl
theorem refStr_nil : refStr [] = ⟨#[]⟩ := rfl
theorem refStr_one (x : BSp) : ⟨#[]⟩ ++ txR x.1 x.2 = refStr [x] := by
  apply Txt.ext
  rw [Go.Joins.data_append, refStr_data, List.map_cons, List.map_cons, List.map_nil, List.map_nil, Lib.join_one]
  rfl
theorem refStr_snoc {F : List BSp} (h : F ≠ []) (x : BSp) : refStr F ++ ⟨#[44]⟩ ++ txR x.1 x.2 = refStr (F ++ [x]) := by
  apply Txt.ext
  rw [Go.Joins.data_append, Go.Joins.data_append, refStr_data, refStr_data, List.map_append, List.map_append, List.map_cons, List.map_cons, List.map_nil, List.map_nil, join_snoc, if_neg (by simpa using h), List.append_assoc]
  rfl
theorem refStr_may {F : List BSp} (h : allMay F = true) : refStr F = joinF F := by
  unfold refStr joinF
  have : (F.map fun s => txR s.1 s.2) = F.map pieceB := by
    apply List.map_congr_left
    intro s hs
    unfold pieceB txS
    rw [if_pos]
    exact allMay_iff.1 h _ (List.mem_map.2 ⟨s, hs, rfl⟩)
  rw [this]
theorem refStr_size {F : List BSp} (h : SmallB F) : (refStr F).size ≤ 18002 * F.length := by
  have hl : Lib.lens ((F.map fun s => txR s.1 s.2).map (·.data.toList)) ≤ 18001 * F.length := by
    have := lens_le 18001 ((F.map fun s => txR s.1 s.2).map (·.data.toList)) (fun x hx => by
      obtain ⟨y, hy, rfl⟩ := List.mem_map.1 hx
      obtain ⟨z, hz, rfl⟩ := List.mem_map.1 hy
      have h1 := txR_size z.1 z.2
      have h2 := h z hz
      rw [Txt.len]
      omega)
    simpa using this
  rw [← Txt.len, refStr_data]
  cases F with
  | nil => simp [Lib.join_nil]
  | cons x r =>
    simp only [List.map_cons, List.length_cons] at hl ⊢
    rw [Lib.join_length]
    simp only [List.length_map, List.length_singleton, Nat.one_mul]
    omega
set_option maxRecDepth 10000 in
set_option maxHeartbeats 4000000 in
theorem refTextS_any {w : World} {v : Value} {F : List BSp} (h : RSps w [v] F) (hs : SmallB F) (hm : allMay F = true) (hl : F.length ≤ 2000) : Calls Tryz.prog 56 #[v] w fun e w' => e = .returned (.string (refTx F)) ∧ Below w.heap.size w w' := by
  have hat0 := fun a c (e : v = .slice a F.length c) => sps_at (by rw [← e]; exact h)
  obtain ⟨a, cap, rfl⟩ := sps_shape h
  have hat := hat0 a cap rfl
  clear hat0
  obtain ⟨q, hq⟩ : ∃ q, q = F.length := ⟨_, rfl⟩
  rw [← hq] at hl h ⊢
  by_cases h0 : q = 0
  · subst h0
    have ht : refTx F = ⟨#[33]⟩ := by unfold refTx; rw [if_pos hq.symm]
    rw [ht]
    have Hh := Lib.hid h; have Hs := Lib.hid hs; have Hm := Lib.hid hm; have Hq := Lib.hid hq; have Hat := Lib.hid hat; clear h hs hm hq hat
    go_enter Tryz.func56, Tryz.ntmps56
    go_wp2_with fail
    go_ret
    exact ⟨rfl, Below.refl _ _⟩
  · have k0 : ((q : Int) == 0) = false := by rw [beq_eq_false_iff_ne]; omega
    have ht : refTx F = refStr F := by unfold refTx; rw [if_neg (by rw [← hq]; exact h0), refStr_may hm]
    rw [ht]
    have Hh := Lib.hid h; have Hs := Lib.hid hs; have Hm := Lib.hid hm; have Hq := Lib.hid hq; have Hat := Lib.hid hat; have Ht := Lib.hid ht; clear h hs hm hq hat ht
    go_enter Tryz.func56, Tryz.ntmps56
    go_wp2_with fail
    go_loopw [3, 10] (fun v i wr => ∃ k : Nat, k ≤ q ∧ i = .int .i64 k ∧ v = .string (refStr (F.take k)) ∧ Below w.heap.size w wr) (fun _ i _ => q - (RowKit.intOf i).toNat)
    case atStart => exact ⟨0, Nat.zero_le _, rfl, rfl, Below.refl _ _⟩
    case round =>
      obtain ⟨k, hk, rfl, rfl, hbr⟩ := hrel
      by_cases hlt : k < q
      · have hkF : k < F.length := by have := Hq.out; omega
        obtain ⟨y, hy⟩ : ∃ y, y = F[k] := ⟨_, rfl⟩
        obtain ⟨b, off, rfl, c0, c1⟩ := Hat.out k y (by rw [hy]; exact List.getElem?_eq_getElem hkF)
        have d0 := cell_later hbr c0
        have d1 := cell_later hbr c1
        have hys := Hs.out y (by rw [hy]; exact List.getElem_mem hkF)
        have hT := refText_any y.1 y.2 (by omega) (by omega) wr
        have hnext : F.take (k + 1) = F.take k ++ [y] := by rw [hy]; exact (List.take_append_getElem hkF).symm
        have hPs := txR_size y.1 y.2
        have hSs := refStr_size (F := F.take k) (fun z hz => Hs.out z (List.mem_of_mem_take hz))
        rw [List.length_take, Nat.min_eq_left (by omega)] at hSs
        obtain ⟨P, hP⟩ : ∃ P, P = txR y.1 y.2 := ⟨_, rfl⟩
        obtain ⟨y1, hy1⟩ : ∃ s, s = y.1 := ⟨_, rfl⟩
        obtain ⟨y2, hy2⟩ : ∃ s, s = y.2 := ⟨_, rfl⟩
        rw [← hP] at hT hPs
        rw [← hy1, ← hy2] at hT
        rw [← hy1] at d0
        rw [← hy2] at d1
        have hP1 : P.size ≤ 20000 := by omega
        have k5 : (0 : Int) ≤ (k : Int) := by omega
        have k6 : (k : Int) < (q : Int) := by omega
        clear c0 c1
        by_cases hk0 : k = 0
        · subst hk0
          simp only [Nat.zero_mul, Nat.add_zero] at d0 d1
          have hv : (⟨#[]⟩ : ByteArray) ++ P = refStr (F.take (0 + 1)) := by rw [hnext, hP, List.take_zero, List.nil_append]; exact refStr_one y
          have e0 : refStr (F.take 0) = ⟨#[]⟩ := rfl
          have kz : decide ((0 : Int) < ((0 : Nat) : Int)) = false := by simp
          rw [e0]
          have Hbr := Lib.hid hbr; have Hy := Lib.hid hy; have HT := Lib.hid hT; have Hnext := Lib.hid hnext; have HP := Lib.hid hP; have Hv := Lib.hid hv; have Hy1 := Lib.hid hy1; have Hy2 := Lib.hid hy2; have HPs := Lib.hid hPs; have HSs := Lib.hid hSs; have Hys := Lib.hid hys; clear hbr hy hT hnext hP hv hy1 hy2 hPs hSs hys
          go_wp2_with fail
          refine HT.out.mono ?_
          rintro e w5 ⟨rfl, hb5⟩
          have hbw := Hbr.out.trans (hb5.mono Hbr.out.size)
          have Hb5 := Lib.hid hb5; have Hbw := Lib.hid hbw; clear hb5 hbw
          go_wp2_with fail
          go_roundw
          case rel => exact ⟨0 + 1, by omega, by go_num, by rw [← Hv.out], Hbw.out⟩
          case measure => (simp [RowKit.intOf]) <;> omega
        · have hv : refStr (F.take k) ++ ⟨#[44]⟩ ++ P = refStr (F.take (k + 1)) := by
            rw [hnext, hP]
            refine refStr_snoc (fun e => ?_) y
            have := congrArg List.length e
            rw [List.length_take, Nat.min_eq_left (by omega)] at this
            exact hk0 this
          have kz : decide ((0 : Int) < (k : Int)) = true := decide_eq_true (by omega)
          obtain ⟨S, hS⟩ : ∃ S, S = refStr (F.take k) := ⟨_, rfl⟩
          rw [← hS] at hv hSs ⊢
          have hS1 : S.size ≤ 40000000 := by omega
          have Hbr := Lib.hid hbr; have Hy := Lib.hid hy; have HT := Lib.hid hT; have Hnext := Lib.hid hnext; have HP := Lib.hid hP; have Hv := Lib.hid hv; have Hy1 := Lib.hid hy1; have Hy2 := Lib.hid hy2; have HPs := Lib.hid hPs; have HSs := Lib.hid hSs; have Hys := Lib.hid hys; have HS := Lib.hid hS; clear hbr hy hT hnext hP hv hy1 hy2 hPs hSs hys hS
          go_wp2_with fail
          refine HT.out.mono ?_
          rintro e w5 ⟨rfl, hb5⟩
          have hbw := Hbr.out.trans (hb5.mono Hbr.out.size)
          have Hb5 := Lib.hid hb5; have Hbw := Lib.hid hbw; clear hb5 hbw
          go_wp2_with fail
          go_roundw
          case rel => exact ⟨k + 1, by omega, by go_num, by rw [← Hv.out], Hbw.out⟩
          case measure => (simp [RowKit.intOf]) <;> omega
      · obtain rfl : k = q := by omega
        rw [List.take_of_length_le (Nat.le_of_eq Hq.out.symm)]
        have Hbr := Lib.hid hbr; clear hbr
        go_wp2_with fail
        go_ret
        exact ⟨rfl, Hbr.out⟩
end Go.Proofs.YteailgjiifdgcaaGreatDoor

/- The walk of cooperref03.Read: the set of a text, as the document reads it. Condition: a text of at most 1000 bytes. -/
namespace Go.Proofs.YteailgjiifdgcaaGreatDoor
open Go.Shelf Go.RowKit Go.Lib VerN

theorem rfOk_is (s : ByteArray) : rfOk s = spOk s.data.toList ∧ (spOk s.data.toList = true → rfB s = spV s) := by
  by_cases h : 2 < (cutS 58 s).length
  · have h1 : spOk s.data.toList = false := read_many (by rw [← cutS_len]; exact h)
    refine ⟨by unfold rfOk; rw [if_pos h, h1], fun e => by rw [h1] at e; cases e⟩
  · have h1 := refOk_is s.data.toList (by rw [← cutS_len]; omega)
    refine ⟨by unfold rfOk; rw [if_neg h, h1.1], fun e => ?_⟩
    unfold spV
    rw [if_pos e]
    have h2 := rfB_data s
    rw [h1.2, ← spB_data] at h2
    have h3 := Prod.mk.inj h2
    exact Prod.ext (Txt.ext h3.1) (Txt.ext h3.2)
/-- is the text one of a set; which -/
def Rd3 (t : ByteArray) : Prop := t = ⟨#[33]⟩ ∨ ((∀ p ∈ cutS 44 t, spOk p.data.toList = true) ∧ ∀ l, tB l = rdSp t → spsText l = t)
def rdV (t : ByteArray) : List BSp := if t = ⟨#[33]⟩ then [] else rdSp t
def RefRdPost (t : ByteArray) (w : World) (e : Ending) (w' : World) : Prop :=
  ((∃ v, e = .returned (.tuple #[v, .bool true]) ∧ Rd3 t ∧ RSps w' [v] (rdV t)) ∨ (∃ v, e = .returned (.tuple #[v, .bool false]) ∧ ¬ Rd3 t ∧ RSps w' [v] [])) ∧ Below w.heap.size w w'
theorem sps_none (w : World) (g : Nat) : RSps w [.slice (some ⟨g, 0, none⟩) 0 0] [] := ⟨_, 0, rfl, Nat.zero_le _, Nat.zero_le _, fun i x hi => by simp at hi⟩
theorem rowsB_take {ps : List ByteArray} {k : Nat} (h : k < ps.length) : rowsB (ps.take (k + 1)) = rowsB (ps.take k) ++ [.string (spV ps[k]).1, .string (spV ps[k]).2] := by
  rw [List.take_succ_eq_append_getElem h, rowsB_snoc]; rfl
set_option linter.unusedSimpArgs false in
set_option maxRecDepth 10000 in
set_option maxHeartbeats 40000000 in
theorem refRead3_any (t : ByteArray) (ht : t.size ≤ 1000) (w : World) : Calls Tryz.prog 17 #[.string t] w (RefRdPost t w) := by
  have e33 : (⟨#[33]⟩ : ByteArray).toList = [33] := by rw [Lib.toList_data]
  obtain ⟨nb, hnb⟩ : ∃ nb, nb = w.heap.size := ⟨_, rfl⟩
  obtain ⟨w0, hW0⟩ : ∃ W, W = w.alloc (.cells #[] 34) := ⟨_, rfl⟩
  have hw0 : Below w.heap.size w w0 := by rw [hW0]; exact below_alloc1 _ _
  by_cases h0 : t = ⟨#[33]⟩
  · have k1 : (t.toList == [33]) = true := by rw [← e33, Txt.eq_dec, decide_eq_true h0]
    clear e33
    have hpost : RefRdPost t w (.returned (.tuple #[.slice (some ⟨nb, 0, none⟩) 0 0, .bool true])) w0 := ⟨.inl ⟨_, rfl, .inl h0, by unfold rdV; rw [if_pos h0]; exact sps_none _ _⟩, hw0⟩
    have H0 := Lib.hid h0; have Hw0 := Lib.hid hw0; have Hpost := Lib.hid hpost; clear h0 hw0 hpost
    go_enter Tryz.func17, Tryz.ntmps17
    go_upto_region 2 with (fail)
    rw [← hW0, ← hnb]
    clear hW0 hnb
    go_wp2_with fail
    go_ret2
    exact Hpost.out
  · have k1 : (t.toList == [33]) = false := by rw [← e33, Txt.eq_dec, decide_eq_false h0]
    clear e33
    obtain ⟨ps, hps⟩ : ∃ ps, ps = cutS 44 t := ⟨_, rfl⟩
    have hC := fun (W : World) => cut1_any t (by omega) 44 (by omega) W
    rw [show UInt8.ofNat 44 = (44 : UInt8) from rfl, ← hps] at hC
    have hpz : ∀ p ∈ ps, p.size ≤ 1000 := fun p hp => by
      have := cutS_piece (c := 44) (s := t) (by rw [← hps]; exact hp)
      omega
    have hp1 : 1 ≤ ps.length ∧ ps.length ≤ 1001 := by
      have := cutL_len 44 t.data.toList
      rw [hps, cutS_len, ← Txt.len] at *
      omega
    have hnone : ¬ Rd3 t → ∀ W, Below w0.heap.size w0 W → RefRdPost t w (.returned (.tuple #[.slice (some ⟨nb, 0, none⟩) 0 0, .bool false])) W := fun h W hW => ⟨.inr ⟨_, rfl, h, sps_none _ _⟩, hw0.trans (hW.mono hw0.size)⟩
    have hB : w.heap.size ≤ w0.heap.size := hw0.size
    have H0 := Lib.hid h0; have Hw0 := Lib.hid hw0; have Hps := Lib.hid hps; have HC := Lib.hid hC; have Hpz := Lib.hid hpz; have Hp1 := Lib.hid hp1; have Hnone := Lib.hid hnone; clear h0 hw0 hps hC hpz hp1 hnone
    go_enter Tryz.func17, Tryz.ntmps17
    go_upto_region 2 with (fail)
    rw [← hW0, ← hnb]
    clear hW0 hnb
    go_wp2_with fail
    refine (HC.out w0).mono ?_
    rintro e w1 ⟨v, rfl, hown, hb1⟩
    obtain ⟨a, cap, rfl⟩ := own_shape hown
    have hat : ∀ i (hi : i < ps.length), ∃ b off, a = some ⟨b, off, none⟩ ∧ w1.cell? ⟨b, off + i, none⟩ = some (.string ps[i]) := fun i hi => by
      obtain ⟨a', cap', hv, _, hg⟩ := txts_open (own_texts hown (fun x hx => by have := Hpz.out x hx; unfold maxLen; omega))
      injection hv with h1 _ _
      subst h1
      obtain ⟨b, off, e1, e2, _⟩ := hg i hi
      exact ⟨b, off, e1, e2⟩
    obtain ⟨n, hn⟩ : ∃ n, n = ps.length := ⟨_, rfl⟩
    rw [← hn] at hown ⊢
    have hn1 : 1 ≤ n ∧ n ≤ 1001 := by rw [hn]; exact Hp1.out
    have hst : (w1.alloc (.cells #[] 34)).ownsRow w1.heap.size 34 2 (.slice (some ⟨w1.heap.size, 0, none⟩) 0 0) 0 (rowsB (ps.take 0)) := lit_sps (Nat.le_refl _)
    have hb2 := hb1.alloc hb1.size (.cells #[] 34)
    have Hown := Lib.hid hown; have Hb1 := Lib.hid hb1; have Hn := Lib.hid hn; have Hat := Lib.hid hat; have Hst := Lib.hid hst; have Hb2 := Lib.hid hb2; clear hown hb1 hn hat hst hb2
    go_wp2_with fail
    go_loopw [6, 21] (fun v i wr => ∃ k : Nat, k ≤ n ∧ i = .int .i64 k ∧ wr.ownsRow w1.heap.size 34 2 v k (rowsB (ps.take k)) ∧ (∀ p ∈ ps.take k, spOk p.data.toList = true) ∧ Below w1.heap.size w1 wr) (fun _ i _ => n - (RowKit.intOf i).toNat)
    case atStart => exact ⟨0, Nat.zero_le _, rfl, Hst.out, (fun p hp => by simp at hp), below_alloc1 _ _⟩
    case round =>
      obtain ⟨k, hk, rfl, hrow, hok, hbr1⟩ := hrel
      have hbr := Hb1.out.trans (hbr1.mono Hb1.out.size)
      obtain ⟨ra, rc, rfl⟩ := own_shape hrow
      by_cases hlt : k < n
      · have hkl : k < ps.length := by have := Hn.out; omega
        obtain ⟨p, hp⟩ : ∃ p, p = ps[k] := ⟨_, rfl⟩
        obtain ⟨b, off, rfl, c0⟩ := Hat.out k hkl
        have d0 := cell_later hbr1 c0
        rw [← hp] at d0
        have hpm : p ∈ ps := by rw [hp]; exact List.getElem_mem _
        have hps2 := Hpz.out p hpm
        have hR := refRead_any p (by omega) wr
        unfold refReadPost at hR
        have hrf := rfOk_is p
        have hnx := rowsB_take hkl
        rw [← hp] at hnx
        obtain ⟨r, hr⟩ : ∃ b, b = spOk p.data.toList := ⟨_, rfl⟩
        rw [hrf.1, ← hr] at hR
        have k5 : (0 : Int) ≤ (k : Int) := by omega
        have k6 : (k : Int) < (n : Int) := by omega
        clear c0
        cases r with
        | false =>
          have hno : ¬ Rd3 t := by
            rintro (h | h)
            · exact H0.out h
            · have := h.1 p (by rw [← Hps.out]; exact hpm)
              rw [← hr] at this
              cases this
          have Hrow := Lib.hid hrow; have Hok := Lib.hid hok; have Hbr := Lib.hid hbr; have Hbr1 := Lib.hid hbr1; have Hp := Lib.hid hp; have Hpm := Lib.hid hpm; have Hps2 := Lib.hid hps2; have HR := Lib.hid hR; have Hrf := Lib.hid hrf; have Hnx := Lib.hid hnx; have Hr := Lib.hid hr; have Hno := Lib.hid hno; clear hrow hok hbr hbr1 hp hpm hps2 hR hrf hnx hr hno
          go_wp2_with fail
          refine HR.out.mono ?_
          rintro e w5 ⟨x, y, rfl, _, hb5⟩
          have hbw := Hbr.out.trans (hb5.mono Hbr.out.size)
          have hbw2 := hbw.alloc hbw.size (.cells #[.string x, .string y] 34)
          have Hb5 := Lib.hid hb5; have Hbw := Lib.hid hbw; have Hbw2 := Lib.hid hbw2; clear hb5 hbw hbw2
          go_wp2_with fail
          go_ret2
          exact Hnone.out Hno.out _ Hbw2.out
        | true =>
          have hok2 : ∀ q ∈ ps.take (k + 1), spOk q.data.toList = true := fun q hq => by
            rw [List.take_succ_eq_append_getElem hkl] at hq
            rcases List.mem_append.1 hq with hq | hq
            · exact hok q hq
            · rw [List.mem_singleton.1 hq, ← hp]; exact hr.symm
          have hrfB := hrf.2 hr.symm
          obtain ⟨N, hN⟩ : ∃ N, N = rowsB (ps.take k) := ⟨_, rfl⟩
          rw [← hN] at hrow hnx
          have Hrow := Lib.hid hrow; have Hok := Lib.hid hok; have Hbr := Lib.hid hbr; have Hbr1 := Lib.hid hbr1; have Hp := Lib.hid hp; have Hpm := Lib.hid hpm; have Hps2 := Lib.hid hps2; have HR := Lib.hid hR; have Hrf := Lib.hid hrf; have Hnx := Lib.hid hnx; have Hr := Lib.hid hr; have Hok2 := Lib.hid hok2; have HrfB := Lib.hid hrfB; have HN := Lib.hid hN; clear hrow hok hbr hbr1 hp hpm hps2 hR hrf hnx hr hok2 hrfB hN
          go_wp2_with fail
          refine HR.out.mono ?_
          rintro e w5 ⟨x, y, rfl, hxy, hb5⟩
          have hxy := (hxy trivial).trans HrfB.out
          have hnx2 := Hnx.out
          rw [← hxy] at hnx2
          have hbw1 := Hbr1.out.trans (hb5.mono Hbr1.out.size)
          have hrow5 := ownsRow_below (ownsRow_below Hrow.out hb5) (below_alloc1 w5 (.cells #[.string x, .string y] 34))
          have hbw3 := hbw1.alloc hbw1.size (.cells #[.string x, .string y] 34)
          obtain ⟨z0, z1, z2, z3⟩ := pair_cells (heap_alloc_new w5 (.cells #[.string x, .string y] 34))
          obtain ⟨w6, hw6⟩ : ∃ W, W = w5.alloc (.cells #[.string x, .string y] 34) := ⟨_, rfl⟩
          rw [← hw6] at hrow5 hbw3 z0 z1 z2 z3
          have hz6 := hbw3.size
          have Hb5 := Lib.hid hb5; have Hbw1 := Lib.hid hbw1; have Hbw3 := Lib.hid hbw3; have Hxy := Lib.hid hxy; have Hnx2 := Lib.hid hnx2; have Hrow5 := Lib.hid hrow5; clear hb5 hbw1 hbw3 hxy hnx2 hrow5
          go_upto_region 10 with (fail)
          rw [← hw6]
          clear hw6
          go_wp2_with (at_builtin; (refine wpList_append_lit elem_spn rfl (.tmp 35) (.tmp 37) rfl w1.heap.size (.slice ra k rc) k N rfl Hrow5.out 1 #[.string x, .string y] rfl rfl (by simp [Value.oneCell']) (by omega) (by unfold maxLen; omega) (by omega) ?_; intro v9 w9 hown9 hg9 hm9; obtain ⟨a9, c9, rfl⟩ := own_shape hown9; have hb9 := (bel_own Hbw3.out Hrow5.out (Nat.le_refl _) hg9 (by omega) : Below w1.heap.size w1 w9); have Hown9 := Lib.hid hown9; have Hb9 := Lib.hid hb9; clear hown9 hg9 hm9 hb9))
          go_roundw
          case rel => exact ⟨k + 1, by omega, by go_num, by rw [Hnx2.out]; exact Hown9.out, Hok2.out, Hb9.out⟩
          case measure => (simp [RowKit.intOf]) <;> omega
      · obtain rfl : k = n := by omega
        rw [List.take_of_length_le (Nat.le_of_eq Hn.out.symm)] at hrow hok
        by_cases h40 : 40 < k
        · have kk : decide ((40 : Int) < (k : Int)) = true := decide_eq_true (by omega)
          have hno : ¬ Rd3 t := by
            rintro (h | ⟨_, h⟩)
            · exact H0.out h
            · obtain ⟨l, hl⟩ := rd_list t (by omega)
              have := ((reads_one H0.out (by rw [← Hps.out]; exact hok)).1 (h l hl)).1
              rw [← Hps.out, ← Hn.out] at this
              omega
          have Hrow := Lib.hid hrow; have Hok := Lib.hid hok; have Hbr := Lib.hid hbr; have Hbr1 := Lib.hid hbr1; have Hno := Lib.hid hno; clear hrow hok hbr hbr1 hno
          go_wp2_with fail
          go_ret2
          exact Hnone.out Hno.out _ Hbr.out
        · have kk : decide ((40 : Int) < (k : Int)) = false := decide_eq_false (by omega)
          obtain ⟨l, hl⟩ := rd_list t (by omega)
          have hlr : tB l = ps.map spV := by rw [hl, Hps.out]; rfl
          have hll : (tB l).length = k := by rw [hlr, List.length_map]; exact Hn.out.symm
          rw [rowsB_map, ← hlr] at hrow
          have hrd : RSps wr [.slice ra k rc] (tB l) := sps_reads (fun x hx => by have := smallB_tB l x hx; unfold maxLen; omega) (by rw [hll]; exact hrow)
          have hF := refForm_any hrd (by rw [List.length_map] at hll; omega)
          unfold RefFormPost at hF
          obtain ⟨f, hf⟩ : ∃ b, b = formOk l := ⟨_, rfl⟩
          obtain ⟨q, hq⟩ : ∃ q, q = (formB l).length := ⟨_, rfl⟩
          rw [← hf, ← hq] at hF
          have hone := reads_one (l := l) H0.out (by rw [← Hps.out]; exact hok)
          have hiff : Rd3 t ↔ (f = true ∧ refTx (formB l) = t) := by
            rw [hf]
            constructor
            · rintro (h | ⟨_, h⟩)
              · exact absurd h H0.out
              · have := hone.1 (h l hl)
                exact this.2
            · intro h
              refine .inr ⟨by rw [← Hps.out]; exact hok, fun l' hl' => ?_⟩
              have : l' = l := by
                have e : tB l' = tB l := by rw [hl', hl]
                exact (List.map_inj_right fun _ _ e => Subtype.ext e).1 e
              rw [this]
              exact hone.2 ⟨by rw [← Hps.out, ← Hn.out]; omega, h⟩
          have hv : rdV t = tB l := by unfold rdV; rw [if_neg H0.out, hl]
          cases f with
          | false =>
            have hno : ¬ Rd3 t := fun h => by have := (hiff.1 h).1; cases this
            have Hrow := Lib.hid hrow; have Hok := Lib.hid hok; have Hbr := Lib.hid hbr; have Hbr1 := Lib.hid hbr1; have Hno := Lib.hid hno; have HF := Lib.hid hF; have Hrd := Lib.hid hrd; have Hf := Lib.hid hf; clear hrow hok hbr hbr1 hno hF hrd hf
            go_wp2_with fail
            refine HF.out.mono ?_
            rintro e w5 ⟨o, rfl, _, hb5⟩
            have hbw := Hbr.out.trans (hb5.mono Hbr.out.size)
            have Hb5 := Lib.hid hb5; have Hbw := Lib.hid hbw; clear hb5 hbw
            go_wp2_with fail
            go_ret2
            exact Hnone.out Hno.out _ Hbw.out
          | true =>
            have Hrow := Lib.hid hrow; have Hok := Lib.hid hok; have Hbr := Lib.hid hbr; have Hbr1 := Lib.hid hbr1; have HF := Lib.hid hF; have Hrd := Lib.hid hrd; have Hf := Lib.hid hf; have Hiff := Lib.hid hiff; have Hv := Lib.hid hv; have Hq := Lib.hid hq; clear hrow hok hbr hbr1 hF hrd hf hiff hv hq
            go_wp2_with fail
            refine HF.out.mono ?_
            rintro e w5 ⟨o, rfl, ho, hb5⟩
            have ho := ho trivial
            have hbw := Hbr.out.trans (hb5.mono Hbr.out.size)
            have hrdF : RSps w5 [o] (formB l) := sps_reads (fun x hx => by have := smallB_form l x hx; unfold maxLen; omega) (by rw [← Hq.out]; exact ho)
            have hfo : formOk l = true := Hf.out.symm
            have hT := refTextS_any hrdF (smallB_form l) (allMay_iff.2 (form_sep (formOk_iff.1 hfo).1).1.1) (by have := (formOk_iff.1 hfo).2; omega)
            obtain ⟨oa, oc, rfl⟩ := own_shape ho
            obtain ⟨T, hTT⟩ : ∃ T, T = refTx (formB l) := ⟨_, rfl⟩
            rw [← hTT] at hT
            have hrd5 := stays_slice stays_spn _ _ _ _ Hrd.out hb5
            by_cases hTt : T = t
            · have kT : (T.toList == t.toList) = true := by rw [Txt.eq_dec, decide_eq_true hTt]
              have hyes : Rd3 t := Hiff.out.2 ⟨by first | rfl | trivial, by rw [← hTT]; exact hTt⟩
              have Ho := Lib.hid ho; have Hb5 := Lib.hid hb5; have Hbw := Lib.hid hbw; have HrdF := Lib.hid hrdF; have HT := Lib.hid hT; have HTT := Lib.hid hTT; have Hrd5 := Lib.hid hrd5; have HTt := Lib.hid hTt; have Hyes := Lib.hid hyes; clear ho hb5 hbw hrdF hT hTT hrd5 hTt hyes
              go_wp2_with fail
              refine HT.out.mono ?_
              rintro e w6 ⟨rfl, hb6⟩
              have hbw2 := Hbw.out.trans (hb6.mono Hbw.out.size)
              have hrd6 := stays_slice stays_spn _ _ _ _ Hrd5.out hb6
              have Hb6 := Lib.hid hb6; have Hbw2 := Lib.hid hbw2; have Hrd6 := Lib.hid hrd6; clear hb6 hbw2 hrd6
              go_wp2_with fail
              go_ret2
              exact ⟨.inl ⟨_, rfl, Hyes.out, by rw [Hv.out]; exact Hrd6.out⟩, Hw0.out.trans (Hbw2.out.mono Hw0.out.size)⟩
            · have kT : (T.toList == t.toList) = false := by rw [Txt.eq_dec, decide_eq_false hTt]
              have hno : ¬ Rd3 t := fun h => hTt (by rw [hTT]; exact (Hiff.out.1 h).2)
              have Ho := Lib.hid ho; have Hb5 := Lib.hid hb5; have Hbw := Lib.hid hbw; have HrdF := Lib.hid hrdF; have HT := Lib.hid hT; have HTT := Lib.hid hTT; have Hrd5 := Lib.hid hrd5; have HTt := Lib.hid hTt; have Hno := Lib.hid hno; clear ho hb5 hbw hrdF hT hTT hrd5 hTt hno
              go_wp2_with fail
              refine HT.out.mono ?_
              rintro e w6 ⟨rfl, hb6⟩
              have hbw2 := Hbw.out.trans (hb6.mono Hbw.out.size)
              have Hb6 := Lib.hid hb6; have Hbw2 := Lib.hid hbw2; clear hb6 hbw2
              go_wp2_with fail
              go_ret2
              exact Hnone.out Hno.out _ Hbw2.out
end Go.Proofs.YteailgjiifdgcaaGreatDoor

/- The walk of cooperref03.Same. No condition. -/
namespace Go.Proofs.YteailgjiifdgcaaGreatDoor
open Go.RowKit Go.Shelf Go.Lib VerN

theorem spn_neqs (s t a b : ByteArray) (W : World) : (binOp .neq 34 (.agg #[.string s, .string t]) (.agg #[.string a, .string b])).run Tryz.prog W = .ok (.bool (!(decide (s = a) && decide (t = b)))) W := by
  have u9 := Tryz.underlying9
  have hS : Tryz.prog.underlying 34 = some (.struct (Tryz.prog.fieldsOf 34)) := by kernel_rfl
  have hp : Tryz.prog.stoodInHeld 34 = false := by kernel_rfl
  rw [run_neq_struct, show (10000 : Nat) = 9999 + 1 from rfl, run_equalIn_agg W 9999 34 _ _ hS hp]
  simp only [Program.fieldsOf, Tryz.underlying34]
  go_simp
  have e1 := Txt.eq_dec s a
  have e2 := Txt.eq_dec t b
  by_cases h1 : s = a <;> by_cases h2 : t = b <;> simp [h1, h2] at e1 e2 ⊢ <;> simp_all
set_option maxRecDepth 10000 in
set_option maxHeartbeats 1000000 in
theorem sameRefS_any {w : World} {v u : Value} {l m : List BSp} (h : RSps w [v] l) (hm : RSps w [u] m) : Calls Tryz.prog 18 #[v, u] w fun e w' => e = .returned (.bool (decide (l = m))) ∧ ∃ q, w' = w.drewN q := by
  obtain ⟨a, cap, rfl, hz, g⟩ := sps_open h
  obtain ⟨a2, cap2, rfl, hz2, g2⟩ := sps_open hm
  obtain ⟨n, hn⟩ : ∃ n, n = l.length := ⟨_, rfl⟩
  obtain ⟨n2, hn2⟩ : ∃ n, n = m.length := ⟨_, rfl⟩
  obtain ⟨r, hr⟩ : ∃ r, r = decide (l = m) := ⟨_, rfl⟩
  have q1 := fun s t a b => spn_neqs s t a b
  rw [← hr]
  rw [← hn] at hz h ⊢
  rw [← hn2] at hz2 hm ⊢
  have Hh := Lib.hid h; have Hm := Lib.hid hm; have Hg := Lib.hid g; have Hg2 := Lib.hid g2; have Hn := Lib.hid hn; have Hn2 := Lib.hid hn2; have Hr := Lib.hid hr; have Hq1 := Lib.hid q1; clear h hm g g2 hn hn2 hr q1
  go_enter Tryz.func18, Tryz.ntmps18
  by_cases hne : n = n2
  case neg =>
    have k1 : ((n : Int) != (n2 : Int)) = true := by simp; omega
    have hf : r = false := by rw [Hr.out, decide_eq_false_iff_not]; intro e; exact hne (by rw [Hn.out, Hn2.out, e])
    have Hf := Lib.hid hf; have Hne := Lib.hid hne; clear hf hne
    go_wp2_with fail
    go_ret
    exact ⟨ret_bool Hf.out.symm, 0, rfl⟩
  have k1 : ((n : Int) != (n2 : Int)) = false := by simp; omega
  have Hne := Lib.hid hne; clear hne
  go_wp2_with fail
  clear k1
  go_loopw [13] (fun i wr => ∃ k : Nat, k ≤ n ∧ i = .int .i64 k ∧ (∀ j (h1 : j < l.length) (h2 : j < m.length), j < k → l[j] = m[j]) ∧ ∃ q, wr = w.drewN q) (fun i _ => n - (RowKit.intOf i).toNat)
  case atStart => exact ⟨0, Nat.zero_le _, rfl, fun _ _ _ h => by omega, 0, rfl⟩
  case round =>
    obtain ⟨k, hk, rfl, hno, q, rfl⟩ := hrel
    by_cases hlt : k < n
    · have hkl : k < l.length := by have := Hn.out; omega
      have hkm : k < m.length := by have := Hn2.out; have := Hne.out; omega
      obtain ⟨b, off, rfl, d0, d1, _, _⟩ := Hg.out k _ (List.getElem?_eq_getElem hkl)
      obtain ⟨b2, off2, rfl, f0, f1, _, _⟩ := Hg2.out k _ (List.getElem?_eq_getElem hkm)
      have hnx : l[k] = m[k] → ∀ j (h1 : j < l.length) (h2 : j < m.length), j < k + 1 → l[j] = m[j] := fun h j h1 h2 hjk => by
        by_cases e : j = k
        · subst e; exact h
        · exact hno j h1 h2 (by omega)
      have hbd : l[k] ≠ m[k] → l ≠ m := fun h e => h (by subst e; rfl)
      obtain ⟨x, hx⟩ : ∃ x, x = l[k] := ⟨_, rfl⟩
      obtain ⟨y, hy⟩ : ∃ x, x = m[k] := ⟨_, rfl⟩
      rw [← hx] at d0 d1 hnx hbd
      rw [← hy] at f0 f1 hnx hbd
      have q2 := Hq1.out x.1 x.2 y.1 y.2
      have hxy : (decide (x.1 = y.1) && decide (x.2 = y.2)) = decide (x = y) := by
        rw [Bool.eq_iff_iff]
        simp [Prod.ext_iff]
      rw [hxy] at q2
      obtain ⟨s, hs⟩ : ∃ s, s = x.1 := ⟨_, rfl⟩
      obtain ⟨t, ht⟩ : ∃ s, s = x.2 := ⟨_, rfl⟩
      obtain ⟨s', hs'⟩ : ∃ s, s = y.1 := ⟨_, rfl⟩
      obtain ⟨t', ht'⟩ : ∃ s, s = y.2 := ⟨_, rfl⟩
      rw [← hs, ← ht, ← hs', ← ht'] at q2
      rw [← hs] at d0
      rw [← ht] at d1
      rw [← hs'] at f0
      rw [← ht'] at f1
      have k5 : (0 : Int) ≤ (k : Int) := by omega
      have k6 : (k : Int) < (n : Int) := by omega
      have k7 : (k : Int) < (n2 : Int) := by have := Hne.out; omega
      clear hxy
      by_cases e : x = y
      · have hq := hnx e
        rw [decide_eq_true e] at q2
        simp only [Bool.not_true] at q2
        clear e
        have Hno := Lib.hid hno; have Hnx := Lib.hid hnx; have Hbd := Lib.hid hbd; have Hx := Lib.hid hx; have Hy := Lib.hid hy; have Hs := Lib.hid hs; have Ht := Lib.hid ht; have Hs' := Lib.hid hs'; have Ht' := Lib.hid ht'; have Hq := Lib.hid hq; clear hno hnx hbd hx hy hs ht hs' ht' hq
        go_wp2_with fail
        go_region
        go_wp2_with fail
        go_roundw
        case rel => exact ⟨k + 1, by omega, by go_num, Hq.out, _, rfl⟩
        case measure => simp [RowKit.intOf]; omega
      · have hf : r = false := by rw [Hr.out, decide_eq_false_iff_not]; exact hbd e
        rw [decide_eq_false e] at q2
        simp only [Bool.not_false] at q2
        clear e
        have Hno := Lib.hid hno; have Hnx := Lib.hid hnx; have Hbd := Lib.hid hbd; have Hx := Lib.hid hx; have Hy := Lib.hid hy; have Hs := Lib.hid hs; have Ht := Lib.hid ht; have Hs' := Lib.hid hs'; have Ht' := Lib.hid ht'; have Hf := Lib.hid hf; clear hno hnx hbd hx hy hs ht hs' ht' hf
        go_wp2_with fail
        go_region
        go_wp2_with fail
        go_ret
        exact ⟨ret_bool Hf.out.symm, _, rfl⟩
    · obtain rfl : n = k := by omega
      have hf : r = true := by
        rw [Hr.out, decide_eq_true_eq]
        exact List.ext_getElem (by rw [← Hn.out, ← Hn2.out, Hne.out]) (fun j h1 h2 => hno j h1 h2 (by have := Hn.out; omega))
      have Hno := Lib.hid hno; have Hf := Lib.hid hf; clear hno hf
      go_wp2_with fail
      go_ret
      exact ⟨ret_bool Hf.out.symm, _, rfl⟩
end Go.Proofs.YteailgjiifdgcaaGreatDoor
