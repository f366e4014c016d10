/- Walks and plain facts. Texts merged: SpsW, SpsB, Ins, SpsX. Condition: none beyond what each says. -/
import Derived.Deep.DeepCutAuto
import Derived.Test.YteailgjiifdgcaaGreatDoorSpansSharesAll1
import Derived.Test.YteailgjiifdgcaaGreatDoorSpansSharesAll2
import Derived.Test.YteailgjiifdgcaaGreatDoorSpansSharesAll3
import Derived.Test.YteailgjiifdgcaaGreatDoorSpansSharesAll4
import Derived.Test.YteailgjiifdgcaaGreatDoorSpansSharesAll5
import Derived.Test.YteailgjiifdgcaaGreatDoorSpansSharesAll6
import Derived.Test.YteailgjiifdgcaaGreatDoorSpansSharesAll7
import Derived.Test.YteailgjiifdgcaaGreatDoorSpansSharesAll8
set_option linter.unusedVariables false
set_option linter.unusedSimpArgs false
/- The walk of cooperref03.merged: two that meet are put together, or none do. Condition: at most two thousand spans that may be, of bounds of at most 9000 bytes. -/
namespace Go.Proofs.YteailgjiifdgcaaGreatDoor
open Go.Shelf Go.RowKit Go.Lib Go.Sort SortM VerN

instance : Inhabited Tp := ⟨⟨(⟨#[]⟩, ⟨#[]⟩), by decide⟩⟩
def MergedPost (l : List Tp) (v : Value) (w : World) (e : Ending) (w' : World) : Prop :=
  Below w.heap.size w w' ∧ ((∃ o l', e = .returned (.tuple #[o, .bool true]) ∧ MStep l l' ∧ w'.ownsRow w.heap.size 34 2 o l'.length ((tB l').flatMap spCells)) ∨ (e = .returned (.tuple #[v, .bool false]) ∧ NoMeet l))
def NoneUp (l : List Tp) (k : Nat) : Prop := ∀ i j (hi : i < l.length) (hj : j < l.length), i < k → i < j → mtT l[i] l[j] = false
def NoneAt (l : List Tp) (x : Tp) (i k : Nat) : Prop := ∀ j (hj : j < l.length), j < k → i < j → mtT x l[j] = false
theorem noneUp_next {l : List Tp} {i : Nat} (hi : i < l.length) (h : NoneUp l i) (h2 : NoneAt l l[i] i l.length) : NoneUp l (i + 1) := fun a j ha hj hai haj => by
  by_cases e : a = i
  · subst e; exact h2 j hj hj haj
  · exact h a j ha hj (by omega) haj
theorem noneAt_next {l : List Tp} {x : Tp} {i k : Nat} (h : NoneAt l x i k) (h2 : ∀ hk : k < l.length, i < k → mtT x l[k] = false) : NoneAt l x i (k + 1) := fun j hj hjk hij => by
  by_cases e : j = k
  · subst e; exact h2 hj hij
  · exact h j hj (by omega) hij
theorem tB_pick {l : List Tp} {i k n : Nat} (hn : n < l.length) (h : n ≠ i ∧ n ≠ k) : (tB (pickL l i k (n + 1))).flatMap spCells = (tB (pickL l i k n)).flatMap spCells ++ [.string l[n].1.1, .string l[n].1.2] := by
  have e : pickL l i k (n + 1) = pickL l i k n ++ [l[n]] := by
    show (if n ≠ i ∧ n ≠ k then pickL l i k n ++ [l[n]!] else pickL l i k n) = _
    rw [if_pos h, getElem!_pos l n hn]
  rw [e, tB, List.map_append, List.flatMap_append]
  rfl
theorem pick_skip {l : List Tp} {i k n : Nat} (h : ¬ (n ≠ i ∧ n ≠ k)) : pickL l i k (n + 1) = pickL l i k n := by
  show (if n ≠ i ∧ n ≠ k then pickL l i k n ++ [l[n]!] else pickL l i k n) = _
  rw [if_neg h]
set_option linter.unusedSimpArgs false in
set_option maxRecDepth 10000 in
set_option maxHeartbeats 40000000 in
theorem refMerged_any {w : World} {v : Value} {l : List Tp} (h : RSps w [v] (tB l)) (hm : mayT l) (hl : l.length ≤ 2000) : Calls Tryz.prog 60 #[v] w (MergedPost l v w) := by
  have hat0 := fun a c (e : v = .slice a (tB l).length c) => sps_at (by rw [← e]; exact h)
  obtain ⟨a, cap, rfl⟩ := sps_shape h
  have hat := hat0 a cap rfl
  clear hat0
  obtain ⟨n, hn⟩ : ∃ n, n = (tB l).length := ⟨_, rfl⟩
  have hnl : n = l.length := by rw [hn, List.length_map]
  rw [← hn] at h ⊢
  have hn1 : n ≤ 2000 := by omega
  have Hh := Lib.hid h; have Hm := Lib.hid hm; have Hn := Lib.hid hn; have Hnl := Lib.hid hnl; have Hat := Lib.hid hat; clear h hm hn hnl hat
  go_enter Tryz.func60, Tryz.ntmps60
  go_wp2_with fail
  go_loopw [12] (fun i wr => ∃ k : Nat, k ≤ n ∧ i = .int .i64 k ∧ NoneUp l k ∧ Below w.heap.size w wr) (fun i _ => n - (RowKit.intOf i).toNat)
  case atStart => exact ⟨0, Nat.zero_le _, rfl, fun _ _ _ _ h _ => absurd h (Nat.not_lt_zero _), Below.refl _ _⟩
  case round =>
    obtain ⟨i, hi, rfl, hno, hbr⟩ := hrel
    by_cases hlt : i < n
    · have hil : i < l.length := by have := Hnl.out; omega
      obtain ⟨x, hx⟩ : ∃ x, x = l[i] := ⟨_, rfl⟩
      obtain ⟨b, off, rfl, c0, c1⟩ := Hat.out i x.1 (by rw [hx, List.getElem?_map, List.getElem?_eq_getElem hil]; rfl)
      have k5 : (0 : Int) ≤ (i : Int) := by omega
      have k6 : (i : Int) < (n : Int) := by omega
      have d0 := cell_later hbr c0
      have d1 := cell_later hbr c1
      have Hno := Lib.hid hno; have Hbr := Lib.hid hbr; have Hx := Lib.hid hx; have Hc0 := Lib.hid c0; have Hc1 := Lib.hid c1; clear hno hbr hx c0 c1
      go_wp2_with fail
      go_loopw [17] (fun j wq => ∃ k : Nat, k ≤ n ∧ j = .int .i64 k ∧ NoneAt l x i k ∧ Below w.heap.size w wq) (fun j _ => n - (RowKit.intOf j).toNat)
      case atStart => exact ⟨0, Nat.zero_le _, rfl, fun _ _ h _ => absurd h (Nat.not_lt_zero _), Hbr.out⟩
      case round =>
        obtain ⟨k, hk, rfl, hna, hbq⟩ := hrel
        by_cases hlk : k < n
        · have hkl : k < l.length := by have := Hnl.out; omega
          obtain ⟨y, hy⟩ : ∃ y, y = l[k] := ⟨_, rfl⟩
          obtain ⟨b2, off2, e2, d2, d3⟩ := Hat.out k y.1 (by rw [hy, List.getElem?_map, List.getElem?_eq_getElem hkl]; rfl)
          injection e2 with e2
          injection e2 with e2 e3 _
          subst e2 e3
          have hxs := x.2
          have hys := y.2
          have hxm := Hm.out x (by rw [Hx.out]; exact List.getElem_mem _)
          have hym := Hm.out y (by rw [hy]; exact List.getElem_mem _)
          have hM := fun (W : World) (_ : Below w.heap.size w W) => refMeet_any x.1.1 x.1.2 y.1.1 y.1.2 (by omega) (by omega) (by omega) (by omega) W
          have hJ := fun (W : World) (_ : Below w.heap.size w W) => refJoin_any x.1.1 x.1.2 y.1.1 y.1.2 (by omega) (by omega) (by omega) (by omega) hxm hym W
          have hcf : ∀ W, Below w.heap.size w W → W.cell? ⟨b, off + i * 2, none⟩ = some (.string x.1.1) ∧ W.cell? ⟨b, off + i * 2 + 1, none⟩ = some (.string x.1.2) ∧ W.cell? ⟨b, off + k * 2, none⟩ = some (.string y.1.1) ∧ W.cell? ⟨b, off + k * 2 + 1, none⟩ = some (.string y.1.2) :=
            fun W hW => ⟨cell_later hW Hc0.out, cell_later hW Hc1.out, cell_later hW d2, cell_later hW d3⟩
          have hnx := fun (ho : ¬ (i < k ∧ mtT x y = true)) => noneAt_next hna fun hk2 hik => by
            have : mtT x y = false := by cases hmt : mtT x y with
              | false => rfl
              | true => exact absurd ⟨hik, hmt⟩ ho
            rw [hy] at this
            exact this
          obtain ⟨m1, m2, hmv⟩ : ∃ p q, (p, q) = mtV x.1.1 x.1.2 y.1.1 y.1.2 := ⟨_, _, rfl⟩
          obtain ⟨j1, j2, hjv⟩ : ∃ p q, (p, q) = jnV x.1.1 x.1.2 y.1.1 y.1.2 := ⟨_, _, rfl⟩
          obtain ⟨ok, hok⟩ : ∃ b, b = mtT x y := ⟨_, rfl⟩
          have hok2 : meetOk (x.1.1.data.toList, x.1.2.data.toList) (y.1.1.data.toList, y.1.2.data.toList) = ok := hok.symm
          rw [← hmv, hok2] at hM
          rw [← hjv] at hJ
          rw [← hok] at hnx
          obtain ⟨x1, hx1⟩ : ∃ s, s = x.1.1 := ⟨_, rfl⟩
          obtain ⟨x2, hx2⟩ : ∃ s, s = x.1.2 := ⟨_, rfl⟩
          obtain ⟨y1, hy1⟩ : ∃ s, s = y.1.1 := ⟨_, rfl⟩
          obtain ⟨y2, hy2⟩ : ∃ s, s = y.1.2 := ⟨_, rfl⟩
          rw [← hx1, ← hx2, ← hy1, ← hy2] at hM hJ
          simp only [← hx1, ← hx2, ← hy1, ← hy2] at hcf
          have k7 : (0 : Int) ≤ (k : Int) := by omega
          have k8 : (k : Int) < (n : Int) := by omega
          have hbz := bel_drewN (Below.refl wr.heap.size wr) 1
          have hcz := hcf _ (hbq.trans (hbz.mono hbq.size))
          obtain ⟨e0, e1, e4, e5⟩ := hcf _ hbq
          clear d0 d1 d2 d3 hok2
          have Hna := Lib.hid hna; have Hbq := Lib.hid hbq; have Hy := Lib.hid hy; have Hxs := Lib.hid hxs; have Hys := Lib.hid hys; have Hxm := Lib.hid hxm; have Hym := Lib.hid hym; have HM := Lib.hid hM; have HJ := Lib.hid hJ; have Hnx := Lib.hid hnx; have Hmv := Lib.hid hmv; have Hjv := Lib.hid hjv; have Hok := Lib.hid hok; have Hx1 := Lib.hid hx1; have Hx2 := Lib.hid hx2; have Hy1 := Lib.hid hy1; have Hy2 := Lib.hid hy2; clear hna hbq hy hxs hys hxm hym hM hJ hnx hmv hjv hok hx1 hx2 hy1 hy2
          have Hcz := Lib.hid hcf
          clear hcf
          go_upto_region 7 with (fail)
          go_cut [7] (fun v W => v = .bool ok ∧ Below w.heap.size w W)
          case first =>
            have hbz2 : ∀ o, Below wr.heap.size wr ((wr.alloc o).drew) := fun o => ((Below.refl _ _).alloc (Nat.le_refl _) o).drew
            go_region_held3 (fun w' => w'.cell? ⟨b, off + i * 2, none⟩ = some (.string x1) ∧ w'.cell? ⟨b, off + i * 2 + 1, none⟩ = some (.string x2) ∧ w'.cell? ⟨b, off + k * 2, none⟩ = some (.string y1) ∧ w'.cell? ⟨b, off + k * 2 + 1, none⟩ = some (.string y2)) (first | exact hcz | exact Hcz.out _ (Hbq.out.trans ((hbz2 _).mono Hbq.out.size)) | exact Hcz.out _ (Hbq.out.trans ((hbz.alloc hbz.size _).mono Hbq.out.size)) | exact Hcz.out _ (Hbq.out.trans ((pair_bel _ _ hbz hbz.size).mono Hbq.out.size)) | exact Hcz.out _ (Hbq.out.trans ((pair_bel _ _ hbz (Nat.le_refl _)).mono Hbq.out.size)) | go_keep) (first | (go_at_call 118; refine (HM.out _ (by exact Hbq.out.trans (hbz.mono Hbq.out.size))).mono ?_; rintro e wz ⟨rfl, hsz⟩; replace hbz := hbz.trans (hsz.mono hbz.size); replace hcz := Hcz.out _ (Hbq.out.trans (hbz.mono Hbq.out.size))) | (go_at_call 118; refine (HM.out _ (by exact Hbq.out.trans ((hbz2 _).mono Hbq.out.size))).mono ?_; rintro e wz ⟨rfl, hsz⟩; obtain ⟨zz0, zz1, zz2, zz3⟩ := pair_cells (heap_below hsz (heap_alloc_new _ _)); replace hbz := (hbz2 _).trans (hsz.mono (hbz2 _).size); replace hcz := Hcz.out _ (Hbq.out.trans (hbz.mono Hbq.out.size))))
            all_goals
              go_wp2_with fail
              go_meet
              exact ⟨rfl, Hbq.out.trans (Below.mono (by first | exact hbz.alloc hbz.size _ | exact pair_bel _ _ hbz (Nat.le_refl _) | exact pair_bel _ _ (hbz.alloc hbz.size _) hbz.size) Hbq.out.size)⟩
          case rest =>
            obtain ⟨rfl, hbc⟩ := hcut
            by_cases hik : i < k ∧ ok = true
            · obtain ⟨hik, rfl⟩ := hik
              have q1 : decide ((k : Int) ≤ (i : Int)) = false := decide_eq_false (by omega)
              have hcf := Hcz.out _ hbc
              obtain ⟨g0, g1, g2, g3⟩ := hcf
              clear e0 e1 e4 e5
              have Hbc := Lib.hid hbc; clear hbc
              go_upto_region 9 with (fail)
              have hbz := bel_drewN (Below.refl wc.heap.size wc) 1
              have hcz := Hcz.out _ (Hbc.out.trans (hbz.mono Hbc.out.size))
              go_region_held3 (fun w' => w'.cell? ⟨b, off + i * 2, none⟩ = some (.string x1) ∧ w'.cell? ⟨b, off + i * 2 + 1, none⟩ = some (.string x2) ∧ w'.cell? ⟨b, off + k * 2, none⟩ = some (.string y1) ∧ w'.cell? ⟨b, off + k * 2 + 1, none⟩ = some (.string y2)) (first | exact hcz | exact Hcz.out _ (Hbc.out.trans ((hbz.alloc hbz.size _).mono Hbc.out.size)) | go_keep) (first | (go_at_call 119; refine (HJ.out _ (by exact Hbc.out.trans (hbz.mono Hbc.out.size))).mono ?_; rintro e wz ⟨rfl, hsz⟩; replace hbz := hbz.trans (hsz.mono hbz.size); replace hcz := Hcz.out _ (Hbc.out.trans (hbz.mono Hbc.out.size))))
              have hbw := Hbc.out.trans (hbz.mono Hbc.out.size)
              have hown : (wz.alloc (.cells #[.string j1, .string j2] 34)).ownsRow w.heap.size 34 2 (.slice (some ⟨wz.heap.size, 0, none⟩) 1 1) 1 [.string j1, .string j2] := World.ownsRow_lit (base := w.heap.size) (e := 34) (size := 2) wz #[.string j1, .string j2] 1 hbw.size (by decide) rfl
              have hbw2 := hbw.alloc hbw.size (.cells #[.string j1, .string j2] 34)
              have Hown := Lib.hid hown; have Hbw := Lib.hid hbw; have Hbw2 := Lib.hid hbw2; clear hown hbw hbw2
              have hj0 : (tB (jnT x y :: pickL l i k 0)).flatMap spCells = [.string j1, .string j2] := by
                show spCells (jnV x.1.1 x.1.2 y.1.1 y.1.2) ++ [] = _
                rw [← Hjv.out]
                rfl
              have hst : MStep l (jnT x y :: pickL l i k l.length) := by
                have h9 := step_of (l := l) hik hkl (by rw [← Hx.out, ← Hy.out]; exact Hok.out.symm)
                rw [← Hx.out, ← Hy.out] at h9
                exact h9
              have Hj0 := Lib.hid hj0; have Hst := Lib.hid hst; clear hj0 hst
              go_wp2_with fail
              go_loopw [8, 51] (fun v m wr => ∃ q : Nat, q ≤ n ∧ m = .int .i64 q ∧ wr.ownsRow w.heap.size 34 2 v (jnT x y :: pickL l i k q).length ((tB (jnT x y :: pickL l i k q)).flatMap spCells) ∧ Below w.heap.size w wr) (fun _ m _ => n - (RowKit.intOf m).toNat)
              case atStart => exact ⟨0, Nat.zero_le _, rfl, by rw [Hj0.out]; exact Hown.out, Hbw2.out⟩
              case round =>
                obtain ⟨q, hq, rfl, hrow, hbz⟩ := hrel
                obtain ⟨ra, rc, rfl⟩ := own_shape hrow
                by_cases hlq : q < n
                · by_cases hqk : q ≠ i ∧ q ≠ k
                  · have hql : q < l.length := by have := Hnl.out; omega
                    obtain ⟨z, hz⟩ : ∃ z, z = l[q] := ⟨_, rfl⟩
                    obtain ⟨b3, off3, e3, f0, f1⟩ := Hat.out q z.1 (by rw [hz, List.getElem?_map, List.getElem?_eq_getElem hql]; rfl)
                    injection e3 with e3
                    injection e3 with e3 e4 _
                    subst e3 e4
                    have f2 := cell_later hbz f0
                    have f3 := cell_later hbz f1
                    have hpk := tB_pick (l := l) (i := i) (k := k) hql hqk
                    have hpl : pickL l i k (q + 1) = pickL l i k q ++ [z] := by
                      show (if q ≠ i ∧ q ≠ k then pickL l i k q ++ [l[q]!] else pickL l i k q) = _
                      rw [if_pos hqk, getElem!_pos l q hql, hz]
                    have hpn := pick_len l i k q
                    rw [← hz] at hpk
                    obtain ⟨N, hN⟩ : ∃ N, N = (tB (jnT x y :: pickL l i k q)).flatMap spCells := ⟨_, rfl⟩
                    obtain ⟨m, hm⟩ : ∃ m, m = (jnT x y :: pickL l i k q).length := ⟨_, rfl⟩
                    obtain ⟨z1, hz1⟩ : ∃ s, s = z.1.1 := ⟨_, rfl⟩
                    obtain ⟨z2, hz2⟩ : ∃ s, s = z.1.2 := ⟨_, rfl⟩
                    have hN' : (tB (jnT x y :: pickL l i k (q + 1))).flatMap spCells = N ++ [.string z1, .string z2] := by
                      rw [hN, hz1, hz2]
                      show spCells _ ++ (tB (pickL l i k (q + 1))).flatMap spCells = (spCells _ ++ (tB (pickL l i k q)).flatMap spCells) ++ _
                      rw [hpk, List.append_assoc]
                    have hm' : (jnT x y :: pickL l i k (q + 1)).length = m + 1 := by rw [hm, hpl]; simp
                    have hmq : m ≤ 2001 := by rw [hm]; simp only [List.length_cons]; omega
                    rw [← hN, ← hm] at hrow
                    rw [← hz1] at f2
                    rw [← hz2] at f3
                    have t1 : ((q : Int) != (i : Int)) = true := by rw [bne_iff_ne]; omega
                    have t2 : ((q : Int) != (k : Int)) = true := by rw [bne_iff_ne]; omega
                    have t3 : (0 : Int) ≤ (q : Int) := by omega
                    have t4 : (q : Int) < (n : Int) := by omega
                    have t5 := hbz.size
                    clear f0 f1 hqk
                    rw [← hm]
                    have Hrow := Lib.hid hrow; have Hbz := Lib.hid hbz; have Hz := Lib.hid hz; have Hpk := Lib.hid hpk; have Hpl := Lib.hid hpl; have Hpn := Lib.hid hpn; have HN := Lib.hid hN; have Hm := Lib.hid hm; have Hz1 := Lib.hid hz1; have Hz2 := Lib.hid hz2; have HN' := Lib.hid hN'; have Hm' := Lib.hid hm'; clear hrow hbz hz hpk hpl hpn hN hm hz1 hz2 hN' hm'
                    go_wp2_with (at_builtin; (refine wpList_append_lit elem_spn rfl (.tmp 62) (.tmp 67) rfl w.heap.size (.slice ra m rc) m N rfl Hrow.out 1 #[.string z1, .string z2] rfl rfl (by simp [Value.oneCell']) (by omega) (by unfold maxLen; omega) (by omega) ?_; intro v9 w9 hown9 hg9 hm9; obtain ⟨a9, c9, rfl⟩ := own_shape hown9; have hb9 := (bel_own Hbz.out Hrow.out (Nat.le_refl _) hg9 (by omega) : Below w.heap.size w w9); have Hown9 := Lib.hid hown9; have Hb9 := Lib.hid hb9; clear hown9 hg9 hm9 hb9))
                    go_roundw
                    case rel => exact ⟨q + 1, by omega, by go_num, by rw [HN'.out, Hm'.out]; exact Hown9.out, Hb9.out⟩
                    case measure => (simp [RowKit.intOf]) <;> omega
                  · have hsk := pick_skip (l := l) hqk
                    rw [← hsk] at hrow ⊢
                    have Hsk := Lib.hid hsk; have Hrow := Lib.hid hrow; have Hbz := Lib.hid hbz; clear hsk hrow hbz
                    by_cases hqi : q = i
                    · have t1 : ((q : Int) != (i : Int)) = false := by rw [bne_eq_false_iff_eq]; omega
                      go_wp2_with fail
                      go_roundw
                      case rel => exact ⟨q + 1, by omega, by go_num, Hrow.out, Hbz.out⟩
                      case measure => (simp [RowKit.intOf]) <;> omega
                    · have t1 : ((q : Int) != (i : Int)) = true := by rw [bne_iff_ne]; omega
                      have t2 : ((q : Int) != (k : Int)) = false := by rw [bne_eq_false_iff_eq]; omega
                      go_wp2_with fail
                      go_roundw
                      case rel => exact ⟨q + 1, by omega, by go_num, Hrow.out, Hbz.out⟩
                      case measure => (simp [RowKit.intOf]) <;> omega
                · obtain rfl : q = n := by omega
                  have hrow2 := hrow
                  rw [Hnl.out] at hrow2
                  have Hrow := Lib.hid hrow; have Hrow2 := Lib.hid hrow2; have Hbz := Lib.hid hbz; clear hrow hrow2 hbz
                  go_wp2_with fail
                  go_ret2
                  exact ⟨Hbz.out, .inl ⟨_, _, rfl, Hst.out, by have := Hrow.out; rw [Hnl.out] at this ⊢; exact this⟩⟩
            · have q1 : i < k → ok = false := fun h => by cases ok with
                | false => rfl
                | true => exact absurd ⟨h, rfl⟩ hik
              have hnx2 := Hnx.out (by rw [← Hok.out] at *; exact hik)
              have Hbc := Lib.hid hbc; have Hnx2 := Lib.hid hnx2; clear hbc hnx2
              by_cases h2 : i < k
              · obtain rfl := q1 h2
                have q2 : decide ((k : Int) ≤ (i : Int)) = false := decide_eq_false (by omega)
                go_wp2_with fail
                go_roundw
                case rel => exact ⟨k + 1, by omega, by go_num, Hnx2.out, Hbc.out⟩
                case measure => (simp [RowKit.intOf]) <;> omega
              · have q2 : decide ((k : Int) ≤ (i : Int)) = true := decide_eq_true (by omega)
                clear q1
                go_wp2_with fail
                go_roundw
                case rel => exact ⟨k + 1, by omega, by go_num, Hnx2.out, Hbc.out⟩
                case measure => (simp [RowKit.intOf]) <;> omega
        · obtain rfl : k = n := by omega
          have hnext := noneUp_next hil Hno.out (by rw [← Hx.out, ← Hnl.out]; exact hna)
          have Hna := Lib.hid hna; have Hbq := Lib.hid hbq; have Hnext := Lib.hid hnext; clear hna hbq hnext
          go_wp2_with fail
          go_roundw
          case rel => exact ⟨i + 1, by omega, by go_num, Hnext.out, Hbq.out⟩
          case measure => (simp [RowKit.intOf]) <;> omega
    · obtain rfl : i = n := by omega
      have hnm : NoMeet l := pairs_none fun a b ha hb hab => hno a b ha hb (by have := Hnl.out; omega) hab
      have Hno := Lib.hid hno; have Hbr := Lib.hid hbr; have Hnm := Lib.hid hnm; clear hno hbr hnm
      go_wp2_with fail
      go_ret2
      exact ⟨Hbr.out, .inr ⟨rfl, Hnm.out⟩⟩
end Go.Proofs.YteailgjiifdgcaaGreatDoor

/- The walk of cooperref03.behind. Condition: bounds of at most a million bytes. -/
namespace Go.Proofs.YteailgjiifdgcaaGreatDoor
open Go.RowKit Go.Lib VerN

theorem less_lt (a b : List UInt8) : lessL a b = decide (compareL a b < 0) := by
  rw [less_is]
  have := row_compare.tri a b
  exact decide_eq_decide.2 ⟨fun h => by omega, fun h => by omega⟩
set_option maxRecDepth 10000 in
set_option maxHeartbeats 1000000 in
theorem behind_any (lo hi lp hj : ByteArray) (hl : lo.size ≤ 1000000) (hl2 : lp.size ≤ 1000000) (w : World) : Calls Tryz.prog 61 #[.agg #[.string lo, .string hi], .agg #[.string lp, .string hj]] w fun e w' => e = .returned (.bool (ltLo lp.data.toList lo.data.toList)) ∧ Below w.heap.size w w' := by
  obtain ⟨W0, hW0⟩ : ∃ W0, W0 = (w.alloc (.cells #[.string lo, .string hi] 34)).alloc (.cells #[.string lp, .string hj] 34) := ⟨_, rfl⟩
  obtain ⟨nb, hnb⟩ : ∃ nb, nb = w.heap.size := ⟨_, rfl⟩
  have hw : Below w.heap.size w W0 := by rw [hW0]; exact (below_alloc1 _ _).alloc (by simp) _
  have c0 : W0.cell? ⟨nb, 0, none⟩ = some (.string lo) := by rw [hW0, hnb]; exact (pair_cells (pbox2_0 _ _ _ _ _)).1
  have d0 : W0.cell? ⟨nb + 1, 0, none⟩ = some (.string lp) := by rw [hW0, hnb]; exact (pair_cells (pbox2_1 _ _ _ _ _)).1
  have k2 : lo.toList.isEmpty = decide (lo.data.toList = []) := empty_bool lo
  have k3 : lp.toList.isEmpty = decide (lp.data.toList = []) := empty_bool lp
  have hP := calls_to hw (less1_any lp lo hl2 hl W0)
  rw [less_lt] at hP
  obtain ⟨q, hq⟩ : ∃ p, p = decide (lo.data.toList = []) := ⟨_, rfl⟩
  obtain ⟨r, hr⟩ : ∃ p, p = decide (lp.data.toList = []) := ⟨_, rfl⟩
  obtain ⟨s, hs⟩ : ∃ p, p = decide (compareL lp.data.toList lo.data.toList < 0) := ⟨_, rfl⟩
  have hv : ltLo lp.data.toList lo.data.toList = (!q && (r || s)) := by
    unfold ltLo
    rw [hq, hr, hs]
    congr 1
    by_cases h : lo.data.toList = [] <;> simp [h]
  rw [← hq] at k2
  rw [← hr] at k3
  rw [← hs] at hP
  clear hq hr hs
  have HP := Lib.hid hP; have Hw := Lib.hid hw; have Hv := Lib.hid hv; clear hP hw hv
  go_enter Tryz.func61, Tryz.ntmps61
  go_upto_region 1 with (fail)
  rw [← hW0, ← hnb]
  clear hW0 hnb
  cases q with
  | true =>
    go_wp2_with fail
    go_ret
    exact ⟨by rw [Hv.out]; rfl, Hw.out⟩
  | false =>
    cases r with
    | true =>
      go_wp2_with fail
      go_ret
      exact ⟨by rw [Hv.out]; rfl, Hw.out⟩
    | false =>
      go_wp2_with fail
      refine HP.out.mono ?_
      rintro e w1 ⟨rfl, hb1⟩
      have Hb1 := Lib.hid hb1; clear hb1
      go_wp2_with fail
      go_ret
      exact ⟨by rw [Hv.out]; rfl, Hb1.out⟩
end Go.Proofs.YteailgjiifdgcaaGreatDoor

/- Plain facts: an element is put behind the last one that does not stand behind it. No condition. -/
namespace Go.Proofs.YteailgjiifdgcaaGreatDoor
open SortM

theorem ins_split {α : Type} {lt : α → α → Bool} (x : α) : ∀ (p q : List α), (∀ y ∈ p, lt x y = false) → (∀ y ∈ q, lt x y = true) → ins lt x (p ++ q) = p ++ x :: q
  | [], [], _, _ => rfl
  | [], y :: r, _, hq => by
    show ins lt x (y :: r) = x :: y :: r
    unfold ins
    rw [if_pos (hq y (by simp))]
  | y :: p, q, hp, hq => by
    show ins lt x (y :: (p ++ q)) = y :: (p ++ x :: q)
    unfold ins
    rw [if_neg (by rw [hp y (by simp)]; simp), ins_split x p q (fun z hz => hp z (by simp [hz])) hq]
/-- one round of the law's own loop -/
theorem ins_round {α : Type} {lt : α → α → Bool} (h : Swo lt) {x : α} {l : List α} (hl : Sorted lt l) {at_ : Nat} (hat : at_ ≤ l.length) (hq : ∀ i (hi : i < l.length), at_ ≤ i → lt x l[i] = true) (hp : ∀ h0 : 0 < at_, lt x (l[at_ - 1]'(by omega)) = false) :
    ins lt x l = l.take at_ ++ x :: l.drop at_ := by
  have e := ins_split (lt := lt) x (l.take at_) (l.drop at_) ?_ ?_
  · rw [List.take_append_drop] at e
    exact e
  · intro y hy
    obtain ⟨i, hi, rfl⟩ := List.mem_iff_getElem.1 hy
    rw [List.length_take] at hi
    rw [List.getElem_take]
    have hpos : 0 < at_ := by omega
    have h1 := hp hpos
    by_cases he : i = at_ - 1
    · subst he; exact h1
    · have h2 := List.pairwise_iff_getElem.1 hl i (at_ - 1) (by omega) (by omega) (by omega)
      exact h.ntrans _ _ _ h2 h1
  · intro y hy
    obtain ⟨i, hi, rfl⟩ := List.mem_iff_getElem.1 hy
    rw [List.length_drop] at hi
    rw [List.getElem_drop]
    exact hq _ (by omega) (by omega)
end Go.Proofs.YteailgjiifdgcaaGreatDoor

/- The walk of cooperref03.Form. Condition: at most two thousand spans of bounds of at most 9000 bytes. -/
namespace Go.Proofs.YteailgjiifdgcaaGreatDoor
open Go.Shelf Go.RowKit Go.Lib Go.Sort SortM VerN

theorem own_cap2 {w : World} {B : Nat} {e : TypeId} {size g n cap : Nat} {xs : List Value} (h : w.ownsRow B e size (.slice (some ⟨g, 0, none⟩) n cap) n xs) : n ≤ cap := by
  rcases h.2 with ⟨e0, _⟩ | ⟨g', cap', cur, e0, _, _, hn, _⟩
  · cases e0
  · injection e0 with _ _ e3
    omega
theorem own_shape_pos {w : World} {B : Nat} {e : TypeId} {size : Nat} {v : Value} {n : Nat} {xs : List Value} (h : w.ownsRow B e size v n xs) (hn : 0 < n) : ∃ g cap, v = .slice (some ⟨g, 0, none⟩) n cap := by
  rcases h.2 with ⟨h1, h2⟩ | ⟨g, cap, _, h1, _⟩
  · omega
  · exact ⟨_, cap, h1⟩
theorem ins_span (l : List Tp) (x : Tp) : sortSp (l ++ [x]) = ins (Go.Proofs.ltOf cfSp) x (sortSp l) := ssort_snoc l x
theorem sorted_span (l : List Tp) : Sorted (Go.Proofs.ltOf cfSp) (sortSp l) := ssort_sorted swoSp l
/-- the row behind k rounds -/
def InsI (w2 : World) (l : List Tp) (k : Nat) (v : Value) (W : World) : Prop := ∃ g c, v = .slice (some ⟨g, 0, none⟩) k c ∧ W.ownsRow w2.heap.size 34 2 v k ((tB (sortSp (l.take k))).flatMap spCells) ∧ Below w2.heap.size w2 W
theorem insI_step {w2 wr W V : World} {l : List Tp} {k M g n c : Nat} {P : List Tp} {x : Tp} {x1 x2 : ByteArray} {T1 T2 : List Value} (hk : k < l.length) (hx : x = l[k]) (hP : P = sortSp (l.take k)) (hR : ins (Go.Proofs.ltOf cfSp) x P = P.take M ++ x :: P.drop M) (hx1 : x1 = x.1.1) (hx2 : x2 = x.1.2) (hT1 : T1 = (tB (P.take M)).flatMap spCells) (hT2 : T2 = (tB (P.drop M)).flatMap spCells) (hbr : Below w2.heap.size w2 wr) (hb9 : Below wr.heap.size wr W) (hb11 : Below W.heap.size W V) (hown : V.ownsRow W.heap.size 34 2 (.slice (some ⟨g, 0, none⟩) n c) n (T1 ++ [.string x1, .string x2] ++ T2)) (hn : n = k + 1) : InsI w2 l (k + 1) (.slice (some ⟨g, 0, none⟩) n c) V := by
  subst hn
  have hrW : Below w2.heap.size w2 W := hbr.trans (hb9.mono hbr.size)
  refine ⟨g, c, rfl, ?_, hrW.trans (hb11.mono hrW.size)⟩
  have e : l.take (k + 1) = l.take k ++ [x] := by rw [hx]; exact (List.take_append_getElem hk).symm
  rw [e, ins_span, ← hP, hR]
  have h := ownsRow_mono hown hrW.size
  have e2 : (tB (P.take M ++ x :: P.drop M)).flatMap spCells = T1 ++ [.string x1, .string x2] ++ T2 := by
    rw [hT1, hT2, hx1, hx2]
    unfold tB
    rw [List.map_append, List.flatMap_append, List.map_cons, List.flatMap_cons, List.append_assoc]
    rfl
  rw [e2]
  exact h
def slLen : Value → Nat
  | .slice _ n _ => n
  | _ => 0
def boN : Value → Nat
  | .bool true => 1
  | _ => 0
def RefFormPost (l : List Tp) (w : World) (e : Ending) (w' : World) : Prop :=
  ∃ o, e = .returned (.tuple #[o, .bool (formOk l)]) ∧ (formOk l = true → w'.ownsRow w.heap.size 34 2 o (formB l).length ((formB l).flatMap spCells)) ∧ Below w.heap.size w w'
theorem refForm_no {l : List Tp} {w w' : World} {o : Value} (h : formOk l = false) (hb : Below w.heap.size w w') : RefFormPost l w (.returned (.tuple #[o, .bool false])) w' :=
  ⟨_, by rw [h], (fun k => by rw [h] at k; cases k), hb⟩
/-- what is left when two that meet are put together, again and again -/
structure Left (l L : List Tp) : Prop where
  may : mayT L
  cov : ∀ p, covT L p ↔ covT l p
  len : L.length ≤ l.length
theorem Left.step {l L M : List Tp} (h : Left l L) (hs : MStep L M) : Left l M ∧ M.length < L.length := by
  obtain ⟨h1, h2, h3⟩ := step_facts h.may hs
  exact ⟨⟨h1, fun p => (h2 p).trans (h.cov p), by have := h.len; omega⟩, by omega⟩
theorem formOk_of {l : List Tp} (h : allMay (tB l) = true) {L : List Tp} (hf : formB l = tB (sortSp L)) : formOk l = decide (L.length ≤ 16) := by
  unfold formOk
  rw [h, hf, List.length_map, (sortSp_perm L).length_eq]
  rfl
theorem ltOf_behind (x y : Tp) : ltLo x.1.1.data.toList y.1.1.data.toList = Go.Proofs.ltOf cfSp x y := (ltSp x y).symm
set_option linter.unusedSimpArgs false in
set_option maxRecDepth 10000 in
set_option maxHeartbeats 40000000 in
theorem refForm_any {w : World} {v : Value} {l : List Tp} (h : RSps w [v] (tB l)) (hl : l.length ≤ 2000) : Calls Tryz.prog 21 #[v] w (RefFormPost l w) := by
  have hat0 := fun a c (e : v = .slice a (tB l).length c) => sps_at (by rw [← e]; exact h)
  obtain ⟨a, cap, rfl⟩ := sps_shape h
  have hat := hat0 a cap rfl
  clear hat0
  obtain ⟨n, hn⟩ : ∃ n, n = (tB l).length := ⟨_, rfl⟩
  have hnl : n = l.length := by rw [hn, List.length_map]
  rw [← hn] at h ⊢
  have hn1 : n ≤ 2000 := by omega
  have Hh := Lib.hid h; have Hn := Lib.hid hn; have Hnl := Lib.hid hnl; have Hat := Lib.hid hat; clear h hn hnl hat
  go_enter Tryz.func21, Tryz.ntmps21
  go_wp2_with fail
  go_loopw [12] (fun i wr => ∃ k : Nat, k ≤ n ∧ i = .int .i64 k ∧ mayT (l.take k) ∧ Below w.heap.size w wr) (fun i _ => n - (RowKit.intOf i).toNat)
  case atStart => exact ⟨0, Nat.zero_le _, rfl, (fun s hs => by simp at hs), Below.refl _ _⟩
  case round =>
    obtain ⟨k, hk, rfl, hmay, hbr⟩ := hrel
    by_cases hlt : k < n
    · have hkl : k < l.length := by have := Hnl.out; omega
      obtain ⟨y, hy⟩ : ∃ y, y = l[k] := ⟨_, rfl⟩
      obtain ⟨b, off, rfl, c0, c1⟩ := Hat.out k y.1 (by rw [hy, List.getElem?_map, List.getElem?_eq_getElem hkl]; rfl)
      have d0 := cell_later hbr c0
      have d1 := cell_later hbr c1
      have hys := y.2
      have hM := refMay2_any y.1.1 y.1.2 (by omega) (by omega) wr
      obtain ⟨r, hr⟩ : ∃ b, b = mayS (dS y.1) := ⟨_, rfl⟩
      have hr2 : mayS (y.1.1.data.toList, y.1.2.data.toList) = r := hr.symm
      rw [hr2] at hM
      have hnx : r = true → mayT (l.take (k + 1)) := fun h s hs => by
        rw [List.take_succ_eq_append_getElem hkl] at hs
        rcases List.mem_append.1 hs with hs | hs
        · exact hmay s hs
        · rw [List.mem_singleton.1 hs, ← hy, ← hr]; exact h
      have hno : r = false → formOk l = false := fun h => by
        unfold formOk
        cases ha : allMay (tB l) with
        | false => rfl
        | true =>
          have h9 := mayT_iff.2 ha y (by rw [hy]; exact List.getElem_mem _)
          rw [← hr, h] at h9
          cases h9
      obtain ⟨y1, hy1⟩ : ∃ s, s = y.1.1 := ⟨_, rfl⟩
      obtain ⟨y2, hy2⟩ : ∃ s, s = y.1.2 := ⟨_, rfl⟩
      rw [← hy1] at d0
      rw [← hy2] at d1
      rw [← hy1, ← hy2] at hM
      have k5 : (0 : Int) ≤ (k : Int) := by omega
      have k6 : (k : Int) < (n : Int) := by omega
      clear c0 c1 hr2
      cases r with
      | true =>
        have hnx := hnx rfl
        have Hmay := Lib.hid hmay; have Hbr := Lib.hid hbr; have Hy := Lib.hid hy; have Hys := Lib.hid hys; have HM := Lib.hid hM; have Hr := Lib.hid hr; have Hnx := Lib.hid hnx; have Hno := Lib.hid hno; have Hy1 := Lib.hid hy1; have Hy2 := Lib.hid hy2; clear hmay hbr hy hys hM hr hnx hno hy1 hy2
        go_wp2_with fail
        refine HM.out.mono ?_
        rintro e w5 ⟨rfl, hb5⟩
        have hbw := Hbr.out.trans (hb5.mono Hbr.out.size)
        have Hb5 := Lib.hid hb5; have Hbw := Lib.hid hbw; clear hb5 hbw
        go_wp2_with fail
        go_roundw
        case rel => exact ⟨k + 1, by omega, by go_num, Hnx.out, Hbw.out⟩
        case measure => (simp [RowKit.intOf]) <;> omega
      | false =>
        have hno := hno rfl
        have Hmay := Lib.hid hmay; have Hbr := Lib.hid hbr; have Hy := Lib.hid hy; have Hys := Lib.hid hys; have HM := Lib.hid hM; have Hr := Lib.hid hr; have Hnx := Lib.hid hnx; have Hno := Lib.hid hno; have Hy1 := Lib.hid hy1; have Hy2 := Lib.hid hy2; clear hmay hbr hy hys hM hr hnx hno hy1 hy2
        go_wp2_with fail
        refine HM.out.mono ?_
        rintro e w5 ⟨rfl, hb5⟩
        have hbw := Hbr.out.trans (hb5.mono Hbr.out.size)
        have hbw2 := hbw.alloc hbw.size (.cells #[] 34)
        have Hb5 := Lib.hid hb5; have Hbw := Lib.hid hbw; have Hbw2 := Lib.hid hbw2; clear hb5 hbw hbw2
        go_wp2_with fail
        go_ret2
        exact refForm_no Hno.out Hbw2.out
    · obtain rfl : k = n := by omega
      rw [List.take_of_length_le (Nat.le_of_eq Hnl.out.symm)] at hmay
      have hal : allMay (tB l) = true := mayT_iff.1 hmay
      have hrd := stays_slice stays_spn _ _ _ _ Hh.out hbr
      have hl0 : Left l l := ⟨hmay, fun _ => Iff.rfl, Nat.le_refl _⟩
      have Hmay := Lib.hid hmay; have Hbr := Lib.hid hbr; have Hal := Lib.hid hal; have Hrd := Lib.hid hrd; have Hl0 := Lib.hid hl0; clear hmay hbr hal hrd hl0
      go_wp2_with fail
      go_loopw [0, 5] (fun v m wq => ∃ (L : List Tp) (b : Bool), m = .bool b ∧ RSps wq [v] (tB L) ∧ Left l L ∧ (b = false → NoMeet L) ∧ Below w.heap.size w wq) (fun v m _ => 2 * slLen v + boN m)
      case atStart => exact ⟨l, true, rfl, Hrd.out, Hl0.out, (fun h => by cases h), Hbr.out⟩
      case round =>
        obtain ⟨L, b, rfl, hrd, hleft, hnm, hbq⟩ := hrel
        obtain ⟨La, Lc, rfl⟩ := sps_shape hrd
        have hLl : L.length ≤ 2000 := by have := hleft.len; omega
        cases b with
        | true =>
          have hME := refMerged_any hrd hleft.may hLl
          have hln : (tB L).length = L.length := List.length_map _
          obtain ⟨M, hM⟩ : ∃ M, M = (tB L).length := ⟨_, rfl⟩
          rw [← hM] at hrd hME hln ⊢
          have Hrd := Lib.hid hrd; have Hleft := Lib.hid hleft; have Hnm := Lib.hid hnm; have Hbq := Lib.hid hbq; have HME := Lib.hid hME; have Hln := Lib.hid hln; have HM := Lib.hid hM; clear hrd hleft hnm hbq hME hln hM
          go_wp2_with fail
          refine HME.out.mono ?_
          intro e w5 hpost
          obtain ⟨hb5, hpost⟩ := hpost
          rcases hpost with ⟨o, L', rfl, hst, ho⟩ | ⟨rfl, hnm2⟩
          · obtain ⟨hl2, hlt2⟩ := Hleft.out.step hst
            have hbw := Hbq.out.trans (hb5.mono Hbq.out.size)
            have hrd2 : RSps w5 [o] (tB L') := sps_reads (fun x hx => by have := smallB_tB L' x hx; unfold maxLen; omega) (by rw [List.length_map]; exact ho)
            obtain ⟨oa, oc, rfl⟩ := own_shape ho
            have Hst := Lib.hid hst; have Ho := Lib.hid ho; have Hb5 := Lib.hid hb5; have Hl2 := Lib.hid hl2; have Hlt2 := Lib.hid hlt2; have Hbw := Lib.hid hbw; have Hrd2 := Lib.hid hrd2; clear hst ho hb5 hl2 hlt2 hbw hrd2
            go_wp2_with fail
            go_roundw
            case rel => exact ⟨L', true, rfl, Hrd2.out, Hl2.out, (fun h => by cases h), Hbw.out⟩
            case measure => have := Hln.out; have := Hlt2.out; simp [slLen, boN]; omega
          · have hbw := Hbq.out.trans (hb5.mono Hbq.out.size)
            have hrd2 := stays_slice stays_spn _ _ _ _ Hrd.out hb5
            have Hnm2 := Lib.hid hnm2; have Hb5 := Lib.hid hb5; have Hbw := Lib.hid hbw; have Hrd2 := Lib.hid hrd2; clear hnm2 hb5 hbw hrd2
            go_wp2_with fail
            go_roundw
            case rel => exact ⟨L, false, rfl, Hrd2.out, Hleft.out, (fun _ => Hnm2.out), Hbw.out⟩
            case measure => simp [slLen, boN]
        | false =>
          have hf := refForm_is Hmay.out hleft.may hleft.cov (hnm rfl)
          have hfo := formOk_of Hal.out hf
          have hatL := sps_at hrd
          obtain ⟨w2, hw2⟩ : ∃ w2, w2 = wr := ⟨_, rfl⟩
          obtain ⟨m, hm⟩ : ∃ m, m = (tB L).length := ⟨_, rfl⟩
          have hml : m = L.length := by rw [hm, List.length_map]
          have hm1 : m ≤ 2000 := by omega
          rw [← hm] at hrd ⊢
          rw [← hw2] at hatL hbq hrd ⊢
          have hst : InsI w2 L 0 (.slice (some ⟨w2.heap.size, 0, none⟩) 0 0) (w2.alloc (.cells #[] 34)) := ⟨_, _, rfl, lit_sps (Nat.le_refl _), below_alloc1 _ _⟩
          have Hrd := Lib.hid hrd; have Hleft := Lib.hid hleft; have Hnm := Lib.hid hnm; have Hbq := Lib.hid hbq; have Hf := Lib.hid hf; have Hfo := Lib.hid hfo; have HatL := Lib.hid hatL; have Hm := Lib.hid hm; have Hml := Lib.hid hml; have Hst := Lib.hid hst; clear hrd hleft hnm hbq hf hfo hatL hm hml hst
          clear hw2
          go_wp2_with fail
          go_loopw [6, 32] (fun v i wr => ∃ k : Nat, k ≤ m ∧ i = .int .i64 k ∧ InsI w2 L k v wr) (fun _ i _ => m - (RowKit.intOf i).toNat)
          case atStart => exact ⟨0, Nat.zero_le _, rfl, Hst.out⟩
          case round =>
            obtain ⟨k, hk, rfl, gw, cw, rfl, hrow, hbr⟩ := hrel
            obtain ⟨wo, hwo⟩ : ∃ W, W = wr := ⟨_, rfl⟩
            rw [← hwo] at hrow hbr ⊢
            clear hwo
            by_cases hlt : k < m
            · have hkl : k < L.length := by have := Hml.out; omega
              obtain ⟨x, hx⟩ : ∃ x, x = L[k] := ⟨_, rfl⟩
              obtain ⟨b, off, rfl, f0, f1⟩ := HatL.out k x.1 (by rw [hx, List.getElem?_map, List.getElem?_eq_getElem hkl]; rfl)
              have f0 := cell_later hbr f0
              have f1 := cell_later hbr f1
              obtain ⟨P, hP⟩ : ∃ P, P = sortSp (L.take k) := ⟨_, rfl⟩
              have hPl : P.length = k := by rw [hP, (sortSp_perm _).length_eq, List.length_take]; omega
              have hPs : Sorted (Go.Proofs.ltOf cfSp) P := by rw [hP]; exact sorted_span _
              rw [← hP] at hrow
              have k5 : (0 : Int) ≤ (k : Int) := by omega
              have k6 : (k : Int) < (m : Int) := by omega
              have hcell : ∀ j u, ((tB P).flatMap spCells)[j]? = some u → wo.cell? ⟨gw, j, none⟩ = some u := fun j u hu => by
                have := hrow.cells (g := gw) rfl j u hu
                rw [Addr.add_lit, Nat.zero_add] at this
                exact this
              have hxs := x.2
              obtain ⟨x1, hx1⟩ : ∃ s, s = x.1.1 := ⟨_, rfl⟩
              obtain ⟨x2, hx2⟩ : ∃ s, s = x.1.2 := ⟨_, rfl⟩
              rw [← hx1] at f0
              rw [← hx2] at f1
              have Hx := Lib.hid hx; have HP := Lib.hid hP; have HPl := Lib.hid hPl; have HPs := Lib.hid hPs; have Hrow := Lib.hid hrow; have Hbr := Lib.hid hbr; have Hcell := Lib.hid hcell; have Hxs := Lib.hid hxs; have Hx1 := Lib.hid hx1; have Hx2 := Lib.hid hx2; have Hf0 := Lib.hid f0; have Hf1 := Lib.hid f1; clear hx hP hPl hPs hrow hbr hcell hxs hx1 hx2 f0 f1
              go_wp2_with fail
              go_loopw [8] (fun v wq => ∃ q : Nat, q ≤ k ∧ v = .int .i64 q ∧ (∀ i (hi : i < P.length), q ≤ i → Go.Proofs.ltOf cfSp x P[i] = true) ∧ Below wo.heap.size wo wq) (fun v _ => (RowKit.intOf v).toNat)
              case atStart => exact ⟨k, Nat.le_refl _, rfl, (fun i hi h => by have := HPl.out; omega), Below.refl _ _⟩
              case round =>
                obtain ⟨q, hq, rfl, hall, hbq⟩ := hrel
                by_cases hq0 : 0 < q
                · obtain ⟨p, rfl⟩ : ∃ p, q = p + 1 := ⟨q - 1, by omega⟩
                  have hpl : p < P.length := by have := HPl.out; omega
                  obtain ⟨y, hy⟩ : ∃ y, y = P[p] := ⟨_, rfl⟩
                  have hyt : (tB P)[p]'(by rw [List.length_map]; exact hpl) = y.1 := by rw [hy]; exact List.getElem_map _
                  have hyc := sps_flat (tB P) p (by rw [List.length_map]; exact hpl)
                  rw [hyt] at hyc
                  have d2 := Hcell.out _ _ ((hyc 0 (by decide)).trans (show (spCells y.1)[0]? = some (Value.string y.1.1) from rfl))
                  have d3 := Hcell.out _ _ ((hyc 1 (by decide)).trans (show (spCells y.1)[1]? = some (Value.string y.1.2) from rfl))
                  have hys := y.2
                  have hcf : ∀ W, Below wo.heap.size wo W → W.cell? ⟨gw, p * 2, none⟩ = some (.string y.1.1) ∧ W.cell? ⟨gw, p * 2 + 1, none⟩ = some (.string y.1.2) ∧ W.cell? ⟨b, off + k * 2, none⟩ = some (.string x1) ∧ W.cell? ⟨b, off + k * 2 + 1, none⟩ = some (.string x2) :=
                    fun W hW => ⟨cell_later hW d2, cell_later hW d3, cell_later hW Hf0.out, cell_later hW Hf1.out⟩
                  have hL := fun (W : World) (_ : Below wo.heap.size wo W) => behind_any y.1.1 y.1.2 x1 x2 (by omega) (by rw [Hx1.out]; have := Hxs.out; omega) W
                  have hle : ltLo x1.data.toList y.1.1.data.toList = Go.Proofs.ltOf cfSp x y := by rw [Hx1.out]; exact ltOf_behind x y
                  rw [hle] at hL
                  obtain ⟨y1, hy1⟩ : ∃ s, s = y.1.1 := ⟨_, rfl⟩
                  obtain ⟨y2, hy2⟩ : ∃ s, s = y.1.2 := ⟨_, rfl⟩
                  rw [← hy1, ← hy2] at hL
                  simp only [← hy1, ← hy2] at hcf
                  have u2 : IntKind.i64.wrap ((p : Int) + 1 - 1) = (p : Int) := by rw [IntWalk.i64_in _ (by omega)]; omega
                  have u3 : IntKind.i64.wrap (p : Int) = (p : Int) := IntWalk.i64_in _ (by omega)
                  have v1 : decide ((0 : Int) < (p : Int) + 1) = true := decide_eq_true (by omega)
                  have v2 : (0 : Int) < (p : Int) + 1 := by omega
                  have v3 : (p : Int) < (k : Int) := by omega
                  have v4 : (0 : Int) ≤ (p : Int) := by omega
                  obtain ⟨r, hr⟩ : ∃ r, r = Go.Proofs.ltOf cfSp x y := ⟨_, rfl⟩
                  rw [← hr] at hL
                  have hbz := bel_drewN (Below.refl wr.heap.size wr) 1
                  have hcz := hcf _ (hbq.trans (hbz.mono hbq.size))
                  clear hle d2 d3 hyc hyt
                  have hnx : r = true → ∀ i (hi : i < P.length), p ≤ i → Go.Proofs.ltOf cfSp x P[i] = true := fun h i hi hpi => by
                    by_cases e : i = p
                    · subst e; rw [← hy, ← hr]; exact h
                    · exact hall i hi (by omega)
                  have hR : r = false → _ := fun h => ins_round swoSp (x := x) HPs.out (at_ := p + 1) (by have := HPl.out; omega) hall (fun _ => by rw [show P[p + 1 - 1]'(by have := HPl.out; omega) = y by rw [hy]; rfl, ← hr]; exact h)
                  have Hall := Lib.hid hall; have Hbq := Lib.hid hbq; have HL := Lib.hid hL; have Hy := Lib.hid hy; have Hys := Lib.hid hys; have Hr := Lib.hid hr; have Hy1 := Lib.hid hy1; have Hy2 := Lib.hid hy2; have Hnx := Lib.hid hnx; have HR := Lib.hid hR; clear hall hbq hL hy hys hr hy1 hy2 hnx hR
                  have Hcz := Lib.hid hcf
                  clear hcf
                  go_upto_region 15 with (fail)
                  go_region_held3 (fun w' => w'.cell? ⟨gw, p * 2, none⟩ = some (.string y1) ∧ w'.cell? ⟨gw, p * 2 + 1, none⟩ = some (.string y2) ∧ w'.cell? ⟨b, off + k * 2, none⟩ = some (.string x1) ∧ w'.cell? ⟨b, off + k * 2 + 1, none⟩ = some (.string x2)) (first | exact hcz | go_keep) (first | (go_at_call 61; refine (HL.out _ (by exact Hbq.out.trans (hbz.mono Hbq.out.size))).mono ?_; rintro e wz ⟨rfl, hsz⟩; replace hbz := hbz.trans (hsz.mono hbz.size); replace hcz := Hcz.out _ (Hbq.out.trans (hbz.mono Hbq.out.size))))
                  have hb9 := Hbq.out.trans (hbz.mono Hbq.out.size)
                  cases r with
                  | true =>
                    have hnx2 := Hnx.out rfl
                    have Hb9 := Lib.hid hb9; have Hnx2 := Lib.hid hnx2; clear hb9 hnx2
                    go_wp2_with fail
                    go_roundw
                    case rel => exact ⟨p, by omega, by go_num, Hnx2.out, Hb9.out⟩
                    case measure => (simp [RowKit.intOf]) <;> omega
                  | false =>
                    have hR := HR.out rfl
                    clear HR
                    have Hb9 := Lib.hid hb9; have HR := Lib.hid hR; clear hb9 hR
                    go_upto_region 18 with (fail)
                    obtain ⟨T1, hT1⟩ : ∃ T, T = (tB (P.take (p + 1))).flatMap spCells := ⟨_, rfl⟩
                    obtain ⟨T2, hT2⟩ : ∃ T, T = (tB (P.drop (p + 1))).flatMap spCells := ⟨_, rfl⟩
                    have hM : p + 1 ≤ P.length := by have := HPl.out; omega
                    have hl1 : T1.length = (p + 1) * 2 := by have := HPl.out; rw [hT1, spsFlat_len, List.length_map, List.length_take]; omega
                    have hl2 : T2.length = (k - (p + 1)) * 2 := by have := HPl.out; rw [hT2, spsFlat_len, List.length_map, List.length_drop]; omega
                    have hN12 : (tB P).flatMap spCells = T1 ++ T2 := by rw [hT1, hT2, ← List.flatMap_append, tB, tB, ← List.map_append, List.take_append_drop]
                    have hone1 : ∀ u ∈ T1, u.oneCell' = true := by rw [hT1]; exact sps_one _
                    have hone2 : ∀ u ∈ T2, u.oneCell' = true := by rw [hT2]; exact sps_one _
                    have hc1 : ∀ V, Below wz.heap.size wz V → ∀ j u, T1[j]? = some u → ∃ b off, some (⟨gw, 0, none⟩ : Addr) = some ⟨b, off, none⟩ ∧ V.cell? ⟨b, off + j, none⟩ = some u := fun V hV j u hu => by
                      have hj := (List.getElem?_eq_some_iff.1 hu).1
                      exact ⟨gw, 0, rfl, by rw [Nat.zero_add]; exact cell_later hV (cell_later Hb9.out (Hcell.out j u (by rw [hN12, List.getElem?_append_left hj]; exact hu)))⟩
                    have hc2 : ∀ V, Below wz.heap.size wz V → ∀ j u, T2[j]? = some u → ∃ b off, some (⟨gw, (p + 1) * 2, none⟩ : Addr) = some ⟨b, off, none⟩ ∧ V.cell? ⟨b, off + j, none⟩ = some u := fun V hV j u hu =>
                      ⟨gw, (p + 1) * 2, rfl, cell_later hV (cell_later Hb9.out (Hcell.out _ u (by rw [hN12, List.getElem?_append_right (by omega), show (p + 1) * 2 + j - T1.length = j by omega]; exact hu)))⟩
                    have hlit1 := lit_sps (w := wz) (B := wz.heap.size) (Nat.le_refl _)
                    have hba1 : Below wz.heap.size wz (wz.alloc (.cells #[] 34)) := below_alloc1 _ _
                    have hc10 := hc1 _ hba1
                    have hMk : p + 1 ≤ k := by have := HPl.out; omega
                    have hMi : (p : Int) + 1 ≤ (cw : Int) := by have := own_cap2 Hrow.out; omega
                    have hMt : ((p : Int) + 1).toNat = p + 1 := by omega
                    have hM0 : (0 : Int) ≤ (p : Int) + 1 := by omega
                    have HT1 := Lib.hid hT1; have HT2 := Lib.hid hT2; have HM := Lib.hid hM; have Hl1 := Lib.hid hl1; have Hl2 := Lib.hid hl2; have HN12 := Lib.hid hN12; have Hone1 := Lib.hid hone1; have Hone2 := Lib.hid hone2; have Hc1 := Lib.hid hc1; have Hc2 := Lib.hid hc2; have Hlit1 := Lib.hid hlit1; have Hba1 := Lib.hid hba1; have Hc10 := Lib.hid hc10; clear hT1 hT2 hM hl1 hl2 hN12 hone1 hone2 hc1 hc2 hlit1 hba1 hc10
                    go_upto_region 19 with (at_builtin; (refine wpList_append_from elem_spn rfl (.tmp 54) (.tmp 57) rfl wz.heap.size (.slice (some ⟨wz.heap.size, 0, none⟩) 0 0) 0 [] rfl Hlit1.out (some ⟨gw, 0, none⟩) (p + 1) cw T1 rfl Hl1.out Hc10.out Hone1.out (by omega) (by unfold maxLen; omega) (by simp) ?_; intro v7 w7 hown7 hg7 hm7; obtain ⟨a7, c7, rfl⟩ := own_shape hown7; have hb7 := (bel_own Hba1.out Hlit1.out (Nat.le_refl _) hg7 (by have := Hba1.out.size; omega) : Below wz.heap.size wz w7); have Hown7 := Lib.hid hown7; have Hb7 := Lib.hid hb7; clear hown7 hg7 hm7 hb7))
                    have hown8 : w7.ownsRow wz.heap.size 34 2 (.slice a7 (p + 1) c7) (p + 1) T1 := by simpa using Hown7.out
                    obtain ⟨N8, hN8⟩ : ∃ x, x = p + 1 := ⟨_, rfl⟩
                    rw [← hN8] at hown8
                    rw [← hN8]
                    have hN8' : N8 ≤ 2000 := by omega
                    clear Hown7
                    have hz7 := Hb7.out.size
                    have f2 := cell_later (Hb9.out.trans (Hb7.out.mono Hb9.out.size)) Hf0.out
                    have f3 := cell_later (Hb9.out.trans (Hb7.out.mono Hb9.out.size)) Hf1.out
                    have Hown8 := Lib.hid hown8; have HN8 := Lib.hid hN8; clear hown8 hN8
                    go_upto_region 20 with (at_builtin; (refine wpList_append_lit elem_spn rfl (.tmp 59) (.tmp 64) rfl wz.heap.size (.slice a7 N8 c7) N8 T1 rfl Hown8.out 1 #[.string x1, .string x2] rfl rfl (by simp [Value.oneCell']) (by omega) (by unfold maxLen; omega) (by omega) ?_; intro v9 w9 hown9 hg9 hm9; obtain ⟨a9, c9, rfl⟩ := own_shape hown9; have hb19 := (bel_own Hb7.out Hown8.out (Nat.le_refl _) hg9 (by have := Hb7.out.size; omega) : Below wz.heap.size wz w9); have Hown9 := Lib.hid hown9; have Hb19 := Lib.hid hb19; clear hown9 hg9 hm9 hb19))
                    by_cases hcc : p + 1 < cw
                    · have hcd : decide ((p : Int) + 1 < (cw : Int)) = true := decide_eq_true (by omega)
                      have hcd2 : (p : Int) + 1 ≤ (k : Int) := by omega
                      go_upto_region 21 with (at_builtin; (refine wpList_append_from elem_spn rfl (.tmp 66) (.tmp 69) rfl wz.heap.size (.slice a9 (N8 + 1) c9) (N8 + 1) (T1 ++ [.string x1, .string x2]) rfl Hown9.out (some ⟨gw, (p + 1) * 2, none⟩) (k - (p + 1)) (cw - (p + 1)) T2 rfl Hl2.out (Hc2.out _ Hb19.out) Hone2.out (by omega) (by unfold maxLen; omega) (by have := Hb19.out.size; omega) ?_; intro v11 w11 hown11 hg11 hm11; obtain ⟨a11, c11, rfl⟩ := own_shape_pos hown11 (by omega); have hb11 := (bel_own Hb19.out Hown9.out (Nat.le_refl _) hg11 (by have := Hb19.out.size; omega) : Below wz.heap.size wz w11); have Hown11 := Lib.hid hown11; have Hb11 := Lib.hid hb11; clear hown11 hg11 hm11 hb11))
                      go_wp2_with fail
                      go_roundw
                      case rel => exact ⟨k + 1, by omega, by go_num, insI_step hkl Hx.out HP.out HR.out Hx1.out Hx2.out HT1.out HT2.out Hbr.out Hb9.out Hb11.out Hown11.out (by have := HN8.out; omega)⟩
                      case measure => (simp [RowKit.intOf]) <;> omega
                    · have hcd : decide ((p : Int) + 1 < (cw : Int)) = false := decide_eq_false (by omega)
                      have hcd2 : (p : Int) + 1 ≤ (k : Int) := by omega
                      have hkc := own_cap2 Hrow.out
                      have hT0 : T2 = [] := List.eq_nil_of_length_eq_zero (by have := Hl2.out; omega)
                      have hc3 : ∀ V : World, ∀ j u, T2[j]? = some u → ∃ b off, some (⟨gw, 0, none⟩ : Addr) = some ⟨b, off, none⟩ ∧ V.cell? ⟨b, off + j, none⟩ = some u := fun V j u hu => by rw [hT0] at hu; simp at hu
                      have HT0 := Lib.hid hT0; have Hc3 := Lib.hid hc3; clear hT0 hc3
                      go_upto_region 21 with (at_builtin; (refine wpList_append_from elem_spn rfl (.tmp 66) (.tmp 69) rfl wz.heap.size (.slice a9 (N8 + 1) c9) (N8 + 1) (T1 ++ [.string x1, .string x2]) rfl Hown9.out (some ⟨gw, 0, none⟩) (k - (p + 1)) (cw - (p + 1)) T2 rfl Hl2.out (Hc3.out w9) Hone2.out (by omega) (by unfold maxLen; omega) (by have := Hb19.out.size; omega) ?_; intro v11 w11 hown11 hg11 hm11; obtain ⟨a11, c11, rfl⟩ := own_shape_pos hown11 (by omega); have hb11 := (bel_own Hb19.out Hown9.out (Nat.le_refl _) hg11 (by have := Hb19.out.size; omega) : Below wz.heap.size wz w11); have Hown11 := Lib.hid hown11; have Hb11 := Lib.hid hb11; clear hown11 hg11 hm11 hb11))
                      go_wp2_with fail
                      go_roundw
                      case rel => exact ⟨k + 1, by omega, by go_num, insI_step hkl Hx.out HP.out HR.out Hx1.out Hx2.out HT1.out HT2.out Hbr.out Hb9.out Hb11.out Hown11.out (by have := HN8.out; omega)⟩
                      case measure => (simp [RowKit.intOf]) <;> omega
                · obtain rfl : q = 0 := by omega
                  have hR := ins_round swoSp (x := x) HPs.out (at_ := 0) (Nat.zero_le _) hall (fun h => absurd h (Nat.lt_irrefl 0))
                  have v1 : decide ((0 : Int) < ((0 : Nat) : Int)) = false := by simp
                  have Hall := Lib.hid hall; have Hbq := Lib.hid hbq; have HR := Lib.hid hR; clear hall hbq hR
                  go_upto_region 15 with (fail)
                  go_quiet (fail)
                  obtain ⟨wz, hwz⟩ : ∃ W, W = wr.drewN nq := ⟨_, rfl⟩
                  have hb9 : Below wo.heap.size wo wz := by rw [hwz]; exact bel_drewN Hbq.out nq
                  rw [← hwz]
                  have Hb9 := Lib.hid hb9; clear hb9
                  clear hwz
                  go_upto_region 18 with (fail)
                  obtain ⟨T1, hT1⟩ : ∃ T, T = (tB (P.take (0))).flatMap spCells := ⟨_, rfl⟩
                  obtain ⟨T2, hT2⟩ : ∃ T, T = (tB (P.drop (0))).flatMap spCells := ⟨_, rfl⟩
                  have hM : 0 ≤ P.length := by have := HPl.out; omega
                  have hl1 : T1.length = (0) * 2 := by have := HPl.out; rw [hT1, spsFlat_len, List.length_map, List.length_take]; omega
                  have hl2 : T2.length = (k - (0)) * 2 := by have := HPl.out; rw [hT2, spsFlat_len, List.length_map, List.length_drop]; omega
                  have hN12 : (tB P).flatMap spCells = T1 ++ T2 := by rw [hT1, hT2, ← List.flatMap_append, tB, tB, ← List.map_append, List.take_append_drop]
                  have hone1 : ∀ u ∈ T1, u.oneCell' = true := by rw [hT1]; exact sps_one _
                  have hone2 : ∀ u ∈ T2, u.oneCell' = true := by rw [hT2]; exact sps_one _
                  have hc1 : ∀ V, Below wz.heap.size wz V → ∀ j u, T1[j]? = some u → ∃ b off, some (⟨gw, 0, none⟩ : Addr) = some ⟨b, off, none⟩ ∧ V.cell? ⟨b, off + j, none⟩ = some u := fun V hV j u hu => by
                    have hj := (List.getElem?_eq_some_iff.1 hu).1
                    exact ⟨gw, 0, rfl, by rw [Nat.zero_add]; exact cell_later hV (cell_later Hb9.out (Hcell.out j u (by rw [hN12, List.getElem?_append_left hj]; exact hu)))⟩
                  have hc2 : ∀ V, Below wz.heap.size wz V → ∀ j u, T2[j]? = some u → ∃ b off, some (⟨gw, (0) * 2, none⟩ : Addr) = some ⟨b, off, none⟩ ∧ V.cell? ⟨b, off + j, none⟩ = some u := fun V hV j u hu =>
                    ⟨gw, (0) * 2, rfl, cell_later hV (cell_later Hb9.out (Hcell.out _ u (by rw [hN12, List.getElem?_append_right (by omega), show (0) * 2 + j - T1.length = j by omega]; exact hu)))⟩
                  have hlit1 := lit_sps (w := wz) (B := wz.heap.size) (Nat.le_refl _)
                  have hba1 : Below wz.heap.size wz (wz.alloc (.cells #[] 34)) := below_alloc1 _ _
                  have hc10 := hc1 _ hba1
                  have hMk : 0 ≤ k := by have := HPl.out; omega
                  have hMi : (0 : Int) ≤ (cw : Int) := by have := own_cap2 Hrow.out; omega
                  have HT1 := Lib.hid hT1; have HT2 := Lib.hid hT2; have HM := Lib.hid hM; have Hl1 := Lib.hid hl1; have Hl2 := Lib.hid hl2; have HN12 := Lib.hid hN12; have Hone1 := Lib.hid hone1; have Hone2 := Lib.hid hone2; have Hc1 := Lib.hid hc1; have Hc2 := Lib.hid hc2; have Hlit1 := Lib.hid hlit1; have Hba1 := Lib.hid hba1; have Hc10 := Lib.hid hc10; clear hT1 hT2 hM hl1 hl2 hN12 hone1 hone2 hc1 hc2 hlit1 hba1 hc10
                  go_upto_region 19 with (at_builtin; (refine wpList_append_from elem_spn rfl (.tmp 54) (.tmp 57) rfl wz.heap.size (.slice (some ⟨wz.heap.size, 0, none⟩) 0 0) 0 [] rfl Hlit1.out (some ⟨gw, 0, none⟩) (0) cw T1 rfl Hl1.out Hc10.out Hone1.out (by omega) (by unfold maxLen; omega) (by simp) ?_; intro v7 w7 hown7 hg7 hm7; obtain ⟨a7, c7, rfl⟩ := own_shape hown7; have hb7 := (bel_own Hba1.out Hlit1.out (Nat.le_refl _) hg7 (by have := Hba1.out.size; omega) : Below wz.heap.size wz w7); have Hown7 := Lib.hid hown7; have Hb7 := Lib.hid hb7; clear hown7 hg7 hm7 hb7))
                  have hown8 : w7.ownsRow wz.heap.size 34 2 (.slice a7 (0) c7) (0) T1 := by simpa using Hown7.out
                  obtain ⟨N8, hN8⟩ : ∃ x, x = 0 := ⟨_, rfl⟩
                  rw [← hN8] at hown8
                  obtain rfl := hN8
                  have hN8 : (0 : Nat) = 0 := rfl
                  have hN8' : 0 ≤ 2000 := by omega
                  clear Hown7
                  have hz7 := Hb7.out.size
                  have f2 := cell_later (Hb9.out.trans (Hb7.out.mono Hb9.out.size)) Hf0.out
                  have f3 := cell_later (Hb9.out.trans (Hb7.out.mono Hb9.out.size)) Hf1.out
                  have Hown8 := Lib.hid hown8; have HN8 := Lib.hid hN8; clear hown8 hN8
                  go_upto_region 20 with (at_builtin; (refine wpList_append_lit elem_spn rfl (.tmp 59) (.tmp 64) rfl wz.heap.size (.slice a7 0 c7) 0 T1 rfl Hown8.out 1 #[.string x1, .string x2] rfl rfl (by simp [Value.oneCell']) (by omega) (by unfold maxLen; omega) (by omega) ?_; intro v9 w9 hown9 hg9 hm9; obtain ⟨a9, c9, rfl⟩ := own_shape hown9; have hb19 := (bel_own Hb7.out Hown8.out (Nat.le_refl _) hg9 (by have := Hb7.out.size; omega) : Below wz.heap.size wz w9); have Hown9 := Lib.hid hown9; have Hb19 := Lib.hid hb19; clear hown9 hg9 hm9 hb19))
                  by_cases hcc : 0 < cw
                  · have hcd : decide ((0 : Int) < (cw : Int)) = true := decide_eq_true (by omega)
                    have hcd2 : (0 : Int) ≤ (k : Int) := by omega
                    go_upto_region 21 with (at_builtin; (refine wpList_append_from elem_spn rfl (.tmp 66) (.tmp 69) rfl wz.heap.size (.slice a9 (0 + 1) c9) (0 + 1) (T1 ++ [.string x1, .string x2]) rfl Hown9.out (some ⟨gw, (0) * 2, none⟩) (k) (cw) T2 rfl Hl2.out (Hc2.out _ Hb19.out) Hone2.out (by omega) (by unfold maxLen; omega) (by have := Hb19.out.size; omega) ?_; intro v11 w11 hown11 hg11 hm11; obtain ⟨a11, c11, rfl⟩ := own_shape_pos hown11 (by omega); have hb11 := (bel_own Hb19.out Hown9.out (Nat.le_refl _) hg11 (by have := Hb19.out.size; omega) : Below wz.heap.size wz w11); have Hown11 := Lib.hid hown11; have Hb11 := Lib.hid hb11; clear hown11 hg11 hm11 hb11))
                    go_wp2_with fail
                    go_roundw
                    case rel => exact ⟨k + 1, by omega, by go_num, insI_step hkl Hx.out HP.out HR.out Hx1.out Hx2.out HT1.out HT2.out Hbr.out Hb9.out Hb11.out Hown11.out (by have := HN8.out; omega)⟩
                    case measure => (simp [RowKit.intOf]) <;> omega
                  · have hcd : decide ((0 : Int) < (cw : Int)) = false := decide_eq_false (by omega)
                    have hcd2 : (0 : Int) ≤ (k : Int) := by omega
                    have hkc := own_cap2 Hrow.out
                    have hT0 : T2 = [] := List.eq_nil_of_length_eq_zero (by have := Hl2.out; omega)
                    have hc3 : ∀ V : World, ∀ j u, T2[j]? = some u → ∃ b off, some (⟨gw, 0, none⟩ : Addr) = some ⟨b, off, none⟩ ∧ V.cell? ⟨b, off + j, none⟩ = some u := fun V j u hu => by rw [hT0] at hu; simp at hu
                    have HT0 := Lib.hid hT0; have Hc3 := Lib.hid hc3; clear hT0 hc3
                    go_upto_region 21 with (at_builtin; (refine wpList_append_from elem_spn rfl (.tmp 66) (.tmp 69) rfl wz.heap.size (.slice a9 (0 + 1) c9) (0 + 1) (T1 ++ [.string x1, .string x2]) rfl Hown9.out (some ⟨gw, 0, none⟩) (k) (cw) T2 rfl Hl2.out (Hc3.out w9) Hone2.out (by omega) (by unfold maxLen; omega) (by have := Hb19.out.size; omega) ?_; intro v11 w11 hown11 hg11 hm11; obtain ⟨a11, c11, rfl⟩ := own_shape_pos hown11 (by omega); have hb11 := (bel_own Hb19.out Hown9.out (Nat.le_refl _) hg11 (by have := Hb19.out.size; omega) : Below wz.heap.size wz w11); have Hown11 := Lib.hid hown11; have Hb11 := Lib.hid hb11; clear hown11 hg11 hm11 hb11))
                    go_wp2_with fail
                    go_roundw
                    case rel => exact ⟨k + 1, by omega, by go_num, insI_step hkl Hx.out HP.out HR.out Hx1.out Hx2.out HT1.out HT2.out Hbr.out Hb9.out Hb11.out Hown11.out (by have := HN8.out; omega)⟩
                    case measure => (simp [RowKit.intOf]) <;> omega
            · obtain rfl : k = m := by omega
              have htk : L.take k = L := List.take_of_length_le (Nat.le_of_eq Hml.out.symm)
              rw [htk] at hrow
              have hw2 := Hbq.out.trans (hbr.mono Hbq.out.size)
              have hb2 := hw2.alloc hw2.size (.cells #[] 34)
              have hown := ownsRow_mono hrow Hbq.out.size
              rw [show tB (sortSp L) = formB l from Hf.out.symm] at hown
              have hml2 : (formB l).length = k := by rw [Hf.out, List.length_map, (sortSp_perm L).length_eq]; exact Hml.out.symm
              by_cases h16 : 16 < k
              · have kk : decide ((16 : Int) < (k : Int)) = true := decide_eq_true (by omega)
                have hno : formOk l = false := by rw [Hfo.out, decide_eq_false]; have := Hml.out; omega
                have Hrow := Lib.hid hrow; have Hbr := Lib.hid hbr; have Hw2 := Lib.hid hw2; have Hb2 := Lib.hid hb2; have Hown := Lib.hid hown; have Hml2 := Lib.hid hml2; have Hno := Lib.hid hno; clear hrow hbr hw2 hb2 hown hml2 hno
                go_wp2_with fail
                go_ret2
                exact refForm_no Hno.out Hb2.out
              · have kk : decide ((16 : Int) < (k : Int)) = false := decide_eq_false (by omega)
                have hyes : formOk l = true := by rw [Hfo.out, decide_eq_true]; have := Hml.out; omega
                have Hrow := Lib.hid hrow; have Hbr := Lib.hid hbr; have Hw2 := Lib.hid hw2; have Hb2 := Lib.hid hb2; have Hown := Lib.hid hown; have Hml2 := Lib.hid hml2; have Hyes := Lib.hid hyes; clear hrow hbr hw2 hb2 hown hml2 hyes
                go_wp2_with fail
                go_ret2
                exact ⟨.slice (some ⟨gw, 0, none⟩) k cw, (by rw [Hyes.out]; rfl), (fun _ => by have h9 := Hown.out; rw [Hml2.out]; exact h9), Hw2.out⟩
end Go.Proofs.YteailgjiifdgcaaGreatDoor
