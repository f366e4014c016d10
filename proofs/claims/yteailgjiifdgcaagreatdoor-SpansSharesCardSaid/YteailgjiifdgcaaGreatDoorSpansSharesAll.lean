/- The given statement, and what it needs. Texts merged: SpsW, SpsB, Ins, SpsX, SpansShares, SpsO, SpansSharesRow. Condition: none beyond what each says. -/
import Derived.Deep.DeepCutAuto
import Derived.OpenShut
import Derived.ShutString
import Derived.ChangeOld
import Derived.Test.YteailgjiifdgcaaGreatDoorSpansSharesAll1
import Derived.Test.YteailgjiifdgcaaGreatDoorSpansSharesAll2
import Derived.Test.YteailgjiifdgcaaGreatDoorSpansSharesAll3
import Derived.Test.YteailgjiifdgcaaGreatDoorSpansSharesAll4
import Derived.Test.YteailgjiifdgcaaGreatDoorSpansSharesAll5
import Derived.Test.YteailgjiifdgcaaGreatDoorSpansSharesAll6
import Derived.Test.YteailgjiifdgcaaGreatDoorSpansSharesAll7
import Derived.Test.YteailgjiifdgcaaGreatDoorSpansSharesAll8
/- The walk of cooperref03.merged: two that meet are put together, or none do. Condition: at most two thousand spans that may be, of bounds of at most 9000 bytes. -/
namespace Go.Proofs.YteailgjiifdgcaaGreatDoor
open Go.Shelf Go.RowKit Go.Lib Go.Sort SortM VerN

instance : Inhabited Tp := ⟨⟨(⟨#[]⟩, ⟨#[]⟩), by decide⟩⟩
def MergedPost (l : List Tp) (v : Value) (w : World) (e : Ending) (w' : World) : Prop :=
  Below w.heap.size w w' ∧ ((∃ o l', e = .returned (.tuple #[o, .bool true]) ∧ MStep l l' ∧ w'.ownsRow w.heap.size 34 2 o l'.length ((tB l').flatMap spCells)) ∨ (e = .returned (.tuple #[v, .bool false]) ∧ NoMeet l))
def NoneUp (l : List Tp) (k : Nat) : Prop := ∀ i j (hi : i < l.length) (hj : j < l.length), i < k → i < j → mtT l[i] l[j] = false
def NoneAt (l : List Tp) (x : Tp) (i k : Nat) : Prop := ∀ j (hj : j < l.length), j < k → i < j → mtT x l[j] = false
theorem noneUp_next {l : List Tp} {i : Nat} (hi : i < l.length) (h : NoneUp l i) (h2 : NoneAt l l[i] i l.length) : NoneUp l (i + 1) := fun a j ha hj hai haj => by
  by_cases e : a = i
  · subst e; exact h2 j hj hj haj
  · exact h a j ha hj (by omega) haj
theorem noneAt_next {l : List Tp} {x : Tp} {i k : Nat} (h : NoneAt l x i k) (h2 : ∀ hk : k < l.length, i < k → mtT x l[k] = false) : NoneAt l x i (k + 1) := fun j hj hjk hij => by
  by_cases e : j = k
  · subst e; exact h2 hj hij
  · exact h j hj (by omega) hij
theorem tB_pick {l : List Tp} {i k n : Nat} (hn : n < l.length) (h : n ≠ i ∧ n ≠ k) : (tB (pickL l i k (n + 1))).flatMap spCells = (tB (pickL l i k n)).flatMap spCells ++ [.string l[n].1.1, .string l[n].1.2] := by
  have e : pickL l i k (n + 1) = pickL l i k n ++ [l[n]] := by
    show (if n ≠ i ∧ n ≠ k then pickL l i k n ++ [l[n]!] else pickL l i k n) = _
    rw [if_pos h, getElem!_pos l n hn]
  rw [e, tB, List.map_append, List.flatMap_append]
  rfl
theorem pick_skip {l : List Tp} {i k n : Nat} (h : ¬ (n ≠ i ∧ n ≠ k)) : pickL l i k (n + 1) = pickL l i k n := by
  show (if n ≠ i ∧ n ≠ k then pickL l i k n ++ [l[n]!] else pickL l i k n) = _
  rw [if_neg h]
set_option linter.unusedSimpArgs false in
set_option maxRecDepth 10000 in
set_option maxHeartbeats 40000000 in
theorem refMerged_any {w : World} {v : Value} {l : List Tp} (h : RSps w [v] (tB l)) (hm : mayT l) (hl : l.length ≤ 2000) : Calls Tryz.prog 60 #[v] w (MergedPost l v w) := by
  have hat0 := fun a c (e : v = .slice a (tB l).length c) => sps_at (by rw [← e]; exact h)
  obtain ⟨a, cap, rfl⟩ := sps_shape h
  have hat := hat0 a cap rfl
  clear hat0
  obtain ⟨n, hn⟩ : ∃ n, n = (tB l).length := ⟨_, rfl⟩
  have hnl : n = l.length := by rw [hn, List.length_map]
  rw [← hn] at h ⊢
  have hn1 : n ≤ 2000 := by omega
  have Hh := Lib.hid h; have Hm := Lib.hid hm; have Hn := Lib.hid hn; have Hnl := Lib.hid hnl; have Hat := Lib.hid hat; clear h hm hn hnl hat
  go_enter Tryz.func60, Tryz.ntmps60
  go_wp2_with fail
  go_loopw [12] (fun i wr => ∃ k : Nat, k ≤ n ∧ i = .int .i64 k ∧ NoneUp l k ∧ Below w.heap.size w wr) (fun i _ => n - (RowKit.intOf i).toNat)
  case atStart => exact ⟨0, Nat.zero_le _, rfl, fun _ _ _ _ h _ => absurd h (Nat.not_lt_zero _), Below.refl _ _⟩
  case round =>
    obtain ⟨i, hi, rfl, hno, hbr⟩ := hrel
    by_cases hlt : i < n
    · have hil : i < l.length := by have := Hnl.out; omega
      obtain ⟨x, hx⟩ : ∃ x, x = l[i] := ⟨_, rfl⟩
      obtain ⟨b, off, rfl, c0, c1⟩ := Hat.out i x.1 (by rw [hx, List.getElem?_map, List.getElem?_eq_getElem hil]; rfl)
      have k5 : (0 : Int) ≤ (i : Int) := by omega
      have k6 : (i : Int) < (n : Int) := by omega
      have d0 := cell_later hbr c0
      have d1 := cell_later hbr c1
      have Hno := Lib.hid hno; have Hbr := Lib.hid hbr; have Hx := Lib.hid hx; have Hc0 := Lib.hid c0; have Hc1 := Lib.hid c1; clear hno hbr hx c0 c1
      go_wp2_with fail
      go_loopw [17] (fun j wq => ∃ k : Nat, k ≤ n ∧ j = .int .i64 k ∧ NoneAt l x i k ∧ Below w.heap.size w wq) (fun j _ => n - (RowKit.intOf j).toNat)
      case atStart => exact ⟨0, Nat.zero_le _, rfl, fun _ _ h _ => absurd h (Nat.not_lt_zero _), Hbr.out⟩
      case round =>
        obtain ⟨k, hk, rfl, hna, hbq⟩ := hrel
        by_cases hlk : k < n
        · have hkl : k < l.length := by have := Hnl.out; omega
          obtain ⟨y, hy⟩ : ∃ y, y = l[k] := ⟨_, rfl⟩
          obtain ⟨b2, off2, e2, d2, d3⟩ := Hat.out k y.1 (by rw [hy, List.getElem?_map, List.getElem?_eq_getElem hkl]; rfl)
          injection e2 with e2
          injection e2 with e2 e3 _
          subst e2 e3
          have hxs := x.2
          have hys := y.2
          have hxm := Hm.out x (by rw [Hx.out]; exact List.getElem_mem _)
          have hym := Hm.out y (by rw [hy]; exact List.getElem_mem _)
          have hM := fun (W : World) (_ : Below w.heap.size w W) => refMeet_any x.1.1 x.1.2 y.1.1 y.1.2 (by omega) (by omega) (by omega) (by omega) W
          have hJ := fun (W : World) (_ : Below w.heap.size w W) => refJoin_any x.1.1 x.1.2 y.1.1 y.1.2 (by omega) (by omega) (by omega) (by omega) hxm hym W
          have hcf : ∀ W, Below w.heap.size w W → W.cell? ⟨b, off + i * 2, none⟩ = some (.string x.1.1) ∧ W.cell? ⟨b, off + i * 2 + 1, none⟩ = some (.string x.1.2) ∧ W.cell? ⟨b, off + k * 2, none⟩ = some (.string y.1.1) ∧ W.cell? ⟨b, off + k * 2 + 1, none⟩ = some (.string y.1.2) :=
            fun W hW => ⟨cell_later hW Hc0.out, cell_later hW Hc1.out, cell_later hW d2, cell_later hW d3⟩
          have hnx := fun (ho : ¬ (i < k ∧ mtT x y = true)) => noneAt_next hna fun hk2 hik => by
            have : mtT x y = false := by cases hmt : mtT x y with
              | false => rfl
              | true => exact absurd ⟨hik, hmt⟩ ho
            rw [hy] at this
            exact this
          obtain ⟨m1, m2, hmv⟩ : ∃ p q, (p, q) = mtV x.1.1 x.1.2 y.1.1 y.1.2 := ⟨_, _, rfl⟩
          obtain ⟨j1, j2, hjv⟩ : ∃ p q, (p, q) = jnV x.1.1 x.1.2 y.1.1 y.1.2 := ⟨_, _, rfl⟩
          obtain ⟨ok, hok⟩ : ∃ b, b = mtT x y := ⟨_, rfl⟩
          have hok2 : meetOk (x.1.1.data.toList, x.1.2.data.toList) (y.1.1.data.toList, y.1.2.data.toList) = ok := hok.symm
          rw [← hmv, hok2] at hM
          rw [← hjv] at hJ
          rw [← hok] at hnx
          obtain ⟨x1, hx1⟩ : ∃ s, s = x.1.1 := ⟨_, rfl⟩
          obtain ⟨x2, hx2⟩ : ∃ s, s = x.1.2 := ⟨_, rfl⟩
          obtain ⟨y1, hy1⟩ : ∃ s, s = y.1.1 := ⟨_, rfl⟩
          obtain ⟨y2, hy2⟩ : ∃ s, s = y.1.2 := ⟨_, rfl⟩
          rw [← hx1, ← hx2, ← hy1, ← hy2] at hM hJ
          simp only [← hx1, ← hx2, ← hy1, ← hy2] at hcf
          have k7 : (0 : Int) ≤ (k : Int) := by omega
          have k8 : (k : Int) < (n : Int) := by omega
          have hbz := bel_drewN (Below.refl wr.heap.size wr) 1
          have hcz := hcf _ (hbq.trans (hbz.mono hbq.size))
          obtain ⟨e0, e1, e4, e5⟩ := hcf _ hbq
          clear d0 d1 d2 d3 hok2
          have Hna := Lib.hid hna; have Hbq := Lib.hid hbq; have Hy := Lib.hid hy; have Hxs := Lib.hid hxs; have Hys := Lib.hid hys; have Hxm := Lib.hid hxm; have Hym := Lib.hid hym; have HM := Lib.hid hM; have HJ := Lib.hid hJ; have Hnx := Lib.hid hnx; have Hmv := Lib.hid hmv; have Hjv := Lib.hid hjv; have Hok := Lib.hid hok; have Hx1 := Lib.hid hx1; have Hx2 := Lib.hid hx2; have Hy1 := Lib.hid hy1; have Hy2 := Lib.hid hy2; clear hna hbq hy hxs hys hxm hym hM hJ hnx hmv hjv hok hx1 hx2 hy1 hy2
          have Hcz := Lib.hid hcf
          clear hcf
          go_upto_region 7 with (fail)
          go_cut [7] (fun v W => v = .bool ok ∧ Below w.heap.size w W)
          case first =>
            have hbz2 : ∀ o, Below wr.heap.size wr ((wr.alloc o).drew) := fun o => ((Below.refl _ _).alloc (Nat.le_refl _) o).drew
            go_region_held3 (fun w' => w'.cell? ⟨b, off + i * 2, none⟩ = some (.string x1) ∧ w'.cell? ⟨b, off + i * 2 + 1, none⟩ = some (.string x2) ∧ w'.cell? ⟨b, off + k * 2, none⟩ = some (.string y1) ∧ w'.cell? ⟨b, off + k * 2 + 1, none⟩ = some (.string y2)) (first | exact hcz | exact Hcz.out _ (Hbq.out.trans ((hbz2 _).mono Hbq.out.size)) | exact Hcz.out _ (Hbq.out.trans ((hbz.alloc hbz.size _).mono Hbq.out.size)) | exact Hcz.out _ (Hbq.out.trans ((pair_bel _ _ hbz hbz.size).mono Hbq.out.size)) | exact Hcz.out _ (Hbq.out.trans ((pair_bel _ _ hbz (Nat.le_refl _)).mono Hbq.out.size)) | go_keep) (first | (go_at_call 118; refine (HM.out _ (by exact Hbq.out.trans (hbz.mono Hbq.out.size))).mono ?_; rintro e wz ⟨rfl, hsz⟩; replace hbz := hbz.trans (hsz.mono hbz.size); replace hcz := Hcz.out _ (Hbq.out.trans (hbz.mono Hbq.out.size))) | (go_at_call 118; refine (HM.out _ (by exact Hbq.out.trans ((hbz2 _).mono Hbq.out.size))).mono ?_; rintro e wz ⟨rfl, hsz⟩; obtain ⟨zz0, zz1, zz2, zz3⟩ := pair_cells (heap_below hsz (heap_alloc_new _ _)); replace hbz := (hbz2 _).trans (hsz.mono (hbz2 _).size); replace hcz := Hcz.out _ (Hbq.out.trans (hbz.mono Hbq.out.size))))
            all_goals
              go_wp2_with fail
              go_meet
              exact ⟨rfl, Hbq.out.trans (Below.mono (by first | exact hbz.alloc hbz.size _ | exact pair_bel _ _ hbz (Nat.le_refl _) | exact pair_bel _ _ (hbz.alloc hbz.size _) hbz.size) Hbq.out.size)⟩
          case rest =>
            obtain ⟨rfl, hbc⟩ := hcut
            by_cases hik : i < k ∧ ok = true
            · obtain ⟨hik, rfl⟩ := hik
              have q1 : decide ((k : Int) ≤ (i : Int)) = false := decide_eq_false (by omega)
              have hcf := Hcz.out _ hbc
              obtain ⟨g0, g1, g2, g3⟩ := hcf
              clear e0 e1 e4 e5
              have Hbc := Lib.hid hbc; clear hbc
              go_upto_region 9 with (fail)
              have hbz := bel_drewN (Below.refl wc.heap.size wc) 1
              have hcz := Hcz.out _ (Hbc.out.trans (hbz.mono Hbc.out.size))
              go_region_held3 (fun w' => w'.cell? ⟨b, off + i * 2, none⟩ = some (.string x1) ∧ w'.cell? ⟨b, off + i * 2 + 1, none⟩ = some (.string x2) ∧ w'.cell? ⟨b, off + k * 2, none⟩ = some (.string y1) ∧ w'.cell? ⟨b, off + k * 2 + 1, none⟩ = some (.string y2)) (first | exact hcz | exact Hcz.out _ (Hbc.out.trans ((hbz.alloc hbz.size _).mono Hbc.out.size)) | go_keep) (first | (go_at_call 119; refine (HJ.out _ (by exact Hbc.out.trans (hbz.mono Hbc.out.size))).mono ?_; rintro e wz ⟨rfl, hsz⟩; replace hbz := hbz.trans (hsz.mono hbz.size); replace hcz := Hcz.out _ (Hbc.out.trans (hbz.mono Hbc.out.size))))
              have hbw := Hbc.out.trans (hbz.mono Hbc.out.size)
              have hown : (wz.alloc (.cells #[.string j1, .string j2] 34)).ownsRow w.heap.size 34 2 (.slice (some ⟨wz.heap.size, 0, none⟩) 1 1) 1 [.string j1, .string j2] := World.ownsRow_lit (base := w.heap.size) (e := 34) (size := 2) wz #[.string j1, .string j2] 1 hbw.size (by decide) rfl
              have hbw2 := hbw.alloc hbw.size (.cells #[.string j1, .string j2] 34)
              have Hown := Lib.hid hown; have Hbw := Lib.hid hbw; have Hbw2 := Lib.hid hbw2; clear hown hbw hbw2
              have hj0 : (tB (jnT x y :: pickL l i k 0)).flatMap spCells = [.string j1, .string j2] := by
                show spCells (jnV x.1.1 x.1.2 y.1.1 y.1.2) ++ [] = _
                rw [← Hjv.out]
                rfl
              have hst : MStep l (jnT x y :: pickL l i k l.length) := by
                have h9 := step_of (l := l) hik hkl (by rw [← Hx.out, ← Hy.out]; exact Hok.out.symm)
                rw [← Hx.out, ← Hy.out] at h9
                exact h9
              have Hj0 := Lib.hid hj0; have Hst := Lib.hid hst; clear hj0 hst
              go_wp2_with fail
              go_loopw [8, 51] (fun v m wr => ∃ q : Nat, q ≤ n ∧ m = .int .i64 q ∧ wr.ownsRow w.heap.size 34 2 v (jnT x y :: pickL l i k q).length ((tB (jnT x y :: pickL l i k q)).flatMap spCells) ∧ Below w.heap.size w wr) (fun _ m _ => n - (RowKit.intOf m).toNat)
              case atStart => exact ⟨0, Nat.zero_le _, rfl, by rw [Hj0.out]; exact Hown.out, Hbw2.out⟩
              case round =>
                obtain ⟨q, hq, rfl, hrow, hbz⟩ := hrel
                obtain ⟨ra, rc, rfl⟩ := own_shape hrow
                by_cases hlq : q < n
                · by_cases hqk : q ≠ i ∧ q ≠ k
                  · have hql : q < l.length := by have := Hnl.out; omega
                    obtain ⟨z, hz⟩ : ∃ z, z = l[q] := ⟨_, rfl⟩
                    obtain ⟨b3, off3, e3, f0, f1⟩ := Hat.out q z.1 (by rw [hz, List.getElem?_map, List.getElem?_eq_getElem hql]; rfl)
                    injection e3 with e3
                    injection e3 with e3 e4 _
                    subst e3 e4
                    have f2 := cell_later hbz f0
                    have f3 := cell_later hbz f1
                    have hpk := tB_pick (l := l) (i := i) (k := k) hql hqk
                    have hpl : pickL l i k (q + 1) = pickL l i k q ++ [z] := by
                      show (if q ≠ i ∧ q ≠ k then pickL l i k q ++ [l[q]!] else pickL l i k q) = _
                      rw [if_pos hqk, getElem!_pos l q hql, hz]
                    have hpn := pick_len l i k q
                    rw [← hz] at hpk
                    obtain ⟨N, hN⟩ : ∃ N, N = (tB (jnT x y :: pickL l i k q)).flatMap spCells := ⟨_, rfl⟩
                    obtain ⟨m, hm⟩ : ∃ m, m = (jnT x y :: pickL l i k q).length := ⟨_, rfl⟩
                    obtain ⟨z1, hz1⟩ : ∃ s, s = z.1.1 := ⟨_, rfl⟩
                    obtain ⟨z2, hz2⟩ : ∃ s, s = z.1.2 := ⟨_, rfl⟩
                    have hN' : (tB (jnT x y :: pickL l i k (q + 1))).flatMap spCells = N ++ [.string z1, .string z2] := by
                      rw [hN, hz1, hz2]
                      show spCells _ ++ (tB (pickL l i k (q + 1))).flatMap spCells = (spCells _ ++ (tB (pickL l i k q)).flatMap spCells) ++ _
                      rw [hpk, List.append_assoc]
                    have hm' : (jnT x y :: pickL l i k (q + 1)).length = m + 1 := by rw [hm, hpl]; simp
                    have hmq : m ≤ 2001 := by rw [hm]; simp only [List.length_cons]; omega
                    rw [← hN, ← hm] at hrow
                    rw [← hz1] at f2
                    rw [← hz2] at f3
                    have t1 : ((q : Int) != (i : Int)) = true := by rw [bne_iff_ne]; omega
                    have t2 : ((q : Int) != (k : Int)) = true := by rw [bne_iff_ne]; omega
                    have t3 : (0 : Int) ≤ (q : Int) := by omega
                    have t4 : (q : Int) < (n : Int) := by omega
                    have t5 := hbz.size
                    clear f0 f1 hqk
                    rw [← hm]
                    have Hrow := Lib.hid hrow; have Hbz := Lib.hid hbz; have Hz := Lib.hid hz; have Hpk := Lib.hid hpk; have Hpl := Lib.hid hpl; have Hpn := Lib.hid hpn; have HN := Lib.hid hN; have Hm := Lib.hid hm; have Hz1 := Lib.hid hz1; have Hz2 := Lib.hid hz2; have HN' := Lib.hid hN'; have Hm' := Lib.hid hm'; clear hrow hbz hz hpk hpl hpn hN hm hz1 hz2 hN' hm'
                    go_wp2_with (at_builtin; (refine wpList_append_lit elem_spn rfl (.tmp 62) (.tmp 67) rfl w.heap.size (.slice ra m rc) m N rfl Hrow.out 1 #[.string z1, .string z2] rfl rfl (by simp [Value.oneCell']) (by omega) (by unfold maxLen; omega) (by omega) ?_; intro v9 w9 hown9 hg9 hm9; obtain ⟨a9, c9, rfl⟩ := own_shape hown9; have hb9 := (bel_own Hbz.out Hrow.out (Nat.le_refl _) hg9 (by omega) : Below w.heap.size w w9); have Hown9 := Lib.hid hown9; have Hb9 := Lib.hid hb9; clear hown9 hg9 hm9 hb9))
                    go_roundw
                    case rel => exact ⟨q + 1, by omega, by go_num, by rw [HN'.out, Hm'.out]; exact Hown9.out, Hb9.out⟩
                    case measure => (simp [RowKit.intOf]) <;> omega
                  · have hsk := pick_skip (l := l) hqk
                    rw [← hsk] at hrow ⊢
                    have Hsk := Lib.hid hsk; have Hrow := Lib.hid hrow; have Hbz := Lib.hid hbz; clear hsk hrow hbz
                    by_cases hqi : q = i
                    · have t1 : ((q : Int) != (i : Int)) = false := by rw [bne_eq_false_iff_eq]; omega
                      go_wp2_with fail
                      go_roundw
                      case rel => exact ⟨q + 1, by omega, by go_num, Hrow.out, Hbz.out⟩
                      case measure => (simp [RowKit.intOf]) <;> omega
                    · have t1 : ((q : Int) != (i : Int)) = true := by rw [bne_iff_ne]; omega
                      have t2 : ((q : Int) != (k : Int)) = false := by rw [bne_eq_false_iff_eq]; omega
                      go_wp2_with fail
                      go_roundw
                      case rel => exact ⟨q + 1, by omega, by go_num, Hrow.out, Hbz.out⟩
                      case measure => (simp [RowKit.intOf]) <;> omega
                · obtain rfl : q = n := by omega
                  have hrow2 := hrow
                  rw [Hnl.out] at hrow2
                  have Hrow := Lib.hid hrow; have Hrow2 := Lib.hid hrow2; have Hbz := Lib.hid hbz; clear hrow hrow2 hbz
                  go_wp2_with fail
                  go_ret2
                  exact ⟨Hbz.out, .inl ⟨_, _, rfl, Hst.out, by have := Hrow.out; rw [Hnl.out] at this ⊢; exact this⟩⟩
            · have q1 : i < k → ok = false := fun h => by cases ok with
                | false => rfl
                | true => exact absurd ⟨h, rfl⟩ hik
              have hnx2 := Hnx.out (by rw [← Hok.out] at *; exact hik)
              have Hbc := Lib.hid hbc; have Hnx2 := Lib.hid hnx2; clear hbc hnx2
              by_cases h2 : i < k
              · obtain rfl := q1 h2
                have q2 : decide ((k : Int) ≤ (i : Int)) = false := decide_eq_false (by omega)
                go_wp2_with fail
                go_roundw
                case rel => exact ⟨k + 1, by omega, by go_num, Hnx2.out, Hbc.out⟩
                case measure => (simp [RowKit.intOf]) <;> omega
              · have q2 : decide ((k : Int) ≤ (i : Int)) = true := decide_eq_true (by omega)
                clear q1
                go_wp2_with fail
                go_roundw
                case rel => exact ⟨k + 1, by omega, by go_num, Hnx2.out, Hbc.out⟩
                case measure => (simp [RowKit.intOf]) <;> omega
        · obtain rfl : k = n := by omega
          have hnext := noneUp_next hil Hno.out (by rw [← Hx.out, ← Hnl.out]; exact hna)
          have Hna := Lib.hid hna; have Hbq := Lib.hid hbq; have Hnext := Lib.hid hnext; clear hna hbq hnext
          go_wp2_with fail
          go_roundw
          case rel => exact ⟨i + 1, by omega, by go_num, Hnext.out, Hbq.out⟩
          case measure => (simp [RowKit.intOf]) <;> omega
    · obtain rfl : i = n := by omega
      have hnm : NoMeet l := pairs_none fun a b ha hb hab => hno a b ha hb (by have := Hnl.out; omega) hab
      have Hno := Lib.hid hno; have Hbr := Lib.hid hbr; have Hnm := Lib.hid hnm; clear hno hbr hnm
      go_wp2_with fail
      go_ret2
      exact ⟨Hbr.out, .inr ⟨rfl, Hnm.out⟩⟩
end Go.Proofs.YteailgjiifdgcaaGreatDoor

/- The walk of cooperref03.behind. Condition: bounds of at most a million bytes. -/
namespace Go.Proofs.YteailgjiifdgcaaGreatDoor
open Go.RowKit Go.Lib VerN

theorem less_lt (a b : List UInt8) : lessL a b = decide (compareL a b < 0) := by
  rw [less_is]
  have := row_compare.tri a b
  exact decide_eq_decide.2 ⟨fun h => by omega, fun h => by omega⟩
set_option maxRecDepth 10000 in
set_option maxHeartbeats 1000000 in
theorem behind_any (lo hi lp hj : ByteArray) (hl : lo.size ≤ 1000000) (hl2 : lp.size ≤ 1000000) (w : World) : Calls Tryz.prog 61 #[.agg #[.string lo, .string hi], .agg #[.string lp, .string hj]] w fun e w' => e = .returned (.bool (ltLo lp.data.toList lo.data.toList)) ∧ Below w.heap.size w w' := by
  obtain ⟨W0, hW0⟩ : ∃ W0, W0 = (w.alloc (.cells #[.string lo, .string hi] 34)).alloc (.cells #[.string lp, .string hj] 34) := ⟨_, rfl⟩
  obtain ⟨nb, hnb⟩ : ∃ nb, nb = w.heap.size := ⟨_, rfl⟩
  have hw : Below w.heap.size w W0 := by rw [hW0]; exact (below_alloc1 _ _).alloc (by simp) _
  have c0 : W0.cell? ⟨nb, 0, none⟩ = some (.string lo) := by rw [hW0, hnb]; exact (pair_cells (pbox2_0 _ _ _ _ _)).1
  have d0 : W0.cell? ⟨nb + 1, 0, none⟩ = some (.string lp) := by rw [hW0, hnb]; exact (pair_cells (pbox2_1 _ _ _ _ _)).1
  have k2 : lo.toList.isEmpty = decide (lo.data.toList = []) := empty_bool lo
  have k3 : lp.toList.isEmpty = decide (lp.data.toList = []) := empty_bool lp
  have hP := calls_to hw (less1_any lp lo hl2 hl W0)
  rw [less_lt] at hP
  obtain ⟨q, hq⟩ : ∃ p, p = decide (lo.data.toList = []) := ⟨_, rfl⟩
  obtain ⟨r, hr⟩ : ∃ p, p = decide (lp.data.toList = []) := ⟨_, rfl⟩
  obtain ⟨s, hs⟩ : ∃ p, p = decide (compareL lp.data.toList lo.data.toList < 0) := ⟨_, rfl⟩
  have hv : ltLo lp.data.toList lo.data.toList = (!q && (r || s)) := by
    unfold ltLo
    rw [hq, hr, hs]
    congr 1
    by_cases h : lo.data.toList = [] <;> simp [h]
  rw [← hq] at k2
  rw [← hr] at k3
  rw [← hs] at hP
  clear hq hr hs
  have HP := Lib.hid hP; have Hw := Lib.hid hw; have Hv := Lib.hid hv; clear hP hw hv
  go_enter Tryz.func61, Tryz.ntmps61
  go_upto_region 1 with (fail)
  rw [← hW0, ← hnb]
  clear hW0 hnb
  cases q with
  | true =>
    go_wp2_with fail
    go_ret
    exact ⟨by rw [Hv.out]; rfl, Hw.out⟩
  | false =>
    cases r with
    | true =>
      go_wp2_with fail
      go_ret
      exact ⟨by rw [Hv.out]; rfl, Hw.out⟩
    | false =>
      go_wp2_with fail
      refine HP.out.mono ?_
      rintro e w1 ⟨rfl, hb1⟩
      have Hb1 := Lib.hid hb1; clear hb1
      go_wp2_with fail
      go_ret
      exact ⟨by rw [Hv.out]; rfl, Hb1.out⟩
end Go.Proofs.YteailgjiifdgcaaGreatDoor

/- Plain facts: an element is put behind the last one that does not stand behind it. No condition. -/
namespace Go.Proofs.YteailgjiifdgcaaGreatDoor
open SortM

theorem ins_split {α : Type} {lt : α → α → Bool} (x : α) : ∀ (p q : List α), (∀ y ∈ p, lt x y = false) → (∀ y ∈ q, lt x y = true) → ins lt x (p ++ q) = p ++ x :: q
  | [], [], _, _ => rfl
  | [], y :: r, _, hq => by
    show ins lt x (y :: r) = x :: y :: r
    unfold ins
    rw [if_pos (hq y (by simp))]
  | y :: p, q, hp, hq => by
    show ins lt x (y :: (p ++ q)) = y :: (p ++ x :: q)
    unfold ins
    rw [if_neg (by rw [hp y (by simp)]; simp), ins_split x p q (fun z hz => hp z (by simp [hz])) hq]
/-- one round of the law's own loop -/
theorem ins_round {α : Type} {lt : α → α → Bool} (h : Swo lt) {x : α} {l : List α} (hl : Sorted lt l) {at_ : Nat} (hat : at_ ≤ l.length) (hq : ∀ i (hi : i < l.length), at_ ≤ i → lt x l[i] = true) (hp : ∀ h0 : 0 < at_, lt x (l[at_ - 1]'(by omega)) = false) :
    ins lt x l = l.take at_ ++ x :: l.drop at_ := by
  have e := ins_split (lt := lt) x (l.take at_) (l.drop at_) ?_ ?_
  · rw [List.take_append_drop] at e
    exact e
  · intro y hy
    obtain ⟨i, hi, rfl⟩ := List.mem_iff_getElem.1 hy
    rw [List.length_take] at hi
    rw [List.getElem_take]
    have hpos : 0 < at_ := by omega
    have h1 := hp hpos
    by_cases he : i = at_ - 1
    · subst he; exact h1
    · have h2 := List.pairwise_iff_getElem.1 hl i (at_ - 1) (by omega) (by omega) (by omega)
      exact h.ntrans _ _ _ h2 h1
  · intro y hy
    obtain ⟨i, hi, rfl⟩ := List.mem_iff_getElem.1 hy
    rw [List.length_drop] at hi
    rw [List.getElem_drop]
    exact hq _ (by omega) (by omega)
end Go.Proofs.YteailgjiifdgcaaGreatDoor

/- The walk of cooperref03.Form. Condition: at most two thousand spans of bounds of at most 9000 bytes. -/
namespace Go.Proofs.YteailgjiifdgcaaGreatDoor
open Go.Shelf Go.RowKit Go.Lib Go.Sort SortM VerN

theorem own_cap2 {w : World} {B : Nat} {e : TypeId} {size g n cap : Nat} {xs : List Value} (h : w.ownsRow B e size (.slice (some ⟨g, 0, none⟩) n cap) n xs) : n ≤ cap := by
  rcases h.2 with ⟨e0, _⟩ | ⟨g', cap', cur, e0, _, _, hn, _⟩
  · cases e0
  · injection e0 with _ _ e3
    omega
theorem own_shape_pos {w : World} {B : Nat} {e : TypeId} {size : Nat} {v : Value} {n : Nat} {xs : List Value} (h : w.ownsRow B e size v n xs) (hn : 0 < n) : ∃ g cap, v = .slice (some ⟨g, 0, none⟩) n cap := by
  rcases h.2 with ⟨h1, h2⟩ | ⟨g, cap, _, h1, _⟩
  · omega
  · exact ⟨_, cap, h1⟩
theorem ins_span (l : List Tp) (x : Tp) : sortSp (l ++ [x]) = ins (Go.Proofs.ltOf cfSp) x (sortSp l) := ssort_snoc l x
theorem sorted_span (l : List Tp) : Sorted (Go.Proofs.ltOf cfSp) (sortSp l) := ssort_sorted swoSp l
/-- the row behind k rounds -/
def InsI (w2 : World) (l : List Tp) (k : Nat) (v : Value) (W : World) : Prop := ∃ g c, v = .slice (some ⟨g, 0, none⟩) k c ∧ W.ownsRow w2.heap.size 34 2 v k ((tB (sortSp (l.take k))).flatMap spCells) ∧ Below w2.heap.size w2 W
theorem insI_step {w2 wr W V : World} {l : List Tp} {k M g n c : Nat} {P : List Tp} {x : Tp} {x1 x2 : ByteArray} {T1 T2 : List Value} (hk : k < l.length) (hx : x = l[k]) (hP : P = sortSp (l.take k)) (hR : ins (Go.Proofs.ltOf cfSp) x P = P.take M ++ x :: P.drop M) (hx1 : x1 = x.1.1) (hx2 : x2 = x.1.2) (hT1 : T1 = (tB (P.take M)).flatMap spCells) (hT2 : T2 = (tB (P.drop M)).flatMap spCells) (hbr : Below w2.heap.size w2 wr) (hb9 : Below wr.heap.size wr W) (hb11 : Below W.heap.size W V) (hown : V.ownsRow W.heap.size 34 2 (.slice (some ⟨g, 0, none⟩) n c) n (T1 ++ [.string x1, .string x2] ++ T2)) (hn : n = k + 1) : InsI w2 l (k + 1) (.slice (some ⟨g, 0, none⟩) n c) V := by
  subst hn
  have hrW : Below w2.heap.size w2 W := hbr.trans (hb9.mono hbr.size)
  refine ⟨g, c, rfl, ?_, hrW.trans (hb11.mono hrW.size)⟩
  have e : l.take (k + 1) = l.take k ++ [x] := by rw [hx]; exact (List.take_append_getElem hk).symm
  rw [e, ins_span, ← hP, hR]
  have h := ownsRow_mono hown hrW.size
  have e2 : (tB (P.take M ++ x :: P.drop M)).flatMap spCells = T1 ++ [.string x1, .string x2] ++ T2 := by
    rw [hT1, hT2, hx1, hx2]
    unfold tB
    rw [List.map_append, List.flatMap_append, List.map_cons, List.flatMap_cons, List.append_assoc]
    rfl
  rw [e2]
  exact h
def slLen : Value → Nat
  | .slice _ n _ => n
  | _ => 0
def boN : Value → Nat
  | .bool true => 1
  | _ => 0
def RefFormPost (l : List Tp) (w : World) (e : Ending) (w' : World) : Prop :=
  ∃ o, e = .returned (.tuple #[o, .bool (formOk l)]) ∧ (formOk l = true → w'.ownsRow w.heap.size 34 2 o (formB l).length ((formB l).flatMap spCells)) ∧ Below w.heap.size w w'
theorem refForm_no {l : List Tp} {w w' : World} {o : Value} (h : formOk l = false) (hb : Below w.heap.size w w') : RefFormPost l w (.returned (.tuple #[o, .bool false])) w' :=
  ⟨_, by rw [h], (fun k => by rw [h] at k; cases k), hb⟩
/-- what is left when two that meet are put together, again and again -/
structure Left (l L : List Tp) : Prop where
  may : mayT L
  cov : ∀ p, covT L p ↔ covT l p
  len : L.length ≤ l.length
theorem Left.step {l L M : List Tp} (h : Left l L) (hs : MStep L M) : Left l M ∧ M.length < L.length := by
  obtain ⟨h1, h2, h3⟩ := step_facts h.may hs
  exact ⟨⟨h1, fun p => (h2 p).trans (h.cov p), by have := h.len; omega⟩, by omega⟩
theorem formOk_of {l : List Tp} (h : allMay (tB l) = true) {L : List Tp} (hf : formB l = tB (sortSp L)) : formOk l = decide (L.length ≤ 16) := by
  unfold formOk
  rw [h, hf, List.length_map, (sortSp_perm L).length_eq]
  rfl
theorem ltOf_behind (x y : Tp) : ltLo x.1.1.data.toList y.1.1.data.toList = Go.Proofs.ltOf cfSp x y := (ltSp x y).symm
set_option linter.unusedSimpArgs false in
set_option maxRecDepth 10000 in
set_option maxHeartbeats 40000000 in
theorem refForm_any {w : World} {v : Value} {l : List Tp} (h : RSps w [v] (tB l)) (hl : l.length ≤ 2000) : Calls Tryz.prog 21 #[v] w (RefFormPost l w) := by
  have hat0 := fun a c (e : v = .slice a (tB l).length c) => sps_at (by rw [← e]; exact h)
  obtain ⟨a, cap, rfl⟩ := sps_shape h
  have hat := hat0 a cap rfl
  clear hat0
  obtain ⟨n, hn⟩ : ∃ n, n = (tB l).length := ⟨_, rfl⟩
  have hnl : n = l.length := by rw [hn, List.length_map]
  rw [← hn] at h ⊢
  have hn1 : n ≤ 2000 := by omega
  have Hh := Lib.hid h; have Hn := Lib.hid hn; have Hnl := Lib.hid hnl; have Hat := Lib.hid hat; clear h hn hnl hat
  go_enter Tryz.func21, Tryz.ntmps21
  go_wp2_with fail
  go_loopw [12] (fun i wr => ∃ k : Nat, k ≤ n ∧ i = .int .i64 k ∧ mayT (l.take k) ∧ Below w.heap.size w wr) (fun i _ => n - (RowKit.intOf i).toNat)
  case atStart => exact ⟨0, Nat.zero_le _, rfl, (fun s hs => by simp at hs), Below.refl _ _⟩
  case round =>
    obtain ⟨k, hk, rfl, hmay, hbr⟩ := hrel
    by_cases hlt : k < n
    · have hkl : k < l.length := by have := Hnl.out; omega
      obtain ⟨y, hy⟩ : ∃ y, y = l[k] := ⟨_, rfl⟩
      obtain ⟨b, off, rfl, c0, c1⟩ := Hat.out k y.1 (by rw [hy, List.getElem?_map, List.getElem?_eq_getElem hkl]; rfl)
      have d0 := cell_later hbr c0
      have d1 := cell_later hbr c1
      have hys := y.2
      have hM := refMay2_any y.1.1 y.1.2 (by omega) (by omega) wr
      obtain ⟨r, hr⟩ : ∃ b, b = mayS (dS y.1) := ⟨_, rfl⟩
      have hr2 : mayS (y.1.1.data.toList, y.1.2.data.toList) = r := hr.symm
      rw [hr2] at hM
      have hnx : r = true → mayT (l.take (k + 1)) := fun h s hs => by
        rw [List.take_succ_eq_append_getElem hkl] at hs
        rcases List.mem_append.1 hs with hs | hs
        · exact hmay s hs
        · rw [List.mem_singleton.1 hs, ← hy, ← hr]; exact h
      have hno : r = false → formOk l = false := fun h => by
        unfold formOk
        cases ha : allMay (tB l) with
        | false => rfl
        | true =>
          have h9 := mayT_iff.2 ha y (by rw [hy]; exact List.getElem_mem _)
          rw [← hr, h] at h9
          cases h9
      obtain ⟨y1, hy1⟩ : ∃ s, s = y.1.1 := ⟨_, rfl⟩
      obtain ⟨y2, hy2⟩ : ∃ s, s = y.1.2 := ⟨_, rfl⟩
      rw [← hy1] at d0
      rw [← hy2] at d1
      rw [← hy1, ← hy2] at hM
      have k5 : (0 : Int) ≤ (k : Int) := by omega
      have k6 : (k : Int) < (n : Int) := by omega
      clear c0 c1 hr2
      cases r with
      | true =>
        have hnx := hnx rfl
        have Hmay := Lib.hid hmay; have Hbr := Lib.hid hbr; have Hy := Lib.hid hy; have Hys := Lib.hid hys; have HM := Lib.hid hM; have Hr := Lib.hid hr; have Hnx := Lib.hid hnx; have Hno := Lib.hid hno; have Hy1 := Lib.hid hy1; have Hy2 := Lib.hid hy2; clear hmay hbr hy hys hM hr hnx hno hy1 hy2
        go_wp2_with fail
        refine HM.out.mono ?_
        rintro e w5 ⟨rfl, hb5⟩
        have hbw := Hbr.out.trans (hb5.mono Hbr.out.size)
        have Hb5 := Lib.hid hb5; have Hbw := Lib.hid hbw; clear hb5 hbw
        go_wp2_with fail
        go_roundw
        case rel => exact ⟨k + 1, by omega, by go_num, Hnx.out, Hbw.out⟩
        case measure => (simp [RowKit.intOf]) <;> omega
      | false =>
        have hno := hno rfl
        have Hmay := Lib.hid hmay; have Hbr := Lib.hid hbr; have Hy := Lib.hid hy; have Hys := Lib.hid hys; have HM := Lib.hid hM; have Hr := Lib.hid hr; have Hnx := Lib.hid hnx; have Hno := Lib.hid hno; have Hy1 := Lib.hid hy1; have Hy2 := Lib.hid hy2; clear hmay hbr hy hys hM hr hnx hno hy1 hy2
        go_wp2_with fail
        refine HM.out.mono ?_
        rintro e w5 ⟨rfl, hb5⟩
        have hbw := Hbr.out.trans (hb5.mono Hbr.out.size)
        have hbw2 := hbw.alloc hbw.size (.cells #[] 34)
        have Hb5 := Lib.hid hb5; have Hbw := Lib.hid hbw; have Hbw2 := Lib.hid hbw2; clear hb5 hbw hbw2
        go_wp2_with fail
        go_ret2
        exact refForm_no Hno.out Hbw2.out
    · obtain rfl : k = n := by omega
      rw [List.take_of_length_le (Nat.le_of_eq Hnl.out.symm)] at hmay
      have hal : allMay (tB l) = true := mayT_iff.1 hmay
      have hrd := stays_slice stays_spn _ _ _ _ Hh.out hbr
      have hl0 : Left l l := ⟨hmay, fun _ => Iff.rfl, Nat.le_refl _⟩
      have Hmay := Lib.hid hmay; have Hbr := Lib.hid hbr; have Hal := Lib.hid hal; have Hrd := Lib.hid hrd; have Hl0 := Lib.hid hl0; clear hmay hbr hal hrd hl0
      go_wp2_with fail
      go_loopw [0, 5] (fun v m wq => ∃ (L : List Tp) (b : Bool), m = .bool b ∧ RSps wq [v] (tB L) ∧ Left l L ∧ (b = false → NoMeet L) ∧ Below w.heap.size w wq) (fun v m _ => 2 * slLen v + boN m)
      case atStart => exact ⟨l, true, rfl, Hrd.out, Hl0.out, (fun h => by cases h), Hbr.out⟩
      case round =>
        obtain ⟨L, b, rfl, hrd, hleft, hnm, hbq⟩ := hrel
        obtain ⟨La, Lc, rfl⟩ := sps_shape hrd
        have hLl : L.length ≤ 2000 := by have := hleft.len; omega
        cases b with
        | true =>
          have hME := refMerged_any hrd hleft.may hLl
          have hln : (tB L).length = L.length := List.length_map _
          obtain ⟨M, hM⟩ : ∃ M, M = (tB L).length := ⟨_, rfl⟩
          rw [← hM] at hrd hME hln ⊢
          have Hrd := Lib.hid hrd; have Hleft := Lib.hid hleft; have Hnm := Lib.hid hnm; have Hbq := Lib.hid hbq; have HME := Lib.hid hME; have Hln := Lib.hid hln; have HM := Lib.hid hM; clear hrd hleft hnm hbq hME hln hM
          go_wp2_with fail
          refine HME.out.mono ?_
          intro e w5 hpost
          obtain ⟨hb5, hpost⟩ := hpost
          rcases hpost with ⟨o, L', rfl, hst, ho⟩ | ⟨rfl, hnm2⟩
          · obtain ⟨hl2, hlt2⟩ := Hleft.out.step hst
            have hbw := Hbq.out.trans (hb5.mono Hbq.out.size)
            have hrd2 : RSps w5 [o] (tB L') := sps_reads (fun x hx => by have := smallB_tB L' x hx; unfold maxLen; omega) (by rw [List.length_map]; exact ho)
            obtain ⟨oa, oc, rfl⟩ := own_shape ho
            have Hst := Lib.hid hst; have Ho := Lib.hid ho; have Hb5 := Lib.hid hb5; have Hl2 := Lib.hid hl2; have Hlt2 := Lib.hid hlt2; have Hbw := Lib.hid hbw; have Hrd2 := Lib.hid hrd2; clear hst ho hb5 hl2 hlt2 hbw hrd2
            go_wp2_with fail
            go_roundw
            case rel => exact ⟨L', true, rfl, Hrd2.out, Hl2.out, (fun h => by cases h), Hbw.out⟩
            case measure => have := Hln.out; have := Hlt2.out; simp [slLen, boN]; omega
          · have hbw := Hbq.out.trans (hb5.mono Hbq.out.size)
            have hrd2 := stays_slice stays_spn _ _ _ _ Hrd.out hb5
            have Hnm2 := Lib.hid hnm2; have Hb5 := Lib.hid hb5; have Hbw := Lib.hid hbw; have Hrd2 := Lib.hid hrd2; clear hnm2 hb5 hbw hrd2
            go_wp2_with fail
            go_roundw
            case rel => exact ⟨L, false, rfl, Hrd2.out, Hleft.out, (fun _ => Hnm2.out), Hbw.out⟩
            case measure => simp [slLen, boN]
        | false =>
          have hf := refForm_is Hmay.out hleft.may hleft.cov (hnm rfl)
          have hfo := formOk_of Hal.out hf
          have hatL := sps_at hrd
          obtain ⟨w2, hw2⟩ : ∃ w2, w2 = wr := ⟨_, rfl⟩
          obtain ⟨m, hm⟩ : ∃ m, m = (tB L).length := ⟨_, rfl⟩
          have hml : m = L.length := by rw [hm, List.length_map]
          have hm1 : m ≤ 2000 := by omega
          rw [← hm] at hrd ⊢
          rw [← hw2] at hatL hbq hrd ⊢
          have hst : InsI w2 L 0 (.slice (some ⟨w2.heap.size, 0, none⟩) 0 0) (w2.alloc (.cells #[] 34)) := ⟨_, _, rfl, lit_sps (Nat.le_refl _), below_alloc1 _ _⟩
          have Hrd := Lib.hid hrd; have Hleft := Lib.hid hleft; have Hnm := Lib.hid hnm; have Hbq := Lib.hid hbq; have Hf := Lib.hid hf; have Hfo := Lib.hid hfo; have HatL := Lib.hid hatL; have Hm := Lib.hid hm; have Hml := Lib.hid hml; have Hst := Lib.hid hst; clear hrd hleft hnm hbq hf hfo hatL hm hml hst
          clear hw2
          go_wp2_with fail
          go_loopw [6, 32] (fun v i wr => ∃ k : Nat, k ≤ m ∧ i = .int .i64 k ∧ InsI w2 L k v wr) (fun _ i _ => m - (RowKit.intOf i).toNat)
          case atStart => exact ⟨0, Nat.zero_le _, rfl, Hst.out⟩
          case round =>
            obtain ⟨k, hk, rfl, gw, cw, rfl, hrow, hbr⟩ := hrel
            obtain ⟨wo, hwo⟩ : ∃ W, W = wr := ⟨_, rfl⟩
            rw [← hwo] at hrow hbr ⊢
            clear hwo
            by_cases hlt : k < m
            · have hkl : k < L.length := by have := Hml.out; omega
              obtain ⟨x, hx⟩ : ∃ x, x = L[k] := ⟨_, rfl⟩
              obtain ⟨b, off, rfl, f0, f1⟩ := HatL.out k x.1 (by rw [hx, List.getElem?_map, List.getElem?_eq_getElem hkl]; rfl)
              have f0 := cell_later hbr f0
              have f1 := cell_later hbr f1
              obtain ⟨P, hP⟩ : ∃ P, P = sortSp (L.take k) := ⟨_, rfl⟩
              have hPl : P.length = k := by rw [hP, (sortSp_perm _).length_eq, List.length_take]; omega
              have hPs : Sorted (Go.Proofs.ltOf cfSp) P := by rw [hP]; exact sorted_span _
              rw [← hP] at hrow
              have k5 : (0 : Int) ≤ (k : Int) := by omega
              have k6 : (k : Int) < (m : Int) := by omega
              have hcell : ∀ j u, ((tB P).flatMap spCells)[j]? = some u → wo.cell? ⟨gw, j, none⟩ = some u := fun j u hu => by
                have := hrow.cells (g := gw) rfl j u hu
                rw [Addr.add_lit, Nat.zero_add] at this
                exact this
              have hxs := x.2
              obtain ⟨x1, hx1⟩ : ∃ s, s = x.1.1 := ⟨_, rfl⟩
              obtain ⟨x2, hx2⟩ : ∃ s, s = x.1.2 := ⟨_, rfl⟩
              rw [← hx1] at f0
              rw [← hx2] at f1
              have Hx := Lib.hid hx; have HP := Lib.hid hP; have HPl := Lib.hid hPl; have HPs := Lib.hid hPs; have Hrow := Lib.hid hrow; have Hbr := Lib.hid hbr; have Hcell := Lib.hid hcell; have Hxs := Lib.hid hxs; have Hx1 := Lib.hid hx1; have Hx2 := Lib.hid hx2; have Hf0 := Lib.hid f0; have Hf1 := Lib.hid f1; clear hx hP hPl hPs hrow hbr hcell hxs hx1 hx2 f0 f1
              go_wp2_with fail
              go_loopw [8] (fun v wq => ∃ q : Nat, q ≤ k ∧ v = .int .i64 q ∧ (∀ i (hi : i < P.length), q ≤ i → Go.Proofs.ltOf cfSp x P[i] = true) ∧ Below wo.heap.size wo wq) (fun v _ => (RowKit.intOf v).toNat)
              case atStart => exact ⟨k, Nat.le_refl _, rfl, (fun i hi h => by have := HPl.out; omega), Below.refl _ _⟩
              case round =>
                obtain ⟨q, hq, rfl, hall, hbq⟩ := hrel
                by_cases hq0 : 0 < q
                · obtain ⟨p, rfl⟩ : ∃ p, q = p + 1 := ⟨q - 1, by omega⟩
                  have hpl : p < P.length := by have := HPl.out; omega
                  obtain ⟨y, hy⟩ : ∃ y, y = P[p] := ⟨_, rfl⟩
                  have hyt : (tB P)[p]'(by rw [List.length_map]; exact hpl) = y.1 := by rw [hy]; exact List.getElem_map _
                  have hyc := sps_flat (tB P) p (by rw [List.length_map]; exact hpl)
                  rw [hyt] at hyc
                  have d2 := Hcell.out _ _ ((hyc 0 (by decide)).trans (show (spCells y.1)[0]? = some (Value.string y.1.1) from rfl))
                  have d3 := Hcell.out _ _ ((hyc 1 (by decide)).trans (show (spCells y.1)[1]? = some (Value.string y.1.2) from rfl))
                  have hys := y.2
                  have hcf : ∀ W, Below wo.heap.size wo W → W.cell? ⟨gw, p * 2, none⟩ = some (.string y.1.1) ∧ W.cell? ⟨gw, p * 2 + 1, none⟩ = some (.string y.1.2) ∧ W.cell? ⟨b, off + k * 2, none⟩ = some (.string x1) ∧ W.cell? ⟨b, off + k * 2 + 1, none⟩ = some (.string x2) :=
                    fun W hW => ⟨cell_later hW d2, cell_later hW d3, cell_later hW Hf0.out, cell_later hW Hf1.out⟩
                  have hL := fun (W : World) (_ : Below wo.heap.size wo W) => behind_any y.1.1 y.1.2 x1 x2 (by omega) (by rw [Hx1.out]; have := Hxs.out; omega) W
                  have hle : ltLo x1.data.toList y.1.1.data.toList = Go.Proofs.ltOf cfSp x y := by rw [Hx1.out]; exact ltOf_behind x y
                  rw [hle] at hL
                  obtain ⟨y1, hy1⟩ : ∃ s, s = y.1.1 := ⟨_, rfl⟩
                  obtain ⟨y2, hy2⟩ : ∃ s, s = y.1.2 := ⟨_, rfl⟩
                  rw [← hy1, ← hy2] at hL
                  simp only [← hy1, ← hy2] at hcf
                  have u2 : IntKind.i64.wrap ((p : Int) + 1 - 1) = (p : Int) := by rw [IntWalk.i64_in _ (by omega)]; omega
                  have u3 : IntKind.i64.wrap (p : Int) = (p : Int) := IntWalk.i64_in _ (by omega)
                  have v1 : decide ((0 : Int) < (p : Int) + 1) = true := decide_eq_true (by omega)
                  have v2 : (0 : Int) < (p : Int) + 1 := by omega
                  have v3 : (p : Int) < (k : Int) := by omega
                  have v4 : (0 : Int) ≤ (p : Int) := by omega
                  obtain ⟨r, hr⟩ : ∃ r, r = Go.Proofs.ltOf cfSp x y := ⟨_, rfl⟩
                  rw [← hr] at hL
                  have hbz := bel_drewN (Below.refl wr.heap.size wr) 1
                  have hcz := hcf _ (hbq.trans (hbz.mono hbq.size))
                  clear hle d2 d3 hyc hyt
                  have hnx : r = true → ∀ i (hi : i < P.length), p ≤ i → Go.Proofs.ltOf cfSp x P[i] = true := fun h i hi hpi => by
                    by_cases e : i = p
                    · subst e; rw [← hy, ← hr]; exact h
                    · exact hall i hi (by omega)
                  have hR : r = false → _ := fun h => ins_round swoSp (x := x) HPs.out (at_ := p + 1) (by have := HPl.out; omega) hall (fun _ => by rw [show P[p + 1 - 1]'(by have := HPl.out; omega) = y by rw [hy]; rfl, ← hr]; exact h)
                  have Hall := Lib.hid hall; have Hbq := Lib.hid hbq; have HL := Lib.hid hL; have Hy := Lib.hid hy; have Hys := Lib.hid hys; have Hr := Lib.hid hr; have Hy1 := Lib.hid hy1; have Hy2 := Lib.hid hy2; have Hnx := Lib.hid hnx; have HR := Lib.hid hR; clear hall hbq hL hy hys hr hy1 hy2 hnx hR
                  have Hcz := Lib.hid hcf
                  clear hcf
                  go_upto_region 15 with (fail)
                  go_region_held3 (fun w' => w'.cell? ⟨gw, p * 2, none⟩ = some (.string y1) ∧ w'.cell? ⟨gw, p * 2 + 1, none⟩ = some (.string y2) ∧ w'.cell? ⟨b, off + k * 2, none⟩ = some (.string x1) ∧ w'.cell? ⟨b, off + k * 2 + 1, none⟩ = some (.string x2)) (first | exact hcz | go_keep) (first | (go_at_call 61; refine (HL.out _ (by exact Hbq.out.trans (hbz.mono Hbq.out.size))).mono ?_; rintro e wz ⟨rfl, hsz⟩; replace hbz := hbz.trans (hsz.mono hbz.size); replace hcz := Hcz.out _ (Hbq.out.trans (hbz.mono Hbq.out.size))))
                  have hb9 := Hbq.out.trans (hbz.mono Hbq.out.size)
                  cases r with
                  | true =>
                    have hnx2 := Hnx.out rfl
                    have Hb9 := Lib.hid hb9; have Hnx2 := Lib.hid hnx2; clear hb9 hnx2
                    go_wp2_with fail
                    go_roundw
                    case rel => exact ⟨p, by omega, by go_num, Hnx2.out, Hb9.out⟩
                    case measure => (simp [RowKit.intOf]) <;> omega
                  | false =>
                    have hR := HR.out rfl
                    clear HR
                    have Hb9 := Lib.hid hb9; have HR := Lib.hid hR; clear hb9 hR
                    go_upto_region 18 with (fail)
                    obtain ⟨T1, hT1⟩ : ∃ T, T = (tB (P.take (p + 1))).flatMap spCells := ⟨_, rfl⟩
                    obtain ⟨T2, hT2⟩ : ∃ T, T = (tB (P.drop (p + 1))).flatMap spCells := ⟨_, rfl⟩
                    have hM : p + 1 ≤ P.length := by have := HPl.out; omega
                    have hl1 : T1.length = (p + 1) * 2 := by have := HPl.out; rw [hT1, spsFlat_len, List.length_map, List.length_take]; omega
                    have hl2 : T2.length = (k - (p + 1)) * 2 := by have := HPl.out; rw [hT2, spsFlat_len, List.length_map, List.length_drop]; omega
                    have hN12 : (tB P).flatMap spCells = T1 ++ T2 := by rw [hT1, hT2, ← List.flatMap_append, tB, tB, ← List.map_append, List.take_append_drop]
                    have hone1 : ∀ u ∈ T1, u.oneCell' = true := by rw [hT1]; exact sps_one _
                    have hone2 : ∀ u ∈ T2, u.oneCell' = true := by rw [hT2]; exact sps_one _
                    have hc1 : ∀ V, Below wz.heap.size wz V → ∀ j u, T1[j]? = some u → ∃ b off, some (⟨gw, 0, none⟩ : Addr) = some ⟨b, off, none⟩ ∧ V.cell? ⟨b, off + j, none⟩ = some u := fun V hV j u hu => by
                      have hj := (List.getElem?_eq_some_iff.1 hu).1
                      exact ⟨gw, 0, rfl, by rw [Nat.zero_add]; exact cell_later hV (cell_later Hb9.out (Hcell.out j u (by rw [hN12, List.getElem?_append_left hj]; exact hu)))⟩
                    have hc2 : ∀ V, Below wz.heap.size wz V → ∀ j u, T2[j]? = some u → ∃ b off, some (⟨gw, (p + 1) * 2, none⟩ : Addr) = some ⟨b, off, none⟩ ∧ V.cell? ⟨b, off + j, none⟩ = some u := fun V hV j u hu =>
                      ⟨gw, (p + 1) * 2, rfl, cell_later hV (cell_later Hb9.out (Hcell.out _ u (by rw [hN12, List.getElem?_append_right (by omega), show (p + 1) * 2 + j - T1.length = j by omega]; exact hu)))⟩
                    have hlit1 := lit_sps (w := wz) (B := wz.heap.size) (Nat.le_refl _)
                    have hba1 : Below wz.heap.size wz (wz.alloc (.cells #[] 34)) := below_alloc1 _ _
                    have hc10 := hc1 _ hba1
                    have hMk : p + 1 ≤ k := by have := HPl.out; omega
                    have hMi : (p : Int) + 1 ≤ (cw : Int) := by have := own_cap2 Hrow.out; omega
                    have hMt : ((p : Int) + 1).toNat = p + 1 := by omega
                    have hM0 : (0 : Int) ≤ (p : Int) + 1 := by omega
                    have HT1 := Lib.hid hT1; have HT2 := Lib.hid hT2; have HM := Lib.hid hM; have Hl1 := Lib.hid hl1; have Hl2 := Lib.hid hl2; have HN12 := Lib.hid hN12; have Hone1 := Lib.hid hone1; have Hone2 := Lib.hid hone2; have Hc1 := Lib.hid hc1; have Hc2 := Lib.hid hc2; have Hlit1 := Lib.hid hlit1; have Hba1 := Lib.hid hba1; have Hc10 := Lib.hid hc10; clear hT1 hT2 hM hl1 hl2 hN12 hone1 hone2 hc1 hc2 hlit1 hba1 hc10
                    go_upto_region 19 with (at_builtin; (refine wpList_append_from elem_spn rfl (.tmp 54) (.tmp 57) rfl wz.heap.size (.slice (some ⟨wz.heap.size, 0, none⟩) 0 0) 0 [] rfl Hlit1.out (some ⟨gw, 0, none⟩) (p + 1) cw T1 rfl Hl1.out Hc10.out Hone1.out (by omega) (by unfold maxLen; omega) (by simp) ?_; intro v7 w7 hown7 hg7 hm7; obtain ⟨a7, c7, rfl⟩ := own_shape hown7; have hb7 := (bel_own Hba1.out Hlit1.out (Nat.le_refl _) hg7 (by have := Hba1.out.size; omega) : Below wz.heap.size wz w7); have Hown7 := Lib.hid hown7; have Hb7 := Lib.hid hb7; clear hown7 hg7 hm7 hb7))
                    have hown8 : w7.ownsRow wz.heap.size 34 2 (.slice a7 (p + 1) c7) (p + 1) T1 := by simpa using Hown7.out
                    obtain ⟨N8, hN8⟩ : ∃ x, x = p + 1 := ⟨_, rfl⟩
                    rw [← hN8] at hown8
                    rw [← hN8]
                    have hN8' : N8 ≤ 2000 := by omega
                    clear Hown7
                    have hz7 := Hb7.out.size
                    have f2 := cell_later (Hb9.out.trans (Hb7.out.mono Hb9.out.size)) Hf0.out
                    have f3 := cell_later (Hb9.out.trans (Hb7.out.mono Hb9.out.size)) Hf1.out
                    have Hown8 := Lib.hid hown8; have HN8 := Lib.hid hN8; clear hown8 hN8
                    go_upto_region 20 with (at_builtin; (refine wpList_append_lit elem_spn rfl (.tmp 59) (.tmp 64) rfl wz.heap.size (.slice a7 N8 c7) N8 T1 rfl Hown8.out 1 #[.string x1, .string x2] rfl rfl (by simp [Value.oneCell']) (by omega) (by unfold maxLen; omega) (by omega) ?_; intro v9 w9 hown9 hg9 hm9; obtain ⟨a9, c9, rfl⟩ := own_shape hown9; have hb19 := (bel_own Hb7.out Hown8.out (Nat.le_refl _) hg9 (by have := Hb7.out.size; omega) : Below wz.heap.size wz w9); have Hown9 := Lib.hid hown9; have Hb19 := Lib.hid hb19; clear hown9 hg9 hm9 hb19))
                    by_cases hcc : p + 1 < cw
                    · have hcd : decide ((p : Int) + 1 < (cw : Int)) = true := decide_eq_true (by omega)
                      have hcd2 : (p : Int) + 1 ≤ (k : Int) := by omega
                      go_upto_region 21 with (at_builtin; (refine wpList_append_from elem_spn rfl (.tmp 66) (.tmp 69) rfl wz.heap.size (.slice a9 (N8 + 1) c9) (N8 + 1) (T1 ++ [.string x1, .string x2]) rfl Hown9.out (some ⟨gw, (p + 1) * 2, none⟩) (k - (p + 1)) (cw - (p + 1)) T2 rfl Hl2.out (Hc2.out _ Hb19.out) Hone2.out (by omega) (by unfold maxLen; omega) (by have := Hb19.out.size; omega) ?_; intro v11 w11 hown11 hg11 hm11; obtain ⟨a11, c11, rfl⟩ := own_shape_pos hown11 (by omega); have hb11 := (bel_own Hb19.out Hown9.out (Nat.le_refl _) hg11 (by have := Hb19.out.size; omega) : Below wz.heap.size wz w11); have Hown11 := Lib.hid hown11; have Hb11 := Lib.hid hb11; clear hown11 hg11 hm11 hb11))
                      go_wp2_with fail
                      go_roundw
                      case rel => exact ⟨k + 1, by omega, by go_num, insI_step hkl Hx.out HP.out HR.out Hx1.out Hx2.out HT1.out HT2.out Hbr.out Hb9.out Hb11.out Hown11.out (by have := HN8.out; omega)⟩
                      case measure => (simp [RowKit.intOf]) <;> omega
                    · have hcd : decide ((p : Int) + 1 < (cw : Int)) = false := decide_eq_false (by omega)
                      have hcd2 : (p : Int) + 1 ≤ (k : Int) := by omega
                      have hkc := own_cap2 Hrow.out
                      have hT0 : T2 = [] := List.eq_nil_of_length_eq_zero (by have := Hl2.out; omega)
                      have hc3 : ∀ V : World, ∀ j u, T2[j]? = some u → ∃ b off, some (⟨gw, 0, none⟩ : Addr) = some ⟨b, off, none⟩ ∧ V.cell? ⟨b, off + j, none⟩ = some u := fun V j u hu => by rw [hT0] at hu; simp at hu
                      have HT0 := Lib.hid hT0; have Hc3 := Lib.hid hc3; clear hT0 hc3
                      go_upto_region 21 with (at_builtin; (refine wpList_append_from elem_spn rfl (.tmp 66) (.tmp 69) rfl wz.heap.size (.slice a9 (N8 + 1) c9) (N8 + 1) (T1 ++ [.string x1, .string x2]) rfl Hown9.out (some ⟨gw, 0, none⟩) (k - (p + 1)) (cw - (p + 1)) T2 rfl Hl2.out (Hc3.out w9) Hone2.out (by omega) (by unfold maxLen; omega) (by have := Hb19.out.size; omega) ?_; intro v11 w11 hown11 hg11 hm11; obtain ⟨a11, c11, rfl⟩ := own_shape_pos hown11 (by omega); have hb11 := (bel_own Hb19.out Hown9.out (Nat.le_refl _) hg11 (by have := Hb19.out.size; omega) : Below wz.heap.size wz w11); have Hown11 := Lib.hid hown11; have Hb11 := Lib.hid hb11; clear hown11 hg11 hm11 hb11))
                      go_wp2_with fail
                      go_roundw
                      case rel => exact ⟨k + 1, by omega, by go_num, insI_step hkl Hx.out HP.out HR.out Hx1.out Hx2.out HT1.out HT2.out Hbr.out Hb9.out Hb11.out Hown11.out (by have := HN8.out; omega)⟩
                      case measure => (simp [RowKit.intOf]) <;> omega
                · obtain rfl : q = 0 := by omega
                  have hR := ins_round swoSp (x := x) HPs.out (at_ := 0) (Nat.zero_le _) hall (fun h => absurd h (Nat.lt_irrefl 0))
                  have v1 : decide ((0 : Int) < ((0 : Nat) : Int)) = false := by simp
                  have Hall := Lib.hid hall; have Hbq := Lib.hid hbq; have HR := Lib.hid hR; clear hall hbq hR
                  go_upto_region 15 with (fail)
                  go_quiet (fail)
                  obtain ⟨wz, hwz⟩ : ∃ W, W = wr.drewN nq := ⟨_, rfl⟩
                  have hb9 : Below wo.heap.size wo wz := by rw [hwz]; exact bel_drewN Hbq.out nq
                  rw [← hwz]
                  have Hb9 := Lib.hid hb9; clear hb9
                  clear hwz
                  go_upto_region 18 with (fail)
                  obtain ⟨T1, hT1⟩ : ∃ T, T = (tB (P.take (0))).flatMap spCells := ⟨_, rfl⟩
                  obtain ⟨T2, hT2⟩ : ∃ T, T = (tB (P.drop (0))).flatMap spCells := ⟨_, rfl⟩
                  have hM : 0 ≤ P.length := by have := HPl.out; omega
                  have hl1 : T1.length = (0) * 2 := by have := HPl.out; rw [hT1, spsFlat_len, List.length_map, List.length_take]; omega
                  have hl2 : T2.length = (k - (0)) * 2 := by have := HPl.out; rw [hT2, spsFlat_len, List.length_map, List.length_drop]; omega
                  have hN12 : (tB P).flatMap spCells = T1 ++ T2 := by rw [hT1, hT2, ← List.flatMap_append, tB, tB, ← List.map_append, List.take_append_drop]
                  have hone1 : ∀ u ∈ T1, u.oneCell' = true := by rw [hT1]; exact sps_one _
                  have hone2 : ∀ u ∈ T2, u.oneCell' = true := by rw [hT2]; exact sps_one _
                  have hc1 : ∀ V, Below wz.heap.size wz V → ∀ j u, T1[j]? = some u → ∃ b off, some (⟨gw, 0, none⟩ : Addr) = some ⟨b, off, none⟩ ∧ V.cell? ⟨b, off + j, none⟩ = some u := fun V hV j u hu => by
                    have hj := (List.getElem?_eq_some_iff.1 hu).1
                    exact ⟨gw, 0, rfl, by rw [Nat.zero_add]; exact cell_later hV (cell_later Hb9.out (Hcell.out j u (by rw [hN12, List.getElem?_append_left hj]; exact hu)))⟩
                  have hc2 : ∀ V, Below wz.heap.size wz V → ∀ j u, T2[j]? = some u → ∃ b off, some (⟨gw, (0) * 2, none⟩ : Addr) = some ⟨b, off, none⟩ ∧ V.cell? ⟨b, off + j, none⟩ = some u := fun V hV j u hu =>
                    ⟨gw, (0) * 2, rfl, cell_later hV (cell_later Hb9.out (Hcell.out _ u (by rw [hN12, List.getElem?_append_right (by omega), show (0) * 2 + j - T1.length = j by omega]; exact hu)))⟩
                  have hlit1 := lit_sps (w := wz) (B := wz.heap.size) (Nat.le_refl _)
                  have hba1 : Below wz.heap.size wz (wz.alloc (.cells #[] 34)) := below_alloc1 _ _
                  have hc10 := hc1 _ hba1
                  have hMk : 0 ≤ k := by have := HPl.out; omega
                  have hMi : (0 : Int) ≤ (cw : Int) := by have := own_cap2 Hrow.out; omega
                  have HT1 := Lib.hid hT1; have HT2 := Lib.hid hT2; have HM := Lib.hid hM; have Hl1 := Lib.hid hl1; have Hl2 := Lib.hid hl2; have HN12 := Lib.hid hN12; have Hone1 := Lib.hid hone1; have Hone2 := Lib.hid hone2; have Hc1 := Lib.hid hc1; have Hc2 := Lib.hid hc2; have Hlit1 := Lib.hid hlit1; have Hba1 := Lib.hid hba1; have Hc10 := Lib.hid hc10; clear hT1 hT2 hM hl1 hl2 hN12 hone1 hone2 hc1 hc2 hlit1 hba1 hc10
                  go_upto_region 19 with (at_builtin; (refine wpList_append_from elem_spn rfl (.tmp 54) (.tmp 57) rfl wz.heap.size (.slice (some ⟨wz.heap.size, 0, none⟩) 0 0) 0 [] rfl Hlit1.out (some ⟨gw, 0, none⟩) (0) cw T1 rfl Hl1.out Hc10.out Hone1.out (by omega) (by unfold maxLen; omega) (by simp) ?_; intro v7 w7 hown7 hg7 hm7; obtain ⟨a7, c7, rfl⟩ := own_shape hown7; have hb7 := (bel_own Hba1.out Hlit1.out (Nat.le_refl _) hg7 (by have := Hba1.out.size; omega) : Below wz.heap.size wz w7); have Hown7 := Lib.hid hown7; have Hb7 := Lib.hid hb7; clear hown7 hg7 hm7 hb7))
                  have hown8 : w7.ownsRow wz.heap.size 34 2 (.slice a7 (0) c7) (0) T1 := by simpa using Hown7.out
                  obtain ⟨N8, hN8⟩ : ∃ x, x = 0 := ⟨_, rfl⟩
                  rw [← hN8] at hown8
                  obtain rfl := hN8
                  have hN8 : (0 : Nat) = 0 := rfl
                  have hN8' : 0 ≤ 2000 := by omega
                  clear Hown7
                  have hz7 := Hb7.out.size
                  have f2 := cell_later (Hb9.out.trans (Hb7.out.mono Hb9.out.size)) Hf0.out
                  have f3 := cell_later (Hb9.out.trans (Hb7.out.mono Hb9.out.size)) Hf1.out
                  have Hown8 := Lib.hid hown8; have HN8 := Lib.hid hN8; clear hown8 hN8
                  go_upto_region 20 with (at_builtin; (refine wpList_append_lit elem_spn rfl (.tmp 59) (.tmp 64) rfl wz.heap.size (.slice a7 0 c7) 0 T1 rfl Hown8.out 1 #[.string x1, .string x2] rfl rfl (by simp [Value.oneCell']) (by omega) (by unfold maxLen; omega) (by omega) ?_; intro v9 w9 hown9 hg9 hm9; obtain ⟨a9, c9, rfl⟩ := own_shape hown9; have hb19 := (bel_own Hb7.out Hown8.out (Nat.le_refl _) hg9 (by have := Hb7.out.size; omega) : Below wz.heap.size wz w9); have Hown9 := Lib.hid hown9; have Hb19 := Lib.hid hb19; clear hown9 hg9 hm9 hb19))
                  by_cases hcc : 0 < cw
                  · have hcd : decide ((0 : Int) < (cw : Int)) = true := decide_eq_true (by omega)
                    have hcd2 : (0 : Int) ≤ (k : Int) := by omega
                    go_upto_region 21 with (at_builtin; (refine wpList_append_from elem_spn rfl (.tmp 66) (.tmp 69) rfl wz.heap.size (.slice a9 (0 + 1) c9) (0 + 1) (T1 ++ [.string x1, .string x2]) rfl Hown9.out (some ⟨gw, (0) * 2, none⟩) (k) (cw) T2 rfl Hl2.out (Hc2.out _ Hb19.out) Hone2.out (by omega) (by unfold maxLen; omega) (by have := Hb19.out.size; omega) ?_; intro v11 w11 hown11 hg11 hm11; obtain ⟨a11, c11, rfl⟩ := own_shape_pos hown11 (by omega); have hb11 := (bel_own Hb19.out Hown9.out (Nat.le_refl _) hg11 (by have := Hb19.out.size; omega) : Below wz.heap.size wz w11); have Hown11 := Lib.hid hown11; have Hb11 := Lib.hid hb11; clear hown11 hg11 hm11 hb11))
                    go_wp2_with fail
                    go_roundw
                    case rel => exact ⟨k + 1, by omega, by go_num, insI_step hkl Hx.out HP.out HR.out Hx1.out Hx2.out HT1.out HT2.out Hbr.out Hb9.out Hb11.out Hown11.out (by have := HN8.out; omega)⟩
                    case measure => (simp [RowKit.intOf]) <;> omega
                  · have hcd : decide ((0 : Int) < (cw : Int)) = false := decide_eq_false (by omega)
                    have hcd2 : (0 : Int) ≤ (k : Int) := by omega
                    have hkc := own_cap2 Hrow.out
                    have hT0 : T2 = [] := List.eq_nil_of_length_eq_zero (by have := Hl2.out; omega)
                    have hc3 : ∀ V : World, ∀ j u, T2[j]? = some u → ∃ b off, some (⟨gw, 0, none⟩ : Addr) = some ⟨b, off, none⟩ ∧ V.cell? ⟨b, off + j, none⟩ = some u := fun V j u hu => by rw [hT0] at hu; simp at hu
                    have HT0 := Lib.hid hT0; have Hc3 := Lib.hid hc3; clear hT0 hc3
                    go_upto_region 21 with (at_builtin; (refine wpList_append_from elem_spn rfl (.tmp 66) (.tmp 69) rfl wz.heap.size (.slice a9 (0 + 1) c9) (0 + 1) (T1 ++ [.string x1, .string x2]) rfl Hown9.out (some ⟨gw, 0, none⟩) (k) (cw) T2 rfl Hl2.out (Hc3.out w9) Hone2.out (by omega) (by unfold maxLen; omega) (by have := Hb19.out.size; omega) ?_; intro v11 w11 hown11 hg11 hm11; obtain ⟨a11, c11, rfl⟩ := own_shape_pos hown11 (by omega); have hb11 := (bel_own Hb19.out Hown9.out (Nat.le_refl _) hg11 (by have := Hb19.out.size; omega) : Below wz.heap.size wz w11); have Hown11 := Lib.hid hown11; have Hb11 := Lib.hid hb11; clear hown11 hg11 hm11 hb11))
                    go_wp2_with fail
                    go_roundw
                    case rel => exact ⟨k + 1, by omega, by go_num, insI_step hkl Hx.out HP.out HR.out Hx1.out Hx2.out HT1.out HT2.out Hbr.out Hb9.out Hb11.out Hown11.out (by have := HN8.out; omega)⟩
                    case measure => (simp [RowKit.intOf]) <;> omega
            · obtain rfl : k = m := by omega
              have htk : L.take k = L := List.take_of_length_le (Nat.le_of_eq Hml.out.symm)
              rw [htk] at hrow
              have hw2 := Hbq.out.trans (hbr.mono Hbq.out.size)
              have hb2 := hw2.alloc hw2.size (.cells #[] 34)
              have hown := ownsRow_mono hrow Hbq.out.size
              rw [show tB (sortSp L) = formB l from Hf.out.symm] at hown
              have hml2 : (formB l).length = k := by rw [Hf.out, List.length_map, (sortSp_perm L).length_eq]; exact Hml.out.symm
              by_cases h16 : 16 < k
              · have kk : decide ((16 : Int) < (k : Int)) = true := decide_eq_true (by omega)
                have hno : formOk l = false := by rw [Hfo.out, decide_eq_false]; have := Hml.out; omega
                have Hrow := Lib.hid hrow; have Hbr := Lib.hid hbr; have Hw2 := Lib.hid hw2; have Hb2 := Lib.hid hb2; have Hown := Lib.hid hown; have Hml2 := Lib.hid hml2; have Hno := Lib.hid hno; clear hrow hbr hw2 hb2 hown hml2 hno
                go_wp2_with fail
                go_ret2
                exact refForm_no Hno.out Hb2.out
              · have kk : decide ((16 : Int) < (k : Int)) = false := decide_eq_false (by omega)
                have hyes : formOk l = true := by rw [Hfo.out, decide_eq_true]; have := Hml.out; omega
                have Hrow := Lib.hid hrow; have Hbr := Lib.hid hbr; have Hw2 := Lib.hid hw2; have Hb2 := Lib.hid hb2; have Hown := Lib.hid hown; have Hml2 := Lib.hid hml2; have Hyes := Lib.hid hyes; clear hrow hbr hw2 hb2 hown hml2 hyes
                go_wp2_with fail
                go_ret2
                exact ⟨.slice (some ⟨gw, 0, none⟩) k cw, (by rw [Hyes.out]; rfl), (fun _ => by have h9 := Hown.out; rw [Hml2.out]; exact h9), Hw2.out⟩
end Go.Proofs.YteailgjiifdgcaaGreatDoor

/- The walk of cooperlaw03.SpansShares: the law. Condition: the library's variables as they were laid. -/
namespace Go.Proofs.YteailgjiifdgcaaGreatDoor
open Go.Shelf Go.RowKit Go.Lib VerN

theorem small100 {F : List BSp} (h : Small100 F) : SmallB F := fun z hz => by have := h.2 z hz; omega
def CutB (b : Bool) (w : World) (v : Value) (W : World) : Prop := v = .bool b ∧ Below w.heap.size w W
theorem fx_all : formOk [⟨(⟨#[]⟩, ⟨#[]⟩), by decide⟩] = true ∧ formB [⟨(⟨#[]⟩, ⟨#[]⟩), by decide⟩] = [(⟨#[]⟩, ⟨#[]⟩)] := by decide
theorem cov_all {F : List BSp} {f : List Tp} (hf : formB f = [(⟨#[]⟩, ⟨#[]⟩)]) (x : Pt) (_ : cov (F.map dS) x) : cov ((formB f).map dS) x := by
  rw [hf]
  refine ⟨_, List.mem_singleton.2 rfl, ?_⟩
  match x with
  | none => rfl
  | some (false, p) => exact ⟨.inl rfl, .inl rfl⟩
  | some (true, p) => exact ⟨.inl rfl, .inl rfl⟩
set_option linter.unusedSimpArgs false
set_option maxRecDepth 10000 in
set_option maxHeartbeats 40000000 in
theorem spansShares_true (v : ByteArray) {A B C : List BSp} {va vb vc : Value} {w : World} (hra : RSps w [va] A) (hrb : RSps w [vb] B) (hrc : RSps w [vc] C) (hD : Doors w) (hvz : v.size ≤ 9223372036854775807) : Calls Tryz.prog 4 #[va, vb, vc, .string v] w fun e w' => e = .returned (.bool true) ∧ Below w.heap.size w w' := by
  have hF := fun (W : World) (k : Below w.heap.size w W) => fixed03_any (hD.below k)
  obtain ⟨aa, ca, rfl⟩ := sps_shape hra
  obtain ⟨ab, cb, rfl⟩ := sps_shape hrb
  obtain ⟨ac, cc, rfl⟩ := sps_shape hrc
  have hGa := refGreat3_any hra
  have hGb := refGreat3_any hrb
  have hGc := refGreat3_any hrc
  obtain ⟨na, hna⟩ : ∃ n, n = A.length := ⟨_, rfl⟩
  obtain ⟨nb, hnb⟩ : ∃ n, n = B.length := ⟨_, rfl⟩
  obtain ⟨nc, hnc⟩ : ∃ n, n = C.length := ⟨_, rfl⟩
  rw [← hna] at hra hGa ⊢
  rw [← hnb] at hrb hGb ⊢
  rw [← hnc] at hrc hGc ⊢
  obtain ⟨p1, k1⟩ : ∃ p, decide ((8 : Int) < (na : Int)) = p := ⟨_, rfl⟩
  obtain ⟨p2, k2⟩ : ∃ p, decide ((8 : Int) < (nb : Int)) = p := ⟨_, rfl⟩
  obtain ⟨p3, k3⟩ : ∃ p, decide ((8 : Int) < (nc : Int)) = p := ⟨_, rfl⟩
  obtain ⟨p4, k4⟩ : ∃ p, decide ((3000 : Int) < (v.size : Int)) = p := ⟨_, rfl⟩
  have h1 : p1 = false → na ≤ 8 := fun h => by rw [h] at k1; simp at k1; omega
  have h2 : p2 = false → nb ≤ 8 := fun h => by rw [h] at k2; simp at k2; omega
  have h3 : p3 = false → nc ≤ 8 := fun h => by rw [h] at k3; simp at k3; omega
  have h4 : p4 = false → v.size ≤ 3000 := fun h => by rw [h] at k4; simp at k4; omega
  have Hra := Lib.hid hra; have Hrb := Lib.hid hrb; have Hrc := Lib.hid hrc; have HGa := Lib.hid hGa; have HGb := Lib.hid hGb; have HGc := Lib.hid hGc; have Hna := Lib.hid hna; have Hnb := Lib.hid hnb; have Hnc := Lib.hid hnc; have HF := Lib.hid hF; have HD := Lib.hid hD; have H1 := Lib.hid h1; have H2 := Lib.hid h2; have H3 := Lib.hid h3; have H4 := Lib.hid h4; clear hra hrb hrc hGa hGb hGc hna hnb hnc hF hD h1 h2 h3 h4
  go_enter Tryz.func4, Tryz.ntmps4
  cases p1 with
  | true =>
    go_wp2_with fail
    refine (HF.out _ (Below.refl _ _)).mono ?_
    rintro e w1 ⟨rfl, hb1⟩
    have Hb1 := Lib.hid hb1; clear hb1
    go_wp2_with fail
    go_ret
    exact ⟨rfl, Hb1.out⟩
  | false =>
    cases p2 with
    | true =>
      go_wp2_with fail
      refine (HF.out _ (Below.refl _ _)).mono ?_
      rintro e w1 ⟨rfl, hb1⟩
      have Hb1 := Lib.hid hb1; clear hb1
      go_wp2_with fail
      go_ret
      exact ⟨rfl, Hb1.out⟩
    | false =>
      cases p3 with
      | true =>
        go_wp2_with fail
        refine (HF.out _ (Below.refl _ _)).mono ?_
        rintro e w1 ⟨rfl, hb1⟩
        have Hb1 := Lib.hid hb1; clear hb1
        go_wp2_with fail
        go_ret
        exact ⟨rfl, Hb1.out⟩
      | false =>
        go_wp2_with fail
        refine HGa.out.mono ?_
        rintro e w1 ⟨⟨r1, rfl, hr1⟩, rfl⟩
        cases r1 with
        | true =>
          clear hr1
          go_wp2_with fail
          refine (HF.out _ (Below.refl _ _)).mono ?_
          rintro e w1 ⟨rfl, hb1⟩
          have Hb1 := Lib.hid hb1; clear hb1
          go_wp2_with fail
          go_ret
          exact ⟨rfl, Hb1.out⟩
        | false =>
          have hs1 := hr1 rfl
          clear hr1
          have Hs1 := Lib.hid hs1; clear hs1
          go_wp2_with fail
          refine HGb.out.mono ?_
          rintro e w1 ⟨⟨r2, rfl, hr2⟩, rfl⟩
          cases r2 with
          | true =>
            clear hr2
            go_wp2_with fail
            refine (HF.out _ (Below.refl _ _)).mono ?_
            rintro e w1 ⟨rfl, hb1⟩
            have Hb1 := Lib.hid hb1; clear hb1
            go_wp2_with fail
            go_ret
            exact ⟨rfl, Hb1.out⟩
          | false =>
            have hs2 := hr2 rfl
            clear hr2
            have Hs2 := Lib.hid hs2; clear hs2
            go_wp2_with fail
            refine HGc.out.mono ?_
            rintro e w1 ⟨⟨r3, rfl, hr3⟩, rfl⟩
            cases r3 with
            | true =>
              clear hr3
              go_wp2_with fail
              refine (HF.out _ (Below.refl _ _)).mono ?_
              rintro e w1 ⟨rfl, hb1⟩
              have Hb1 := Lib.hid hb1; clear hb1
              go_wp2_with fail
              go_ret
              exact ⟨rfl, Hb1.out⟩
            | false =>
              have hs3 := hr3 rfl
              clear hr3
              have Hs3 := Lib.hid hs3; clear hs3
              cases p4 with
              | true =>
                go_wp2_with fail
                refine (HF.out _ (Below.refl _ _)).mono ?_
                rintro e w1 ⟨rfl, hb1⟩
                have Hb1 := Lib.hid hb1; clear hb1
                go_wp2_with fail
                go_ret
                exact ⟨rfl, Hb1.out⟩
              | false =>
                have hnA := by first | exact H1.out rfl | exact H1.out trivial
                have hnB := by first | exact H2.out rfl | exact H2.out trivial
                have hnC := by first | exact H3.out rfl | exact H3.out trivial
                have hnv := H4.out rfl
                obtain ⟨a, hta⟩ := small_list (small100 Hs1.out)
                obtain ⟨b, htb⟩ := small_list (small100 Hs2.out)
                obtain ⟨c, htc⟩ := small_list (small100 Hs3.out)
                have hla : a.length = na := by rw [Hna.out, ← hta, List.length_map]
                have hlb : b.length = nb := by rw [Hnb.out, ← htb, List.length_map]
                have hlc : c.length = nc := by rw [Hnc.out, ← htc, List.length_map]
                have hra := Hra.out
                have hrb := Hrb.out
                have hrc := Hrc.out
                rw [← hta] at hra
                rw [← htb] at hrb
                rw [← htc] at hrc
                have hFa := fun (W : World) (k : Below w.heap.size w W) => refForm_any (stays_slice stays_spn _ _ _ _ hra k) (by omega)
                have hFb := fun (W : World) (k : Below w.heap.size w W) => refForm_any (stays_slice stays_spn _ _ _ _ hrb k) (by omega)
                have hFc := fun (W : World) (k : Below w.heap.size w W) => refForm_any (stays_slice stays_spn _ _ _ _ hrc k) (by omega)
                unfold RefFormPost at hFa hFb hFc
                obtain ⟨x, hx⟩ : ∃ p, p = formOk a := ⟨_, rfl⟩
                obtain ⟨y, hy⟩ : ∃ p, p = formOk b := ⟨_, rfl⟩
                obtain ⟨z, hz⟩ : ∃ p, p = formOk c := ⟨_, rfl⟩
                simp only [← hx] at hFa
                simp only [← hy] at hFb
                simp only [← hz] at hFc
                clear Hra Hrb Hrc
                have Hta := Lib.hid hta; have Htb := Lib.hid htb; have Htc := Lib.hid htc; have Hla := Lib.hid hla; have Hlb := Lib.hid hlb; have Hlc := Lib.hid hlc; have Hra := Lib.hid hra; have Hrb := Lib.hid hrb; have Hrc := Lib.hid hrc; have HFa := Lib.hid hFa; have HFb := Lib.hid hFb; have HFc := Lib.hid hFc; have Hx := Lib.hid hx; have Hy := Lib.hid hy; have Hz := Lib.hid hz; clear hta htb htc hla hlb hlc hra hrb hrc hFa hFb hFc hx hy hz
                go_wp2_with fail
                refine (HFa.out _ (Below.refl _ _)).mono ?_
                rintro e w1 ⟨oa, rfl, _, hb1⟩
                have Hb1 := Lib.hid hb1; clear hb1
                go_wp2_with fail
                refine (HFb.out _ Hb1.out).mono ?_
                rintro e w2 ⟨ob, rfl, _, hb2⟩
                have hbw2 := Hb1.out.trans (hb2.mono Hb1.out.size)
                have Hb2 := Lib.hid hb2; have Hbw2 := Lib.hid hbw2; clear hb2 hbw2
                go_wp2_with fail
                refine (HFc.out _ Hbw2.out).mono ?_
                rintro e w3 ⟨oc, rfl, _, hb3⟩
                have hbw3 := Hbw2.out.trans (hb3.mono Hbw2.out.size)
                have Hb3 := Lib.hid hb3; have Hbw3 := Lib.hid hbw3; clear hb3 hbw3
                cases x with
                | false =>
                  go_wp2_with fail
                  refine (HF.out _ Hbw3.out).mono ?_
                  rintro e w4 ⟨rfl, hb4⟩
                  have Hb4 := Lib.hid hb4; clear hb4
                  go_wp2_with fail
                  go_ret
                  exact ⟨rfl, Hbw3.out.trans (Hb4.out.mono Hbw3.out.size)⟩
                | true =>
                  cases y with
                  | false =>
                    go_wp2_with fail
                    refine (HF.out _ Hbw3.out).mono ?_
                    rintro e w4 ⟨rfl, hb4⟩
                    have Hb4 := Lib.hid hb4; clear hb4
                    go_wp2_with fail
                    go_ret
                    exact ⟨rfl, Hbw3.out.trans (Hb4.out.mono Hbw3.out.size)⟩
                  | true =>
                    cases z with
                    | false =>
                      go_wp2_with fail
                      refine (HF.out _ Hbw3.out).mono ?_
                      rintro e w4 ⟨rfl, hb4⟩
                      have Hb4 := Lib.hid hb4; clear hb4
                      go_wp2_with fail
                      go_ret
                      exact ⟨rfl, Hbw3.out.trans (Hb4.out.mono Hbw3.out.size)⟩
                    | true =>
                      have oka : formOk a = true := Hx.out.symm
                      have okb : formOk b = true := Hy.out.symm
                      have okc : formOk c = true := Hz.out.symm
                      have la8 : a.length ≤ 8 := by have := Hla.out; omega
                      have lb8 : b.length ≤ 8 := by have := Hlb.out; omega
                      have lc8 : c.length ≤ 8 := by have := Hlc.out; omega
                      obtain ⟨bc, hbc⟩ := small_list (smallB_union b c)
                      obtain ⟨l1, hl1⟩ := meetP_some a bc
                      obtain ⟨lx, hlx⟩ := meetP_some a b
                      obtain ⟨ly, hly⟩ := meetP_some a c
                      obtain ⟨mb, hmb⟩ := small_list (smallB_meet a b lx)
                      obtain ⟨mc, hmc⟩ := small_list (smallB_meet a c ly)
                      obtain ⟨ua, hua⟩ := small_list (smallB_union a a)
                      obtain ⟨la2, hla2⟩ := meetP_some a a
                      obtain ⟨ma, hma⟩ := small_list (smallB_meet a a la2)
                      obtain ⟨f, hf⟩ : ∃ f : List Tp, f = [⟨(⟨#[]⟩, ⟨#[]⟩), by decide⟩] := ⟨_, rfl⟩
                      obtain ⟨lf, hlf⟩ := meetP_some a f
                      obtain ⟨mf, hmf⟩ := small_list (smallB_meet a f lf)
                      have nbc : bc.length ≤ 16 := by rw [← List.length_map (f := fun x : Tp => x.1)]; show (tB bc).length ≤ 16; rw [hbc]; exact union_len b c
                      have nmb : mb.length ≤ 16 := by rw [← List.length_map (f := fun x : Tp => x.1)]; show (tB mb).length ≤ 16; rw [hmb]; exact meetB_len a b lx
                      have nmc : mc.length ≤ 16 := by rw [← List.length_map (f := fun x : Tp => x.1)]; show (tB mc).length ≤ 16; rw [hmc]; exact meetB_len a c ly
                      have nua : ua.length ≤ 16 := by rw [← List.length_map (f := fun x : Tp => x.1)]; show (tB ua).length ≤ 16; rw [hua]; exact union_len a a
                      have nma : ma.length ≤ 16 := by rw [← List.length_map (f := fun x : Tp => x.1)]; show (tB ma).length ≤ 16; rw [hma]; exact meetB_len a a la2
                      have nmf : mf.length ≤ 16 := by rw [← List.length_map (f := fun x : Tp => x.1)]; show (tB mf).length ≤ 16; rw [hmf]; exact meetB_len a f lf
                      have hfa := form_len a
                      have hfo : formOk f = true := by rw [hf]; exact fx_all.1
                      have hff : formB f = [(⟨#[]⟩, ⟨#[]⟩)] := by rw [hf]; exact fx_all.2
                      have hsu := union_self oka la8 hua
                      have hsm := meet_same oka oka (by omega) hla2 (fun _ h => h) hma
                      have hsf := meet_same oka hfo (by rw [hff, List.length_singleton]; omega) hlf (fun x h => cov_all hff x h) hmf
                      obtain ⟨t, ht⟩ : ∃ t, t = v.data.toList := ⟨_, rfl⟩
                      have hs1 := shr_one (v := t) oka okb okc lb8 lc8 hbc hl1
                      have hs2 := shr_two (v := t) oka okb okc la8 lb8 lc8 hlx hly hmb hmc
                      have hv1 : v.size ≤ 1000000 := by omega
                      have hU := fun (W : World) (k : Below w.heap.size w W) => union_any (stays_slice stays_spn _ _ _ _ Hrb.out k) (stays_slice stays_spn _ _ _ _ Hrc.out k) (by omega) (by omega) (HD.out.below k)
                      have hMb := fun (W : World) (k : Below w.heap.size w W) => meetSps_any (stays_slice stays_spn _ _ _ _ Hra.out k) (stays_slice stays_spn _ _ _ _ Hrb.out k) (by omega) (by omega) (HD.out.below k) hlx
                      have hMc := fun (W : World) (k : Below w.heap.size w W) => meetSps_any (stays_slice stays_spn _ _ _ _ Hra.out k) (stays_slice stays_spn _ _ _ _ Hrc.out k) (by omega) (by omega) (HD.out.below k) hly
                      have hMa := fun (W : World) (k : Below w.heap.size w W) => meetSps_any (stays_slice stays_spn _ _ _ _ Hra.out k) (stays_slice stays_spn _ _ _ _ Hra.out k) (by omega) (by omega) (HD.out.below k) hla2
                      have hUa := fun (W : World) (k : Below w.heap.size w W) => union_any (stays_slice stays_spn _ _ _ _ Hra.out k) (stays_slice stays_spn _ _ _ _ Hra.out k) (by omega) (by omega) (HD.out.below k)
                      have hHa := fun (W : World) (k : Below w.heap.size w W) => refHas3_any (stays_slice stays_spn _ _ _ _ Hra.out k) (smallB_tB a) v hv1
                      have hHb := fun (W : World) (k : Below w.heap.size w W) => refHas3_any (stays_slice stays_spn _ _ _ _ Hrb.out k) (smallB_tB b) v hv1
                      have hHc := fun (W : World) (k : Below w.heap.size w W) => refHas3_any (stays_slice stays_spn _ _ _ _ Hrc.out k) (smallB_tB c) v hv1
                      simp only [← hbc] at hU
                      simp only [← hmb] at hMb
                      simp only [← hmc] at hMc
                      simp only [← hma] at hMa
                      simp only [← hua] at hUa
                      simp only [← ht] at hHa hHb hHc
                      obtain ⟨ia, hia⟩ : ∃ p, p = hasB (tB a) t := ⟨_, rfl⟩
                      obtain ⟨ib, hib⟩ : ∃ p, p = hasB (tB b) t := ⟨_, rfl⟩
                      obtain ⟨ic, hic⟩ : ∃ p, p = hasB (tB c) t := ⟨_, rfl⟩
                      simp only [← hia] at hHa
                      simp only [← hib] at hHb
                      simp only [← hic] at hHc
                      rw [← hia, ← hib, ← hic] at hs1 hs2
                      obtain ⟨n1, hn1⟩ : ∃ n, n = (meetB a bc l1).length := ⟨_, rfl⟩
                      obtain ⟨n2, hn2⟩ : ∃ n, n = (unionB mb mc).length := ⟨_, rfl⟩
                      obtain ⟨e1, he1⟩ : ∃ p, p = hasB (meetB a bc l1) t := ⟨_, rfl⟩
                      obtain ⟨e2, he2⟩ : ∃ p, p = hasB (unionB mb mc) t := ⟨_, rfl⟩
                      obtain ⟨i, hi⟩ : ∃ p, p = (ia && (ib || ic)) := ⟨_, rfl⟩
                      rw [← hn1, ← he1, ← hi] at hs1
                      rw [← hn2, ← he2, ← hi] at hs2
                      have Hoka := Lib.hid oka; have Hokb := Lib.hid okb; have Hokc := Lib.hid okc; have Hla8 := Lib.hid la8; have Hlb8 := Lib.hid lb8; have Hlc8 := Lib.hid lc8; have Hbc := Lib.hid hbc; have Hl1 := Lib.hid hl1; have Hlx := Lib.hid hlx; have Hly := Lib.hid hly; have Hmb := Lib.hid hmb; have Hmc := Lib.hid hmc; have Hua := Lib.hid hua; have Hla2 := Lib.hid hla2; have Hma := Lib.hid hma; have Hf := Lib.hid hf; have Hlf := Lib.hid hlf; have Hmf := Lib.hid hmf; have Hnbc := Lib.hid nbc; have Hnmb := Lib.hid nmb; have Hnmc := Lib.hid nmc; have Hnua := Lib.hid nua; have Hnma := Lib.hid nma; have Hnmf := Lib.hid nmf; have Hfa := Lib.hid hfa; have Hfo := Lib.hid hfo; have Hff := Lib.hid hff; have Hsu := Lib.hid hsu; have Hsm := Lib.hid hsm; have Hsf := Lib.hid hsf; have Ht := Lib.hid ht; have Hs1 := Lib.hid hs1; have Hs2 := Lib.hid hs2; have Hv1 := Lib.hid hv1; have HU := Lib.hid hU; have HMb := Lib.hid hMb; have HMc := Lib.hid hMc; have HMa := Lib.hid hMa; have HUa := Lib.hid hUa; have HHa := Lib.hid hHa; have HHb := Lib.hid hHb; have HHc := Lib.hid hHc; have Hia := Lib.hid hia; have Hib := Lib.hid hib; have Hic := Lib.hid hic; have Hn1 := Lib.hid hn1; have Hn2 := Lib.hid hn2; have He1 := Lib.hid he1; have He2 := Lib.hid he2; have Hi := Lib.hid hi; clear oka okb okc la8 lb8 lc8 hbc hl1 hlx hly hmb hmc hua hla2 hma hf hlf hmf nbc nmb nmc nua nma nmf hfa hfo hff hsu hsm hsf ht hs1 hs2 hv1 hU hMb hMc hMa hUa hHa hHb hHc hia hib hic hn1 hn2 he1 he2 hi
                      go_wp2_with fail
                      refine (HU.out _ Hbw3.out).mono ?_
                      rintro e w4 ⟨⟨o4, rfl, ho4⟩, hb4⟩
                      have hbw4 := Hbw3.out.trans (hb4.mono Hbw3.out.size)
                      have hM1 := meetSps_any (stays_slice stays_spn _ _ _ _ Hra.out hbw4) ho4 (by have := Hla8.out; omega) (by have := Hnbc.out; omega) (HD.out.below hbw4) Hl1.out
                      have Ho4 := Lib.hid ho4; have Hb4 := Lib.hid hb4; have Hbw4 := Lib.hid hbw4; have HM1 := Lib.hid hM1; clear ho4 hb4 hbw4 hM1
                      go_wp2_with fail
                      refine HM1.out.mono ?_
                      rintro e w5 ⟨⟨o5, rfl, ho5⟩, hb5⟩
                      obtain ⟨a5, c5, e5⟩ := sps_shape ho5
                      rw [← Hn1.out] at e5
                      subst e5
                      have hbw5 := Hbw4.out.trans (hb5.mono Hbw4.out.size)
                      have Ho5 := Lib.hid ho5; have Hb5 := Lib.hid hb5; have Hbw5 := Lib.hid hbw5; clear ho5 hb5 hbw5
                      go_wp2_with fail
                      refine (HMb.out _ Hbw5.out).mono ?_
                      rintro e w6 ⟨⟨o6, rfl, ho6⟩, hb6⟩
                      have hbw6 := Hbw5.out.trans (hb6.mono Hbw5.out.size)
                      have hr56 := stays_slice stays_spn _ _ _ _ Ho5.out hb6
                      have Ho6 := Lib.hid ho6; have Hb6 := Lib.hid hb6; have Hbw6 := Lib.hid hbw6; have Hr56 := Lib.hid hr56; clear ho6 hb6 hbw6 hr56
                      go_wp2_with fail
                      refine (HMc.out _ Hbw6.out).mono ?_
                      rintro e w7 ⟨⟨o7, rfl, ho7⟩, hb7⟩
                      have hbw7 := Hbw6.out.trans (hb7.mono Hbw6.out.size)
                      have hr57 := stays_slice stays_spn _ _ _ _ Hr56.out hb7
                      have hU2 := union_any (stays_slice stays_spn _ _ _ _ Ho6.out hb7) ho7 (by have := Hnmb.out; omega) (by have := Hnmc.out; omega) (HD.out.below hbw7)
                      have Ho7 := Lib.hid ho7; have Hb7 := Lib.hid hb7; have Hbw7 := Lib.hid hbw7; have Hr57 := Lib.hid hr57; have HU2 := Lib.hid hU2; clear ho7 hb7 hbw7 hr57 hU2
                      go_wp2_with fail
                      refine HU2.out.mono ?_
                      rintro e w8 ⟨⟨o8, rfl, ho8⟩, hb8⟩
                      obtain ⟨a8, c8, e8⟩ := sps_shape ho8
                      rw [← Hn2.out] at e8
                      subst e8
                      have hbw8 := Hbw7.out.trans (hb8.mono Hbw7.out.size)
                      have hr58 := stays_slice stays_spn _ _ _ _ Hr57.out hb8
                      have Ho8 := Lib.hid ho8; have Hb8 := Lib.hid hb8; have Hbw8 := Lib.hid hbw8; have Hr58 := Lib.hid hr58; clear ho8 hb8 hbw8 hr58
                      go_upto_region 10 with (fail)
                      go_cut [17] (fun x W => x = .bool i ∧ Below w8.heap.size w8 W)
                      case first =>
                        cases ia with
                        | false =>
                          go_wp2_with fail
                          refine (HHa.out _ Hbw8.out).mono ?_
                          rintro e w9 ⟨rfl, hb9⟩
                          have Hb9 := Lib.hid hb9; clear hb9
                          go_wp2_with fail
                          go_meet
                          exact ⟨by rw [Hi.out]; rfl, Hb9.out⟩
                        | true =>
                          go_wp2_with fail
                          refine (HHa.out _ Hbw8.out).mono ?_
                          rintro e w9 ⟨rfl, hb9⟩
                          have hbw9 := Hbw8.out.trans (hb9.mono Hbw8.out.size)
                          have Hb9 := Lib.hid hb9; have Hbw9 := Lib.hid hbw9; clear hb9 hbw9
                          cases ib with
                          | true =>
                            go_wp2_with fail
                            refine (HHb.out _ Hbw9.out).mono ?_
                            rintro e w10 ⟨rfl, hb10⟩
                            have hb11 := Hb9.out.trans (hb10.mono Hb9.out.size)
                            have Hb10 := Lib.hid hb10; have Hb11 := Lib.hid hb11; clear hb10 hb11
                            go_wp2_with fail
                            go_meet
                            exact ⟨by rw [Hi.out]; rfl, Hb11.out⟩
                          | false =>
                            go_wp2_with fail
                            refine (HHb.out _ Hbw9.out).mono ?_
                            rintro e w10 ⟨rfl, hb10⟩
                            have hb11 := Hb9.out.trans (hb10.mono Hb9.out.size)
                            have hbw10 := Hbw9.out.trans (hb10.mono Hbw9.out.size)
                            have Hb10 := Lib.hid hb10; have Hb11 := Lib.hid hb11; have Hbw10 := Lib.hid hbw10; clear hb10 hb11 hbw10
                            go_wp2_with fail
                            refine (HHc.out _ Hbw10.out).mono ?_
                            rintro e w12 ⟨rfl, hb12⟩
                            have hb13 := Hb11.out.trans (hb12.mono Hb11.out.size)
                            have Hb12 := Lib.hid hb12; have Hb13 := Lib.hid hb13; clear hb12 hb13
                            go_wp2_with fail
                            go_meet
                            exact ⟨by rw [Hi.out]; rfl, Hb13.out⟩
                      case rest =>
                        obtain ⟨rfl, hb9⟩ := hcut
                        obtain ⟨w9, hw9⟩ : ∃ W, W = wc := ⟨_, rfl⟩
                        rw [← hw9] at hb9 ⊢
                        clear hw9
                        have hbw9 := Hbw8.out.trans (hb9.mono Hbw8.out.size)
                        have hr59 := stays_slice stays_spn _ _ _ _ Hr58.out hb9
                        have hr89 := stays_slice stays_spn _ _ _ _ Ho8.out hb9
                        have hE1 := fun (W : World) (k : Below w9.heap.size w9 W) => spsHas_any (stays_slice stays_spn _ _ _ _ hr59 k) (smallB_meet _ _ _) v Hv1.out (HD.out.below (hbw9.trans (k.mono hbw9.size)))
                        have hE2 := fun (W : World) (k : Below w9.heap.size w9 W) => spsHas_any (stays_slice stays_spn _ _ _ _ hr89 k) (smallB_union _ _) v Hv1.out (HD.out.below (hbw9.trans (k.mono hbw9.size)))
                        simp only [← Ht.out, ← He1.out] at hE1
                        simp only [← Ht.out, ← He2.out] at hE2
                        try rw [← Hn1.out] at hr59
                        try rw [← Hn2.out] at hr89
                        have Hb9 := Lib.hid hb9; have Hbw9 := Lib.hid hbw9; have Hr59 := Lib.hid hr59; have Hr89 := Lib.hid hr89; have HE1 := Lib.hid hE1; have HE2 := Lib.hid hE2; clear hb9 hbw9 hr59 hr89 hE1 hE2
                        go_upto_region 11 with (fail)
                        go_cut [131] (fun x W => x = .bool false ∧ Below w9.heap.size w9 W)
                        case first =>
                          obtain ⟨q1, j1⟩ : ∃ p, decide ((n1 : Int) < (16 : Int)) = p := ⟨_, rfl⟩
                          obtain ⟨q2, j2⟩ : ∃ p, decide ((n2 : Int) < (16 : Int)) = p := ⟨_, rfl⟩
                          cases q1 with
                          | false =>
                            go_wp2_with fail
                            go_meet
                            exact ⟨rfl, Below.refl _ _⟩
                          | true =>
                            cases q2 with
                            | false =>
                              go_wp2_with fail
                              go_meet
                              exact ⟨rfl, Below.refl _ _⟩
                            | true =>
                              by_cases z1 : n1 = 0
                              · subst z1
                                obtain ⟨d1, x1⟩ : ∃ p, (e1 == i) = p := ⟨_, rfl⟩
                                have v1 : (e1 != i) = !d1 := by rw [bne, x1]
                                by_cases z2 : n2 = 0
                                · subst z2
                                  obtain ⟨d2, x2⟩ : ∃ p, (e2 == i) = p := ⟨_, rfl⟩
                                  have v2 : (e2 != i) = !d2 := by rw [bne, x2]
                                  cases d1 <;> cases d2
                                  all_goals
                                    go_wp2_with fail
                                    refine (HE1.out _ (Below.refl _ _)).mono ?_
                                    rintro e w10 ⟨rfl, hb10⟩
                                    have Hb10 := Lib.hid hb10; clear hb10
                                    go_wp2_with fail
                                    refine (HE2.out _ Hb10.out).mono ?_
                                    rintro e w11 ⟨rfl, hb11⟩
                                    have hb12 := Hb10.out.trans (hb11.mono Hb10.out.size)
                                    have Hb11 := Lib.hid hb11; have Hb12 := Lib.hid hb12; clear hb11 hb12
                                    go_wp2_with fail
                                    all_goals (go_meet; exact ⟨rfl, Hb12.out⟩)
                                · have x2 : (e2 == i) = true := by rw [Hs2.out z2]; simp
                                  have v2 : (e2 != i) = false := by rw [bne, x2]; rfl
                                  cases d1
                                  all_goals
                                    go_wp2_with fail
                                    refine (HE1.out _ (Below.refl _ _)).mono ?_
                                    rintro e w10 ⟨rfl, hb10⟩
                                    have Hb10 := Lib.hid hb10; clear hb10
                                    go_wp2_with fail
                                    refine (HE2.out _ Hb10.out).mono ?_
                                    rintro e w11 ⟨rfl, hb11⟩
                                    have hb12 := Hb10.out.trans (hb11.mono Hb10.out.size)
                                    have Hb11 := Lib.hid hb11; have Hb12 := Lib.hid hb12; clear hb11 hb12
                                    go_wp2_with fail
                                    all_goals (go_meet; exact ⟨rfl, Hb12.out⟩)
                              · have x1 : (e1 == i) = true := by rw [Hs1.out z1]; simp
                                have v1 : (e1 != i) = false := by rw [bne, x1]; rfl
                                by_cases z2 : n2 = 0
                                · subst z2
                                  obtain ⟨d2, x2⟩ : ∃ p, (e2 == i) = p := ⟨_, rfl⟩
                                  have v2 : (e2 != i) = !d2 := by rw [bne, x2]
                                  cases d2
                                  all_goals
                                    go_wp2_with fail
                                    refine (HE1.out _ (Below.refl _ _)).mono ?_
                                    rintro e w10 ⟨rfl, hb10⟩
                                    have Hb10 := Lib.hid hb10; clear hb10
                                    go_wp2_with fail
                                    refine (HE2.out _ Hb10.out).mono ?_
                                    rintro e w11 ⟨rfl, hb11⟩
                                    have hb12 := Hb10.out.trans (hb11.mono Hb10.out.size)
                                    have Hb11 := Lib.hid hb11; have Hb12 := Lib.hid hb12; clear hb11 hb12
                                    go_wp2_with fail
                                    all_goals (go_meet; exact ⟨rfl, Hb12.out⟩)
                                · have x2 : (e2 == i) = true := by rw [Hs2.out z2]; simp
                                  have v2 : (e2 != i) = false := by rw [bne, x2]; rfl
                                  go_wp2_with fail
                                  refine (HE1.out _ (Below.refl _ _)).mono ?_
                                  rintro e w10 ⟨rfl, hb10⟩
                                  have Hb10 := Lib.hid hb10; clear hb10
                                  go_wp2_with fail
                                  refine (HE2.out _ Hb10.out).mono ?_
                                  rintro e w11 ⟨rfl, hb11⟩
                                  have hb12 := Hb10.out.trans (hb11.mono Hb10.out.size)
                                  have Hb11 := Lib.hid hb11; have Hb12 := Lib.hid hb12; clear hb11 hb12
                                  go_wp2_with fail
                                  all_goals (go_meet; exact ⟨rfl, Hb12.out⟩)
                        case rest =>
                          obtain ⟨rfl, hb10⟩ := hcut
                          obtain ⟨w10, hw10⟩ : ∃ W, W = wc := ⟨_, rfl⟩
                          rw [← hw10] at hb10 ⊢
                          clear hw10
                          have hbw10 := Hbw9.out.trans (hb10.mono Hbw9.out.size)
                          have Hb10 := Lib.hid hb10; have Hbw10 := Lib.hid hbw10; clear hb10 hbw10
                          go_wp2_with fail
                          refine (HF.out _ Hbw10.out).mono ?_
                          rintro e w11 ⟨rfl, hb11⟩
                          have hbw11 := Hbw10.out.trans (hb11.mono Hbw10.out.size)
                          have Hb11 := Lib.hid hb11; have Hbw11 := Lib.hid hbw11; clear hb11 hbw11
                          go_wp2_with fail
                          refine (HUa.out _ Hbw11.out).mono ?_
                          rintro e w12 ⟨⟨o12, rfl, ho12⟩, hb12⟩
                          have hbw12 := Hbw11.out.trans (hb12.mono Hbw11.out.size)
                          have hS1 := spsSame_any ho12 (stays_slice stays_spn _ _ _ _ Hra.out hbw12) (by have := Hnua.out; omega) (by have := Hla8.out; omega) (HD.out.below hbw12) Hsu.out.1 Hoka.out Hsu.out.2
                          have Ho12 := Lib.hid ho12; have Hb12 := Lib.hid hb12; have Hbw12 := Lib.hid hbw12; have HS1 := Lib.hid hS1; clear ho12 hb12 hbw12 hS1
                          go_wp2_with fail
                          refine HS1.out.mono ?_
                          rintro e w13 ⟨rfl, hb13⟩
                          have hbw13 := Hbw12.out.trans (hb13.mono Hbw12.out.size)
                          have Hb13 := Lib.hid hb13; have Hbw13 := Lib.hid hbw13; clear hb13 hbw13
                          go_wp2_with fail
                          refine (HMa.out _ Hbw13.out).mono ?_
                          rintro e w14 ⟨⟨o14, rfl, ho14⟩, hb14⟩
                          have hbw14 := Hbw13.out.trans (hb14.mono Hbw13.out.size)
                          have hS2 := spsSame_any ho14 (stays_slice stays_spn _ _ _ _ Hra.out hbw14) (by have := Hnma.out; omega) (by have := Hla8.out; omega) (HD.out.below hbw14) Hsm.out.1 Hoka.out Hsm.out.2
                          have Ho14 := Lib.hid ho14; have Hb14 := Lib.hid hb14; have Hbw14 := Lib.hid hbw14; have HS2 := Lib.hid hS2; clear ho14 hb14 hbw14 hS2
                          go_wp2_with fail
                          refine HS2.out.mono ?_
                          rintro e w15 ⟨rfl, hb15⟩
                          have hbw15 := Hbw14.out.trans (hb15.mono Hbw14.out.size)
                          obtain ⟨w16, hw16⟩ : ∃ W, W = w15.alloc (.cells #[.string ⟨#[]⟩, .string ⟨#[]⟩] 34) := ⟨_, rfl⟩
                          obtain ⟨g16, hg16⟩ : ∃ g, g = w15.heap.size := ⟨_, rfl⟩
                          have hb16 : Below w15.heap.size w15 w16 := by rw [hw16]; exact below_alloc1 _ _
                          have hbw16 := hbw15.trans (hb16.mono hbw15.size)
                          have hrf : RSps w16 [.slice (some ⟨g16, 0, none⟩) 1 1] (tB f) := by
                            rw [hw16, hg16, Hf.out]
                            exact sps_reads (B := w15.heap.size) (fun x hx => by have := smallB_tB _ x hx; unfold maxLen; omega) (World.ownsRow_lit (base := w15.heap.size) (e := 34) (size := 2) w15 #[.string ⟨#[]⟩, .string ⟨#[]⟩] 1 (Nat.le_refl _) (by decide) rfl)
                          have hMf := meetSps_any (stays_slice stays_spn _ _ _ _ Hra.out hbw16) hrf (by have := Hla8.out; omega) (by rw [Hf.out]; decide) (HD.out.below hbw16) Hlf.out
                          have Hb15 := Lib.hid hb15; have Hbw15 := Lib.hid hbw15; have Hb16 := Lib.hid hb16; have Hbw16 := Lib.hid hbw16; have Hrf := Lib.hid hrf; have HMf := Lib.hid hMf; clear hb15 hbw15 hb16 hbw16 hrf hMf
                          go_wp2_with fail
                          rw [← hw16, ← hg16]
                          clear hw16 hg16
                          refine HMf.out.mono ?_
                          rintro e w17 ⟨⟨o17, rfl, ho17⟩, hb17⟩
                          rw [← Hmf.out] at ho17
                          have hbw17 := Hbw16.out.trans (hb17.mono Hbw16.out.size)
                          have hS3 := spsSame_any ho17 (stays_slice stays_spn _ _ _ _ Hra.out hbw17) (by have := Hnmf.out; omega) (by have := Hla8.out; omega) (HD.out.below hbw17) Hsf.out.1 Hoka.out Hsf.out.2
                          have Ho17 := Lib.hid ho17; have Hb17 := Lib.hid hb17; have Hbw17 := Lib.hid hbw17; have HS3 := Lib.hid hS3; clear ho17 hb17 hbw17 hS3
                          go_wp2_with fail
                          refine HS3.out.mono ?_
                          rintro e w18 ⟨rfl, hb18⟩
                          have hbw18 := Hbw17.out.trans (hb18.mono Hbw17.out.size)
                          have Hb18 := Lib.hid hb18; have Hbw18 := Lib.hid hbw18; clear hb18 hbw18
                          go_wp2_with fail
                          go_ret
                          exact ⟨rfl, Hbw18.out⟩
end Go.Proofs.YteailgjiifdgcaaGreatDoor

/- Every row of spans opens as its value. No condition. -/
namespace Go.Proofs.YteailgjiifdgcaaGreatDoor
open Go.RowKit Go.Shelf

abbrev RSpsZ : Rd (List (ByteArray × ByteArray × Unit)) := RSlZ 2 32 RSpnZ
theorem opensZ_sps : OpensZ Tryz.prog 23 RSpsZ :=
  opensZ_slice Tryz.underlying23 (by kernel_rfl) (by kernel_rfl) (by decide) opensZ_spn
theorem sps_ofZ {w : World} {cs : List Value} {l : List (ByteArray × ByteArray × Unit)} (h : RSpsZ w cs l) : RSps w cs (l.map fun x => (x.1, x.2.1)) := by
  obtain ⟨⟨a, cap, e, h1, h2, h3⟩, _⟩ := h
  refine ⟨a, cap, by rw [List.length_map]; exact e, by rw [List.length_map]; exact h1, h2, fun i x hi => ?_⟩
  rw [List.getElem?_map] at hi
  obtain ⟨y, hy, rfl⟩ := Option.map_eq_some_iff.1 hi
  obtain ⟨b, off, cs1, e1, k1, k2, k3⟩ := h3 i y hy
  refine ⟨b, off, cs1, e1, k1, k2, ?_⟩
  obtain ⟨a0, t0, h0, l0, ⟨rfl, z0⟩, a1, t1, rfl, l1, ⟨rfl, z1⟩, h2⟩ := k3
  obtain rfl : t1 = [] := h2
  exact ⟨h0, by unfold maxLen; show y.1.size ≤ _; omega, by unfold maxLen; show y.2.1.size ≤ _; omega⟩
theorem shares_law {w : World} {va vb vc : Value} {A B C : List (ByteArray × ByteArray × Unit)} (h1 : RSpsZ w [va] A) (h2 : RSpsZ w [vb] B) (h3 : RSpsZ w [vc] C) (v : ByteArray) (hD : Doors w) (hz : v.size ≤ 9223372036854775807) : Calls Tryz.prog 4 #[va, vb, vc, .string v] w fun e w' => e = .returned (.bool true) ∧ Below w.heap.size w w' :=
  spansShares_true v (sps_ofZ h1) (sps_ofZ h2) (sps_ofZ h3) hD hz
end Go.Proofs.YteailgjiifdgcaaGreatDoor

/- The given card SpansSharesCardSaid: for every input the law returns true, and leaves what it was given as it was; what the row lists of the library's variables is tied to the program's text by the given tie. No further condition. -/
namespace Go.Proofs.YteailgjiifdgcaaGreatDoor.spansSharesRow
open Go.ChangeShapes Go.WideShapes Go.ChangeAt Go.RowKit
open Go.ChangeMaps (open_string shut_string)
set_option linter.unusedVariables false

set_option maxRecDepth 100000 in
theorem lifted (os : Os) (started : os.Started) (H : Type) (enc : TypeId × Value → H) (F : Stop.Interp) :
    ReturnsInHanded {} Tryz.checked os 4 .any ((OpenSpec.ofChange Rows.spansSharesSpec).preRow enc Tryz.prog Tryz.f4 Rows.spansSharesRow.domain false Rows.spansSharesRow.laid) (((OpenSpec.ofChange Rows.spansSharesSpec).at F).post enc Tryz.prog Tryz.f4 false true false false) := by
  refine returnsInHanded_of_row (C := Tryz.checked) (s := OpenSpec.ofChange Rows.spansSharesSpec) own started (by kernel_rfl) Tryz.func4
    (ChangeSpec.witness_shaped (enc := enc) (C := Tryz.checked) (os := os) (s := Rows.spansSharesSpec) (X := fun w _ => laidMetH Tryz.prog Rows.spansSharesRow.laid w) false (World.laidAll Tryz.prog os seatLaid) #[.slice none 0 0, .slice none 0 0, .slice none 0 0, .string ⟨#[]⟩] 8 (World.laidAll_os _ _ _)
      (seat_shaped os _) (by kernel_rfl) (by kernel_rfl) (by kernel_rfl) (seat_laid os _)) ?_
  intro W base args ds gs before hval0 hW _ _ hsz0 hL hS _
  have hD : Doors W := doors_of hL hS
  have hsz : (DataW.weightsEach Tryz.prog (Tryz.f4.params.toList ++ Rows.spansSharesSpec.plain.varTypes Tryz.prog) (ds ++ gs)).all (· ≤ reachBytes) = true := hsz0
  clear hsz0 hL hS
  have hval : ∀ (j : Nat) t v, Tryz.f4.params[j]? = some t → args[j]? = some v → Value.okWide Tryz.prog W .any base t v := hval0
  have hW' : DataW.Whole enc Tryz.prog Tryz.f4.params.toList Rows.spansSharesSpec.vars false W args.toList ds gs before := hW
  obtain ⟨p, q, hA0, hV, rfl, hfz, hnd⟩ := hW
  have hA : DataW.TrodAll enc Tryz.prog W 0 (fun _ => true) true Tryz.f4.params.toList args.toList ds p := hA0
  rw [Tryz.params4] at hA hval hsz
  obtain ⟨v0, vs0, d0, ds0, p0, q0, hargs, rfl, rfl, h0, rr0⟩ := trodAll_cons hA
  obtain ⟨v1, vs1, d1, ds1, p1, q1, rfl, rfl, rfl, h1, rr1⟩ := trodAll_cons rr0
  obtain ⟨v2, vs2, d2, ds2, p2, q2, rfl, rfl, rfl, h2, rr2⟩ := trodAll_cons rr1
  obtain ⟨v3, vs3, d3, ds3, p3, q3, rfl, rfl, rfl, h3, rr3⟩ := trodAll_cons rr2
  obtain ⟨rfl, rfl, rfl⟩ := trodAll_nil rr3
  obtain rfl : args = #[v0, v1, v2, v3] := by cases args; simp_all
  obtain ⟨rfl, rfl⟩ := trodVars_none hV
  have lt0 : ∀ x ∈ p0, x.block < W.heap.size := by obtain ⟨m, hm⟩ := h0; exact DataW.trod_lt m _ _ _ hm
  have kk0 := h0
  have lt1 : ∀ x ∈ p1, x.block < W.heap.size := by obtain ⟨m, hm⟩ := h1; exact DataW.trod_lt m _ _ _ hm
  have kk1 := h1
  have lt2 : ∀ x ∈ p2, x.block < W.heap.size := by obtain ⟨m, hm⟩ := h2; exact DataW.trod_lt m _ _ _ hm
  have kk2 := h2
  have lt3 : ∀ x ∈ p3, x.block < W.heap.size := by obtain ⟨m, hm⟩ := h3; exact DataW.trod_lt m _ _ _ hm
  have kk3 := h3
  obtain ⟨ad0, len0, cap0, rfl⟩ := okWide_slice Tryz.underlying23 (hval 0 23 v0 rfl rfl)
  obtain ⟨fuel0, hf0⟩ := h0
  obtain ⟨l0, r0d⟩ := opensZ_sps enc W _ _ _ fuel0 _ _ hf0 (sized_arg hsz (j := 0) rfl rfl)
  simp only [Value.cells] at r0d
  obtain ⟨ad1, len1, cap1, rfl⟩ := okWide_slice Tryz.underlying23 (hval 1 23 v1 rfl rfl)
  obtain ⟨fuel1, hf1⟩ := h1
  obtain ⟨l1, r1d⟩ := opensZ_sps enc W _ _ _ fuel1 _ _ hf1 (sized_arg hsz (j := 1) rfl rfl)
  simp only [Value.cells] at r1d
  obtain ⟨ad2, len2, cap2, rfl⟩ := okWide_slice Tryz.underlying23 (hval 2 23 v2 rfl rfl)
  obtain ⟨fuel2, hf2⟩ := h2
  obtain ⟨l2, r2d⟩ := opensZ_sps enc W _ _ _ fuel2 _ _ hf2 (sized_arg hsz (j := 2) rfl rfl)
  simp only [Value.cells] at r2d
  obtain ⟨a3, rfl, rfl, rfl, w3⟩ := open_string Tryz.underlying9 (hval 3 9 v3 rfl rfl) h3
  have z3 := size_of_sized (sized_string hsz (j := 3) rfl rfl)
  clear hA0 hval0
  refine (shares_law r0d r1d r2d a3 hD (by omega)).mono fun e W' ⟨he, bel⟩ => ?_
  subst he
  exact ⟨_, rfl, _, _, _, [], _, [], hW', trodAll_mk1 (shut_bool Tryz.underlying4 _), (trodAll_cons_mk (Below.trod laidOut (by kernel_rfl) (of_decide_eq_true (by kernel_rfl)) kk0 bel lt0) (trodAll_cons_mk (Below.trod laidOut (by kernel_rfl) (of_decide_eq_true (by kernel_rfl)) kk1 bel lt1) (trodAll_cons_mk (Below.trod laidOut (by kernel_rfl) (of_decide_eq_true (by kernel_rfl)) kk2 bel lt2) (trodAll_cons_mk (Below.trod laidOut (by kernel_rfl) (of_decide_eq_true (by kernel_rfl)) kk3 bel lt3) trodAll_mk0)))), rfl, bel.frame _, fun h => by cases h⟩

theorem over : Rows.SpansSharesSaid :=
  OpenClaim.holds_of_cond 4 Tryz.f4 rfl rfl rfl rfl rfl rfl rfl ⟨rfl, rfl, rfl, rfl, rfl⟩ rfl rfl rfl rfl rfl (by kernel_rfl) Tryz.func4 (by kernel_rfl)
    (of_decide_eq_true (by kernel_rfl)) (by unfold Func.isWrapper; first | (rw [if_pos (by decide +kernel)]; kernel_rfl) | (rw [if_neg (by decide +kernel)]; exact ⟨rfl, rfl⟩))
    (fun os started H enc _ F => by rw [OpenClaim.pre_eq_preRow]; exact lifted os started H enc F)
/-- no parameter wants a stand-in; the program's own looks are as the card says -/
theorem plain (f : FuncId) (fn : Func) (hf : Tryz.pinned.checked.prog.funcNamed "cooper/cooperlaw03.SpansShares" = some f) (hfn : Tryz.pinned.checked.prog.funcs[f]? = some fn) :
    true = Tryz.pinned.checked.prog.looks [] ∧ ∀ (j : Nat) t, fn.params[j]? = some t → Tryz.pinned.checked.prog.wantsStandIn t = false := by
  obtain rfl : f = 4 := Option.some.inj ((show Tryz.prog.funcNamed "cooper/cooperlaw03.SpansShares" = some 4 by kernel_rfl).symm.trans hf) |>.symm
  obtain rfl : fn = Tryz.f4 := (Option.some.inj (Tryz.func4.symm.trans hfn)).symm
  refine ⟨by kernel_rfl, fun j t ht => ?_⟩
  rw [Tryz.params4] at ht
  have hm : t ∈ [23, 23, 23, 9] := by simpa using Array.mem_of_getElem? ht
  have hall : ([23, 23, 23, 9].all fun u => !Tryz.prog.wantsStandIn u) = true := by kernel_rfl
  exact (show Tryz.prog.wantsStandIn t = false by simpa using List.all_eq_true.1 hall t hm)

theorem proved : Rows.SpansSharesCardSaid :=
  Claim7.holds_tied_plain_at .later [] _ _ _ _ over (fun _ h => by cases h) (by kernel_rfl) (fun _ h => by cases h) spansShares_row_tie rfl ⟨rfl, rfl⟩ (by kernel_rfl) rfl plain (by kernel_rfl)
#print axioms proved
end Go.Proofs.YteailgjiifdgcaaGreatDoor.spansSharesRow
