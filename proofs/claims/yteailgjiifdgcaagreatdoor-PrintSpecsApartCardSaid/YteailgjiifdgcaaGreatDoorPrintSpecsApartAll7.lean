/- Walks and plain facts. Texts merged: Typ, SpsY, VarM, VarN, VarR, WishR, LexM, RqM, PnO, RpM, RpT, Bld, Build, LexK, LexA, LexT4, RqA. Condition: none beyond what each says. -/
import Derived.Lib.Small
import Derived.Deep.Cut
import Derived.Deep.DrawnRows
import Derived.Lib.Builder
import Derived.Lib.AppendStr
import Derived.Lib.UnsafeStr
import Derived.Laws.Externs
import Derived.Test.YteailgjiifdgcaaGreatDoorPrintSpecsApartAll6
set_option linter.unusedVariables false
set_option linter.unusedSimpArgs false
/- Rows that read, in a block of the elements' own type: they outlast whatever is stored into blocks of other types. No condition. -/
namespace Go.Proofs.YteailgjiifdgcaaGreatDoor
open Go.RowKit Go.Shelf

def RSlT {α : Type} (sz : Nat) (R : Rd α) (e : TypeId) (W : World) (v : Value) (L : List α) : Prop := RSlice sz R W [v] L ∧ (L ≠ [] → ∀ k, v.ownBlock = some k → ∃ cs fr, W.heap[k]? = some (.cells cs e fr))
abbrev RSpsT : World → Value → List BSp → Prop := RSlT 2 RSpn 34
abbrev RSetsT : World → Value → List Setg → Prop := RSlT 2 RSet 109
theorem RSlT.frm {α : Type} {sz : Nat} {R : Rd α} {e : TypeId} {W W' : World} {v : Value} {L : List α} {T : Nat → Prop} (hR : ∀ W W' cs x, R W cs x → R W' cs x) (h : RSlT sz R e W v L) (hF : Frm T W W') (hT : ∀ k, T k → ∀ cs fr, W.heap[k]? ≠ some (.cells cs e fr)) : RSlT sz R e W' v L := by
 obtain ⟨⟨a, cap, hv, h1, h2, hel⟩, ht⟩ := h
 have hv' := hv
 simp only [List.cons.injEq, and_true] at hv'
 refine ⟨⟨a, cap, hv, h1, h2, fun i x hi => ?_⟩, fun hL k hk => ?_⟩
 ·obtain ⟨b, off, ecs, e1, e2, e3, e4⟩ := hel i x hi
  have hL : L ≠ [] := by rintro rfl; simp at hi
  obtain ⟨cs, fr, hb⟩ := ht hL b (by rw [hv', e1]; rfl)
  have hbT : ¬ T b := fun k => hT b k cs fr hb
  refine ⟨b, off, ecs, e1, e2, fun j u hu => ?_, hR _ _ _ _ e4⟩
  have k := e3 j u hu
  exact (hF.cell (p := ⟨b, off + i * sz + j, none⟩) (World.block_lt_of_cell? W _ k) hbT).trans k
 ·obtain ⟨cs, fr, hb⟩ := ht hL k hk
  exact ⟨cs, fr, heap_to hb hF fun kT => hT k kT cs fr hb⟩
theorem RSlT.below {α : Type} {sz : Nat} {R : Rd α} {e : TypeId} {W W' : World} {v : Value} {L : List α} (hR : Stays R) (h : RSlT sz R e W v L) (hb : Below W.heap.size W W') : RSlT sz R e W' v L :=
 ⟨stays_slice hR _ _ _ _ h.1 hb, fun hL k hk => by obtain ⟨cs, fr, h2⟩ := h.2 hL k hk; exact ⟨cs, fr, heap_below hb h2⟩⟩
theorem spsT_below {W W' : World} {v : Value} {L : List BSp} (h : RSpsT W v L) (hb : Below W.heap.size W W') : RSpsT W' v L := RSlT.below stays_spn h hb
theorem setsT_below {W W' : World} {v : Value} {L : List Setg} (h : RSetsT W v L) (hb : Below W.heap.size W W') : RSetsT W' v L := RSlT.below stays_set h hb
def No2 (W : World) (T : Nat → Prop) : Prop := ∀ k, T k → ∃ cs e fr, W.heap[k]? = some (.cells cs e fr) ∧ e ≠ 34 ∧ e ≠ 109
theorem no2_of {W : World} {k : Nat} {cs : Array Value} {t : TypeId} {fr : Nat × Nat} (h : W.heap[k]? = some (.cells cs t fr)) (h1 : t ≠ 34) (h2 : t ≠ 109) : ∃ cs e fr, W.heap[k]? = some (.cells cs e fr) ∧ e ≠ 34 ∧ e ≠ 109 := ⟨_, _, _, h, h1, h2⟩
theorem sps_other {W W' : World} {T : Nat → Prop} {v : Value} {L : List BSp} (h : RSpsT W v L) (hF : Frm T W W') (hT : No2 W T) : RSpsT W' v L :=
 RSlT.frm (fun _ _ _ _ h => h) h hF fun k hk cs fr hc => by
  obtain ⟨cs', e, fr', h1, h2, _⟩ := hT k hk
  rw [hc] at h1
  cases h1
  exact h2 rfl
theorem sets_other {W W' : World} {T : Nat → Prop} {v : Value} {L : List Setg} (h : RSetsT W v L) (hF : Frm T W W') (hT : No2 W T) : RSetsT W' v L :=
 RSlT.frm (fun _ _ _ _ h => h) h hF fun k hk cs fr hc => by
  obtain ⟨cs', e, fr', h1, _, h2⟩ := hT k hk
  rw [hc] at h1
  cases h1
  exact h2 rfl
theorem spsT_nil {W : World} {v : Value} (h : RSps W [v] []) : RSpsT W v [] := ⟨h, fun h => absurd rfl h⟩
theorem setsT_nil {W : World} {v : Value} (h : RSets W [v] []) : RSetsT W v [] := ⟨h, fun h => absurd rfl h⟩
theorem typ_owns {W : World} {B : Nat} {e : TypeId} {size : Nat} {v : Value} {n : Nat} {xs : List Value} (h : W.ownsRow B e size v n xs) : ∀ k, v.ownBlock = some k → ∃ cs fr, W.heap[k]? = some (.cells cs e fr) := fun k hk => by
 obtain ⟨cs, hc⟩ := own_type h k hk
 exact ⟨cs, (0, 0), hc⟩
end Go.Proofs.YteailgjiifdgcaaGreatDoor

/- The walk of cooperref03.Read: the set of a text, as the document reads it. Condition: a text of at most 1000 bytes. -/
namespace Go.Proofs.YteailgjiifdgcaaGreatDoor
open Go.Shelf Go.RowKit Go.Lib VerN

def Rd3 (t : ByteArray) : Prop := t = ⟨#[33]⟩ ∨ ((∀ p ∈ cutS 44 t, spOk p.data.toList = true) ∧ ∀ l, tB l = rdSp t → spsText l = t)
def rdV (t : ByteArray) : List BSp := if t = ⟨#[33]⟩ then [] else rdSp t
def RefRdPost (t : ByteArray) (w : World) (e : Ending) (w' : World) : Prop :=
 ((∃ v, e = .returned (.tuple #[v, .bool true]) ∧ Rd3 t ∧ RSpsT w' v (rdV t)) ∨ (∃ v, e = .returned (.tuple #[v, .bool false]) ∧ ¬ Rd3 t ∧ RSps w' [v] [])) ∧ Below w.heap.size w w'
end Go.Proofs.YteailgjiifdgcaaGreatDoor

/- Plain facts: names and values of variants. No condition. -/
namespace Go.Proofs.YteailgjiifdgcaaGreatDoor.VarM

def letN (n : Nat) : Bool := decide (97 ≤ n) && decide (n ≤ 122)
def digN (n : Nat) : Bool := decide (48 ≤ n) && decide (n ≤ 57)
def okN (n : Nat) : Bool := letN n || digN n || decide (n = 45)
abbrev Bs := List UInt8
def okB (c : UInt8) : Bool := okN c.toNat
def digB (c : UInt8) : Bool := digN c.toNat
def headN (l : Bs) : Nat := (l.headD 0).toNat
def nameOf (l : Bs) : Bool := l.all okB && (decide (0 < l.length) && (decide (l.length ≤ 24) && letN (headN l)))
def digsOf (l : Bs) : Bool := l.all digB && decide (0 < l.length)
def valueOf (l : Bs) : Bool := nameOf l || (digsOf l && decide (l.length ≤ 3))
theorem all_succ {p : UInt8 → Bool} {l : Bs} {k : Nat} (h : k < l.length) (h1 : (l.take k).all p = true) (h2 : p l[k] = true) : (l.take (k + 1)).all p = true := by
 rw [List.take_succ_eq_append_getElem h, List.all_append, h1]; simp [h2]
theorem all_no {p : UInt8 → Bool} {l : Bs} {k : Nat} (h : k < l.length) (h2 : p l[k] = false) : l.all p = false := by
 rw [Bool.eq_false_iff]; intro h3
 have := List.all_eq_true.1 h3 _ (List.getElem_mem h)
 rw [h2] at this; cases this
theorem name_no {l : Bs} (h : l.all okB = false) : nameOf l = false := by unfold nameOf; rw [h]; rfl
theorem name_all {l : Bs} (h : l.all okB = true) : nameOf l = (decide (0 < l.length) && (decide (l.length ≤ 24) && letN (headN l))) := by unfold nameOf; rw [h]; rfl
theorem okN_let {n : Nat} (h : letN n = true) : okN n = true := by unfold okN; rw [h]; rfl
theorem okN_dig {n : Nat} (h : digN n = true) : okN n = true := by unfold okN; rw [h]; simp
theorem okN_no {n : Nat} (h1 : letN n = false) (h2 : digN n = false) (h3 : n ≠ 45) : okN n = false := by unfold okN; rw [h1, h2]; simp [h3]
end Go.Proofs.YteailgjiifdgcaaGreatDoor.VarM

/- The walks of variant.Name, variant.Value and the reference's. Condition: the text's reach. -/
namespace Go.Proofs.YteailgjiifdgcaaGreatDoor
open Go.RowKit
open VarM (letN digN okN okB digB nameOf valueOf digsOf headN)

theorem dl (s : ByteArray) : s.data.toList.length = s.size := by rw [Array.length_toList]; rfl
set_option maxRecDepth 10000 in
theorem letter_any (n : Nat) (h : n < 256) (w : World) : Calls Tryz.prog 186 #[.int .u8 (n : Int)] w fun e w' => e = .returned (.bool (letN n)) ∧ w = w' := by
 obtain ⟨r, hr⟩ : ∃ r, r = letN n := ⟨_, rfl⟩
 rw [← hr]
 rcases Nat.lt_or_ge n 97 with h1 | h1
 ·have hf : r = false := by rw [hr]; unfold letN; rw [decide_eq_false (by omega)]; rfl
  obtain ⟨Hr, Hf⟩ := hd2 hr hf; clear hr hf
  go_enter Tryz.func186, Tryz.ntmps186
  go_wp2_with fail
  go_ret
  exact ⟨ret_bool Hf.out.symm, rfl⟩
 ·rcases Nat.lt_or_ge 122 n with h2 | h2
  ·have hf : r = false := by rw [hr]; unfold letN; rw [decide_eq_false (p := n ≤ 122) (by omega)]; simp
   have k2 : decide ((n : Int) ≤ 122) = false := by simp; omega
   obtain ⟨Hr, Hf⟩ := hd2 hr hf; clear hr hf
   go_enter Tryz.func186, Tryz.ntmps186
   go_wp2_with fail
   go_ret
   exact ⟨ret_bool Hf.out.symm, rfl⟩
  ·have hf : r = true := by rw [hr]; unfold letN; rw [decide_eq_true h1, decide_eq_true h2]; rfl
   have k2 : decide ((n : Int) ≤ 122) = true := by simp; omega
   obtain ⟨Hr, Hf⟩ := hd2 hr hf; clear hr hf
   go_enter Tryz.func186, Tryz.ntmps186
   go_wp2_with fail
   go_ret
   exact ⟨ret_bool Hf.out.symm, rfl⟩
set_option maxRecDepth 10000 in
theorem digit_any (n : Nat) (h : n < 256) (w : World) : Calls Tryz.prog 187 #[.int .u8 (n : Int)] w fun e w' => e = .returned (.bool (digN n)) ∧ w = w' := by
 obtain ⟨r, hr⟩ : ∃ r, r = digN n := ⟨_, rfl⟩
 rw [← hr]
 rcases Nat.lt_or_ge n 48 with h1 | h1
 ·have hf : r = false := by rw [hr]; unfold digN; rw [decide_eq_false (by omega)]; rfl
  obtain ⟨Hr, Hf⟩ := hd2 hr hf; clear hr hf
  go_enter Tryz.func187, Tryz.ntmps187
  go_wp2_with fail
  go_ret
  exact ⟨ret_bool Hf.out.symm, rfl⟩
 ·rcases Nat.lt_or_ge 57 n with h2 | h2
  ·have hf : r = false := by rw [hr]; unfold digN; rw [decide_eq_false (p := n ≤ 57) (by omega)]; simp
   have k2 : decide ((n : Int) ≤ 57) = false := by simp; omega
   obtain ⟨Hr, Hf⟩ := hd2 hr hf; clear hr hf
   go_enter Tryz.func187, Tryz.ntmps187
   go_wp2_with fail
   go_ret
   exact ⟨ret_bool Hf.out.symm, rfl⟩
  ·have hf : r = true := by rw [hr]; unfold digN; rw [decide_eq_true h1, decide_eq_true h2]; rfl
   have k2 : decide ((n : Int) ≤ 57) = true := by simp; omega
   obtain ⟨Hr, Hf⟩ := hd2 hr hf; clear hr hf
   go_enter Tryz.func187, Tryz.ntmps187
   go_wp2_with fail
   go_ret
   exact ⟨ret_bool Hf.out.symm, rfl⟩
theorem head_is (s : ByteArray) (h : 0 < s.size) : headN s.data.toList = s[0].toNat := by
 unfold headN
 have e : s.data.toList = s[0] :: s.data.toList.drop 1 := by
  have := List.drop_eq_getElem_cons (l := s.data.toList) (i := 0) (by rw [dl]; exact h)
  rw [List.drop_zero] at this
  exact this
 rw [e]; rfl
set_option maxRecDepth 10000 in
set_option maxHeartbeats 1000000 in
theorem name_any (s : ByteArray) (hs : s.size ≤ 9223372036854775807) (w : World) : Calls Tryz.prog 153 #[.string s] w fun e w' => e = .returned (.bool (nameOf s.data.toList)) ∧ w = w' := by
 obtain ⟨l, hl⟩ : ∃ l, l = s.data.toList := ⟨_, rfl⟩
 have hln : l.length = s.size := by rw [hl]; exact dl s
 obtain ⟨r, hr⟩ : ∃ r, r = nameOf l := ⟨_, rfl⟩
 rw [← hl, ← hr]
 have hh := head_is s
 rw [← hl] at hh
 obtain ⟨Hl, Hln, Hr, Hh⟩ := hd4 hl hln hr hh; clear hl hln hr hh
 go_enter Tryz.func153, Tryz.ntmps153
 go_wp2_with fail
 go_loop [6] (fun i => ∃ k : Nat, k ≤ s.size ∧ i = .int .i64 k ∧ (l.take k).all okB = true) (fun i => s.size - (intOf i).toNat)
 case atStart => exact ⟨0, Nat.zero_le _, rfl, by simp⟩
 case round =>
  obtain ⟨k, hk, rfl, hall⟩ := hrel
  by_cases hlt : k < s.size
  ·have hkl : k < l.length := by have := Hln.out; omega
   obtain ⟨n, hn⟩ : ∃ n, n = s[k].toNat := ⟨_, rfl⟩
   have hn256 : n < 256 := by rw [hn]; exact s[k].toNat_lt
   have hck : okB l[k] = okN n := by
    have e : l[k] = s[k] := by simp only [Hl.out]; rfl
    unfold okB
    rw [e, hn]
   have hL := fun W => letter_any n hn256 W
   have hD := fun W => digit_any n hn256 W
   have hsk : s[k].toNat = n := hn.symm
   have hyes : okN n = true → (l.take (k + 1)).all okB = true := fun h => VarM.all_succ hkl hall (by rw [hck]; exact h)
   have hno : okN n = false → r = false := fun h => by rw [Hr.out]; exact VarM.name_no (VarM.all_no hkl (by rw [hck]; exact h))
   clear hn hck
   clear hkl
   cases h1 : letN n with
   | true =>
    have hnext := hyes (VarM.okN_let h1)
    rw [h1] at hL
    obtain ⟨Hall, HL, HD, Hyes, Hno, Hnext, H1⟩ := hd7 hall hL hD hyes hno hnext h1; clear hall hL hD hyes hno hnext h1
    go_wp2_with fail
    refine (HL.out _).mono ?_
    rintro e w1 ⟨rfl, rfl⟩
    go_wp2_with fail
    go_round
    case rel => exact ⟨k + 1, by omega, by go_num, Hnext.out⟩
    case measure => simp [intOf]; omega
   | false =>
    rw [h1] at hL
    cases h2 : digN n with
    | true =>
     have hnext := hyes (VarM.okN_dig h2)
     rw [h2] at hD
     obtain ⟨Hall, HL, HD, Hyes, Hno, Hnext, H1, H2⟩ := hd8 hall hL hD hyes hno hnext h1 h2; clear hall hL hD hyes hno hnext h1 h2
     go_wp2_with fail
     refine (HL.out _).mono ?_
     rintro e w1 ⟨rfl, rfl⟩
     go_wp2_with fail
     refine (HD.out _).mono ?_
     rintro e w1 ⟨rfl, rfl⟩
     go_wp2_with fail
     go_round
     case rel => exact ⟨k + 1, by omega, by go_num, Hnext.out⟩
     case measure => simp [intOf]; omega
    | false =>
     rw [h2] at hD
     by_cases h3 : n = 45
     ·have hnext := hyes (by unfold okN; simp [h3])
      have e3 : ((n : Int) != 45) = false := by rw [h3]; rfl
      obtain ⟨Hall, HL, HD, Hyes, Hno, Hnext, H1, H2, H3⟩ := hd9 hall hL hD hyes hno hnext h1 h2 h3; clear hall hL hD hyes hno hnext h1 h2 h3
      go_wp2_with fail
      refine (HL.out _).mono ?_
      rintro e w1 ⟨rfl, rfl⟩
      go_wp2_with fail
      refine (HD.out _).mono ?_
      rintro e w1 ⟨rfl, rfl⟩
      go_wp2_with fail
      go_round
      case rel => exact ⟨k + 1, by omega, by go_num, Hnext.out⟩
      case measure => simp [intOf]; omega
     ·have hf := hno (VarM.okN_no h1 h2 h3)
      have e3 : ((n : Int) != 45) = true := by rw [bne_iff_ne]; omega
      obtain ⟨Hall, HL, HD, Hyes, Hno, Hf, H1, H2, H3⟩ := hd9 hall hL hD hyes hno hf h1 h2 h3; clear hall hL hD hyes hno hf h1 h2 h3
      go_wp2_with fail
      refine (HL.out _).mono ?_
      rintro e w1 ⟨rfl, rfl⟩
      go_wp2_with fail
      refine (HD.out _).mono ?_
      rintro e w1 ⟨rfl, rfl⟩
      go_wp2_with fail
      go_ret
      exact ⟨ret_bool Hf.out.symm, rfl⟩
  ·obtain rfl : k = s.size := by omega
   have hall2 : l.all okB = true := by rw [List.take_of_length_le (by have := Hln.out; omega)] at hall; exact hall
   have hrr : r = (decide (0 < s.size) && (decide (s.size ≤ 24) && letN (headN l))) := by rw [Hr.out, VarM.name_all hall2, Hln.out]
   by_cases h0 : 0 < s.size
   ·by_cases h24 : s.size ≤ 24
    ·have hf : r = letN (headN l) := by rw [hrr, decide_eq_true h0, decide_eq_true h24]; rfl
     rw [Hh.out h0] at hf
     obtain ⟨n, hn⟩ : ∃ n, n = s[0].toNat := ⟨_, rfl⟩
     have hn256 : n < 256 := by rw [hn]; exact s[0].toNat_lt
     have hL := fun W => letter_any n hn256 W
     rw [← hn] at hf
     rw [← hf] at hL
     have hsk : s[0].toNat = n := hn.symm
     have k1 : (0 : Int) < (s.size : Int) := by omega
     have k2 : (s.size : Int) ≤ 24 := by omega
     have k3 : decide ((s.size : Int) ≤ 24) = true := by simpa using k2
     clear hn
     obtain ⟨Hall, Hall2, Hrr, Hf, HL⟩ := hd5 hall hall2 hrr hf hL; clear hall hall2 hrr hf hL
     go_wp2_with fail
     refine (HL.out _).mono ?_
     rintro e w1 ⟨rfl, rfl⟩
     go_wp2_with fail
     go_ret
     exact ⟨rfl, rfl⟩
    ·have hf : r = false := by rw [hrr, decide_eq_false h24]; simp
     have k2 : (24 : Int) < (s.size : Int) := by omega
     have k3 : decide ((s.size : Int) ≤ 24) = false := by simpa using k2
     obtain ⟨Hall, Hall2, Hrr, Hf⟩ := hd4 hall hall2 hrr hf; clear hall hall2 hrr hf
     go_wp2_with fail
     go_ret
     exact ⟨ret_bool Hf.out.symm, rfl⟩
   ·have hf : r = false := by rw [hrr, decide_eq_false h0]; rfl
    have k2 : s.size ≤ 0 := by omega
    have k3 : decide (0 < (s.size : Int)) = false := decide_eq_false (by omega)
    obtain ⟨Hall, Hall2, Hrr, Hf⟩ := hd4 hall hall2 hrr hf; clear hall hall2 hrr hf
    go_wp2_with fail
    go_ret
    exact ⟨ret_bool Hf.out.symm, rfl⟩
set_option maxRecDepth 10000 in
set_option maxHeartbeats 1000000 in
theorem value_any (s : ByteArray) (hs : s.size ≤ 9223372036854775807) (w : World) : Calls Tryz.prog 189 #[.string s] w fun e w' => e = .returned (.bool (valueOf s.data.toList)) ∧ w = w' := by
 have hN := fun W => name_any s hs W
 obtain ⟨l, hl⟩ : ∃ l, l = s.data.toList := ⟨_, rfl⟩
 have hln : l.length = s.size := by rw [hl]; exact dl s
 obtain ⟨r, hr⟩ : ∃ r, r = valueOf l := ⟨_, rfl⟩
 rw [← hl] at hN
 rw [← hl, ← hr]
 cases hq : nameOf l with
 | true =>
  rw [hq] at hN
  have hf : r = true := by rw [hr]; unfold valueOf; rw [hq]; rfl
  obtain ⟨Hl, Hln, Hr, HN, Hf, Hq⟩ := hd6 hl hln hr hN hf hq; clear hl hln hr hN hf hq
  go_enter Tryz.func189, Tryz.ntmps189
  go_wp2_with fail
  refine (HN.out _).mono ?_
  rintro e w1 ⟨rfl, rfl⟩
  go_wp2_with fail
  go_ret
  exact ⟨ret_bool Hf.out.symm, rfl⟩
 | false =>
  rw [hq] at hN
  have hv : r = (l.all digB && decide (0 < l.length) && decide (l.length ≤ 3)) := by rw [hr]; unfold valueOf digsOf; rw [hq]; rfl
  obtain ⟨Hl, Hln, Hr, HN, Hv, Hq⟩ := hd6 hl hln hr hN hv hq; clear hl hln hr hN hv hq
  go_enter Tryz.func189, Tryz.ntmps189
  go_wp2_with fail
  refine (HN.out _).mono ?_
  rintro e w1 ⟨rfl, rfl⟩
  go_wp2_with fail
  go_loop [8] (fun i => ∃ k : Nat, k ≤ s.size ∧ i = .int .i64 k ∧ (l.take k).all digB = true) (fun i => s.size - (intOf i).toNat)
  case atStart => exact ⟨0, Nat.zero_le _, rfl, by simp⟩
  case round =>
   obtain ⟨k, hk, rfl, hall⟩ := hrel
   by_cases hlt : k < s.size
   ·have hkl : k < l.length := by have := Hln.out; omega
    obtain ⟨n, hn⟩ : ∃ n, n = s[k].toNat := ⟨_, rfl⟩
    have hn256 : n < 256 := by rw [hn]; exact s[k].toNat_lt
    have hck : digB l[k] = digN n := by
     have e : l[k] = s[k] := by simp only [Hl.out]; rfl
     unfold digB
     rw [e, hn]
    have hD := fun W => digit_any n hn256 W
    have hsk : s[k].toNat = n := hn.symm
    have hyes : digN n = true → (l.take (k + 1)).all digB = true := fun h => VarM.all_succ hkl hall (by rw [hck]; exact h)
    have hno : digN n = false → r = false := fun h => by rw [Hv.out, VarM.all_no hkl (by rw [hck]; exact h)]; rfl
    clear hn hck
    clear hkl
    cases h2 : digN n with
    | true =>
     have hnext := hyes h2
     rw [h2] at hD
     obtain ⟨Hall, HD, Hyes, Hno, Hnext, H2⟩ := hd6 hall hD hyes hno hnext h2; clear hall hD hyes hno hnext h2
     go_wp2_with fail
     refine (HD.out _).mono ?_
     rintro e w1 ⟨rfl, rfl⟩
     go_wp2_with fail
     go_round
     case rel => exact ⟨k + 1, by omega, by go_num, Hnext.out⟩
     case measure => simp [intOf]; omega
    | false =>
     have hf := hno h2
     rw [h2] at hD
     obtain ⟨Hall, HD, Hyes, Hno, Hf, H2⟩ := hd6 hall hD hyes hno hf h2; clear hall hD hyes hno hf h2
     go_wp2_with fail
     refine (HD.out _).mono ?_
     rintro e w1 ⟨rfl, rfl⟩
     go_wp2_with fail
     go_ret
     exact ⟨ret_bool Hf.out.symm, rfl⟩
   ·obtain rfl : k = s.size := by omega
    have hall2 : l.all digB = true := by rw [List.take_of_length_le (by have := Hln.out; omega)] at hall; exact hall
    have hrr : r = (decide (0 < s.size) && decide (s.size ≤ 3)) := by rw [Hv.out, hall2, Hln.out]; rfl
    by_cases h0 : 0 < s.size
    ·by_cases h3 : s.size ≤ 3
     ·have hf : r = true := by rw [hrr, decide_eq_true h0, decide_eq_true h3]; rfl
      have k1 : (0 : Int) < (s.size : Int) := by omega
      have k2 : (s.size : Int) ≤ 3 := by omega
      have k3 : decide ((s.size : Int) ≤ 3) = true := by simpa using k2
      obtain ⟨Hall, Hall2, Hrr, Hf⟩ := hd4 hall hall2 hrr hf; clear hall hall2 hrr hf
      go_wp2_with fail
      go_ret
      exact ⟨ret_bool Hf.out.symm, rfl⟩
     ·have hf : r = false := by rw [hrr, decide_eq_false h3]; simp
      have k2 : (3 : Int) < (s.size : Int) := by omega
      have k3 : decide ((s.size : Int) ≤ 3) = false := by simpa using k2
      obtain ⟨Hall, Hall2, Hrr, Hf⟩ := hd4 hall hall2 hrr hf; clear hall hall2 hrr hf
      go_wp2_with fail
      go_ret
      exact ⟨ret_bool Hf.out.symm, rfl⟩
    ·have hf : r = false := by rw [hrr, decide_eq_false h0]; rfl
     have k2 : s.size ≤ 0 := by omega
     have k3 : decide (0 < (s.size : Int)) = false := decide_eq_false (by omega)
     obtain ⟨Hall, Hall2, Hrr, Hf⟩ := hd4 hall hall2 hrr hf; clear hall hall2 hrr hf
     go_wp2_with fail
     go_ret
     exact ⟨ret_bool Hf.out.symm, rfl⟩
theorem empty_iff (s : ByteArray) : s.toList = [] ↔ s.size = 0 := by
 rw [Lib.toList_data, ← dl]
 exact List.length_eq_zero_iff.symm
end Go.Proofs.YteailgjiifdgcaaGreatDoor

/- The walks of cooperref04.Name and Value. Condition: the text's reach. -/
namespace Go.Proofs.YteailgjiifdgcaaGreatDoor
open Go.RowKit
open VarM (letN digN okN okB digB nameOf valueOf digsOf headN)

end Go.Proofs.YteailgjiifdgcaaGreatDoor

/- The walks of cooperref04.Wish and variant.Wish, exactly: are settings a wish. No condition. -/
namespace Go.Proofs.YteailgjiifdgcaaGreatDoor
open Go.RowKit Go.Shelf VarM
attribute [local go_sem ↓] Go.wp_at_zero Go.wp_at_succ

theorem quiet_eq {P : Program} {f : FuncId} {args : Array Value} {w : World} {n : Nat} {v : Value}
  (h : Calls P f args (w.drewN n) fun e w' => e = .returned v ∧ ∃ q, w' = (w.drewN n).drewN q) : Calls P f args (w.drewN n) fun e w'' => e = .returned v ∧ ∃ m, w'' = w.drewN m :=
 h.mono fun _ _ ⟨he, q, hq⟩ => ⟨he, n + q, by rw [hq, World.drewN_drewN]⟩
def wishAt (l : List Setg) (i : Nat) : Bool := match l[i]? with
 | none => true
 | some x => nameOf x.1.data.toList && valueOf x.2.data.toList && (decide (i = 0) || Op.bytesLess (l.getD (i - 1) (⟨#[]⟩, ⟨#[]⟩)).1.toList x.1.toList)
def wishIs (l : List Setg) : Bool := (List.range l.length).all (wishAt l)
theorem wishAt_eq {l : List Setg} {i : Nat} (h : i < l.length) : wishAt l i = (nameOf l[i].1.data.toList && valueOf l[i].2.data.toList && (decide (i = 0) || Op.bytesLess (l.getD (i - 1) (⟨#[]⟩, ⟨#[]⟩)).1.toList l[i].1.toList)) := by
 unfold wishAt
 rw [List.getElem?_eq_getElem h]
theorem wishIs_no {l : List Setg} {i : Nat} (h : i < l.length) (hi : wishAt l i = false) : wishIs l = false := by
 unfold wishIs
 rw [List.all_eq_false]
 exact ⟨i, List.mem_range.2 h, by rw [hi]; simp⟩
theorem wishIs_yes {l : List Setg} (h : ∀ i, i < l.length → wishAt l i = true) : wishIs l = true := by
 unfold wishIs
 rw [List.all_eq_true]
 exact fun i hi => h i (List.mem_range.1 hi)
set_option maxRecDepth 10000 in
set_option maxHeartbeats 4000000 in
theorem wish04_any {w : World} {v : Value} {l : List Setg} (h : RSets w [v] l) : Calls Tryz.prog 209 #[v] w fun e w' => e = .returned (.bool (wishIs l)) ∧ Below w.heap.size w w' := by
 obtain ⟨a, cap, rfl, hz, g⟩ := sets_open h
 obtain ⟨n, hn⟩ : ∃ n, n = l.length := ⟨_, rfl⟩
 obtain ⟨r, hr⟩ : ∃ r, r = wishIs l := ⟨_, rfl⟩
 rw [← hr]
 rw [← hn] at hz h ⊢
 obtain ⟨Hh, Hg, Hn, Hr⟩ := hd4 h g hn hr; clear h g hn hr
 go_enter Tryz.func209, Tryz.ntmps209
 go_wp2_with fail
 go_loopw [7] (fun i wr => ∃ k : Nat, k ≤ n ∧ i = .int .i64 k ∧ (∀ j, j < k → wishAt l j = true) ∧ Below w.heap.size w wr) (fun i _ => n - (intOf i).toNat)
 case atStart => exact ⟨0, Nat.zero_le _, rfl, fun _ h => by omega, Below.refl _ _⟩
 case round =>
  obtain ⟨k, hk, rfl, hno, hb⟩ := hrel
  by_cases hlt : k < n
  ·have hkl : k < l.length := by have := Hn.out; omega
   obtain ⟨b, off, rfl, d0, d1, hs1, hs2⟩ := Hg.out k _ (List.getElem?_eq_getElem hkl)
   have hwa := wishAt_eq hkl
   have hnx : wishAt l k = true → ∀ j, j < k + 1 → wishAt l j = true := fun h j hj => by
    by_cases e : j = k
    ·rw [e]; exact h
    ·exact hno j (by omega)
   have hbd := fun (h : wishAt l k = false) => wishIs_no hkl h
   obtain ⟨x, hx⟩ : ∃ x, x = l[k] := ⟨_, rfl⟩
   rw [← hx] at d0 d1 hs1 hs2 hwa
   obtain ⟨s, hs⟩ : ∃ s, s = x.1 := ⟨_, rfl⟩
   obtain ⟨t, ht⟩ : ∃ s, s = x.2 := ⟨_, rfl⟩
   rw [← hs] at d0 hs1 hwa
   rw [← ht] at d1 hs2 hwa
   have hN := fun (W : World) => (name_any s hs1 W).mono (fun e w' (⟨he, hw⟩ : _ ∧ W = w') => (⟨he, 0, hw.symm⟩ : e = _ ∧ ∃ m, w' = W.drewN m))
   have hV := fun (W : World) => (value_any t hs2 W).mono (fun e w' (⟨he, hw⟩ : _ ∧ W = w') => (⟨he, 0, hw.symm⟩ : e = _ ∧ ∃ m, w' = W.drewN m))
   obtain ⟨p1, hp1⟩ : ∃ p, p = nameOf s.data.toList := ⟨_, rfl⟩
   obtain ⟨p2, hp2⟩ : ∃ p, p = valueOf t.data.toList := ⟨_, rfl⟩
   rw [← hp1] at hN hwa
   rw [← hp2] at hV hwa
   have e0 := cell_later hb d0
   have e1 := cell_later hb d1
   obtain ⟨W1, hW1⟩ : ∃ W1, W1 = wr.alloc (.cells #[.string s, .string t] 109) := ⟨_, rfl⟩
   have hbn : Below wr.heap.size wr W1 := by rw [hW1]; exact below_alloc1 _ _
   have hb1 := hb.trans (hbn.mono hb.size)
   obtain ⟨D, hD⟩ : ∃ D, D = wr.heap.size := ⟨_, rfl⟩
   have hdb : W1.heap[D]? = some (.cells #[.string s, .string t] 109 (0, 0)) := by rw [hW1, hD]; exact heap_alloc_new _ _
   have f0 := cells_at hdb 0
   have f1 := cells_at hdb 1
   simp only [List.getElem?_toArray, List.getElem?_cons_zero, List.getElem?_cons_succ] at f0 f1
   have k5 : (0 : Int) ≤ (k : Int) := by omega
   have k6 : (k : Int) < (n : Int) := by omega
   clear hx hs ht
   obtain ⟨HN, HV, Hp1, Hp2, Hno, Hnx, Hbd, Hwa, Hb, Hbn, Hb1, Hdb⟩ := hd12 hN hV hp1 hp2 hno hnx hbd hwa hb hbn hb1 hdb; clear hN hV hp1 hp2 hno hnx hbd hwa hb hbn hb1 hdb
   go_upto_region 4 with (fail)
   rw [← hW1, ← hD]
   obtain ⟨HW1, HD⟩ := hd2 hW1 hD; clear hW1 hD
   clear e0 e1
   cases p1 with
   | false =>
    have hf : r = false := by rw [Hr.out]; exact Hbd.out (by rw [Hwa.out]; rfl)
    have Hf := hd hf; clear hf
    go_quiet (first | (go_at_call 153; exact quiet_eq (HN.out _)) | (go_at_call 189; exact quiet_eq (HV.out _)))
    go_wp2_with fail
    go_ret
    exact ⟨ret_bool Hf.out.symm, bel_drewN Hb1.out _⟩
   | true =>
    cases p2 with
    | false =>
     have hf : r = false := by rw [Hr.out]; exact Hbd.out (by rw [Hwa.out]; rfl)
     have Hf := hd hf; clear hf
     go_quiet (first | (go_at_call 153; exact quiet_eq (HN.out _)) | (go_at_call 189; exact quiet_eq (HV.out _)))
     go_wp2_with fail
     go_ret
     exact ⟨ret_bool Hf.out.symm, bel_drewN Hb1.out _⟩
    | true =>
     by_cases h0 : 0 < k
     ·obtain ⟨k', rfl⟩ : ∃ k', k = k' + 1 := ⟨k - 1, by omega⟩
      have hkl' : k' < l.length := by have := Hn.out; omega
      obtain ⟨b2, off2, e2, y0, _, _, _⟩ := Hg.out k' _ (List.getElem?_eq_getElem hkl')
      injection e2 with e2
      injection e2 with e3 e4
      subst e3 e4
      obtain ⟨z, hz4⟩ : ∃ z, z = l[k'].1 := ⟨_, rfl⟩
      rw [← hz4] at y0
      have y0 := cell_later Hb1.out y0
      have hwb : wishAt l (k' + 1) = Op.bytesLess z.toList s.toList := by rw [Hwa.out, hz4]; simp [List.getD_eq_getElem?_getD, List.getElem?_eq_getElem hkl']
      obtain ⟨Hz4, Hwb⟩ := hd2 hz4 hwb; clear hz4 hwb

      have k7 : decide ((0 : Int) < ((k' + 1 : Nat) : Int)) = true := by rw [decide_eq_true_eq]; omega
      have k8 : (((k' + 1 : Nat) : Int) - 1) = (k' : Int) := by omega
      have k11 : IntKind.i64.wrap (((k' + 1 : Nat) : Int) - 1) = (k' : Int) := by rw [k8]; exact IntWalk.i64_in _ (by omega)
      have k9 : (0 : Int) ≤ (k' : Int) := by omega
      have k10 : (k' : Int) < (n : Int) := by omega
      go_quiet (first | (go_at_call 153; exact quiet_eq (HN.out _)) | (go_at_call 189; exact quiet_eq (HV.out _)))
      obtain ⟨bl, hbl⟩ : ∃ b, b = Op.bytesLess z.toList s.toList := ⟨_, rfl⟩
      have hwb := Hwb.out
      rw [← hbl] at hwb ⊢
      obtain ⟨Hbl, Hwb⟩ := hd2 hbl hwb; clear hbl hwb
      cases bl with
      | true =>
       have hq := Hnx.out Hwb.out
       have Hq := hd hq; clear hq
       go_wp2_with fail
       go_roundw
       case rel => exact ⟨k' + 1 + 1, by omega, by go_num, Hq.out, bel_drewN Hb1.out _⟩
       case measure => simp [intOf]; omega
      | false =>
       have hf : r = false := by rw [Hr.out]; exact Hbd.out Hwb.out
       have Hf := hd hf; clear hf
       go_wp2_with fail
       go_ret
       exact ⟨ret_bool Hf.out.symm, bel_drewN Hb1.out _⟩
     ·have k7 : decide ((0 : Int) < (k : Int)) = false := by rw [decide_eq_false_iff_not]; omega
      have hq := Hnx.out (by rw [Hwa.out, show k = 0 by omega]; rfl)
      have Hq := hd hq; clear hq
      go_quiet (first | (go_at_call 153; exact quiet_eq (HN.out _)) | (go_at_call 189; exact quiet_eq (HV.out _)))
      go_wp2_with fail
      go_roundw
      case rel => exact ⟨k + 1, by omega, by go_num, Hq.out, bel_drewN Hb1.out _⟩
      case measure => simp [intOf]; omega
  ·obtain rfl : n = k := by omega
   have hf : r = true := by rw [Hr.out]; exact wishIs_yes (by rw [← Hn.out]; exact hno)
   obtain ⟨Hno, Hf, Hb⟩ := hd3 hno hf hb; clear hno hf hb
   go_wp2_with fail
   go_ret
   exact ⟨ret_bool Hf.out.symm, Hb.out⟩
end Go.Proofs.YteailgjiifdgcaaGreatDoor

/- Plain facts on lines of words: a lexer that goes byte by byte, and one that goes line by line, tell the same. No condition. -/
namespace Go.Proofs.YteailgjiifdgcaaGreatDoor.LexM
abbrev Bs := List UInt8
abbrev Wd := Int × Bs
abbrev Ln := Int × List Wd
structure St where
 line : Int
 col : Int
 frm : Int
 off : Bool
 word : Bs
 words : List Wd
 out : List Ln

def ends (s : St) : St := { s with frm := 0, word := [], words := if 0 < s.frm then s.words ++ [(s.frm, s.word)] else s.words }
def breaks (s : St) : St :=
 { (ends s) with out := if (ends s).words = [] then s.out else s.out ++ [(s.line, (ends s).words)], words := [], off := false, line := s.line + 1, col := 0 }
def mayBegin (s : St) : Bool := decide (s.words.length < 40) && (decide (0 < s.words.length) || decide (s.out.length < 2000))
def onward (s : St) : St := { s with col := s.col + 1 }
def takes (s : St) (c : UInt8) : St × Int :=
 if c.toNat = 10 then (breaks (onward s), 0)
 else if c.toNat < 32 ∨ 126 < c.toNat then (onward s, 3)
 else if s.off = true then (onward s, 0)
 else if c.toNat = 35 then ({ ends (onward s) with off := true }, 0)
 else if c.toNat = 32 then (ends (onward s), 0)
 else if 0 < s.frm then ({ onward s with word := s.word ++ [c] }, 0)
 else if mayBegin s = true then ({ onward s with frm := s.col + 1, word := s.word ++ [c] }, 0)
 else ({ onward s with frm := s.col + 1 }, 4)
def run : St → Bs → St × Int
 | s, [] => (s, 0)
 | s, c :: r => if (takes s c).2 = 0 then run (takes s c).1 r else takes s c
def st0 : St := ⟨1, 0, 0, false, [], [], []⟩
structure Res where
 lines : List Ln
 at1 : Int
 at2 : Int
 e : Int
def close (r : St × Int) : Res := if r.2 = 0 then ⟨(breaks r.1).out, 0, 0, 0⟩ else ⟨[], r.1.line, r.1.col, r.2⟩
def lines (t : Bs) : Res := if 65536 < t.length then ⟨[], 0, 0, 4⟩ else close (run st0 t)

/-! the document's -/
def part (c : UInt8) : Bool := decide (32 < c.toNat) && decide (c.toNat < 127) && !decide (c.toNat = 35)
def wordAt (t : Bs) (i : Nat) : Bs := (t.drop i).takeWhile part
structure RS where
 off : Bool
 out : List Wd
def roff (s : RS) (c : UInt8) : Bool := s.off || decide (c.toNat = 35)
def rskip (t : Bs) (s : RS) (i : Nat) (c : UInt8) : Bool := roff s c || !part c || (decide (0 < i) && part (t.getD (i - 1) 0))
def rnext (t : Bs) (s : RS) (i : Nat) (c : UInt8) : RS := ⟨roff s c, if rskip t s i c = true then s.out else s.out ++ [((i : Int) + 1, wordAt t i)]⟩
def rerr (t : Bs) (room : Bool) (s : RS) (i : Nat) (c : UInt8) : Int :=
 if c.toNat < 32 ∨ 126 < c.toNat then 3
 else if rskip t s i c = true then 0
 else if s.out.length = 40 ∨ room = false then 4 else 0
def rgo (t : Bs) (room : Bool) (s : RS) (i : Nat) : Bs → List Wd × Int × Int
 | [] => (s.out, 0, 0)
 | c :: r => if rerr t room s i c = 0 then rgo t room (rnext t s i c) (i + 1) r else (s.out, (i : Int) + 1, rerr t room s i c)
def rline (t : Bs) (room : Bool) : List Wd × Int × Int := rgo t room ⟨false, []⟩ 0 t
def addLn (out : List Ln) (n : Int) (ws : List Wd) : List Ln := if ws = [] then out else out ++ [(n, ws)]
def rlines (n : Int) (cur : Bs) (out : List Ln) : Bs → Res
 | [] => let r := rline cur (decide (out.length < 2000)); if r.2.2 = 0 then ⟨addLn out n r.1, 0, 0, 0⟩ else ⟨[], n, r.2.1, r.2.2⟩
 | c :: r =>
  if c.toNat = 10 then
   let q := rline cur (decide (out.length < 2000))
   if q.2.2 = 0 then rlines (n + 1) [] (addLn out n q.1) r else ⟨[], n, q.2.1, q.2.2⟩
  else rlines n (cur ++ [c]) out r
def docLines (t : Bs) : Res := if 65536 < t.length then ⟨[], 0, 0, 4⟩ else rlines 1 [] [] t

theorem run_ok {s : St} {c : UInt8} {r : Bs} (h : (takes s c).2 = 0) : run s (c :: r) = run (takes s c).1 r := by simp [run, h]
theorem run_bad {s : St} {c : UInt8} {r : Bs} (h : (takes s c).2 ≠ 0) : run s (c :: r) = takes s c := by simp [run, h]
theorem run_append (a b : Bs) : ∀ s, run s (a ++ b) = if (run s a).2 = 0 then run (run s a).1 b else run s a := by
 induction a with
 | nil => intro s; simp [run]
 | cons c r ih =>
  intro s
  by_cases h : (takes s c).2 = 0
  ·rw [List.cons_append, run_ok h, ih, run_ok h]
  ·rw [List.cons_append, run_bad h, run_bad h, if_neg h]

theorem wordAt_of {t : Bs} {i : Nat} {c : UInt8} {r : Bs} (h : t.drop i = c :: r) (hc : part c = true) : wordAt t i = c :: r.takeWhile part := by
 unfold wordAt; rw [h]; simp [hc]

structure Inv (t : Bs) (room : Bool) (p : St) (s : RS) (i : Nat) : Prop where
 col : p.col = i
 off : p.off = s.off
 none : p.frm = 0 → p.word = [] ∧ s.out = p.words ∧ (p.off = true ∨ i = 0 ∨ part (t.getD (i - 1) 0) = false)
 some : p.frm ≠ 0 → p.off = false ∧ 0 < i ∧ part (t.getD (i - 1) 0) = true ∧ ∃ j : Nat, p.frm = (j : Int) + 1 ∧ s.out = p.words ++ [((j : Int) + 1, p.word ++ (t.drop i).takeWhile part)]
 nonneg : 0 ≤ p.frm
 room : room = decide (p.out.length < 2000)
 had : p.words ≠ [] ∨ p.frm ≠ 0 → p.out.length < 2000
 le : s.out.length ≤ 40

theorem part_iff (c : UInt8) : part c = true ↔ 32 < c.toNat ∧ c.toNat < 127 ∧ c.toNat ≠ 35 := by
 unfold part; simp [and_assoc]

theorem getD_of_drop {t : Bs} {i : Nat} {c : UInt8} {r : Bs} (h : t.drop i = c :: r) : t.getD i 0 = c ∧ t.drop (i + 1) = r ∧ i < t.length := by
 have hi : i < t.length := by
  rcases Nat.lt_or_ge i t.length with hi | hi
  ·exact hi
  ·rw [List.drop_eq_nil_of_le hi] at h; cases h
 rw [List.drop_eq_getElem_cons hi] at h
 injection h with h1 h2
 refine ⟨?_, h2, hi⟩
 simp [List.getD, hi, h1]

theorem step_inv {t : Bs} {room : Bool} {p : St} {s : RS} {i : Nat} {c : UInt8} {r : Bs} (h : Inv t room p s i) (hd : t.drop i = c :: r) (hc : c.toNat ≠ 10) :
  (takes p c).2 = rerr t room s i c ∧ (takes p c).1.col = (i : Int) + 1 ∧ (takes p c).1.line = p.line ∧ (takes p c).1.out = p.out ∧ ((takes p c).2 = 0 → Inv t room (takes p c).1 (rnext t s i c) (i + 1)) := by
 obtain ⟨hg, hd2, hi⟩ := getD_of_drop hd
 have hg2 : t.getD (i + 1 - 1) 0 = c := by rw [Nat.add_sub_cancel]; exact hg
 have hcol := h.col
 unfold takes
 rw [if_neg hc]
 by_cases hf : c.toNat < 32 ∨ 126 < c.toNat
 ·rw [if_pos hf]
  have e1 : rerr t room s i c = 3 := by unfold rerr; rw [if_pos hf]
  exact ⟨e1.symm, by simp [onward, hcol], rfl, rfl, fun h => by cases h⟩
 rw [if_neg hf]
 have hr : rerr t room s i c = if rskip t s i c = true then 0 else if s.out.length = 40 ∨ room = false then 4 else 0 := by unfold rerr; rw [if_neg hf]
 by_cases ho : p.off = true
 ·rw [if_pos ho]
  have hso : s.off = true := by rw [← h.off]; exact ho
  have hro : roff s c = true := by unfold roff; rw [hso]; rfl
  have hsk : rskip t s i c = true := by unfold rskip; rw [hro]; rfl
  have hf0 : p.frm = 0 := Classical.byContradiction fun hn => by have := (h.some hn).1; rw [ho] at this; cases this
  refine ⟨by rw [hr, if_pos hsk], by simp [onward, hcol], rfl, rfl, fun _ => ?_⟩
  have hn := h.none hf0
  exact ⟨by simp [onward, hcol], by simp [onward, rnext, hro, ho], fun _ => ⟨hn.1, by simp [rnext, hsk]; exact hn.2.1, .inl ho⟩, fun hx => absurd hf0 hx, h.nonneg, h.room, h.had, by simp only [rnext, if_pos hsk]; exact h.le⟩
 rw [if_neg ho]
 have hoff : p.off = false := by simpa using ho
 have hso : s.off = false := by rw [← h.off]; exact hoff
 have endsEq : ∀ b : Bool, b = roff s c → part c = false → rskip t s i c = true → Inv t room { ends (onward p) with off := b } (rnext t s i c) (i + 1) := by
  intro b hb hpc hsk
  refine ⟨by simp [ends, onward, hcol], by simp [rnext, hb], fun _ => ⟨rfl, ?_, .inr (.inr ?_)⟩, fun hx => absurd rfl hx, Int.le_refl _, h.room, ?_, by simp only [rnext, if_pos hsk]; exact h.le⟩
  ·simp only [rnext, if_pos hsk]
   by_cases h0 : p.frm = 0
   ·rw [(h.none h0).2.1]
    simp [ends, onward, h0]
   ·obtain ⟨_, _, _, j, hj, hso⟩ := h.some h0
    rw [hso, hd]
    have hp : 0 < (j : Int) + 1 := by omega
    simp [ends, onward, hp, hj, hpc]
  ·rw [hg2]; exact hpc
  ·intro hne
   apply h.had
   by_cases h0 : p.frm = 0
   ·left
    simpa [ends, onward, h0] using hne
   ·exact .inr h0
 by_cases h35 : c.toNat = 35
 ·rw [if_pos h35]
  have hpc : part c = false := by
   have := part_iff c
   cases hh : part c
   ·rfl
   ·have := this.1 hh; omega
  have hro : roff s c = true := by unfold roff; simp [h35]
  have hsk : rskip t s i c = true := by unfold rskip; rw [hro]; rfl
  exact ⟨by rw [hr, if_pos hsk], by simp [ends, onward, hcol], rfl, rfl, fun _ => endsEq true hro.symm hpc hsk⟩
 rw [if_neg h35]
 have hro : roff s c = false := by unfold roff; simp [hso, h35]
 by_cases h32 : c.toNat = 32
 ·rw [if_pos h32]
  have hpc : part c = false := by
   have := part_iff c
   cases hh : part c
   ·rfl
   ·have := this.1 hh; omega
  have hsk : rskip t s i c = true := by unfold rskip; rw [hpc]; simp
  refine ⟨by rw [hr, if_pos hsk], by simp [ends, onward, hcol], rfl, rfl, fun _ => ?_⟩
  have := endsEq false hro.symm hpc hsk
  have e : ends (onward p) = { ends (onward p) with off := false } := by simp [ends, onward, hoff]
  rw [e]
  exact this
 rw [if_neg h32]
 have hpc : part c = true := (part_iff c).2 (by omega)
 by_cases h0 : p.frm = 0
 ·have hn := h.none h0
  have hprev : (decide (0 < i) && part (t.getD (i - 1) 0)) = false := by
   rcases hn.2.2 with h1 | h1 | h1
   ·rw [hoff] at h1; cases h1
   ·simp [h1]
   ·rw [h1]; simp
  have hsk : rskip t s i c = false := by unfold rskip; rw [hro, hpc, hprev]; rfl
  have hsk' : ¬ rskip t s i c = true := by rw [hsk]; simp
  rw [if_neg (by omega)]
  by_cases hm : mayBegin p = true
  ·rw [if_pos hm]
   have hm' := hm
   unfold mayBegin at hm'
   simp only [Bool.and_eq_true, Bool.or_eq_true, decide_eq_true_eq] at hm'
   have hout : p.out.length < 2000 := by
    rcases hm'.2 with h1 | h1
    ·exact h.had (.inl (List.ne_nil_of_length_pos h1))
    ·exact h1
   have hl : s.out.length < 40 := by rw [hn.2.1]; exact hm'.1
   refine ⟨?_, by simp [onward, hcol], rfl, rfl, fun _ => ⟨by simp [onward, hcol], by simp [onward, rnext, hro, hoff], fun hx => ?_, fun _ => ⟨hoff, by omega, by rw [hg2]; exact hpc, i, by simp [hcol], ?_⟩, by simp; omega, h.room, fun _ => hout, ?_⟩⟩
   ·rw [hr, if_neg hsk', if_neg]
    rintro (h1 | h1)
    ·omega
    ·rw [h.room] at h1; simp at h1; omega
   ·exfalso
    simp at hx
    omega
   ·simp only [rnext, if_neg hsk', hd2, hn.1, hn.2.1, onward]
    rw [wordAt_of hd hpc]
    rfl
   ·simp only [rnext, if_neg hsk', List.length_append, List.length_singleton]
    omega
  ·rw [if_neg hm]
   refine ⟨?_, by simp [onward, hcol], rfl, rfl, fun hx => by cases hx⟩
   rw [hr, if_neg hsk', if_pos]
   unfold mayBegin at hm
   simp only [Bool.and_eq_true, Bool.or_eq_true, decide_eq_true_eq] at hm
   have hle := h.le
   rw [hn.2.1] at hle ⊢
   by_cases h40 : p.words.length = 40
   ·exact .inl h40
   ·right
    rw [h.room]
    simp
    omega
 ·obtain ⟨ha, hb, hpv, j, hj, hso2⟩ := h.some h0
  have hsk : rskip t s i c = true := by unfold rskip; rw [hpv]; simp [hb]
  have hp : 0 < p.frm := by omega
  rw [if_pos hp]
  refine ⟨by rw [hr, if_pos hsk], by simp [onward, hcol], rfl, rfl, fun _ => ⟨by simp [onward, hcol], by simp [onward, rnext, hro, hoff], fun hx => absurd hx h0, fun _ => ⟨hoff, by omega, by rw [hg2]; exact hpc, j, hj, ?_⟩, h.nonneg, h.room, h.had, by simp only [rnext, if_pos hsk]; exact h.le⟩⟩
  simp only [rnext, if_pos hsk, onward]
  rw [hso2, hd, hd2]
  simp [hpc]

theorem line_inv {t : Bs} {room : Bool} (r : Bs) : ∀ (p : St) (s : RS) (i : Nat), Inv t room p s i → t.drop i = r → (∀ c ∈ r, c.toNat ≠ 10) →
  (run p r).2 = (rgo t room s i r).2.2 ∧ (run p r).1.line = p.line ∧ (run p r).1.out = p.out ∧ ((run p r).2 ≠ 0 → (run p r).1.col = (rgo t room s i r).2.1) ∧ ((run p r).2 = 0 → (ends (run p r).1).words = (rgo t room s i r).1) := by
 induction r with
 | nil =>
  intro p s i h hd _
  refine ⟨rfl, rfl, rfl, fun hx => absurd rfl hx, fun _ => ?_⟩
  simp only [run, rgo]
  by_cases h0 : p.frm = 0
  ·rw [(h.none h0).2.1]; simp [ends, h0]
  ·obtain ⟨_, _, _, j, hj, hso⟩ := h.some h0
   have hp : 0 < (j : Int) + 1 := by omega
   rw [hso, hd]
   simp [ends, hj, hp]
 | cons c r ih =>
  intro p s i h hd hn
  obtain ⟨e1, e2, e3, e4, e5⟩ := step_inv h hd (hn c (by simp))
  simp only [rgo, ← e1]
  by_cases hz : (takes p c).2 = 0
  ·rw [run_ok hz, if_pos hz]
   obtain ⟨f1, f2, f3, f4, f5⟩ := ih _ _ (i + 1) (e5 hz) (getD_of_drop hd).2.1 (fun x hx => hn x (by simp [hx]))
   exact ⟨f1, f2.trans e3, f3.trans e4, f4, f5⟩
  ·rw [run_bad hz, if_neg hz]
   exact ⟨rfl, e3, e4, fun _ => e2, fun hx => absurd hx hz⟩

def fresh (n : Int) (out : List Ln) : St := ⟨n, 0, 0, false, [], [], out⟩
theorem inv0 (t : Bs) (n : Int) (out : List Ln) : Inv t (decide (out.length < 2000)) (fresh n out) ⟨false, []⟩ 0 :=
 ⟨rfl, rfl, fun _ => ⟨rfl, rfl, .inr (.inl rfl)⟩, fun h => absurd rfl h, Int.le_refl _, rfl, fun h => by rcases h with h | h <;> exact absurd rfl h, by simp⟩
theorem line_all (t : Bs) (n : Int) (out : List Ln) (h : ∀ c ∈ t, c.toNat ≠ 10) :
  (run (fresh n out) t).2 = (rline t (decide (out.length < 2000))).2.2 ∧ (run (fresh n out) t).1.line = n ∧ (run (fresh n out) t).1.out = out ∧ ((run (fresh n out) t).2 ≠ 0 → (run (fresh n out) t).1.col = (rline t (decide (out.length < 2000))).2.1) ∧
  ((run (fresh n out) t).2 = 0 → (ends (run (fresh n out) t).1).words = (rline t (decide (out.length < 2000))).1) :=
 line_inv t _ _ 0 (inv0 t n out) rfl h

theorem breaks_eq (p : St) (n : Int) (out : List Ln) (ws : List Wd) (hl : p.line = n) (ho : p.out = out) (hw : (ends p).words = ws) : breaks p = fresh (n + 1) (addLn out n ws) := by
 subst hl; subst ho; subst hw
 rfl

theorem rlines_eq (r : Bs) : ∀ (n : Int) (cur : Bs) (out : List Ln), (∀ c ∈ cur, c.toNat ≠ 10) → rlines n cur out r = close (run (fresh n out) (cur ++ r)) := by
 induction r with
 | nil =>
  intro n cur out hc
  obtain ⟨e1, e2, e3, e4, e5⟩ := line_all cur n out hc
  rw [List.append_nil]
  unfold rlines close
  dsimp only
  rw [← e1]
  by_cases hz : (run (fresh n out) cur).2 = 0
  ·rw [if_pos hz, if_pos hz, breaks_eq _ n out _ e2 e3 (e5 hz)]
   rfl
  ·rw [if_neg hz, if_neg hz, e2, e4 hz]
 | cons c r ih =>
  intro n cur out hc
  unfold rlines
  by_cases h10 : c.toNat = 10
  ·rw [if_pos h10]
   dsimp only
   obtain ⟨e1, e2, e3, e4, e5⟩ := line_all cur n out hc
   rw [run_append, ← e1]
   by_cases hz : (run (fresh n out) cur).2 = 0
   ·rw [if_pos hz, if_pos hz, ih _ _ _ (by simp)]
    have : run (run (fresh n out) cur).1 (c :: r) = run (fresh (n + 1) (addLn out n (rline cur (decide (out.length < 2000))).1)) r := by
     have h1 : takes (run (fresh n out) cur).1 c = (breaks (onward (run (fresh n out) cur).1), 0) := by unfold takes; rw [if_pos h10]
     rw [run_ok (by rw [h1]), h1]
     rw [breaks_eq (onward (run (fresh n out) cur).1) n out (rline cur (decide (out.length < 2000))).1 e2 e3 (e5 hz)]
    rw [this]
    rfl
   ·rw [if_neg hz, if_neg hz]
    unfold close
    rw [if_neg hz, e2, e4 hz]
  ·rw [if_neg h10, ih _ _ _ (by
    intro x hx
    rcases List.mem_append.1 hx with hx | hx
    ·exact hc x hx
    ·simp at hx; rw [hx]; exact h10)]
   simp

theorem lines_eq (t : Bs) : lines t = docLines t := by
 unfold lines docLines
 by_cases h : 65536 < t.length
 ·rw [if_pos h, if_pos h]
 ·rw [if_neg h, if_neg h, rlines_eq t 1 [] [] (by simp)]
  rfl
end Go.Proofs.YteailgjiifdgcaaGreatDoor.LexM

/- Plain: what the words of a line tell: settings, a wish, a root; a request. No condition. -/
namespace Go.Proofs.YteailgjiifdgcaaGreatDoor
open Go.Lib VerN VarM
open LexM (Wd Ln)

abbrev Spc3 := ByteArray × List BSp × List Setg
def peekB (ws : List Wd) (i : Nat) : ByteArray := match ws[i]? with
 | some x => ⟨x.2.toArray⟩
 | none => ⟨#[]⟩
def colAt (ws : List Wd) (fin : Int) (i : Nat) : Int := match ws[i]? with
 | some x => x.1
 | none => fin
def cutB (c : UInt8) (s : ByteArray) : ByteArray × ByteArray × Bool := (⟨(cut s.data.toList [c]).1.toArray⟩, ⟨(cut s.data.toList [c]).2.1.toArray⟩, (cut s.data.toList [c]).2.2)
def hasB (c : UInt8) (s : ByteArray) : Bool := decide (0 ≤ indexByte s.data.toList c)
def setgB (s : ByteArray) : Setg := ((cutB 61 s).1, (cutB 61 s).2.1)
def setsW (ws : List Wd) : Nat → Nat → List Setg → Option (List Setg) × Nat
 | 0, i, out => (some out, i)
 | f + 1, i, out => if hasB 61 (peekB ws i) = true then (if wishIs (out ++ [setgB (peekB ws i)]) = true then setsW ws f (i + 1) (out ++ [setgB (peekB ws i)]) else (none, i)) else (some out, i)
theorem peek_none {ws : List Wd} {i : Nat} (h : ws.length ≤ i) : peekB ws i = ⟨#[]⟩ := by unfold peekB; rw [List.getElem?_eq_none h]
theorem peek_some {ws : List Wd} {i : Nat} (h : i < ws.length) : peekB ws i = ⟨ws[i].2.toArray⟩ := by unfold peekB; rw [List.getElem?_eq_getElem h]
theorem col_none {ws : List Wd} {fin : Int} {i : Nat} (h : ws.length ≤ i) : colAt ws fin i = fin := by unfold colAt; rw [List.getElem?_eq_none h]
theorem col_some {ws : List Wd} {fin : Int} {i : Nat} (h : i < ws.length) : colAt ws fin i = ws[i].1 := by unfold colAt; rw [List.getElem?_eq_getElem h]
theorem has_none : hasB 61 ⟨#[]⟩ = false := by decide
def setsAt (ws : List Wd) (i : Nat) (out : List Setg) : Option (List Setg) × Nat := setsW ws (ws.length - i) i out
theorem setsAt_end {ws : List Wd} {i : Nat} {out : List Setg} (h : hasB 61 (peekB ws i) = false) : setsAt ws i out = (some out, i) := by
 unfold setsAt
 cases hf : ws.length - i with
 | zero => rfl
 | succ f => unfold setsW; rw [if_neg (by rw [h]; simp)]
theorem has_lt {ws : List Wd} {i : Nat} (h : hasB 61 (peekB ws i) = true) : i < ws.length := by
 apply Nat.lt_of_not_le
 intro hk
 rw [peek_none hk, has_none] at h
 cases h
theorem setsAt_on {ws : List Wd} {i : Nat} {out : List Setg} (h : hasB 61 (peekB ws i) = true) (hw : wishIs (out ++ [setgB (peekB ws i)]) = true) : setsAt ws i out = setsAt ws (i + 1) (out ++ [setgB (peekB ws i)]) := by
 have hl := has_lt h
 unfold setsAt
 obtain ⟨f, hf⟩ : ∃ f, ws.length - i = f + 1 := ⟨ws.length - i - 1, by omega⟩
 rw [hf, show ws.length - (i + 1) = f by omega]
 show (if _ then _ else _) = _
 rw [if_pos h, if_pos hw]
theorem setsAt_no {ws : List Wd} {i : Nat} {out : List Setg} (h : hasB 61 (peekB ws i) = true) (hw : wishIs (out ++ [setgB (peekB ws i)]) = false) : setsAt ws i out = (none, i) := by
 have hl := has_lt h
 unfold setsAt
 obtain ⟨f, hf⟩ : ∃ f, ws.length - i = f + 1 := ⟨ws.length - i - 1, by omega⟩
 rw [hf]
 show (if _ then _ else _) = _
 rw [if_pos h, if_neg (by rw [hw]; simp)]
open Classical in
noncomputable def setOk (t : ByteArray) : Bool := decide (Rd3 t ∧ rdV t ≠ [] ∧ (rdV t).head? ≠ some (⟨#[]⟩, ⟨#[]⟩))
def allV : List BSp := [(⟨#[]⟩, ⟨#[]⟩)]
noncomputable def nameB (s : ByteArray) : Bool := nameOf (cutB 64 s).1.data.toList && (!(cutB 64 s).2.2 || setOk (cutB 64 s).2.1)
noncomputable def spansB (s : ByteArray) : List BSp := if (cutB 64 s).2.2 = true then rdV (cutB 64 s).2.1 else allV
noncomputable def wishW (ws : List Wd) (i : Nat) : Option Spc3 × Nat :=
 if nameB (peekB ws i) = true then ((setsAt ws (i + 1) []).1.map fun l => ((cutB 64 (peekB ws i)).1, spansB (peekB ws i), l), (setsAt ws (i + 1) []).2) else (none, i)
end Go.Proofs.YteailgjiifdgcaaGreatDoor

/- An argument that is a wish, or a condition, opened. No condition. -/
namespace Go.Proofs.YteailgjiifdgcaaGreatDoor
open Go.RowKit Go.Shelf VerN VarM

theorem cs_str1 : Tryz.prog.cellsOf 9 = 1 := by kernel_rfl
theorem open_to {α β : Type} {P : Program} {t : TypeId} {R : Rd α} {S : Rd β} (hS : Opens P t R) (hm : ∀ w cs a, R w cs a → ∃ b, S w cs b) : Opens P t S := by
 intro H enc w base spare held fuel cs x hx
 obtain ⟨y, hy⟩ := hS enc w base spare held fuel cs x hx
 exact hm w cs y hy
abbrev RTwo : Rd (ByteArray × ByteArray × Unit) := RCons 1 RStr (RCons 1 RStr RNil)
theorem two_cells {w : World} {cs : List Value} {x : ByteArray × ByteArray × Unit} (h : RTwo w cs x) : cs = [.string x.1, .string x.2.1] ∧ x.1.size ≤ maxLen ∧ x.2.1.size ≤ maxLen := by
 obtain ⟨a0, t0, rfl, l0, ⟨rfl, z0⟩, a1, t1, rfl, l1, ⟨rfl, z1⟩, h2⟩ := h
 obtain rfl : t1 = [] := h2
 exact ⟨rfl, z0, z1⟩
theorem opens_span2 : Opens Tryz.prog 34 RTwo := by
 refine opens_struct Tryz.underlying34 ?_
 have hN : Tryz.prog.cellsOf 34 = 0 + 1 + 1 := by kernel_rfl
 rw [hN]
 exact fields_cons rfl cs_str1 (opens_str Tryz.underlying9) (fields_cons rfl cs_str1 (opens_str Tryz.underlying9) fields_nil)
theorem opens_setting2 : Opens Tryz.prog 109 RTwo := by
 refine opens_struct Tryz.underlying109 ?_
 have hN : Tryz.prog.cellsOf 109 = 0 + 1 + 1 := by kernel_rfl
 rw [hN]
 exact fields_cons rfl cs_str1 (opens_str Tryz.underlying9) (fields_cons rfl cs_str1 (opens_str Tryz.underlying9) fields_nil)
theorem opens_span : Opens Tryz.prog 34 RSpn := open_to (R := RTwo) (S := RSpn) opens_span2 fun _ _ x h => ⟨(x.1, x.2.1), two_cells h⟩
theorem opens_setting : Opens Tryz.prog 109 RSet := open_to (R := RTwo) (S := RSet) opens_setting2 fun _ _ x h => ⟨(x.1, x.2.1), two_cells h⟩
theorem opens_sps : Opens Tryz.prog 23 RSps := opens_slice Tryz.underlying23 (by kernel_rfl) (by decide) opens_span
theorem opens_sets : Opens Tryz.prog 49 RSets := opens_slice Tryz.underlying49 (by kernel_rfl) (by decide) opens_setting
def RSpq : Rd Spc3 := fun w cs s => ∃ v1 v2, cs = [.string s.1, v1, v2] ∧ s.1.size ≤ maxLen ∧ RSps w [v1] s.2.1 ∧ RSets w [v2] s.2.2
abbrev RSpq3 : Rd (ByteArray × List BSp × List Setg × Unit) := RCons 1 RStr (RCons 1 RSps (RCons 1 RSets RNil))
theorem opens_spec3 : Opens Tryz.prog 51 RSpq3 := by
 refine opens_struct Tryz.underlying51 ?_
 have hN : Tryz.prog.cellsOf 51 = 0 + 1 + 1 + 1 := by kernel_rfl
 rw [hN]
 exact fields_cons rfl cs_str1 (opens_str Tryz.underlying9) (fields_cons rfl (by kernel_rfl) opens_sps (fields_cons rfl (by kernel_rfl) opens_sets fields_nil))
theorem spq_of {w : World} {cs : List Value} {x : ByteArray × List BSp × List Setg × Unit} (h : RSpq3 w cs x) : RSpq w cs (x.1, x.2.1, x.2.2.1) := by
 obtain ⟨a0, t0, rfl, l0, ⟨rfl, z0⟩, a1, t1, rfl, l1, h1, a2, t2, rfl, l2, h2, h3⟩ := h
 obtain rfl : t2 = [] := h3
 match a1, l1, a2, l2 with
 | [v1], _, [v2], _ => exact ⟨v1, v2, rfl, z0, h1, h2⟩
theorem opens_spec : Opens Tryz.prog 51 RSpq := open_to (R := RSpq3) (S := RSpq) opens_spec3 fun _ _ x h => ⟨_, spq_of h⟩
theorem opensZ_spec : OpensZ Tryz.prog 51 RSpq := opensZ_of opens_spec
theorem spec_arg {w : World} {cs : Array Value} {s : Spc3} (h : RSpq w cs.toList s) : ∃ v1 v2, cs = #[.string s.1, v1, v2] ∧ RSps w [v1] s.2.1 ∧ RSets w [v2] s.2.2 := by
 obtain ⟨v1, v2, hc, _, h1, h2⟩ := h
 exact ⟨v1, v2, by rw [← Array.toArray_toList (xs := cs), hc], h1, h2⟩
end Go.Proofs.YteailgjiifdgcaaGreatDoor

/- Plain: what words tell, as texts alone: settings, a wish, a condition; and the words of what was told. No condition. -/
namespace Go.Proofs.YteailgjiifdgcaaGreatDoor
open Go.Lib VerN VarM
open LexM (Wd Ln)

def wtx (x : Wd) : ByteArray := ⟨x.2.toArray⟩
def texts (ws : List Wd) (i : Nat) : List ByteArray := (ws.drop i).map wtx
def starT : ByteArray := ⟨#[42]⟩
def noT : ByteArray := ⟨#[]⟩
def atHead (s : ByteArray) : Bool := decide (s.data.toList.head? = some 64)
def tailB (s : ByteArray) : ByteArray := ⟨(s.data.toList.drop 1).toArray⟩
noncomputable def condW (ws : List Wd) (i : Nat) : Option Spc3 × Nat :=
 if peekB ws i = starT then (some (noT, allV, []), i + 1)
 else if atHead (peekB ws i) = true then
  (if setOk (tailB (peekB ws i)) = true then ((setsAt ws (i + 1) []).1.map fun l => (noT, rdV (tailB (peekB ws i)), l), (setsAt ws (i + 1) []).2) else (none, i))
 else if hasB 61 (peekB ws i) = true then ((setsAt ws i []).1.map fun l => (noT, allV, l), (setsAt ws i []).2)
 else (none, i)
theorem setsW_ge (ws : List Wd) : ∀ (f i : Nat) (out : List Setg), i ≤ (setsW ws f i out).2 ∧ (setsW ws f i out).2 ≤ max i ws.length
 | 0, i, out => ⟨Nat.le_refl _, Nat.le_max_left _ _⟩
 | f + 1, i, out => by
  by_cases h1 : hasB 61 (peekB ws i) = true
  ·have hl := has_lt h1
   by_cases h2 : wishIs (out ++ [setgB (peekB ws i)]) = true
   ·have e : setsW ws (f + 1) i out = setsW ws f (i + 1) (out ++ [setgB (peekB ws i)]) := by
     show (if _ then _ else _) = _
     rw [if_pos h1, if_pos h2]
    rw [e]
    have := setsW_ge ws f (i + 1) (out ++ [setgB (peekB ws i)])
    omega
   ·have e : setsW ws (f + 1) i out = (none, i) := by
     show (if _ then _ else _) = _
     rw [if_pos h1, if_neg h2]
    rw [e]
    exact ⟨Nat.le_refl _, Nat.le_max_left _ _⟩
  ·have e : setsW ws (f + 1) i out = (some out, i) := by
    show (if _ then _ else _) = _
    rw [if_neg h1]
   rw [e]
   exact ⟨Nat.le_refl _, Nat.le_max_left _ _⟩
theorem setsAt_ge (ws : List Wd) (i : Nat) (out : List Setg) : i ≤ (setsAt ws i out).2 ∧ (setsAt ws i out).2 ≤ max i ws.length := setsW_ge ws _ i out
theorem cut_parts (c : UInt8) (s : ByteArray) : (∃ k : Nat, indexByte s.data.toList c = k ∧ k < s.data.toList.length ∧ s.data.toList[k]? = some c ∧ hasB c s = true ∧ cutB c s = (⟨(s.data.toList.take k).toArray⟩, ⟨(s.data.toList.drop (k + 1)).toArray⟩, true)) ∨
  (hasB c s = false ∧ cutB c s = (s, ⟨#[]⟩, false)) := by
 obtain ⟨l, hl⟩ : ∃ l, l = s.data.toList := ⟨_, rfl⟩
 have hs : s = ⟨l.toArray⟩ := Txt.ext (by rw [hl])
 unfold hasB cutB cut
 rw [← hl, index_one]
 have hge := indexByte_ge l c
 by_cases h : 0 ≤ indexByte l c
 ·left
  obtain ⟨k, hk⟩ : ∃ k : Nat, indexByte l c = k := ⟨(indexByte l c).toNat, by omega⟩
  have h1 := (indexByte_some hk).1
  refine ⟨k, hk, (List.getElem?_eq_some_iff.1 h1).1, h1, decide_eq_true h, ?_⟩
  rw [if_pos h, hk]
  rfl
 ·right
  refine ⟨decide_eq_false h, ?_⟩
  rw [if_neg h, hs]
theorem cut_none {c : UInt8} {s : ByteArray} (h : (cutB c s).2.2 = false) : (cutB c s).1 = s := by
 rcases cut_parts c s with ⟨k, _, _, _, _, e⟩ | ⟨_, e⟩
 ·rw [e] at h
  cases h
 ·rw [e]
def setT (x : Setg) : ByteArray := x.1 ++ ⟨#[61]⟩ ++ x.2
open Classical in
noncomputable def spT (L : List BSp) : ByteArray := if h : ∃ l, tB l = L then spsText h.choose else ⟨#[]⟩
theorem tB_inj : ∀ {a b : List Tp}, tB a = tB b → a = b
 | [], [], _ => rfl
 | [], _ :: _, h => by simp [tB] at h
 | _ :: _, [], h => by simp [tB] at h
 | x :: a, y :: b, h => by
  have h1 : x.1 = y.1 ∧ tB a = tB b := by simpa [tB] using h
  rw [Subtype.ext h1.1, tB_inj h1.2]
theorem spT_tB (l : List Tp) : spT (tB l) = spsText l := by
 unfold spT
 have h : ∃ k, tB k = tB l := ⟨l, rfl⟩
 rw [dif_pos h, tB_inj h.choose_spec]
open Classical in
noncomputable def firstT (s : Spc3) : ByteArray := if s.2.1 = allV then s.1 else s.1 ++ (⟨#[64]⟩ ++ spT s.2.1)
open Classical in
noncomputable def specWs (s : Spc3) : List ByteArray :=
 if (if firstT s = noT then [] else [firstT s]) ++ s.2.2.map setT = [] then [starT] else (if firstT s = noT then [] else [firstT s]) ++ s.2.2.map setT
def Stop (r : List ByteArray) : Prop := ∀ x, r.head? = some x → hasB 61 x = false
theorem ne_app {a b : ByteArray} (h : a ≠ noT) : a ++ b ≠ noT := by
 intro e
 apply h
 have h1 := congrArg (fun x : ByteArray => x.data.toList) e
 simp only [Go.Joins.data_append] at h1
 exact Txt.ext (List.append_eq_nil_iff.1 h1).1
end Go.Proofs.YteailgjiifdgcaaGreatDoor

/- Plain: the text of a wish, or a condition, as the document writes it: its words with a blank between; its size. No condition. -/
namespace Go.Proofs.YteailgjiifdgcaaGreatDoor
open Go.Lib VerN VarM

def joinW (L : List ByteArray) : ByteArray := ⟨(Lib.join (L.map (·.data.toList)) [32]).toArray⟩
theorem joinW_data (L : List ByteArray) : (joinW L).data.toList = Lib.join (L.map (·.data.toList)) [32] := rfl
theorem joinW_nil : joinW [] = noT := rfl
theorem joinW_one (x : ByteArray) : joinW [x] = x := by
 apply Txt.ext
 rw [joinW_data, List.map_cons, List.map_nil, Lib.join_one]
theorem joinW_snoc {L : List ByteArray} (h : L ≠ []) (x : ByteArray) : joinW (L ++ [x]) = joinW L ++ ⟨#[32]⟩ ++ x := by
 apply Txt.ext
 rw [Go.Joins.data_append, Go.Joins.data_append, joinW_data, joinW_data]
 cases L with
 | nil => exact absurd rfl h
 | cons y r =>
  rw [List.cons_append, List.map_cons, List.map_cons, Lib.join_cons, Lib.join_cons]
  have : Lib.joinTail [32] ((r ++ [x]).map (·.data.toList)) = Lib.joinTail [32] (r.map (·.data.toList)) ++ (32 :: x.data.toList) := by simp [Lib.joinTail]
  rw [this]
  simp
def addSet (o : ByteArray) (x : Setg) : ByteArray := (if o = noT then o else o ++ ⟨#[32]⟩) ++ x.1 ++ ⟨#[61]⟩ ++ x.2
noncomputable def specT (s : Spc3) : ByteArray := if s.2.2.foldl addSet (firstT s) = noT then starT else s.2.2.foldl addSet (firstT s)
theorem setT_ne (x : Setg) : setT x ≠ noT := by
 intro e
 have h := congrArg (fun x : ByteArray => x.data.toList) e
 unfold setT at h
 simp only [Go.Joins.data_append] at h
 simp [noT] at h
theorem app_ne {a b : ByteArray} (h : b ≠ noT) : a ++ b ≠ noT := by
 intro e
 apply h
 have h1 := congrArg (fun x : ByteArray => x.data.toList) e
 simp only [Go.Joins.data_append] at h1
 exact Txt.ext (List.append_eq_nil_iff.1 h1).2
theorem noT_app (a : ByteArray) : noT ++ a = a := Txt.ext (by rw [Go.Joins.data_append]; rfl)
theorem addSet_join {L : List ByteArray} (h : L = [] ∨ joinW L ≠ noT) (x : Setg) : addSet (joinW L) x = joinW (L ++ [setT x]) ∧ joinW (L ++ [setT x]) ≠ noT := by
 unfold addSet
 rcases h with h | h
 ·subst h
  rw [joinW_nil, if_pos rfl, noT_app, List.nil_append, joinW_one]
  exact ⟨rfl, setT_ne x⟩
 ·have hL : L ≠ [] := by rintro rfl; exact h joinW_nil
  rw [if_neg h, joinW_snoc hL]
  exact ⟨by unfold setT; rw [← ByteArray.append_assoc, ← ByteArray.append_assoc], app_ne (setT_ne x)⟩
theorem foldl_join : ∀ (xs : List Setg) (L : List ByteArray), (L = [] ∨ joinW L ≠ noT) → xs.foldl addSet (joinW L) = joinW (L ++ xs.map setT) ∧ (L ++ xs.map setT = [] ∨ joinW (L ++ xs.map setT) ≠ noT)
 | [], L, h => by simpa using h
 | x :: xs, L, h => by
  obtain ⟨h1, h2⟩ := addSet_join h x
  have h3 := foldl_join xs (L ++ [setT x]) (.inr h2)
  rw [List.foldl_cons, h1, List.map_cons]
  simpa using h3
theorem specT_eq (s : Spc3) : specT s = joinW (specWs s) := by
 obtain ⟨L, hL, hf, h0⟩ : ∃ L, L = (if firstT s = noT then [] else [firstT s]) ∧ firstT s = joinW L ∧ (L = [] ∨ joinW L ≠ noT) := by
  refine ⟨_, rfl, ?_⟩
  by_cases h : firstT s = noT
  ·rw [if_pos h]; exact ⟨h, .inl rfl⟩
  ·rw [if_neg h, joinW_one]; exact ⟨rfl, .inr h⟩
 obtain ⟨h1, h2⟩ := foldl_join s.2.2 L h0
 unfold specT specWs
 rw [← hL, hf, h1]
 by_cases h : L ++ s.2.2.map setT = []
 ·rw [if_pos h, h, joinW_nil, if_pos rfl, joinW_one]
 ·rw [if_neg h, if_neg (h2.resolve_left h)]
end Go.Proofs.YteailgjiifdgcaaGreatDoor

/- Contracts of strings.Builder at this translation: WriteString, String. Condition: at most 2^47 bytes. -/
namespace Go.Proofs.YteailgjiifdgcaaGreatDoor
open Go.RowKit

def Bld (B b : Nat) (bs : List UInt8) (w : World) : Prop := Lib.IsBuilder 144 5 B b (Lib.byteCells bs) w
theorem bld_size : (Tryz.prog.info? 144).map (·.size) = some 2 := by kernel_rfl
theorem bld_lies : liesAt Tryz.prog Tryz.prog.depth 144 (2 / Tryz.prog.cellsOf 144) 0 144 1 = true := by kernel_rfl
theorem bld_byte : (Tryz.prog.info? 5).map (fun i => (i.zero, i.size, i.bytes)) = some (some (.int .u8 0), 1, 1) := by kernel_rfl
theorem bld_cells : Tryz.prog.cellsOf 5 = 1 := by kernel_rfl
theorem bld_new (w : World) : Bld w.heap.size w.heap.size [] (w.alloc (.cells #[.pointer none, .slice none 0 0] 144)) := Lib.fresh_isBuilder _ _ w

def Keep (w w' : World) : Prop := ∀ (k : Nat) (cs : Array Value) (t : TypeId) (fr : Nat × Nat), w.heap[k]? = some (.cells cs t fr) → t ≠ 144 → t ≠ 5 → w'.heap[k]? = some (.cells cs t fr)
theorem keep_refl (w : World) : Keep w w := fun _ _ _ _ h _ _ => h
theorem Keep.trans {a b c : World} (h : Keep a b) (k : Keep b c) : Keep a c := fun i cs t fr h1 h2 h3 => k i cs t fr (h i cs t fr h1 h2 h3) h2 h3
theorem keep_below {w w' : World} (h : Below w.heap.size w w') : Keep w w' := fun k _ _ _ h1 _ _ => (h.block k (Array.getElem?_eq_some_iff.1 h1).1).trans h1
theorem keep_set {w : World} {b : Nat} {cs : Array Value} {fr : Nat × Nat} (hb : w.heap[b]? = some (.cells cs 144 fr)) (i : Nat) (u : Value) : Keep w (w.setCell ⟨b, i, none⟩ u) := by
 intro k cs' t fr' h h1 _
 have hne : k ≠ b := by
  intro e
  subst e
  rw [hb] at h
  simp at h
  exact h1 h.2.1.symm
 rw [Below.heap_setCell _ _ _ _ hne]
 exact h
theorem keep_grown {w w' : World} {B : Nat} {v : Value} {n : Nat} {xs : List Value} (hg : w.grownBy w' v.ownBlock) (hown : w.ownsRow B 5 1 v n xs) : Keep w w' := by
 intro k cs t fr h _ h2
 refine (hg.block k (Array.getElem?_eq_some_iff.1 h).1 (fun e => ?_)).trans h
 rcases hown.2 with ⟨hv, _⟩ | ⟨g, cap, cur, hv, _, hgg, _⟩
 ·rw [hv] at e; simp [Value.ownBlock] at e
 ·rw [hv] at e
  simp [Value.ownBlock] at e
  subst e
  rw [hgg] at h
  simp at h
  exact h2 h.2.1.symm

set_option maxRecDepth 10000 in
set_option maxHeartbeats 1000000 in
theorem bld_check {B b : Nat} {bs : List Value} {w : World} (h : Lib.IsBuilder 144 5 B b bs w) :
  Calls Tryz.prog 160 #[.pointer (some ⟨b, 0, none⟩)] w fun e w' => e = .returned (.tuple #[]) ∧ Lib.BuilderAt 144 5 B b (.pointer (some ⟨b, 0, none⟩)) bs w' ∧ Below B w w' ∧ Keep w w' := by
 obtain ⟨j, hj, hjs⟩ := Option.map_eq_some_iff.1 bld_size
 rcases h with h | h
 ·have h0 := h.cell0
  have hsh := h.shape
  have hfz := h.frozen0
  have H := Lib.hid h; have HJ := Lib.hid hj; have HS := Lib.hid hjs; have HSH := Lib.hid hsh
  clear h hj hjs hsh
  go_enter Tryz.func160, Tryz.ntmps160
  go_wp2_with fail
  rw [Lib.run_to_unsafe w ⟨b, 0, none⟩ Tryz.underlying141 Tryz.underlying232 HJ.out (by rw [HS.out]; decide) HSH.out (Nat.zero_lt_succ 1)]
  simp only [Result.andThen]
  rw [Oper.upon_value]
  go_wp2_with fail
  rw [run_callFunc_extern Tryz.func191 (by kernel_rfl) (by kernel_rfl) (by kernel_rfl) (e := Extern.AbiNoEscape.same) (by kernel_rfl)]
  rw [Lib.run_noEscape]
  simp only [Result.andThen]
  rw [Oper.upon_value]
  go_wp2_with fail
  rw [Lib.run_from_unsafe w ⟨b, 0, none⟩ Tryz.underlying232 Tryz.underlying141 HJ.out HSH.out bld_lies]
  simp only [Result.andThen]
  rw [Oper.upon_value]
  go_wp2_with fail
  go_end0
  exact ⟨rfl, H.out.used _, (Below.refl B w).setCell (p := ⟨b, 0, none⟩) H.out.1 _, by obtain ⟨_, v, hbk, _⟩ := H.out; exact keep_set hbk 0 _⟩
 ·have h0 := h.cell0
  have H := Lib.hid h; have HJ := Lib.hid hj
  clear h hj hjs
  go_enter Tryz.func160, Tryz.ntmps160
  go_wp2_with fail
  rw [Lib.run_neq_ptr_same w _ Tryz.underlying141 HJ.out]
  go_wp2_with fail
  go_end0
  exact ⟨rfl, H.out, Below.refl B _, keep_refl _⟩

set_option maxRecDepth 10000 in
set_option maxHeartbeats 2000000 in
theorem bld_string {B b : Nat} {bs : List UInt8} {w : World} (h : Bld B b bs w) (s : ByteArray) (hlen : bs.length + s.size ≤ 1000000000) (hBw : B ≤ w.heap.size) :
  Calls Tryz.prog 94 #[.pointer (some ⟨b, 0, none⟩), .string s] w fun e w' => e = .returned (.tuple #[.int .i64 s.size, .nilIface]) ∧ Bld B b (bs ++ s.data.toList) w' ∧ Below B w w' ∧ Keep w w' := by
 obtain ⟨i0, hi, hz0, hz1, hz2⟩ := info_parts bld_byte
 have hl : (Lib.byteCells bs).length = bs.length := Lib.byteCells_length bs
 have HC := Lib.hid (fun w => bld_check (w := w) (B := B) (b := b) (bs := Lib.byteCells bs))
 have hcat : Lib.byteCells bs ++ Lib.strCells s = Lib.byteCells (bs ++ s.data.toList) := by simp [Lib.byteCells, Lib.strCells]
 obtain ⟨L, hL⟩ : ∃ L, L = Lib.byteCells bs := ⟨_, rfl⟩
 unfold Bld at h
 rw [← hL] at h hl HC hcat
 have hLl : L.length + s.size ≤ 1000000000 := by omega
 obtain ⟨Hi, Hz0, Hz1, Hz2, Hh, HL, Hl, Hcat⟩ := hd8 hi hz0 hz1 hz2 h hL hl hcat; clear hi hz0 hz1 hz2 h hL hl hcat
 go_enter Tryz.func94, Tryz.ntmps94
 go_wp2_with fail
 refine (HC.out _ Hh.out).mono ?_
 rintro e w1 ⟨rfl, ⟨hB, v, hbk, hown, hne⟩, hb1, hkp⟩
 have c0 : w1.cell? ⟨b, 0, none⟩ = some (.pointer (some ⟨b, 0, none⟩)) := by rw [Lib.cell_of_heap hbk]; rfl
 have c1 : w1.cell? ⟨b, 1, none⟩ = some v := by rw [Lib.cell_of_heap hbk]; rfl
 have hB1 : B ≤ w1.heap.size := by have := hb1.size; omega
 obtain ⟨Hbk, Hown, Hne, Hb1, Hkp⟩ := hd5 hbk hown hne hb1 hkp; clear hbk hown hne hb1 hkp
 go_wp2_with (at_builtin; refine Lib.wpList_append_own_string _ rfl _ _ 142 9 rfl B 5 i0 Tryz.underlying142 Tryz.underlying9 Hi.out Hz0.out Hz1.out Hz2.out _ _ _ rfl Hown.out s rfl ?c3 ?c4 ?c5 ?_)
 case c3 => unfold maxLen; omega
 case c4 => omega
 case c5 => omega
 intro v' w2 hown' hgrow _
 have hlt : b < w1.heap.size := (Array.getElem?_eq_some_iff.1 Hbk.out).1
 have hb2 : w2.heap[b]? = some (.cells #[.pointer (some ⟨b, 0, none⟩), v] 144 (0, 0)) := by
  rw [hgrow.block b hlt (fun e => Hne.out e.symm)]
  exact Hbk.out
 have d1 : w2.cell? ⟨b, 1, none⟩ = some v := by rw [Lib.cell_of_heap hb2]; rfl
 have f1 : w2.frozen? ⟨b, 1, none⟩ = false := Lib.frozen_of_heap hb2 1
 obtain ⟨ao, n', cap, rfl⟩ : ∃ ao n' cap, v' = .slice ao n' cap := by
  rcases hown'.2 with ⟨hv, _⟩ | ⟨g, cap, cur, hv, _⟩
  ·exact ⟨_, _, _, hv⟩
  ·exact ⟨_, _, _, hv⟩
 obtain ⟨Hb2, Hown', Hgrow⟩ := hd3 hb2 hown' hgrow; clear hb2 hown' hgrow
 go_wp2_with fail
 go_ret2
 refine ⟨rfl, ?_, ?_, ?_⟩
 ·unfold Bld
  rw [← Hcat.out]
  exact .inr (Lib.BuilderAt.put (T := 144) (e := 5) hB Hb2.out (bs' := L ++ Lib.strCells s) (by simpa [Lib.strCells_length] using Hown'.out) (by decide))
 ·exact (Hb1.out.grown Hgrow.out hB1 (fun k hk => (Hown.out.lt k hk).1)).setCell (p := ⟨b, 1, none⟩) hB _
 ·exact (Hkp.out.trans (keep_grown Hgrow.out Hown.out)).trans (keep_set Hb2.out 1 _)

set_option maxRecDepth 10000 in
set_option maxHeartbeats 2000000 in
theorem bld_done {B b : Nat} {l : List UInt8} {w : World} (h : Bld B b l w) (h0 : l ≠ []) :
  Calls Tryz.prog 95 #[.pointer (some ⟨b, 0, none⟩)] w fun e w' => e = .returned (.string ⟨l.toArray⟩) ∧ Below B w w' := by
 obtain ⟨p, hB, v, hbk, hown, hne⟩ : ∃ p, Lib.BuilderAt 144 5 B b p (Lib.byteCells l) w := by
  rcases h with h | h
  ·exact ⟨_, h⟩
  ·exact ⟨_, h⟩
 have hl0 : l.length ≠ 0 := by simpa using h0
 rw [Lib.byteCells_length] at hown
 obtain ⟨g, cap, cur, rfl, hbg, hg, hnc, hcm, hcs, htake⟩ : ∃ g cap cur, v = .slice (some ⟨g, 0, none⟩) l.length cap ∧ B ≤ g ∧ w.heap[g]? = some (.cells cur 5 (0, 0)) ∧ l.length ≤ cap ∧ cap ≤ maxLen ∧ cur.size = cap * 1 ∧ cur.toList.take (l.length * 1) = Lib.byteCells l := by
  rcases hown.2 with ⟨_, hz⟩ | ⟨g, cap, cur, hv, r⟩
  ·exact absurd hz hl0
  ·exact ⟨g, cap, cur, hv, r⟩
 have c1 : w.drew.cell? ⟨b, 1, none⟩ = some (.slice (some ⟨g, 0, none⟩) l.length cap) := by
  have : w.drew.heap[b]? = some (.cells #[p, .slice (some ⟨g, 0, none⟩) l.length cap] 144 (0, 0)) := hbk
  rw [Lib.cell_of_heap this]; rfl
 have hSD : (Builtin.unsafeSliceData_ #[142] 213 #[.slice (some ⟨g, 0, none⟩) l.length cap]).run Tryz.prog w.drew = .ok (.pointer (some ⟨g, 0, none⟩)) w.drew :=
  Lib.run_unsafeSliceData_row _ _ _ _ _ _ (by omega)
 have hUS : (Builtin.unsafeString_ #[213, 3] 9 #[.pointer (some ⟨g, 0, none⟩), .int .i64 l.length]).run Tryz.prog w.drew = .ok (.string ⟨l.toArray⟩) (w.drew.freeze ⟨g, 0, none⟩ l.length) := by
  refine Lib.run_unsafeString_row w.drew 213 3 9 5 Tryz.underlying213 bld_cells g cur.size (by have hg' : w.drew.heap[g]? = some (.cells cur 5 (0, 0)) := hg; simp [World.shape?, hg']) l h0 (by omega) (by unfold maxLen at hcm; omega) ?_
  intro j x hx
  have := hown.cells (g := g) rfl j (.int .u8 x.toNat) (by simp [Lib.byteCells, hx])
  exact this
 have hlm : l.length ≤ 9223372036854775807 := by unfold maxLen at hcm; omega
 obtain ⟨Hbk, Hown, Hne, Hg, Hcs, Htake, Hh⟩ := hd7 hbk hown hne hg hcs htake h; clear hbk hown hne hg hcs htake h
 go_enter Tryz.func95, Tryz.ntmps95
 go_wp2_with fail
 go_region
 all_goals
  go_wp2_with fail
  go_ret
  exact ⟨rfl, Lib.below_freeze (Below.drew (Below.refl B w)) (p := ⟨g, 0, none⟩) hbg _⟩
theorem bld_at_below {T e : TypeId} {B b : Nat} {p : Value} {bs : List Value} {w w' : World} (h : Lib.BuilderAt T e B b p bs w) (hb : Below w.heap.size w w') : Lib.BuilderAt T e B b p bs w' := by
 obtain ⟨hB, v, hbk, hown, hne⟩ := h
 exact ⟨hB, v, (hb.block b (Array.getElem?_eq_some_iff.1 hbk).1).trans hbk, ownsRow_below hown hb, hne⟩
theorem bld_below {B b : Nat} {bs : List UInt8} {w w' : World} (h : Bld B b bs w) (hb : Below w.heap.size w w') : Bld B b bs w' := by
 rcases h with h | h
 ·exact .inl (bld_at_below h hb)
 ·exact .inr (bld_at_below h hb)
set_option maxRecDepth 10000 in
set_option maxHeartbeats 2000000 in
theorem bld_empty (w : World) {b : Nat} (hbk : w.heap[b]? = some (.cells #[.pointer none, .slice none 0 0] 144 (0, 0))) :
  Calls Tryz.prog 95 #[.pointer (some ⟨b, 0, none⟩)] w fun e w' => e = .returned (.string ⟨#[]⟩) ∧ Below w.heap.size w w' := by
 have c1 : w.drew.cell? ⟨b, 1, none⟩ = some (.slice none 0 0) := by
  have : w.drew.heap[b]? = some (.cells #[.pointer none, .slice none 0 0] 144 (0, 0)) := hbk
  rw [Lib.cell_of_heap this]; rfl
 have hUS : (Builtin.unsafeString_ #[213, 3] 9 #[.pointer none, .int .i64 0]).run Tryz.prog w.drew = .ok (.string .empty) w.drew := Lib.run_unsafeString_none w.drew _ _ _ none
 have hSD : (Builtin.unsafeSliceData_ #[142] 213 #[.slice none 0 0]).run Tryz.prog w.drew = .ok (.pointer none) w.drew := rfl
 have Hbk := hd hbk; clear hbk
 go_enter Tryz.func95, Tryz.ntmps95
 go_wp2_with fail
 go_region
 all_goals
  go_wp2_with fail
  go_ret
  exact ⟨rfl, Below.drew (Below.refl _ w)⟩

end Go.Proofs.YteailgjiifdgcaaGreatDoor

/- Contract of strings.Builder at this translation: WriteByte. Condition: at most 2^47 bytes. -/
namespace Go.Proofs.YteailgjiifdgcaaGreatDoor
open Go.RowKit

set_option maxRecDepth 10000 in
set_option maxHeartbeats 2000000 in
theorem bld_write {B b : Nat} {bs : List UInt8} {w : World} (h : Bld B b bs w) (c : UInt8) (hlen : bs.length + 1 ≤ 1000000000) (hBw : B ≤ w.heap.size) :
  Calls Tryz.prog 179 #[.pointer (some ⟨b, 0, none⟩), .int .u8 c.toNat] w fun e w' => e = .returned .nilIface ∧ Bld B b (bs ++ [c]) w' ∧ Below B w w' ∧ Keep w w' := by
 obtain ⟨i0, hi, hz0, hz1, hz2⟩ := info_parts bld_byte
 have hl : (Lib.byteCells bs).length = bs.length := Lib.byteCells_length bs
 have HC := Lib.hid (fun w => bld_check (w := w) (B := B) (b := b) (bs := Lib.byteCells bs))
 have hcat : Lib.byteCells bs ++ [.int .u8 c.toNat] = Lib.byteCells (bs ++ [c]) := by simp [Lib.byteCells]
 obtain ⟨n, hn⟩ : ∃ n, n = c.toNat := ⟨_, rfl⟩
 rw [← hn] at hcat ⊢
 have hn2 : n < 256 := by rw [hn]; exact c.toNat_lt
 obtain ⟨L, hL⟩ : ∃ L, L = Lib.byteCells bs := ⟨_, rfl⟩
 unfold Bld at h
 rw [← hL] at h hl HC hcat
 have hLl : L.length ≤ 1000000000 := by omega
 obtain ⟨Hi, Hz0, Hz1, Hz2, Hh, HL, Hn, Hl, Hcat⟩ := hd9 hi hz0 hz1 hz2 h hL hn hl hcat; clear hi hz0 hz1 hz2 h hL hn hl hcat
 go_enter Tryz.func179, Tryz.ntmps179
 go_wp2_with fail
 refine (HC.out _ Hh.out).mono ?_
 rintro e w1 ⟨rfl, ⟨hB, v, hbk, hown, hne⟩, hb1, hkp⟩
 have c0 : w1.cell? ⟨b, 0, none⟩ = some (.pointer (some ⟨b, 0, none⟩)) := by rw [Lib.cell_of_heap hbk]; rfl
 have c1 : w1.cell? ⟨b, 1, none⟩ = some v := by rw [Lib.cell_of_heap hbk]; rfl
 have hB1 : B ≤ w1.heap.size := by have := hb1.size; omega
 obtain ⟨Hbk, Hown, Hne, Hb1, Hkp⟩ := hd5 hbk hown hne hb1 hkp; clear hbk hown hne hb1 hkp
 go_wp2_with (at_builtin; refine wpList_append_own _ rfl _ _ 142 rfl B 5 i0 (.int .u8 0) 1 1 Tryz.underlying142 Hi.out Hz0.out Hz1.out Hz2.out rfl (by decide) _ _ _ rfl (Hown.out.alloc _) ⟨w1.heap.size, 0, none⟩ 1 1 [.int .u8 n] rfl rfl ?c1 ?c2 ?c3 ?c4 ?c5 ?_)
 case c1 =>
  intro j u hj
  match j, hj with
  | 0, hj => simp at hj; subst hj; simp [Addr.add]
 case c2 => intro u hu; simp at hu; subst hu; rfl
 case c3 => unfold maxLen; omega
 case c4 => omega
 case c5 => simp; omega
 intro v' w2 hown' hgrow _
 have hlt : b < w1.heap.size := (Array.getElem?_eq_some_iff.1 Hbk.out).1
 have hb2 : w2.heap[b]? = some (.cells #[.pointer (some ⟨b, 0, none⟩), v] 144 (0, 0)) := by
  rw [hgrow.block b (by simp; omega) (fun e => Hne.out e.symm), Lib.alloc_old w1 _ b hlt]
  exact Hbk.out
 have d1 : w2.cell? ⟨b, 1, none⟩ = some v := by rw [Lib.cell_of_heap hb2]; rfl
 have f1 : w2.frozen? ⟨b, 1, none⟩ = false := Lib.frozen_of_heap hb2 1
 obtain ⟨g, cap, rfl⟩ : ∃ g cap, v' = .slice (some ⟨g, 0, none⟩) (L.length + 1) cap := by
  rcases hown'.2 with ⟨_, h0⟩ | ⟨g, cap, cur, hv, _⟩
  ·omega
  ·exact ⟨g, cap, hv⟩
 obtain ⟨Hb2, Hown', Hgrow⟩ := hd3 hb2 hown' hgrow; clear hb2 hown' hgrow
 go_wp2_with fail
 go_ret
 refine ⟨rfl, ?_, ?_, ?_⟩
 ·unfold Bld
  rw [← Hcat.out]
  exact .inr (Lib.BuilderAt.put (T := 144) (e := 5) hB Hb2.out (bs' := L ++ [.int .u8 n]) (by simpa using Hown'.out) (by decide))
 ·exact ((Hb1.out.alloc hB1 _).grown Hgrow.out (by simp; omega) (fun k hk => (Hown.out.lt k hk).1)).setCell (p := ⟨b, 1, none⟩) hB _
 ·exact ((Hkp.out.trans (keep_below ((Below.refl _ _).alloc (Nat.le_refl _) _))).trans (keep_grown Hgrow.out (Hown.out.alloc _))).trans (keep_set Hb2.out 1 _)

end Go.Proofs.YteailgjiifdgcaaGreatDoor

/- Words and lines as values in memory, and a lexer's state there. No condition. -/
namespace Go.Proofs.YteailgjiifdgcaaGreatDoor
open Go.RowKit
open LexM (Bs Wd Ln St)

abbrev bv (s : Bs) : Value := .string ⟨s.toArray⟩
def wdCells (x : Wd) : List Value := [.int .i64 x.1, bv x.2]
def byVals (s : Bs) : List Value := s.map fun c => .int .u8 c.toNat
def lnCells (out : List Ln) (rv : List Value) : List Value := (out.zip rv).flatMap fun x => [.int .i64 x.1.1, x.2]
theorem elem_byte : Elem Tryz.prog 142 5 (.int .u8 0) 1 1 := ⟨Tryz.underlying142, by kernel_rfl, rfl, by decide⟩
theorem elem_word : Elem Tryz.prog 60 64 (.agg #[.int .i64 0, .string ⟨#[]⟩]) 2 24 := ⟨Tryz.underlying60, by kernel_rfl, rfl, by decide⟩
theorem elem_line : Elem Tryz.prog 56 62 (.agg #[.int .i64 0, .slice none 0 0]) 2 32 := ⟨Tryz.underlying56, by kernel_rfl, rfl, by decide⟩

def lexCells (s : St) (wv sv ov : Value) : Array Value := #[.int .i64 s.line, .int .i64 s.col, .int .i64 s.frm, .bool s.off, wv, sv, ov]
structure LexSt (w0 : World) (x : Nat) (s : St) (wv sv ov : Value) (rv : List Value) (w : World) : Prop where
 cells : w.heap[x]? = some (.cells (lexCells s wv sv ov) 182 (0, 0))
 word : w.ownsRow w0.heap.size 5 1 wv s.word.length (byVals s.word)
 words : w.ownsRow w0.heap.size 64 2 sv s.words.length (s.words.flatMap wdCells)
 out : w.ownsRow w0.heap.size 62 2 ov s.out.length (lnCells s.out rv)
 rlen : rv.length = s.out.length
 rows : ∀ (i : Nat) (ln : Ln) (v : Value), s.out[i]? = some ln → rv[i]? = some v → w.ownsRow w0.heap.size 64 2 v ln.2.length (ln.2.flatMap wdCells) ∧ ∀ k, v.ownBlock = some k → sv.ownBlock ≠ some k
 bel : Below w0.heap.size w0 w
 xB : w0.heap.size ≤ x

theorem LexSt.xs {w0 w : World} {x : Nat} {s : St} {wv sv ov : Value} {rv : List Value} (h : LexSt w0 x s wv sv ov rv w) : x < w.heap.size := (Array.getElem?_eq_some_iff.1 h.cells).1

theorem LexSt.to {w0 w w' : World} {x : Nat} {s s' : St} {wv sv ov wv' sv' : Value} {rv : List Value} (h : LexSt w0 x s wv sv ov rv w) (hf : Frm (fun k => k = x) w w')
  (hc : w'.heap[x]? = some (.cells (lexCells s' wv' sv' ov) 182 (0, 0)))
  (h1 : (wv' = wv ∧ s'.word = s.word) ∨ (wv' = .slice none 0 0 ∧ s'.word = [])) (h2 : (sv' = sv ∧ s'.words = s.words) ∨ (sv' = .slice none 0 0 ∧ s'.words = [])) (h3 : s'.out = s.out) : LexSt w0 x s' wv' sv' ov rv w' := by
 have hxw := apart_block h.word h.cells (by decide)
 have hxs := apart_block h.words h.cells (by decide)
 have hxo := apart_block h.out h.cells (by decide)
 refine ⟨hc, ?_, ?_, ?_, by rw [h3]; exact h.rlen, ?_, h.bel.trans (hf.below h.bel.size (fun k hk => by rw [hk]; exact h.xB)), h.xB⟩
 ·rcases h1 with ⟨rfl, e⟩ | ⟨rfl, e⟩
  ·rw [e]; exact hf.owns h.word (fun k hk e => hxw (by rw [hk, e]))
  ·rw [e]; exact World.ownsRow_nil _ _ _ _
 ·rcases h2 with ⟨rfl, e⟩ | ⟨rfl, e⟩
  ·rw [e]; exact hf.owns h.words (fun k hk e => hxs (by rw [hk, e]))
  ·rw [e]; exact World.ownsRow_nil _ _ _ _
 ·rw [h3]; exact hf.owns h.out (fun k hk e => hxo (by rw [hk, e]))
 ·intro i ln v hi hv
  rw [h3] at hi
  obtain ⟨r1, r2⟩ := h.rows i ln v hi hv
  have hxv := apart_block r1 h.cells (by decide)
  refine ⟨hf.owns r1 (fun k hk e => hxv (by rw [hk, e])), fun k hk => ?_⟩
  rcases h2 with ⟨rfl, e⟩ | ⟨rfl, e⟩
  ·exact r2 k hk
  ·simp [Value.ownBlock]
theorem LexSt.keep {w0 w w' : World} {x : Nat} {s : St} {wv sv ov : Value} {rv : List Value} (h : LexSt w0 x s wv sv ov rv w) (hf : Frm (fun _ => False) w w') : LexSt w0 x s wv sv ov rv w' :=
 h.to (hf.mono (fun _ _ h => h.elim)) (heap_to h.cells hf (fun h => h)) (.inl ⟨rfl, rfl⟩) (.inl ⟨rfl, rfl⟩) rfl

theorem LexSt.pushByte {w0 w w3 : World} {x : Nat} {s : St} {wv sv ov : Value} {rv : List Value} (h : LexSt w0 x s wv sv ov rv w) (c : UInt8) {wv' : Value}
  (hown : w3.ownsRow w0.heap.size 5 1 wv' (s.word.length + 1) (byVals s.word ++ [.int .u8 c.toNat])) (hg : w.grownBy w3 wv.ownBlock) :
  LexSt w0 x { s with word := s.word ++ [c] } wv' sv ov rv (w3.setCell ⟨x, 4, none⟩ wv') := by
 have hxw := apart_block h.word h.cells (by decide)
 have f1 : Frm (fun k => wv.ownBlock = some k) w w3 := (Frm.refl _ w).grown hg (fun k hk => .inr hk)
 have hc3 := heap_to h.cells f1 hxw
 have f2 : Frm (fun k => k = x) w3 (w3.setCell ⟨x, 4, none⟩ wv') := Frm.setCell (S := fun k => k = x) (Frm.refl _ _) (p := ⟨x, 4, none⟩) (.inr rfl) _
 have hx3 := apart_block hown hc3 (by decide)
 refine ⟨?_, ?_, ?_, ?_, h.rlen, ?_, ?_, h.xB⟩
 ·rw [heap_setCell_same w3 x 4 _ _ wv' hc3]; rfl
 ·simp only [List.length_append, List.length_singleton, byVals, List.map_append]
  exact f2.owns hown (fun k hk e => hx3 (by rw [hk, e]))
 ·have := f1.owns h.words (fun k hk e => apart_type h.words h.word (by decide) k hk e)
  have hxs := apart_block this hc3 (by decide)
  exact f2.owns this (fun k hk e => hxs (by rw [hk, e]))
 ·have := f1.owns h.out (fun k hk e => apart_type h.out h.word (by decide) k hk e)
  have hxs := apart_block this hc3 (by decide)
  exact f2.owns this (fun k hk e => hxs (by rw [hk, e]))
 ·intro i ln v hi hv
  obtain ⟨r1, r2⟩ := h.rows i ln v hi hv
  have := f1.owns r1 (fun k hk e => apart_type r1 h.word (by decide) k hk e)
  have hxs := apart_block this hc3 (by decide)
  exact ⟨f2.owns this (fun k hk e => hxs (by rw [hk, e])), r2⟩
 ·have b1 : Below w0.heap.size w w3 := f1.below h.bel.size (fun k hk => (h.word.lt k hk).1)
  exact (h.bel.trans b1).trans (f2.below (by have := h.bel.size; have := f1.size; omega) (fun k hk => by rw [hk]; exact h.xB))

theorem LexSt.pushWord {w0 w w3 : World} {x : Nat} {s : St} {wv sv ov : Value} {rv : List Value} (h : LexSt w0 x s wv sv ov rv w) (a : Wd) {sv' : Value}
  (hown : w3.ownsRow w0.heap.size 64 2 sv' (s.words.length + 1) (s.words.flatMap wdCells ++ wdCells a)) (hg : w.grownBy w3 sv.ownBlock) (hm : Moved w sv sv') :
  LexSt w0 x { s with words := s.words ++ [a] } wv sv' ov rv (w3.setCell ⟨x, 5, none⟩ sv') := by
 have hxw := apart_block h.words h.cells (by decide)
 have f1 : Frm (fun k => sv.ownBlock = some k) w w3 := (Frm.refl _ w).grown hg (fun k hk => .inr hk)
 have hc3 := heap_to h.cells f1 hxw
 have f2 : Frm (fun k => k = x) w3 (w3.setCell ⟨x, 5, none⟩ sv') := Frm.setCell (S := fun k => k = x) (Frm.refl _ _) (p := ⟨x, 5, none⟩) (.inr rfl) _
 have hx3 := apart_block hown hc3 (by decide)
 refine ⟨?_, ?_, ?_, ?_, h.rlen, ?_, ?_, h.xB⟩
 ·rw [heap_setCell_same w3 x 5 _ _ sv' hc3]; rfl
 ·have := f1.owns h.word (fun k hk e => apart_type h.word h.words (by decide) k hk e)
  have hxs := apart_block this hc3 (by decide)
  exact f2.owns this (fun k hk e => hxs (by rw [hk, e]))
 ·simp only [List.length_append, List.length_singleton, List.flatMap_append, List.flatMap_cons, List.flatMap_nil, List.append_nil]
  exact f2.owns hown (fun k hk e => hx3 (by rw [hk, e]))
 ·have := f1.owns h.out (fun k hk e => apart_type h.out h.words (by decide) k hk e)
  have hxs := apart_block this hc3 (by decide)
  exact f2.owns this (fun k hk e => hxs (by rw [hk, e]))
 ·intro i ln v hi hv
  obtain ⟨r1, r2⟩ := h.rows i ln v hi hv
  have := f1.owns r1 (fun k hk e => r2 k hk e)
  have hxs := apart_block this hc3 (by decide)
  refine ⟨f2.owns this (fun k hk e => hxs (by rw [hk, e])), fun k hk e => ?_⟩
  rcases hm k e with e | e
  ·exact r2 k hk e
  ·have := (r1.lt k hk).2; omega
 ·have b1 : Below w0.heap.size w w3 := f1.below h.bel.size (fun k hk => (h.words.lt k hk).1)
  exact (h.bel.trans b1).trans (f2.below (by have := h.bel.size; have := f1.size; omega) (fun k hk => by rw [hk]; exact h.xB))

theorem lnCells_snoc {out : List Ln} {rv : List Value} (h : rv.length = out.length) (ln : Ln) (v : Value) : lnCells (out ++ [ln]) (rv ++ [v]) = lnCells out rv ++ [.int .i64 ln.1, v] := by
 unfold lnCells
 rw [List.zip_append h.symm]
 simp
theorem LexSt.pushLine {w0 w w3 w' : World} {x : Nat} {s s' : St} {wv sv ov : Value} {rv : List Value} (h : LexSt w0 x s wv sv ov rv w) {ov' : Value}
  (hown : w3.ownsRow w0.heap.size 62 2 ov' (s.out.length + 1) (lnCells s.out rv ++ [.int .i64 s.line, sv])) (hg : w.grownBy w3 ov.ownBlock) (hf : Frm (fun k => k = x) w3 w')
  (hc : w'.heap[x]? = some (.cells (lexCells s' wv (.slice none 0 0) ov') 182 (0, 0))) (h1 : s'.word = s.word) (h2 : s'.words = []) (h3 : s'.out = s.out ++ [(s.line, s.words)]) :
  LexSt w0 x s' wv (.slice none 0 0) ov' (rv ++ [sv]) w' := by
 have hxw := apart_block h.out h.cells (by decide)
 have f1 : Frm (fun k => ov.ownBlock = some k) w w3 := (Frm.refl _ w).grown hg (fun k hk => .inr hk)
 have hc3 := heap_to h.cells f1 hxw
 have hx3 := apart_block hown hc3 (by decide)
 refine ⟨hc, ?_, ?_, ?_, by rw [h3]; simp [h.rlen], ?_, ?_, h.xB⟩
 ·rw [h1]
  have := f1.owns h.word (fun k hk e => apart_type h.word h.out (by decide) k hk e)
  have hxs := apart_block this hc3 (by decide)
  exact hf.owns this (fun k hk e => hxs (by rw [hk, e]))
 ·rw [h2]; exact World.ownsRow_nil _ _ _ _
 ·rw [h3, lnCells_snoc h.rlen, List.length_append]
  exact hf.owns hown (fun k hk e => hx3 (by rw [hk, e]))
 ·intro i ln v hi hv
  refine ⟨?_, by simp [Value.ownBlock]⟩
  rw [h3] at hi
  by_cases hlt : i < s.out.length
  ·rw [List.getElem?_append_left hlt] at hi
   rw [List.getElem?_append_left (by rw [h.rlen]; exact hlt)] at hv
   obtain ⟨r1, r2⟩ := h.rows i ln v hi hv
   have := f1.owns r1 (fun k hk e => apart_type r1 h.out (by decide) k hk e)
   have hxs := apart_block this hc3 (by decide)
   exact hf.owns this (fun k hk e => hxs (by rw [hk, e]))
  ·have hil := (List.getElem?_eq_some_iff.1 hi).1
   simp at hil
   obtain rfl : i = s.out.length := by omega
   have hh := h.rlen
   rw [List.getElem?_append_right (Nat.le_refl _)] at hi
   rw [← hh, List.getElem?_append_right (Nat.le_refl _)] at hv
   simp at hi hv
   subst hi; subst hv
   have := f1.owns h.words (fun k hk e => apart_type h.words h.out (by decide) k hk e)
   have hxs := apart_block this hc3 (by decide)
   exact hf.owns this (fun k hk e => hxs (by rw [hk, e]))
 ·have b1 : Below w0.heap.size w w3 := f1.below h.bel.size (fun k hk => (h.out.lt k hk).1)
  exact (h.bel.trans b1).trans (hf.below (by have := h.bel.size; have := f1.size; omega) (fun k hk => by rw [hk]; exact h.xB))

structure Small (s : St) (m : Nat) : Prop where
 col : 0 ≤ s.col ∧ s.col ≤ m
 line : 0 ≤ s.line ∧ s.line ≤ m + 1
 frm : 0 ≤ s.frm ∧ s.frm ≤ m
 word : s.word.length ≤ m
 words : s.words.length ≤ m
 out : s.out.length ≤ m
 begun : 0 < s.frm → s.word ≠ []

/-! what is read -/
def RWd : Rd Wd := fun _ cs x => cs = wdCells x ∧ (Lit.int .i64 x.1).wf = true ∧ x.2.length ≤ maxLen
def RLn : Rd Ln := fun w cs x => ∃ v, cs = [.int .i64 x.1, v] ∧ RSlice 2 RWd w [v] x.2 ∧ (Lit.int .i64 x.1).wf = true
abbrev RLns : Rd (List Ln) := RSlice 2 RLn
theorem stays_wd : Stays RWd := fun _ _ _ _ h _ => h
theorem stays_ln : Stays RLn := fun _ _ _ _ ⟨v, h1, h2, h3⟩ hb => ⟨v, h1, stays_slice stays_wd _ _ _ _ h2 hb, h3⟩
theorem stays_lns : Stays RLns := stays_slice stays_ln
theorem rslice_of_owns {α : Type} {w : World} {B : Nat} {e : TypeId} {sz : Nat} {v : Value} {l : List α} (f : α → List Value) (R : Rd α) (hsz : ∀ x ∈ l, (f x).length = sz) (hR : ∀ x ∈ l, R w (f x) x) (h : w.ownsRow B e sz v l.length (l.flatMap f)) : RSlice sz R w [v] l := by
 have hget : ∀ (i : Nat) x, l[i]? = some x → ∀ j u, (f x)[j]? = some u → (l.flatMap f)[i * sz + j]? = some u := by
  clear h hR
  induction l with
  | nil => intro i x hi; simp at hi
  | cons a l ih =>
   intro i x hi j u hu
   rw [List.flatMap_cons]
   have ha := hsz a (by simp)
   have hj : j < sz := by
    have hx := hsz x (List.mem_of_getElem? hi)
    have := (List.getElem?_eq_some_iff.1 hu).1
    omega
   match i, hi with
   | 0, hi =>
    simp at hi
    subst hi
    rw [List.getElem?_append_left (by omega)]
    simpa using hu
   | i + 1, hi =>
    have hge : sz ≤ (i + 1) * sz + j := by rw [Nat.succ_mul]; omega
    rw [List.getElem?_append_right (by omega), ha, show (i + 1) * sz + j - sz = i * sz + j by rw [Nat.succ_mul]; omega]
    exact ih (fun y hy => hsz y (by simp [hy])) i x (by simpa using hi) j u hu
 rcases h.2 with ⟨rfl, h0⟩ | ⟨g, cap, cur, rfl, hg, hh, hn, hm, hs, ht⟩
 ·exact ⟨none, 0, by rw [h0], by omega, Nat.zero_le _, fun i x hi => by have := (List.getElem?_eq_some_iff.1 hi).1; omega⟩
 ·refine ⟨some ⟨g, 0, none⟩, cap, rfl, hn, hm, fun i x hi => ⟨g, 0, f x, rfl, hsz x (List.mem_of_getElem? hi), fun j u hu => ?_, hR x (List.mem_of_getElem? hi)⟩⟩
  have := h.cells (g := g) rfl (i * sz + j) u (hget i x hi j u hu)
  rw [Addr.add_lit] at this
  simpa [Nat.add_assoc] using this
end Go.Proofs.YteailgjiifdgcaaGreatDoor

/- Cells of lines and words that are read. No condition. -/
namespace Go.Proofs.YteailgjiifdgcaaGreatDoor
open Go.RowKit
open LexM (Bs Wd Ln St)

theorem ln_cell {w : World} {av : Value} {l : List Ln} (h : RLns w [av] l) : ∃ a cap, av = .slice a l.length cap ∧ l.length ≤ cap ∧ cap ≤ maxLen ∧
  ∀ (i : Nat) (hi : i < l.length), ∃ b off, a = some ⟨b, off, none⟩ ∧ w.cell? ⟨b, off + i * 2, none⟩ = some (.int .i64 l[i].1) ∧ ∃ v, w.cell? ⟨b, off + i * 2 + 1, none⟩ = some v ∧ RSlice 2 RWd w [v] l[i].2 := by
 obtain ⟨a, cap, hv, h1, h2, h3⟩ := h
 simp only [List.cons.injEq, and_true] at hv
 refine ⟨a, cap, hv, h1, h2, fun i hi => ?_⟩
 obtain ⟨b, off, ecs, ha, hl, hc, v, hr1, hr2, _⟩ := h3 i l[i] (List.getElem?_eq_getElem hi)
 subst hr1
 exact ⟨b, off, ha, by simpa using hc 0 _ rfl, v, by simpa using hc 1 _ rfl, hr2⟩
theorem wd_cell {w : World} {av : Value} {l : List Wd} (h : RSlice 2 RWd w [av] l) : ∃ a cap, av = .slice a l.length cap ∧ l.length ≤ cap ∧ cap ≤ maxLen ∧
  ∀ (i : Nat) (hi : i < l.length), ∃ b off, a = some ⟨b, off, none⟩ ∧ w.cell? ⟨b, off + i * 2, none⟩ = some (.int .i64 l[i].1) ∧ w.cell? ⟨b, off + i * 2 + 1, none⟩ = some (bv l[i].2) := by
 obtain ⟨a, cap, hv, h1, h2, h3⟩ := h
 simp only [List.cons.injEq, and_true] at hv
 refine ⟨a, cap, hv, h1, h2, fun i hi => ?_⟩
 obtain ⟨b, off, ecs, ha, hl, hc, hr1, _⟩ := h3 i l[i] (List.getElem?_eq_getElem hi)
 subst hr1
 exact ⟨b, off, ha, by simpa [wdCells] using hc 0 _ rfl, by simpa [wdCells] using hc 1 _ rfl⟩

end Go.Proofs.YteailgjiifdgcaaGreatDoor

/- The walk of lex.Text: the text of lines. Condition: the text is not great. -/
namespace Go.Proofs.YteailgjiifdgcaaGreatDoor
open Go.RowKit
open LexM (Bs Wd Ln St)

def wt : List Wd → Bs
 | [] => []
 | x :: r => x.2 ++ r.flatMap fun y => 32 :: y.2
def ltx (l : List Ln) : Bs := l.flatMap fun ln => wt ln.2 ++ [10]
theorem wt_snoc (ws : List Wd) (x : Wd) : wt (ws ++ [x]) = wt ws ++ ((if ws.length = 0 then [] else [32]) ++ x.2) := by
 cases ws with
 | nil => simp [wt]
 | cons y r => simp [wt]
theorem take_snocT {α : Type} (l : List α) (k : Nat) (h : k < l.length) : l.take (k + 1) = l.take k ++ [l[k]] := by
 rw [List.take_add_one, List.getElem?_eq_getElem h]; rfl
theorem ltx_take (l : List Ln) (k : Nat) : (ltx (l.take k)).length ≤ (ltx l).length := by
 conv => rhs; rw [← List.take_append_drop k l]
 unfold ltx
 rw [List.flatMap_append, List.length_append]
 omega
theorem ltx_snoc (l : List Ln) (k : Nat) (h : k < l.length) : ltx (l.take (k + 1)) = ltx (l.take k) ++ (wt l[k].2 ++ [10]) := by
 rw [take_snocT l k h]
 unfold ltx
 rw [List.flatMap_append]
 simp
theorem wt_take (ws : List Wd) (j : Nat) : (wt (ws.take j)).length ≤ (wt ws).length := by
 induction ws generalizing j with
 | nil => simp
 | cons x r _ =>
  match j with
  | 0 => simp [wt]
  | j + 1 =>
   simp only [List.take_succ_cons, wt, List.length_append]
   have : ((r.take j).flatMap fun y => (32 : UInt8) :: y.2).length ≤ (r.flatMap fun y => (32 : UInt8) :: y.2).length := by
    conv => rhs; rw [← List.take_append_drop j r]
    rw [List.flatMap_append, List.length_append]
    omega
   omega

set_option maxRecDepth 10000 in
set_option maxHeartbeats 2000000 in
theorem text_any {w : World} {av : Value} {l : List Ln} (h : RLns w [av] l) (hlen : (ltx l).length ≤ 100000000) : Calls Tryz.prog 129 #[av] w fun e w' => e = .returned (.string ⟨(ltx l).toArray⟩) ∧ Below w.heap.size w w' := by
 obtain ⟨aa, ac, rfl, ha1, ha2, ha3⟩ := ln_cell h
 unfold maxLen at ha2
 obtain ⟨b, hb⟩ : ∃ b, b = w.heap.size := ⟨_, rfl⟩
 have h0 := bld_new w
 have hbel0 : Below w.heap.size w (w.alloc (.cells #[.pointer none, .slice none 0 0] 144)) := (Below.refl _ _).alloc (Nat.le_refl _) _
 by_cases hl0 : l.length = 0
 ·have hl : l = [] := List.eq_nil_of_length_eq_zero hl0
  subst hl
  have hnew := heap_alloc_new w (.cells #[.pointer none, .slice none 0 0] 144)
  obtain ⟨Hh, Ha3, H0, Hbel0, Hnew, Hb, Hl0⟩ := hd7 h ha3 h0 hbel0 hnew hb hl0; clear h ha3 h0 hbel0 hnew hb hl0
  go_enter Tryz.func129, Tryz.ntmps129
  go_wp2_with fail
  go_loop [10] (fun i => i = .int .i64 0) (fun i => 0)
  case atStart => rfl
  case round =>
   subst hrel
   go_wp2_with fail
   refine (bld_empty _ Hnew.out).mono ?_
   rintro e w2 ⟨rfl, hb2⟩
   have Hb2 := hd hb2; clear hb2
   go_wp2_with fail
   go_ret
   exact ⟨rfl, Hbel0.out.trans (Hb2.out.mono Hbel0.out.size)⟩
 ·have hlp : 0 < l.length := by omega
  obtain ⟨Hh, Ha3, H0, Hbel0, Hb, Hl0⟩ := hd6 h ha3 h0 hbel0 hb hl0; clear h ha3 h0 hbel0 hb hl0
  go_enter Tryz.func129, Tryz.ntmps129
  go_wp2_with fail
  rw [← Hb.out] at H0
  obtain ⟨w1, hw1⟩ : ∃ w1, w1 = w.alloc (.cells #[.pointer none, .slice none 0 0] 144) := ⟨_, rfl⟩
  rw [← hw1] at H0 Hbel0 ⊢
  rw [← Hb.out] at Hbel0 ⊢
  clear hw1
  go_loopw [10] (fun i wr => ∃ k : Nat, k ≤ l.length ∧ i = .int .i64 k ∧ Bld b b (ltx (l.take k)) wr ∧ Below b w wr) (fun i _ => l.length - (intOf i).toNat)
  case atStart => exact ⟨0, by omega, rfl, H0.out, Hbel0.out⟩
  case round =>
   obtain ⟨k, hk, rfl, hB, hbel⟩ := hrel
   by_cases hlt : k < l.length
   ·have hbelw : Below w.heap.size w wr := by rw [← Hb.out]; exact hbel
    have hBw := hbel.size
    obtain ⟨b1, o1, hx, c1, v1, c2, r1⟩ := Ha3.out k hlt
    subst hx
    obtain ⟨wa, wc, rfl, hw1, hw2, hw3⟩ := wd_cell r1
    obtain ⟨A, hA⟩ : ∃ A, A = l[k] := ⟨_, rfl⟩
    rw [← hA] at c1 c2 hw1 hw3
    have c1' := cell_later hbelw c1
    have c2' := cell_later hbelw c2
    unfold maxLen at hw2
    have hsn := ltx_snoc l k hlt
    rw [← hA] at hsn
    have htl := ltx_take l (k + 1)
    rw [hsn] at htl
    simp only [List.length_append, List.length_singleton] at htl
    obtain ⟨pre, hpre⟩ : ∃ pre, pre = ltx (l.take k) := ⟨_, rfl⟩
    rw [← hpre] at hB hsn htl
    have hB3 : Bld b b (pre ++ wt (A.2.take 0)) (wr.alloc (.cells #[.int .i64 A.1, .slice wa A.2.length wc] 62)) := by
     simp only [List.take_zero, wt, List.append_nil]
     exact bld_below hB ((Below.refl _ _).alloc (Nat.le_refl _) _)
    have hbel3 : Below b w (wr.alloc (.cells #[.int .i64 A.1, .slice wa A.2.length wc] 62)) := hbel.alloc (by rw [Hb.out]; exact hBw) _
    obtain ⟨HB, Hbel, Hbelw, Hr1, Hw3, HA, Hsn, Hpre, HB3, Hbel3⟩ := hd10 hB hbel hbelw r1 hw3 hA hsn hpre hB3 hbel3; clear hB hbel hbelw r1 hw3 hA hsn hpre hB3 hbel3
    clear c1 c2
    go_wp2_with fail
    obtain ⟨w3, hw3'⟩ : ∃ w3, w3 = wr.alloc (.cells #[.int .i64 A.1, .slice wa A.2.length wc] 62) := ⟨_, rfl⟩
    rw [← hw3'] at HB3 Hbel3 ⊢
    clear hw3' c1' c2'
    go_loopw [17] (fun i wr => ∃ j : Nat, j ≤ A.2.length ∧ i = .int .i64 j ∧ Bld b b (pre ++ wt (A.2.take j)) wr ∧ Below b w wr) (fun i _ => A.2.length - (intOf i).toNat)
    case atStart => exact ⟨0, by omega, rfl, HB3.out, Hbel3.out⟩
    case round =>
     obtain ⟨j, hj, rfl, hBj, hbelj⟩ := hrel
     by_cases hjl : j < A.2.length
     ·have hbelw2 : Below w.heap.size w wr := by rw [← Hb.out]; exact hbelj
      have hBw2 := hbelw2.size
      obtain ⟨b2, o2, hx, d1, d2⟩ := Hw3.out j hjl
      subst hx
      obtain ⟨X, hX⟩ : ∃ X, X = A.2[j] := ⟨_, rfl⟩
      rw [← hX] at d1 d2
      have d1' := cell_later hbelw2 d1
      have d2' := cell_later hbelw2 d2
      have hws : wt (A.2.take (j + 1)) = wt (A.2.take j) ++ ((if j = 0 then [] else [32]) ++ X.2) := by
       rw [take_snocT _ _ hjl, wt_snoc, List.length_take, Nat.min_eq_left (by omega), hX]
      have hwl := wt_take A.2 (j + 1)
      rw [hws] at hwl
      simp only [List.length_append] at hwl
      have hB4 : Bld b b (pre ++ wt (A.2.take j)) (wr.alloc (.cells #[.int .i64 X.1, bv X.2] 64)) := bld_below hBj ((Below.refl _ _).alloc (Nat.le_refl _) _)
      have hnew := heap_alloc_new wr (.cells #[.int .i64 X.1, bv X.2] 64)
      have hbel4 : Below b w (wr.alloc (.cells #[.int .i64 X.1, bv X.2] 64)) := hbelj.alloc (by rw [Hb.out]; exact hBw2) _
      have hszX : (⟨X.2.toArray⟩ : ByteArray).size = X.2.length := by show X.2.toArray.size = _; simp
      have hb4 : b ≤ wr.heap.size := by rw [Hb.out]; exact hBw2
      by_cases hj0 : j = 0
      ·rw [if_pos hj0] at hws hwl
       have hjz : j ≤ 0 := by omega
       have hS := bld_string hB4 ⟨X.2.toArray⟩ (by rw [hszX, List.length_append]; simp at hwl; omega) (by simp; omega)
       have e1 : (pre ++ wt (A.2.take j)) ++ (⟨X.2.toArray⟩ : ByteArray).data.toList = pre ++ wt (A.2.take (j + 1)) := by rw [hws]; simp
       rw [e1] at hS
       obtain ⟨HBj, Hbelj, Hbelw2, HX, Hws, Hwl, HB4, Hnew, Hbel4, HS, HszX, Hj0⟩ := hd12 hBj hbelj hbelw2 hX hws hwl hB4 hnew hbel4 hS hszX hj0; clear hBj hbelj hbelw2 hX hws hwl hB4 hnew hbel4 hS hszX hj0
       clear d1 d2
       go_wp2_with fail
       refine HS.out.mono ?_
       rintro e w5 ⟨rfl, hB5, hb5, hk5⟩
       have hbel5 := Hbel4.out.trans hb5
       obtain ⟨HB5, Hb5, Hk5, Hbel5⟩ := hd4 hB5 hb5 hk5 hbel5; clear hB5 hb5 hk5 hbel5
       go_wp2_with fail
       go_roundw
       case rel => exact ⟨j + 1, by omega, by go_num, HB5.out, Hbel5.out⟩
       case measure => simp [intOf]; omega
      ·rw [if_neg hj0] at hws hwl
       have hjp : 0 < j := by omega
       have hW := bld_write hB4 32 (by rw [List.length_append]; simp at hwl; omega) (by simp; omega)
       obtain ⟨HBj, Hbelj, Hbelw2, HX, Hws, HB4, Hnew, Hbel4, HW⟩ := hd9 hBj hbelj hbelw2 hX hws hB4 hnew hbel4 hW; clear hBj hbelj hbelw2 hX hws hB4 hnew hbel4 hW
       clear d1 d2 hj0
       go_wp2_with fail
       refine HW.out.mono ?_
       rintro e w5 ⟨rfl, hB5, hb5, hk5⟩
       have hbel5 := Hbel4.out.trans hb5
       have hn5 := hk5 _ _ _ _ Hnew.out (by decide) (by decide)
       have z1 := cell_of_row _ wr.heap.size 1 _ _ _ hn5
       simp only [List.getElem?_toArray, List.getElem?_cons_succ, List.getElem?_cons_zero] at z1
       have hS := bld_string hB5 ⟨X.2.toArray⟩ (by rw [hszX, List.length_append, List.length_append]; simp at hwl ⊢; omega) (by rw [Hb.out]; exact hbel5.size)
       have e1 : (pre ++ wt (A.2.take j) ++ [32]) ++ (⟨X.2.toArray⟩ : ByteArray).data.toList = pre ++ wt (A.2.take (j + 1)) := by rw [Hws.out]; simp
       rw [e1] at hS
       obtain ⟨HB5, Hb5, Hk5, Hbel5, HS, HszX, Hn5⟩ := hd7 hB5 hb5 hk5 hbel5 hS hszX hn5; clear hB5 hb5 hk5 hbel5 hS hszX hn5
       go_wp2_with fail
       refine HS.out.mono ?_
       rintro e w6 ⟨rfl, hB6, hb6, hk6⟩
       have hbel6 := Hbel5.out.trans hb6
       obtain ⟨HB6, Hb6, Hk6, Hbel6⟩ := hd4 hB6 hb6 hk6 hbel6; clear hB6 hb6 hk6 hbel6
       go_wp2_with fail
       go_roundw
       case rel => exact ⟨j + 1, by omega, by go_num, HB6.out, Hbel6.out⟩
       case measure => simp [intOf]; omega
     ·obtain rfl : j = A.2.length := by omega
      rw [List.take_of_length_le (Nat.le_refl _)] at hBj
      have hW := bld_write hBj 10 (by rw [List.length_append]; omega) (by rw [Hb.out]; exact hbelj.size)
      have e1 : (pre ++ wt A.2) ++ [10] = ltx (l.take (k + 1)) := by rw [Hsn.out, List.append_assoc]
      rw [e1] at hW
      obtain ⟨HBj, Hbelj, HW⟩ := hd3 hBj hbelj hW; clear hBj hbelj hW
      go_wp2_with fail
      refine HW.out.mono ?_
      rintro e w5 ⟨rfl, hB5, hb5, hk5⟩
      have hbel5 := Hbelj.out.trans hb5
      obtain ⟨HB5, Hb5, Hk5, Hbel5⟩ := hd4 hB5 hb5 hk5 hbel5; clear hB5 hb5 hk5 hbel5
      go_wp2_with fail
      go_roundw
      case rel => exact ⟨k + 1, by omega, by go_num, HB5.out, Hbel5.out⟩
      case measure => simp [intOf]; omega
   ·obtain rfl : k = l.length := by omega
    rw [List.take_of_length_le (Nat.le_refl _)] at hB
    have hne : ltx l ≠ [] := by
     cases l with
     | nil => simp at hlp
     | cons x r => simp [ltx]
    have hD := bld_done hB hne
    obtain ⟨HB, Hbel, Hne, HD⟩ := hd4 hB hbel hne hD; clear hB hbel hne hD
    go_wp2_with fail
    refine HD.out.mono ?_
    rintro e w5 ⟨rfl, hb5⟩
    have hbel5 := Hbel.out.trans hb5
    obtain ⟨Hb5, Hbel5⟩ := hd2 hb5 hbel5; clear hb5 hbel5
    go_wp2_with fail
    go_ret
    exact ⟨rfl, by rw [← Hb.out]; exact Hbel5.out⟩
end Go.Proofs.YteailgjiifdgcaaGreatDoor

/- The walks of the reader's own: more, peek, throw, want. No condition. -/
namespace Go.Proofs.YteailgjiifdgcaaGreatDoor
open Go.RowKit Go.Shelf
open LexM (Wd)
attribute [local go_sem ↓] Go.wp_at_zero Go.wp_at_succ

abbrev RBox (r : Nat) (v : Value) (i : Nat) (fin : Int) (W : World) : Prop := W.heap[r]? = some (.cells #[v, .int .i64 i, .int .i64 fin] 137 (0, 0))
abbrev rp (r : Nat) : Value := .pointer (some ⟨r, 0, none⟩)
abbrev RWds : Rd (List Wd) := RSlice 2 RWd
theorem rbox_cells {r : Nat} {v : Value} {i : Nat} {fin : Int} {W : World} (h : RBox r v i fin W) : W.cell? ⟨r, 0, none⟩ = some v ∧ W.cell? ⟨r, 1, none⟩ = some (.int .i64 i) ∧ W.cell? ⟨r, 2, none⟩ = some (.int .i64 fin) ∧ W.frozen? ⟨r, 1, none⟩ = false :=
 ⟨cells_at h 0, cells_at h 1, cells_at h 2, frozen_at h 1⟩
theorem wds_shape {w : World} {v : Value} {ws : List Wd} (h : RWds w [v] ws) : ∃ a c, v = .slice a ws.length c := by
 obtain ⟨a, cap, hv, _⟩ := h
 simp only [List.cons.injEq, and_true] at hv
 exact ⟨a, cap, hv⟩
theorem wds_at {w : World} {a : Option Addr} {n c : Nat} {ws : List Wd} (h : RWds w [.slice a n c] ws) : n = ws.length ∧ n ≤ 9223372036854775807 ∧ ∀ i x, ws[i]? = some x → ∃ b off, a = some ⟨b, off, none⟩ ∧ w.cell? ⟨b, off + i * 2, none⟩ = some (.int .i64 x.1) ∧ w.cell? ⟨b, off + i * 2 + 1, none⟩ = some (.string ⟨x.2.toArray⟩) ∧ x.2.length ≤ 9223372036854775807 := by
 obtain ⟨a', cap, hv, hcap, hmax, hel⟩ := h
 simp only [List.cons.injEq, and_true, Value.slice.injEq] at hv
 obtain ⟨rfl, hn, _⟩ := hv
 unfold maxLen at hmax
 refine ⟨hn, by omega, fun i x hi => ?_⟩
 obtain ⟨b, off, ecs, h1, h2, h3, h4, _, h5⟩ := hel i x hi
 subst h4
 unfold maxLen at h5
 exact ⟨b, off, h1, by simpa [wdCells] using h3 0 _ rfl, by simpa [wdCells] using h3 1 _ rfl, by omega⟩
set_option maxRecDepth 10000 in
theorem more_any {w : World} {r : Nat} {a : Option Addr} {n c i : Nat} {fin : Int} (h : RBox r (.slice a n c) i fin w) : Calls Tryz.prog 159 #[rp r] w fun e w' => e = .returned (.bool (decide (i < n))) ∧ ∃ q, w' = w.drewN q := by
 obtain ⟨c0, c1, _, _⟩ := rbox_cells h
 have k1 : decide ((i : Int) < (n : Int)) = decide (i < n) := decide_eq_decide.2 (by omega)
 have Hh := hd h; clear h
 go_enter Tryz.func159, Tryz.ntmps159
 go_wp2_with fail
 go_quiet (fail)
 go_wp2_with fail
 go_ret
 exact ⟨rfl, _, rfl⟩
abbrev thrown (c : Int) : Ending := .panicked [{ v := .iface 206 (.agg #[.int .i64 c]), recovered := false }]
set_option maxRecDepth 10000 in
theorem peek_any {w : World} {r : Nat} {a : Option Addr} {n c i : Nat} {fin : Int} {ws : List Wd} (h : RBox r (.slice a n c) i fin w) (hw : RWds w [.slice a n c] ws) : Calls Tryz.prog 151 #[rp r] w fun e w' => e = .returned (.string (peekB ws i)) ∧ ∃ q, w' = w.drewN q := by
 obtain ⟨c0, c1, _, _⟩ := rbox_cells h
 have hM := more_any h
 obtain ⟨hn, hz, hat⟩ := wds_at hw
 by_cases hi : i < n
 ·have hi2 : i < ws.length := by omega
  obtain ⟨b, off, rfl, _, d1, _⟩ := hat i _ (List.getElem?_eq_getElem hi2)
  rw [peek_some hi2]
  obtain ⟨s, hs⟩ : ∃ s : ByteArray, s = ⟨ws[i].2.toArray⟩ := ⟨_, rfl⟩
  rw [← hs] at d1 ⊢
  rw [decide_eq_true hi] at hM
  have k5 : (0 : Int) ≤ (i : Int) := by omega
  have k6 : (i : Int) < (n : Int) := by omega
  clear hs hat
  obtain ⟨Hh, HM, Hw, Hn⟩ := hd4 h hM hw hn; clear h hM hw hn
  go_enter Tryz.func151, Tryz.ntmps151
  go_wp2_with fail
  refine HM.out.mono ?_
  rintro e w1 ⟨rfl, q, rfl⟩
  go_wp2_with fail
  go_quiet (fail)
  go_wp2_with fail
  go_ret
  exact ⟨rfl, _, World.drewN_drewN _ _ _⟩
 ·rw [peek_none (by omega)]
  rw [decide_eq_false hi] at hM
  clear hat
  obtain ⟨Hh, HM, Hw, Hn⟩ := hd4 h hM hw hn; clear h hM hw hn
  go_enter Tryz.func151, Tryz.ntmps151
  go_wp2_with fail
  refine HM.out.mono ?_
  rintro e w1 ⟨rfl, q, rfl⟩
  go_wp2_with fail
  go_ret
  exact ⟨rfl, _, rfl⟩
set_option maxRecDepth 10000 in
theorem throw_any {w : World} {r : Nat} {a : Option Addr} {n c i : Nat} {fin : Int} {ws : List Wd} (h : RBox r (.slice a n c) i fin w) (hw : RWds w [.slice a n c] ws) : Calls Tryz.prog 157 #[rp r] w fun e w' => e = thrown (colAt ws fin i) ∧ ∃ q, w' = w.drewN q := by
 obtain ⟨c0, c1, c2, _⟩ := rbox_cells h
 have hM := more_any h
 obtain ⟨hn, hz, hat⟩ := wds_at hw
 by_cases hi : i < n
 ·have hi2 : i < ws.length := by omega
  obtain ⟨b, off, rfl, d0, _, _⟩ := hat i _ (List.getElem?_eq_getElem hi2)
  rw [col_some hi2]
  obtain ⟨s, hs⟩ : ∃ s, s = ws[i].1 := ⟨_, rfl⟩
  rw [← hs] at d0 ⊢
  rw [decide_eq_true hi] at hM
  have k5 : (0 : Int) ≤ (i : Int) := by omega
  have k6 : (i : Int) < (n : Int) := by omega
  clear hs hat
  obtain ⟨Hh, HM, Hw, Hn⟩ := hd4 h hM hw hn; clear h hM hw hn
  go_enter Tryz.func157, Tryz.ntmps157
  go_wp2_with fail
  refine HM.out.mono ?_
  rintro e w1 ⟨rfl, q, rfl⟩
  go_wp2_with fail
  refine wp_region_held_drew (S := fun w' => w'.cell? ⟨r, 0, none⟩ = some (.slice (some ⟨b, off, none⟩) n c) ∧ w'.cell? ⟨r, 1, none⟩ = some (.int .i64 i) ∧ w'.cell? ⟨b, off + i * 2, none⟩ = some (.int .i64 s)) (by kernel_rfl) (by exact ⟨c0, c1, d0⟩) (fun hHeld => ?_)
  refine wpAnyH_take (i := 0) (v := ?_) rfl (by kernel_rfl) (by kernel_rfl) (by kernel_rfl) (fun _ _ _ h => h) (Or.inl ⟨by kernel_rfl, ?_⟩) (by assumption) ?_
  rotate_left
  ·(intro w hSw; (try dsimp only at hSw); (try obtain ⟨e0, e1, e2⟩ := hSw); go_simp; try with_reducible rfl)
  try simp only [Act.put, List.setIfInBounds_toArray, List.set_cons_zero, List.set_cons_succ]
  refine wpAnyH_take (i := 1) (v := ?_) rfl (by kernel_rfl) (by kernel_rfl) (by kernel_rfl) (fun _ _ _ h => h) (Or.inl ⟨by kernel_rfl, ?_⟩) (by assumption) ?_
  rotate_left
  ·(intro w hSw; (try dsimp only at hSw); (try obtain ⟨e0, e1, e2⟩ := hSw); go_simp; try with_reducible rfl)
  try simp only [Act.put, List.setIfInBounds_toArray, List.set_cons_zero, List.set_cons_succ]
  refine wpAnyH_take (i := 2) (v := ?_) rfl (by kernel_rfl) (by kernel_rfl) (by kernel_rfl) (fun _ _ _ h => h) (Or.inl ⟨by kernel_rfl, ?_⟩) (by assumption) ?_
  rotate_left
  ·(intro w hSw; (try dsimp only at hSw); (try obtain ⟨e0, e1, e2⟩ := hSw); go_simp; try with_reducible rfl)
  try simp only [Act.put, List.setIfInBounds_toArray, List.set_cons_zero, List.set_cons_succ]
  refine wpAnyH_take (i := 3) (v := ?_) rfl (by kernel_rfl) (by kernel_rfl) (by kernel_rfl) (fun _ _ _ h => h) (Or.inl ⟨by kernel_rfl, ?_⟩) (by assumption) ?_
  rotate_left
  ·(intro w hSw; (try dsimp only at hSw); (try obtain ⟨e0, e1, e2⟩ := hSw); go_simp; try with_reducible rfl)
  try simp only [Act.put, List.setIfInBounds_toArray, List.set_cons_zero, List.set_cons_succ]
  refine wpAnyH_take (i := 4) (v := ?_) rfl (by kernel_rfl) (by kernel_rfl) (by kernel_rfl) (fun _ _ _ h => h) (Or.inl ⟨by kernel_rfl, ?_⟩) (by assumption) ?_
  rotate_left
  ·(intro w hSw; (try dsimp only at hSw); (try obtain ⟨e0, e1, e2⟩ := hSw); go_simp; try with_reducible rfl)
  try simp only [Act.put, List.setIfInBounds_toArray, List.set_cons_zero, List.set_cons_succ]
  refine wpAnyH_take (i := 5) (v := ?_) rfl (by kernel_rfl) (by kernel_rfl) (by kernel_rfl) (fun _ _ _ h => h) (Or.inl ⟨by kernel_rfl, ?_⟩) (by assumption) ?_
  rotate_left
  ·(intro w hSw; (try dsimp only at hSw); (try obtain ⟨e0, e1, e2⟩ := hSw); go_simp; try with_reducible rfl)
  try simp only [Act.put, List.setIfInBounds_toArray, List.set_cons_zero, List.set_cons_succ]
  refine wpAnyH_take (i := 6) (v := ?_) rfl (by kernel_rfl) (by kernel_rfl) (by kernel_rfl) (fun _ _ _ h => h) (Or.inl ⟨by kernel_rfl, ?_⟩) (by assumption) ?_
  rotate_left
  ·(intro w hSw; (try dsimp only at hSw); (try obtain ⟨e0, e1, e2⟩ := hSw); go_simp; try with_reducible rfl)
  try simp only [Act.put, List.setIfInBounds_toArray, List.set_cons_zero, List.set_cons_succ]
  refine wpAnyH_take (i := 7) (v := ?_) rfl (by kernel_rfl) (by kernel_rfl) (by kernel_rfl) (fun _ _ _ h => h) (Or.inl ⟨by kernel_rfl, ?_⟩) (by assumption) ?_
  rotate_left
  ·(intro w hSw; (try dsimp only at hSw); (try obtain ⟨e0, e1, e2⟩ := hSw); go_simp; try with_reducible rfl)
  try simp only [Act.put, List.setIfInBounds_toArray, List.set_cons_zero, List.set_cons_succ]
  refine wpAnyH_take (i := 8) (v := ?_) rfl (by kernel_rfl) (by kernel_rfl) (by kernel_rfl) (fun _ _ _ h => h) (Or.inl ⟨by kernel_rfl, ?_⟩) (by assumption) ?_
  rotate_left
  ·(intro w hSw; (try dsimp only at hSw); (try obtain ⟨e0, e1, e2⟩ := hSw); go_simp; try with_reducible rfl)
  try simp only [Act.put, List.setIfInBounds_toArray, List.set_cons_zero, List.set_cons_succ]
  refine wpAnyH_take (i := 9) (v := ?_) rfl (by kernel_rfl) (by kernel_rfl) (by kernel_rfl) (fun _ _ _ h => h) (Or.inl ⟨by kernel_rfl, ?_⟩) (by assumption) ?_
  rotate_left
  ·(intro w hSw; (try dsimp only at hSw); (try obtain ⟨e0, e1, e2⟩ := hSw); go_simp; try with_reducible rfl)
  try simp only [Act.put, List.setIfInBounds_toArray, List.set_cons_zero, List.set_cons_succ]
  refine wpAnyH_take (i := 10) (v := ?_) rfl (by kernel_rfl) (by kernel_rfl) (by kernel_rfl) (fun _ _ _ h => h) (Or.inl ⟨by kernel_rfl, ?_⟩) (by assumption) ?_
  rotate_left
  ·(intro w hSw; (try dsimp only at hSw); (try obtain ⟨e0, e1, e2⟩ := hSw); go_simp; try with_reducible rfl)
  try simp only [Act.put, List.setIfInBounds_toArray, List.set_cons_zero, List.set_cons_succ]
  refine wpAnyH_take (i := 11) (v := ?_) rfl (by kernel_rfl) (by kernel_rfl) (by kernel_rfl) (fun _ _ _ h => h) (Or.inl ⟨by kernel_rfl, ?_⟩) (by assumption) ?_
  rotate_left
  ·(intro w hSw; (try dsimp only at hSw); (try obtain ⟨e0, e1, e2⟩ := hSw); go_simp; try with_reducible rfl)
  try simp only [Act.put, List.setIfInBounds_toArray, List.set_cons_zero, List.set_cons_succ]
  refine wpAnyH_take (i := 12) (v := ?_) rfl (by kernel_rfl) (by kernel_rfl) (by kernel_rfl) (fun _ _ _ h => h) (Or.inl ⟨by kernel_rfl, ?_⟩) (by assumption) ?_
  rotate_left
  ·(intro w hSw; (try dsimp only at hSw); (try obtain ⟨e0, e1, e2⟩ := hSw); go_simp; try with_reducible rfl)
  try simp only [Act.put, List.setIfInBounds_toArray, List.set_cons_zero, List.set_cons_succ]
  refine wpAnyH_ready (rs := [13]) (by kernel_rfl) (by simp) ?_
  refine AllReadyH.cons rfl (fun K hK => ?_) AllReadyH.nil
  go_simp
  exact ⟨rfl, rfl, _, rfl⟩
 ·rw [col_none (by omega)]
  rw [decide_eq_false hi] at hM
  clear hat
  obtain ⟨Hh, HM, Hw, Hn⟩ := hd4 h hM hw hn; clear h hM hw hn
  go_enter Tryz.func157, Tryz.ntmps157
  go_wp2_with fail
  refine HM.out.mono ?_
  rintro e w1 ⟨rfl, q, rfl⟩
  go_wp2_with fail
  exact ⟨rfl, rfl, _, rfl⟩
set_option maxRecDepth 10000 in
theorem want_yes (w : World) (r : Nat) : Calls Tryz.prog 158 #[rp r, .bool true] w fun e w' => e = .returned (.tuple #[]) ∧ w' = w := by
 go_enter Tryz.func158, Tryz.ntmps158
 go_wp2_with fail
 go_end0
 exact ⟨rfl, rfl⟩
set_option maxRecDepth 10000 in
theorem want_no {w : World} {r : Nat} {a : Option Addr} {n c i : Nat} {fin : Int} {ws : List Wd} (h : RBox r (.slice a n c) i fin w) (hw : RWds w [.slice a n c] ws) : Calls Tryz.prog 158 #[rp r, .bool false] w fun e w' => e = thrown (colAt ws fin i) ∧ ∃ q, w' = w.drewN q := by
 have hT := throw_any h hw
 obtain ⟨HT, Hh, Hw⟩ := hd3 hT h hw; clear hT h hw
 go_enter Tryz.func158, Tryz.ntmps158
 go_wp2_with fail
 refine HT.out.mono ?_
 rintro e w1 ⟨rfl, q, rfl⟩
 go_wp2_with fail
 exact ⟨rfl, rfl, _, rfl⟩
end Go.Proofs.YteailgjiifdgcaaGreatDoor
