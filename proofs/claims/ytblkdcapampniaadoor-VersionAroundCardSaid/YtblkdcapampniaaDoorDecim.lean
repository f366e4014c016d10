/- The walk of cooperlaw01.decimal: a number's digits. No condition. -/
import Derived.Test.YtblkdcapampniaaDoorVerL
import Derived.Test.YtblkdcapampniaaDoorVerT
import Derived.Lib.SmallJoins
import Derived.Lib.ItoaLen
set_option linter.unusedVariables false
set_option linter.unusedSimpArgs false
namespace Go.Proofs.YtblkdcapampniaaDoor
open Go.RowKit Go.Lib VerN

set_option maxRecDepth 10000 in
set_option maxHeartbeats 2000000 in
theorem decimal_any (n : Nat) (hn : n < 1000000000) (w : World) : Calls Tryd.prog 19 #[.int .u32 n] w fun e w' => e = .returned (.string ⟨(decDigits n).toArray⟩) ∧ Below w.heap.size w w' := by
  have hlen : (decDigits n).length ≤ 21 := by
    have := itoa_length_le (n : Int) (by omega) (by omega)
    rwa [itoa_nat] at this
  have Hlen := Lib.hid hlen; clear hlen
  go_enter Tryd.func19, Tryd.ntmps19
  go_wp2_with fail
  go_loopw [0, 3] (fun i o wr => ∃ (m : Nat) (x : ByteArray), m ≤ n ∧ i = .int .u32 m ∧ o = .string x ∧ decDigits n = decDigits m ++ x.data.toList ∧ Below w.heap.size w wr) (fun i _ _ => (RowKit.intOf i).toNat)
  case atStart => exact ⟨n, ⟨#[]⟩, Nat.le_refl _, rfl, rfl, by simp, Below.refl _ _⟩
  case round =>
    obtain ⟨m, x, hm, rfl, rfl, hd, hb⟩ := hrel
    have hx : x.size ≤ 21 := by
      have h1 := Hlen.out
      rw [hd, List.length_append, Txt.len] at h1
      omega
    obtain ⟨d, hdd⟩ : ∃ d, d = UInt8.ofNat (48 + m % 10) := ⟨_, rfl⟩
    have hdn : (d.toNat : Int) = 48 + (m : Int) % 10 := by
      rw [hdd, UInt8.toNat_ofNat', Nat.mod_eq_of_lt (by omega)]; omega
    have hcv : (convert 57 9 (.slice (some ⟨wr.heap.size, 0, none⟩) 1 1)).run Tryd.prog (wr.alloc (.cells #[.int .u8 (48 + (m : Int) % 10)] 5)) = .ok (.string ⟨#[d]⟩) (wr.alloc (.cells #[.int .u8 (48 + (m : Int) % 10)] 5)) := by
      have := run_convert_bytes_back (P := Tryd.prog) (wr.alloc (.cells #[.int .u8 (48 + (m : Int) % 10)] 5)) 57 9 5 ⟨wr.heap.size, 0, none⟩ 1 [d] Tryd.underlying57 Tryd.underlying5 Tryd.underlying9 (fun j hj => by
        have hj0 : j = 0 := by simpa using hj
        subst hj0
        rw [Addr.add_lit, World.cell?_alloc_new]
        simp [hdn])
      exact this
    have hz : (⟨#[d]⟩ : ByteArray).size = 1 := rfl
    have hs : ((⟨#[d]⟩ : ByteArray) ++ x).size = 1 + x.size := by rw [← Txt.len, Go.Joins.data_append, List.length_append, Txt.len]; rfl
    have hdat : ((⟨#[d]⟩ : ByteArray) ++ x).data.toList = d :: x.data.toList := by rw [Go.Joins.data_append]; rfl
    have hx8 : (x.size : Int) ≤ 8388608 := by omega
    have hbw := hb.alloc hb.size (.cells #[.int .u8 (48 + (m : Int) % 10)] 5)
    by_cases h10 : m < 10
    · have hfin : decDigits n = d :: x.data.toList := by
        rw [hd, decDigits, dif_pos h10, hdd, Nat.mod_eq_of_lt h10]; rfl
      have hm0 : m / 10 = 0 := by omega
      have hq : ((m : Int) / 10 == 0) = true := by
        have : (m : Int) / 10 = 0 := by omega
        rw [this]; rfl
      have Hd := Lib.hid hd; have Hb := Lib.hid hb; have Hdd := Lib.hid hdd; have Hdn := Lib.hid hdn; have Hs := Lib.hid hs; have Hdat := Lib.hid hdat; have Hbw := Lib.hid hbw; have Hfin := Lib.hid hfin; have Hm0 := Lib.hid hm0; clear hd hb hdd hdn hs hdat hbw hfin hm0
      go_wp2_with fail
      go_ret
      exact ⟨ret_val (by rw [Hfin.out]; exact congrArg Value.string (Txt.ext (by rw [Hdat.out]))), Hbw.out⟩
    · have hnx : decDigits n = decDigits (m / 10) ++ ((⟨#[d]⟩ : ByteArray) ++ x).data.toList := by
        rw [hd, decDigits, dif_neg h10, hdat, hdd, List.append_assoc]; rfl
      have hq : ((m : Int) / 10 == 0) = false := by
        rw [beq_eq_false_iff_ne]; omega
      have Hd := Lib.hid hd; have Hb := Lib.hid hb; have Hdd := Lib.hid hdd; have Hdn := Lib.hid hdn; have Hs := Lib.hid hs; have Hdat := Lib.hid hdat; have Hbw := Lib.hid hbw; have Hnx := Lib.hid hnx; clear hd hb hdd hdn hs hdat hbw hnx
      go_wp2_with fail
      go_roundw
      case rel => exact ⟨m / 10, _, by omega, by rw [show (m : Int) / 10 = ((m / 10 : Nat) : Int) by omega], rfl, Hnx.out, Hbw.out⟩
      case measure => simp [RowKit.intOf]; omega
end Go.Proofs.YtblkdcapampniaaDoor
