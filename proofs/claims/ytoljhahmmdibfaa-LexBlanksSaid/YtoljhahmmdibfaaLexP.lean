/- The walks of cooperlaw05: blanks, clean. Condition: the text is not great. -/
import Derived.Test.YtoljhahmmdibfaaLexW
import Derived.Test.YtoljhahmmdibfaaLexQ
import Derived.Test.YtoljhahmmdibfaaKit
namespace Go.Proofs.Ytoljhahmmdibfaa
open Go.RowKit
open LexM (Bs Wd Ln St)

theorem byVals_append (a b : Bs) : byVals (a ++ b) = byVals a ++ byVals b := by simp [byVals]
/-- a row of bytes as a string, also an empty one in a block -/
theorem conv_row {w : World} {B : Nat} {g cap : Nat} {s : Bs} (h : w.ownsRow B 5 1 (.slice (some ⟨g, 0, none⟩) s.length cap) s.length (byVals s)) : (convert 67 9 (.slice (some ⟨g, 0, none⟩) s.length cap)).run Try.prog w = .ok (bv s) w := by
  have := run_convert_bytes_arg (P := Try.prog) (w := w) 67 5 Try.underlying67 Try.underlying5 g 0 s.length cap (s.map fun c => ((c.toNat : Int))) (by simp) (fun i hi => by
    have h1 : (byVals s)[i]? = some (.int .u8 (s[i].toNat : Int)) := by simp [byVals, hi]
    have := h.cells (g := g) rfl i _ h1
    rw [Addr.add_lit] at this
    rw [this]
    simp [List.getD, hi]) 9 Try.underlying9
  rw [this, strOf]

def partBlank (k n : Nat) : Bs := LexM.blank k ++ List.replicate (n - k) 0
theorem partBlank_set (k n : Nat) (h : k < n) : (byVals (partBlank k n)).set k (.int .u8 32) = byVals (partBlank (k + 1) n) := by
  have e : n - k = (n - (k + 1)) + 1 := by omega
  unfold partBlank LexM.blank
  rw [e, List.replicate_succ, List.replicate_succ', byVals_append, byVals_append, List.set_append_right _ _ (by simp [byVals])]
  simp [byVals]

/-- what blanks gives -/
def BlankPost (w : World) (n : Nat) (e : Ending) (w' : World) : Prop := ∃ g, e = .returned (.slice (some ⟨g, 0, none⟩) n n) ∧ w'.ownsRow w.heap.size 5 1 (.slice (some ⟨g, 0, none⟩) n n) n (byVals (LexM.blank n)) ∧ Below w.heap.size w w'
set_option maxRecDepth 10000 in
set_option maxHeartbeats 1000000 in
theorem blanks_any (a : Int) (ha : 0 ≤ a ∧ a ≤ 255) (n : Nat) (hn : (n : Int) = a % 5) (w : World) : Calls Try.prog 37 #[.int .u8 a] w (BlankPost w n) := by
  obtain ⟨i0, hi, hz0, hz1, hz2⟩ := info_parts elem_byte.info
  have hn5 : n < 5 := by omega
  have hn2 : a % 5 = n := hn.symm
  clear hn
  have Hi := Lib.hid hi; have Hz0 := Lib.hid hz0; have Hz1 := Lib.hid hz1; have Hz2 := Lib.hid hz2; have Hn2 := Lib.hid hn2; clear hi hz0 hz1 hz2 hn2
  go_enter Try.func37, Try.ntmps37
  go_wp2_with (at_make; refine wpList_make_full _ rfl _ _ 67 rfl w.heap.size 5 i0 (.int .u8 0) 1 Try.underlying67 Hi.out Hz0.out Hz1.out _ _ _ _ n rfl rfl Hn2.out Hn2.out (by rw [Hz2.out]; omega) (by unfold maxLen; omega) (Nat.le_refl _) ?_)
  intro w1 hown hgrow
  have hb1 := grownBy_below hgrow
  rw [toList_madeCells_one (.int .u8 0) n] at hown
  have h0 : byVals (partBlank 0 n) = List.replicate n (.int .u8 0) := by unfold partBlank LexM.blank byVals; simp
  have hlt1 := (hown.lt w.heap.size rfl).2
  rw [← h0] at hown
  have Hown := Lib.hid hown; have Hgrow := Lib.hid hgrow; have Hb1 := Lib.hid hb1; have H0 := Lib.hid h0; clear hown hgrow hb1 h0
  go_wp2_with fail
  go_loopw [10] (fun i wr => ∃ k : Nat, k ≤ n ∧ i = .int .i64 k ∧ wr.ownsRow w.heap.size 5 1 (.slice (some ⟨w.heap.size, 0, none⟩) n n) n (byVals (partBlank k n)) ∧ Below w.heap.size w wr) (fun i _ => n - (intOf i).toNat)
  case atStart => exact ⟨0, by omega, rfl, Hown.out, Hb1.out⟩
  case round =>
    obtain ⟨k, hk, rfl, ho, hbel⟩ := hrel
    by_cases hlt : k < n
    · have hc := ho.cellAt k (by omega)
      have hz : (byVals (partBlank k n))[k]? = some (.int .u8 0) := by
        unfold partBlank LexM.blank byVals
        simp [List.getElem?_append, show 0 < n - k by omega]
      rw [hz] at hc
      have hf := ho.frozenAt k
      have hst := (ho.stored k (.int .u8 32)).1
      rw [partBlank_set k n hlt] at hst
      have Ho := Lib.hid ho; have Hst := Lib.hid hst; have Hbel := Lib.hid hbel; have Hz := Lib.hid hz; clear ho hst hbel hz
      go_wp2_with fail
      go_roundw
      case rel => exact ⟨k + 1, by omega, by go_num, Hst.out, Hbel.out.setCell (Nat.le_refl _) _⟩
      case measure => simp [intOf]; omega
    · obtain rfl : k = n := by omega
      have he : partBlank k k = LexM.blank k := by unfold partBlank; simp
      rw [he] at ho
      have Ho := Lib.hid ho; have Hbel := Lib.hid hbel; clear ho hbel
      go_wp2_with fail
      go_ret
      exact ⟨_, rfl, Ho.out, Hbel.out⟩

theorem filter_snoc (p : UInt8 → Bool) (l : Bs) (c : UInt8) : (l ++ [c]).filter p = l.filter p ++ if p c = true then [c] else [] := by
  rw [List.filter_append]
  by_cases h : p c = true <;> simp [h]
def seen (c : UInt8) : Bool := decide (32 ≤ c.toNat) && decide (c.toNat ≤ 126)
set_option maxRecDepth 10000 in
set_option maxHeartbeats 1000000 in
theorem clean_any (s : ByteArray) (hs : s.size ≤ 1000000) (w : World) : Calls Try.prog 38 #[.string s] w fun e w' => e = .returned (bv (s.data.toList.filter seen)) ∧ Below w.heap.size w w' := by
  have hlen : s.data.toList.length = s.size := by rw [Array.length_toList]; rfl
  obtain ⟨t, ht⟩ : ∃ t, t = s.data.toList := ⟨_, rfl⟩
  rw [← ht] at hlen ⊢
  have h0 : (w.alloc (.cells #[] 5)).ownsRow w.heap.size 5 1 (.slice (some ⟨w.heap.size, 0, none⟩) 0 0) 0 [] := World.ownsRow_lit (base := w.heap.size) (e := 5) (size := 1) w #[] 0 (Nat.le_refl _) (by decide) rfl
  have Ht := Lib.hid ht; have Hlen := Lib.hid hlen; have H0 := Lib.hid h0; clear ht hlen h0
  go_enter Try.func38, Try.ntmps38
  go_wp2_with fail
  go_loopw [3, 8] (fun v i wr => ∃ k g cap : Nat, k ≤ s.size ∧ i = .int .i64 k ∧ v = .slice (some ⟨g, 0, none⟩) ((t.take k).filter seen).length cap ∧ wr.ownsRow w.heap.size 5 1 v ((t.take k).filter seen).length (byVals ((t.take k).filter seen)) ∧ Below w.heap.size w wr) (fun _ i _ => s.size - (intOf i).toNat)
  case atStart => exact ⟨0, _, _, Nat.zero_le _, rfl, rfl, H0.out, (Below.refl _ _).alloc (Nat.le_refl _) _⟩
  case round =>
    obtain ⟨k, g, cap, hk, rfl, rfl, hown, hbel⟩ := hrel
    have hB := hbel.size
    have hll : ((t.take k).filter seen).length ≤ k := Nat.le_trans (List.length_filter_le _ _) (List.length_take_le _ _)
    by_cases hlt : k < s.size
    · have hsn : t.take (k + 1) = t.take k ++ [s[k]] := by
        rw [Ht.out, List.take_add_one, List.getElem?_eq_getElem (by rw [Array.length_toList]; exact hlt)]; rfl
      have hfs := filter_snoc seen (t.take k) s[k]
      rw [← hsn] at hfs
      obtain ⟨L, hL⟩ : ∃ L, L = (t.take k).filter seen := ⟨_, rfl⟩
      obtain ⟨n, hn⟩ : ∃ n, n = s[k].toNat := ⟨_, rfl⟩
      have hsk : s[k].toNat = n := hn.symm
      have hn2 : n < 256 := by rw [hn]; exact s[k].toNat_lt
      rw [← hL] at hfs hown hll ⊢
      by_cases h1 : 32 ≤ n
      · by_cases h2 : n ≤ 126
        · have hse : seen s[k] = true := by unfold seen; rw [hsk]; simp [h1, h2]
          rw [if_pos hse] at hfs
          have Hown := Lib.hid hown; have Hbel := Lib.hid hbel; have Hsn := Lib.hid hsn; have Hfs := Lib.hid hfs; have HL := Lib.hid hL; have Hn := Lib.hid hn; have Hse := Lib.hid hse; clear hown hbel hsn hfs hL hn hse
          go_wp2_with (at_builtin; refine wpList_append_some elem_byte rfl (.tmp 21) (.tmp 25) rfl w.heap.size (.slice (some ⟨g, 0, none⟩) L.length cap) L.length (byVals L) rfl Hown.out 1 (by decide) #[.int .u8 n] rfl rfl (by simp [Value.oneCell']) (by omega) (by unfold maxLen; omega) hB ?_)
          intro g8 c8 w8 hown8 hg8 hm8
          have hb8 := bel_own Hbel.out Hown.out (Nat.le_refl _) hg8 hB
          have Hown8 := Lib.hid hown8; have Hg8 := Lib.hid hg8; have Hb8 := Lib.hid hb8; clear hown8 hg8 hb8
          clear hm8
          go_wp2_with fail
          go_roundw
          case rel => exact ⟨k + 1, g8, c8, by omega, by go_num, by rw [Hfs.out, List.length_append]; rfl, by rw [Hfs.out, List.length_append, byVals_append]; have := Hown8.out; rw [Hn.out] at this; exact this, Hb8.out⟩
          case measure => simp [intOf]; omega
        · have hse : ¬ seen s[k] = true := by unfold seen; rw [hsk]; simp [h2]
          have h3 : 127 ≤ n := by omega
          rw [if_neg hse, List.append_nil] at hfs
          have Hown := Lib.hid hown; have Hbel := Lib.hid hbel; have Hsn := Lib.hid hsn; have Hfs := Lib.hid hfs; have HL := Lib.hid hL; have Hn := Lib.hid hn; have Hse := Lib.hid hse; clear hown hbel hsn hfs hL hn hse
          go_wp2_with fail
          go_roundw
          case rel => exact ⟨k + 1, g, cap, by omega, by go_num, by rw [Hfs.out], by rw [Hfs.out]; exact Hown.out, Hbel.out⟩
          case measure => simp [intOf]; omega
      · have hse : ¬ seen s[k] = true := by unfold seen; rw [hsk]; simp [h1]
        have h3 : n < 32 := by omega
        rw [if_neg hse, List.append_nil] at hfs
        have Hown := Lib.hid hown; have Hbel := Lib.hid hbel; have Hsn := Lib.hid hsn; have Hfs := Lib.hid hfs; have HL := Lib.hid hL; have Hn := Lib.hid hn; have Hse := Lib.hid hse; clear hown hbel hsn hfs hL hn hse
        go_wp2_with fail
        go_roundw
        case rel => exact ⟨k + 1, g, cap, by omega, by go_num, by rw [Hfs.out], by rw [Hfs.out]; exact Hown.out, Hbel.out⟩
        case measure => simp [intOf]; omega
    · have htk : t.take k = t := List.take_of_length_le (by have := Hlen.out; omega)
      rw [htk] at hown hll ⊢
      have hcv := conv_row hown
      have Hown := Lib.hid hown; have Hbel := Lib.hid hbel; have Htk := Lib.hid htk; clear hown hbel htk
      go_wp2_with fail
      go_ret
      exact ⟨rfl, Hbel.out⟩
end Go.Proofs.Ytoljhahmmdibfaa
