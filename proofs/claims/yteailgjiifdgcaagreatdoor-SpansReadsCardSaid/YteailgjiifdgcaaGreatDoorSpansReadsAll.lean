/- The given statement, and what it needs. Texts merged: SpansReads, SpansReadsRow. Condition: none beyond what each says. -/
import Derived.OpenShut
import Derived.ShutString
import Derived.ChangeOld
import Derived.Test.YteailgjiifdgcaaGreatDoorSpansReadsAll1
import Derived.Test.YteailgjiifdgcaaGreatDoorSpansReadsAll2
import Derived.Test.YteailgjiifdgcaaGreatDoorSpansReadsAll3
import Derived.Test.YteailgjiifdgcaaGreatDoorSpansReadsAll4
import Derived.Test.YteailgjiifdgcaaGreatDoorSpansReadsAll5
import Derived.Test.YteailgjiifdgcaaGreatDoorSpansReadsAll6
import Derived.Test.YteailgjiifdgcaaGreatDoorSpansReadsAll7
import Derived.Test.YteailgjiifdgcaaGreatDoorSpansReadsAll8
/- The walk of cooperlaw03.SpansReads: the law. Condition: the library's variables as they were laid. -/
namespace Go.Proofs.YteailgjiifdgcaaGreatDoor
open Go.Shelf Go.RowKit Go.Lib VerN

theorem sps_nil (w : World) : RSps w [.slice none 0 0] [] := ⟨_, 0, rfl, Nat.zero_le _, Nat.zero_le _, fun i x hi => by simp at hi⟩
/-- both ways of reading hand back the same -/
theorem rdPost_is {t : ByteArray} (ht : t.size ≤ 1000) {w w' : World} {e : Ending} (h : RdPost t w e w') : RefRdPost t w e w' := by
  obtain ⟨h, hb⟩ := h
  refine ⟨?_, hb⟩
  rcases h with ⟨v, rfl, ⟨h0, rfl⟩ | ⟨h0, h1, h2, h3⟩⟩ | ⟨rfl, h0, h1⟩
  · exact .inl ⟨_, rfl, .inl h0, by unfold rdV; rw [if_pos h0]; exact sps_nil _⟩
  · refine .inl ⟨_, rfl, .inr ⟨h1, h2⟩, ?_⟩
    unfold rdV
    rw [if_neg h0]
    obtain ⟨l, hl⟩ := rd_list t (by omega)
    rw [← hl] at h3 ⊢
    exact sps_reads (fun x hx => by have := smallB_tB l x hx; unfold maxLen; omega) h3
  · refine .inr ⟨_, rfl, ?_, sps_nil _⟩
    rintro (h | ⟨k1, k2⟩)
    · exact h0 h
    · rcases h1 with ⟨p, hp, hk⟩ | h1
      · rw [k1 p hp] at hk; cases hk
      · obtain ⟨l, hl⟩ := rd_list t (by omega)
        exact h1 l hl (k2 l hl)
theorem rd_text {t : ByteArray} (ht : t.size ≤ 1000) (h : Rd3 t) : ∃ l, tB l = rdV t ∧ l.length ≤ 2000 ∧ spsText l = t := by
  by_cases h0 : t = ⟨#[33]⟩
  · exact ⟨[], by unfold rdV; rw [if_pos h0]; rfl, Nat.zero_le _, by rw [h0]; decide⟩
  · obtain ⟨l, hl⟩ := rd_list t (by omega)
    refine ⟨l, by unfold rdV; rw [if_neg h0, hl], ?_, ?_⟩
    · have h1 : (tB l).length = (cutS 44 t).length := by rw [hl]; exact List.length_map _
      have h2 := cutL_len 44 t.data.toList
      rw [List.length_map, cutS_len] at h1
      rw [Txt.len] at h2
      omega
    · rcases h with h | h
      · exact absurd h h0
      · exact h.2 l hl
set_option linter.unusedSimpArgs false in
set_option maxRecDepth 10000 in
set_option maxHeartbeats 8000000 in
theorem spansReads_true (t : ByteArray) {w : World} (hD : Doors w) (hz : t.size ≤ 9223372036854775807) : Calls Tryz.prog 3 #[.string t] w fun e w' => e = .returned (.bool true) ∧ Below w.heap.size w w' := by
  have hF := fun (W : World) (k : Below w.heap.size w W) => fixed03_any (hD.below k)
  by_cases hbig : 1000 < t.size
  · have k1 : decide ((1000 : Int) < (t.size : Int)) = true := decide_eq_true (by omega)
    have HF := Lib.hid hF; have HD := Lib.hid hD; clear hF hD
    go_enter Tryz.func3, Tryz.ntmps3
    go_wp2_with fail
    refine (HF.out _ (Below.refl _ _)).mono ?_
    rintro e w1 ⟨rfl, hb1⟩
    have Hb1 := Lib.hid hb1; clear hb1
    go_wp2_with fail
    go_ret
    exact ⟨rfl, Hb1.out⟩
  · have k1 : decide ((1000 : Int) < (t.size : Int)) = false := decide_eq_false (by omega)
    have ht : t.size ≤ 1000 := by omega
    have hR : Calls Tryz.prog 16 #[.string t] w (RefRdPost t w) := (spsRead_any t ht hD).mono fun e w' h => rdPost_is ht h
    have hM := fun (W : World) => refRead3_any t ht W
    have HF := Lib.hid hF; have HD := Lib.hid hD; have HR := Lib.hid hR; have HM := Lib.hid hM; clear hF hD hR hM
    go_enter Tryz.func3, Tryz.ntmps3
    go_wp2_with fail
    refine HR.out.mono ?_
    intro e w1 hpost
    obtain ⟨hpost, hb1⟩ := hpost
    rcases hpost with ⟨v, rfl, h3, hrd⟩ | ⟨v, rfl, h3, hrd⟩
    · obtain ⟨l, hl, hln, htx⟩ := rd_text ht h3
      have Hb1 := Lib.hid hb1; have H3 := Lib.hid h3; have Hrd := Lib.hid hrd; have Hl := Lib.hid hl; have Hln := Lib.hid hln; have Htx := Lib.hid htx; clear hb1 h3 hrd hl hln htx
      go_wp2_with fail
      refine (HM.out _).mono ?_
      intro e w2 hpost
      obtain ⟨hpost, hb2⟩ := hpost
      rcases hpost with ⟨u, rfl, _, hrd2⟩ | ⟨u, rfl, h4, hrd2⟩
      · have hbw := Hb1.out.trans (hb2.mono Hb1.out.size)
        have hrd1 := stays_slice stays_spn _ _ _ _ Hrd.out hb2
        have Hb2 := Lib.hid hb2; have Hbw := Lib.hid hbw; have Hrd1 := Lib.hid hrd1; have Hrd2 := Lib.hid hrd2; clear hb2 hbw hrd1 hrd2
        go_wp2_with fail
        refine (HF.out _ Hbw.out).mono ?_
        rintro e w3 ⟨rfl, hb3⟩
        have hbw3 := Hbw.out.trans (hb3.mono Hbw.out.size)
        have hr1 := stays_slice stays_spn _ _ _ _ Hrd1.out hb3
        have hS := sameRefS_any hr1 (stays_slice stays_spn _ _ _ _ Hrd2.out hb3)
        rw [decide_eq_true rfl] at hS
        have Hb3 := Lib.hid hb3; have Hbw3 := Lib.hid hbw3; have HS := Lib.hid hS; have Hr1 := Lib.hid hr1; clear hb3 hbw3 hS hr1
        go_wp2_with fail
        refine HS.out.mono ?_
        rintro e w4 ⟨rfl, q, rfl⟩
        have hbq : Below w3.heap.size w3 (w3.drewN q) := bel_drewN (Below.refl _ _) q
        have hbw4 := Hbw3.out.trans (hbq.mono Hbw3.out.size)
        have hr2 := stays_slice stays_spn _ _ _ _ Hr1.out hbq
        rw [← Hl.out] at hr2
        have hT := spsText_any hr2 Hln.out (HD.out.below hbw4)
        rw [Htx.out] at hT
        have kT : (t.toList == t.toList) = true := by simp
        obtain ⟨w5, hw5⟩ : ∃ W, W = w3.drewN q := ⟨_, rfl⟩
        rw [← hw5] at hT hbw4 ⊢
        have HT := Lib.hid hT; have Hbw4 := Lib.hid hbw4; clear hT hbw4
        clear hw5 hbq hr2
        go_wp2_with fail
        refine HT.out.mono ?_
        rintro e w6 ⟨rfl, hb6⟩
        have hbw6 := Hbw4.out.trans (hb6.mono Hbw4.out.size)
        have Hb6 := Lib.hid hb6; have Hbw6 := Lib.hid hbw6; clear hb6 hbw6
        go_wp2_with fail
        go_ret
        exact ⟨rfl, Hbw6.out⟩
      · exact absurd H3.out h4
    · have Hb1 := Lib.hid hb1; have H3 := Lib.hid h3; have Hrd := Lib.hid hrd; clear hb1 h3 hrd
      go_wp2_with fail
      refine (HM.out _).mono ?_
      intro e w2 hpost
      obtain ⟨hpost, hb2⟩ := hpost
      rcases hpost with ⟨u, rfl, h4, hrd2⟩ | ⟨u, rfl, _, hrd2⟩
      · exact absurd h4 H3.out
      · have hbw := Hb1.out.trans (hb2.mono Hb1.out.size)
        have hrd1 := stays_slice stays_spn _ _ _ _ Hrd.out hb2
        have Hb2 := Lib.hid hb2; have Hbw := Lib.hid hbw; have Hrd1 := Lib.hid hrd1; have Hrd2 := Lib.hid hrd2; clear hb2 hbw hrd1 hrd2
        go_wp2_with fail
        refine (HF.out _ Hbw.out).mono ?_
        rintro e w3 ⟨rfl, hb3⟩
        have hbw3 := Hbw.out.trans (hb3.mono Hbw.out.size)
        have hS := sameRefS_any (stays_slice stays_spn _ _ _ _ Hrd1.out hb3) (stays_slice stays_spn _ _ _ _ Hrd2.out hb3)
        rw [decide_eq_true rfl] at hS
        have Hb3 := Lib.hid hb3; have Hbw3 := Lib.hid hbw3; have HS := Lib.hid hS; clear hb3 hbw3 hS
        go_wp2_with fail
        refine HS.out.mono ?_
        rintro e w4 ⟨rfl, q, rfl⟩
        have hbw4 := bel_drewN Hbw3.out q
        have Hbw4 := Lib.hid hbw4; clear hbw4
        go_wp2_with fail
        go_ret
        exact ⟨rfl, Hbw4.out⟩
end Go.Proofs.YteailgjiifdgcaaGreatDoor

/- The given card SpansReadsCardSaid: for every input the law returns true, and leaves what it was given as it was; what the row lists of the library's variables is tied to the program's text by the given tie. No further condition. -/
namespace Go.Proofs.YteailgjiifdgcaaGreatDoor.spansReadsRow
open Go.ChangeShapes Go.WideShapes Go.ChangeAt Go.RowKit
open Go.ChangeMaps (open_string shut_string)
set_option linter.unusedVariables false

set_option maxRecDepth 100000 in
theorem lifted (os : Os) (started : os.Started) (H : Type) (enc : TypeId × Value → H) (F : Stop.Interp) :
    ReturnsInHanded {} Tryz.checked os 3 .any ((OpenSpec.ofChange Rows.spansReadsSpec).preRow enc Tryz.prog Tryz.f3 Rows.spansReadsRow.domain false Rows.spansReadsRow.laid) (((OpenSpec.ofChange Rows.spansReadsSpec).at F).post enc Tryz.prog Tryz.f3 false true false false) := by
  refine returnsInHanded_of_row (C := Tryz.checked) (s := OpenSpec.ofChange Rows.spansReadsSpec) own started (by kernel_rfl) Tryz.func3
    (ChangeSpec.witness_shaped (enc := enc) (C := Tryz.checked) (os := os) (s := Rows.spansReadsSpec) (X := fun w _ => laidMetH Tryz.prog Rows.spansReadsRow.laid w) false (World.laidAll Tryz.prog os seatLaid) #[.string ⟨#[]⟩] 8 (World.laidAll_os _ _ _)
      (seat_shaped os _) (by kernel_rfl) (by kernel_rfl) (by kernel_rfl) (seat_laid os _)) ?_
  intro W base args ds gs before hval0 hW _ _ hsz0 hL hS _
  have hD : Doors W := doors_of hL hS
  have hsz : (DataW.weightsEach Tryz.prog (Tryz.f3.params.toList ++ Rows.spansReadsSpec.plain.varTypes Tryz.prog) (ds ++ gs)).all (· ≤ reachBytes) = true := hsz0
  clear hsz0 hL hS
  have hval : ∀ (j : Nat) t v, Tryz.f3.params[j]? = some t → args[j]? = some v → Value.okWide Tryz.prog W .any base t v := hval0
  have hW' : DataW.Whole enc Tryz.prog Tryz.f3.params.toList Rows.spansReadsSpec.vars false W args.toList ds gs before := hW
  obtain ⟨p, q, hA0, hV, rfl, hfz, hnd⟩ := hW
  have hA : DataW.TrodAll enc Tryz.prog W 0 (fun _ => true) true Tryz.f3.params.toList args.toList ds p := hA0
  rw [Tryz.params3] at hA hval hsz
  obtain ⟨v0, vs0, d0, ds0, p0, q0, hargs, rfl, rfl, h0, rr0⟩ := trodAll_cons hA
  obtain ⟨rfl, rfl, rfl⟩ := trodAll_nil rr0
  obtain rfl : args = #[v0] := by cases args; simp_all
  obtain ⟨rfl, rfl⟩ := trodVars_none hV
  have lt0 : ∀ x ∈ p0, x.block < W.heap.size := by obtain ⟨m, hm⟩ := h0; exact DataW.trod_lt m _ _ _ hm
  have kk0 := h0
  obtain ⟨a0, rfl, rfl, rfl, w0⟩ := open_string Tryz.underlying9 (hval 0 9 v0 rfl rfl) h0
  have z0 := size_of_sized (sized_string hsz (j := 0) rfl rfl)
  clear hA0 hval0
  refine (spansReads_true a0 hD (by omega)).mono fun e W' ⟨he, bel⟩ => ?_
  subst he
  exact ⟨_, rfl, _, _, _, [], _, [], hW', trodAll_mk1 (shut_bool Tryz.underlying4 _), (trodAll_cons_mk (Below.trod laidOut (by kernel_rfl) (of_decide_eq_true (by kernel_rfl)) kk0 bel lt0) trodAll_mk0), rfl, bel.frame _, fun h => by cases h⟩

theorem over : Rows.SpansReadsSaid :=
  OpenClaim.holds_of_cond 3 Tryz.f3 rfl rfl rfl rfl rfl rfl rfl ⟨rfl, rfl, rfl, rfl, rfl⟩ rfl rfl rfl rfl rfl (by kernel_rfl) Tryz.func3 (by kernel_rfl)
    (of_decide_eq_true (by kernel_rfl)) (by unfold Func.isWrapper; first | (rw [if_pos (by decide +kernel)]; kernel_rfl) | (rw [if_neg (by decide +kernel)]; exact ⟨rfl, rfl⟩))
    (fun os started H enc _ F => by rw [OpenClaim.pre_eq_preRow]; exact lifted os started H enc F)
/-- no parameter wants a stand-in; the program's own looks are as the card says -/
theorem plain (f : FuncId) (fn : Func) (hf : Tryz.pinned.checked.prog.funcNamed "cooper/cooperlaw03.SpansReads" = some f) (hfn : Tryz.pinned.checked.prog.funcs[f]? = some fn) :
    true = Tryz.pinned.checked.prog.looks [] ∧ ∀ (j : Nat) t, fn.params[j]? = some t → Tryz.pinned.checked.prog.wantsStandIn t = false := by
  obtain rfl : f = 3 := Option.some.inj ((show Tryz.prog.funcNamed "cooper/cooperlaw03.SpansReads" = some 3 by kernel_rfl).symm.trans hf) |>.symm
  obtain rfl : fn = Tryz.f3 := (Option.some.inj (Tryz.func3.symm.trans hfn)).symm
  refine ⟨by kernel_rfl, fun j t ht => ?_⟩
  rw [Tryz.params3] at ht
  have hm : t ∈ [9] := by simpa using Array.mem_of_getElem? ht
  have hall : ([9].all fun u => !Tryz.prog.wantsStandIn u) = true := by kernel_rfl
  exact (show Tryz.prog.wantsStandIn t = false by simpa using List.all_eq_true.1 hall t hm)

theorem proved : Rows.SpansReadsCardSaid :=
  Claim7.holds_tied_plain_at .later [] _ _ _ _ over (fun _ h => by cases h) (by kernel_rfl) (fun _ h => by cases h) spansReads_row_tie rfl ⟨rfl, rfl⟩ (by kernel_rfl) rfl plain (by kernel_rfl)
#print axioms proved
end Go.Proofs.YteailgjiifdgcaaGreatDoor.spansReadsRow
