/- Walks and plain facts. Texts merged: SpansReads. Condition: none beyond what each says. -/
import Derived.Test.YteailgjiifdgcaaGreatDoorSpansReadsAll6
set_option linter.unusedVariables false
set_option linter.unusedSimpArgs false
set_option maxRecDepth 10000
set_option maxHeartbeats 4000000
namespace Go.Proofs.YteailgjiifdgcaaGreatDoor
section
open Go.Shelf Go.RowKit Go.Lib VerN
theorem rd_text {t:ByteArray} (ht:t.size≤1000) (h:Rd3 t):∃ l,tB l=rdV t∧l.length≤2000∧zbh l=t:=by
 by_cases h0:t=⟨#[33]⟩
 ·exact⟨[],by unfold rdV;rw[if_pos h0];rfl,Nat.zero_le _,by rw[h0];decide⟩
 obtain⟨l,hl⟩:=rd_list t (by omega)
 refine⟨l,by unfold rdV;rw[if_neg h0,hl],?_,?_⟩
 ·have h1:(tB l).length=(cutS 44 t).length:=by rw[hl];exact List.length_map _
  have h2:=zcs 44 t.data.toList
  rw[List.length_map,zax] at h1
  rw[Txt.len] at h2
  omega
 rcases h with h | h
 ·exact absurd h h0
 exact h.2 l hl
theorem zfn (t:ByteArray) {w:World} (hD:zbf w) (hz:t.size≤9223372036854775807):Calls Tryz.prog 3 #[.string t] w fun e w'=>e = .returned (.bool true)∧Below w.heap.size w w':=by
 have hF:=fun (W:World) (k:Below w.heap.size w W)=>zjk (hD.below k)
 by_cases hbig:1000 < t.size
 ·have k1:decide ((1000:Int) < (t.size:Int))=true:=decide_eq_true (by omega)
  obtain⟨HF,HD⟩:=hd2 hF hD;clear hF hD
  go_enter Tryz.func3,Tryz.ntmps3
  go_wp2_with fail
  refine (HF.out _ (Below.refl _ _)).mono ?_
  rintro e w1 ⟨rfl,hb1⟩
  have Hb1:=hd hb1;clear hb1
  go_wp2_with fail
  go_ret
  exact⟨rfl,Hb1.out⟩
 have k1:decide ((1000:Int) < (t.size:Int))=false:=decide_eq_false (by omega)
 have ht:t.size≤1000:=by omega
 have hR:Calls Tryz.prog 16 #[.string t] w (zdm t w):=(zil t (by omega) hD).mono fun e w' h=>rdPost_to h
 have hM:=fun (W:World)=>zhq t (by omega) W
 obtain⟨HF,HD,HR,HM⟩:=hd4 hF hD hR hM;clear hF hD hR hM
 go_enter Tryz.func3,Tryz.ntmps3
 go_wp2_with fail
 refine HR.out.mono ?_
 intro e w1 hpost
 obtain⟨hpost,hb1⟩:=hpost
 rcases hpost with⟨v,rfl,h3,hrd⟩ | ⟨v,rfl,h3,hrd⟩
 ·obtain⟨l,hl,hln,htx⟩:=rd_text ht h3
  obtain⟨Hb1,H3,Hrd,Hl,Hln,Htx⟩:=hd6 hb1 h3 hrd hl hln htx;clear hb1 h3 hrd hl hln htx
  go_wp2_with fail
  refine (HM.out _).mono ?_
  intro e w2 hpost
  obtain⟨hpost,hb2⟩:=hpost
  rcases hpost with⟨u,rfl,_,hrd2⟩ | ⟨u,rfl,h4,hrd2⟩
  ·have hbw:=Hb1.out.trans (hb2.mono Hb1.out.size)
   have hrd1:=zap zb7 _ _ _ _ Hrd.out.1 hb2
   obtain⟨Hb2,Hbw,Hrd1,Hrd2⟩:=hd4 hb2 hbw hrd1 hrd2;clear hb2 hbw hrd1 hrd2
   go_wp2_with fail
   refine (HF.out _ Hbw.out).mono ?_
   rintro e w3 ⟨rfl,hb3⟩
   have hbw3:=Hbw.out.trans (hb3.mono Hbw.out.size)
   have hr1:=zap zb7 _ _ _ _ Hrd1.out hb3
   have hS:=zf0 hr1 (zap zb7 _ _ _ _ Hrd2.out.1 hb3)
   rw[decide_eq_true rfl] at hS
   obtain⟨Hb3,Hbw3,HS,Hr1⟩:=hd4 hb3 hbw3 hS hr1;clear hb3 hbw3 hS hr1
   go_wp2_with fail
   refine HS.out.mono ?_
   rintro e w4 ⟨rfl,q,rfl⟩
   have hbq:Below w3.heap.size w3 (w3.drewN q):=zak (Below.refl _ _) q
   have hbw4:=Hbw3.out.trans (hbq.mono Hbw3.out.size)
   have hr2:=zap zb7 _ _ _ _ Hr1.out hbq
   rw[← Hl.out] at hr2
   have hT:=ze3 hr2 (by have:=Hln.out;omega) (HD.out.below hbw4)
   rw[Htx.out] at hT
   have kT:(t.toList == t.toList)=true:=by simp
   obtain⟨w5,hw5⟩ : ∃ W,W=w3.drewN q:=⟨_,rfl⟩
   rw[← hw5] at hT hbw4 ⊢
   obtain⟨HT,Hbw4⟩:=hd2 hT hbw4;clear hT hbw4
   clear hw5 hbq hr2
   go_wp2_with fail
   refine HT.out.mono ?_
   rintro e w6 ⟨rfl,hb6⟩
   have hbw6:=Hbw4.out.trans (hb6.mono Hbw4.out.size)
   obtain⟨Hb6,Hbw6⟩:=hd2 hb6 hbw6;clear hb6 hbw6
   go_wp2_with fail
   go_ret
   exact⟨rfl,Hbw6.out⟩
  exact absurd H3.out h4
 obtain⟨Hb1,H3,Hrd⟩:=hd3 hb1 h3 hrd;clear hb1 h3 hrd
 go_wp2_with fail
 refine (HM.out _).mono ?_
 intro e w2 hpost
 obtain⟨hpost,hb2⟩:=hpost
 rcases hpost with⟨u,rfl,h4,hrd2⟩ | ⟨u,rfl,_,hrd2⟩
 ·exact absurd h4 H3.out
 have hbw:=Hb1.out.trans (hb2.mono Hb1.out.size)
 have hrd1:=zap zb7 _ _ _ _ Hrd.out hb2
 obtain⟨Hb2,Hbw,Hrd1,Hrd2⟩:=hd4 hb2 hbw hrd1 hrd2;clear hb2 hbw hrd1 hrd2
 go_wp2_with fail
 refine (HF.out _ Hbw.out).mono ?_
 rintro e w3 ⟨rfl,hb3⟩
 have hbw3:=Hbw.out.trans (hb3.mono Hbw.out.size)
 have hS:=zf0 (zap zb7 _ _ _ _ Hrd1.out hb3) (zap zb7 _ _ _ _ Hrd2.out hb3)
 rw[decide_eq_true rfl] at hS
 obtain⟨Hb3,Hbw3,HS⟩:=hd3 hb3 hbw3 hS;clear hb3 hbw3 hS
 go_wp2_with fail
 refine HS.out.mono ?_
 rintro e w4 ⟨rfl,q,rfl⟩
 have hbw4:=zak Hbw3.out q
 have Hbw4:=hd hbw4;clear hbw4
 go_wp2_with fail
 go_ret
 exact⟨rfl,Hbw4.out⟩
end
end Go.Proofs.YteailgjiifdgcaaGreatDoor
