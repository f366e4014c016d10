/- Walks and plain facts. Texts merged: LnF, LnR, LnD, RcV, LnA, RqE, RcA, RqF, RqH, LexW, LexB, LexT, LexL, RqI. Condition: none beyond what each says. -/
import Derived.Recover
import Derived.Laws.Pointers
import Derived.Laws.BytesArg
import Derived.Test.YthgibhhbmmkjmaaGreatDoorPrintApartAll11
set_option linter.unusedVariables false
set_option linter.unusedSimpArgs false
set_option maxRecDepth 10000
set_option maxHeartbeats 4000000
namespace Go.Proofs.YthgibhhbmmkjmaaGreatDoor
section
open Go.Shelf Go.RowKit Go.Lib VerN VarM
open LexM (Wd)
attribute [local go_sem ↓] Go.wp_at_zero Go.wp_at_succ
theorem zud {w0 w:World} {r:Nat} {a:Option Addr} {n c:Nat} {fin:Int} {ws:List Wd} {i:Nat} {t:Nat→Nat} {B xb:Nat} {vp vf:Value} {x:RcpM} {line:Int} (C:RdC w0 r a n c fin ws) (S:RdS w0 r a n c fin i w) (hi1:i≤900) (hin:i < n)
  (H:RcSt w t B xb vp vf x) (tr:t r=10) (ta:∀ p,a=some p→p.block≠r∧9 < t p.block) (hBw:B≤w.heap.size) (hps:x.pf.length≤70000) (hf:zag ws i=zco) :
  Calls Tryz.prog 25 #[rp r,.int .i64 line,.pointer (some ⟨xb,0,none⟩)] w (zeb r fin ws i t B xb x line w):=by
 obtain⟨first,hfi⟩ : ∃ s,s=zag ws i:=⟨_,rfl⟩
 rw[← hfi] at hf
 have k0:(first.toList == [112,97,99,107,97,103,101])=false:=by rw[zau first [112,97,99,107,97,103,101] zbh rfl,hf];decide
 have k1:(first.toList == [112,114,101,102,101,114])=true:=by rw[zau first [112,114,101,102,101,114] zco rfl,hf];decide
 have hrw:r < w.heap.size:=(Array.getElem?_eq_some_iff.1 S.box).1
 have hn:=C.len
 have hn1:=C.n1000
 have hlow:=C.low
 have hrt:=zb3 S.box (by decide)
 have hxr:xb≠r:=fun e=>by
  have h1:=H.tbox
  rw[e,tr] at h1
  cases h1
 have hP:=C.peek S
 simp only[← hfi] at hP
 have hwds:∀ W,Frm (fun k=>k=r∨t k≤9) w W→RWds W [.slice a n c] ws:=fun W hF=>zpy (C.wds S) hF (fun p hp hk=>by
  obtain⟨h1,h2⟩:=ta p hp
  rcases hk with hk | hk
  ·exact h1 hk
  omega)
 have hto:∀ W,Frm (fun k=>k=r) w W→RcSt W (zac t w.heap.size 3) B xb vp vf x:=fun W hF=>H.to hF (fun k _ hk=>by subst hk;exact⟨by omega,hrt⟩) (fun k hk _=>za4 hk)
 have ht1:∀ k,k < w.heap.size→zac t w.heap.size 3 k=t k:=fun k hk=>za4 hk
 have hkeep:∀ W,Frm (fun k=>k=r) w W→W.heap[xb]? = some (.cells #[vp,vf] 25 (0,0)):=fun W hF=>zav H.box hF hxr
 obtain⟨m,hm⟩ : ∃ m,m=x.pf.length:=⟨_,rfl⟩
 obtain⟨ra,rc,hrv⟩ : ∃ ra rc,vf = .slice ra m rc:=by
  obtain⟨css,hr⟩:=H.pf
  rw[hm]
  exact zaa hr.row
 subst hrv
 have HBw:=Lib.hid hBw
 have Hrw:=Lib.hid hrw
 obtain⟨HC,HS,HH,Hf,Hfi,HP,Hps,Hto,Ht1,Hrt,Htr,Hta,Hxr,Hkeep,Hwds,Hm⟩:=hd16 C S H hf hfi hP hps hto ht1 hrt tr ta hxr hkeep hwds hm;clear C S H hf hfi hP hps hto ht1 hrt tr ta hxr hkeep hwds hm
 go_enter Tryz.func25,Tryz.ntmps25
 go_wp2_with fail
 refine HP.out.mono ?_
 rintro e w1 ⟨rfl,q1,rfl⟩
 have hb1:=za6 (Below.refl w.heap.size w) q1
 generalize w.drewN q1=w1 at hb1 ⊢
 have hS1:=HS.out.to hb1
 obtain⟨-,x1,-,x3⟩:=zb6 hS1.box
 obtain⟨w2,hw2⟩ : ∃ W,W=w1.setCell ⟨r,1,none⟩ (.int .i64 ((i:Int)+1)):=⟨_,rfl⟩
 have hS2:RdS w0 r a n c fin (i+1) w2:=by rw[hw2];exact hS1.on hlow
 have hfr2:Frm (fun k=>k=r) w w2:=by rw[hw2];exact zae (zb1 (Frm.refl _ _) hb1) 1 _
 have hT:=fun (W:World) (k:Below w2.heap.size w2 W)=>zf4 HC.out (hS2.to k) (by omega) (enters_of Tryz.func47 (by kernel_rfl) rfl) (ok:=zef) (fun s W hs _=>zfm s hs W)
 have hNm:=fun (W:World) (S:RdS w0 r a n c fin (i+1+1) W)=>zou HC.out S (by omega) (enters_of Tryz.func47 (by kernel_rfl) rfl) (ok:=zef) (fun s W hs _=>zfm s hs W)
 unfold zgx at hNm
 obtain⟨s,hs⟩ : ∃ s,s=zag ws (i+1):=⟨_,rfl⟩
 unfold zbw at hT
 simp only[← hs] at hT
 have hg:=za0 (Hkeep.out _ hfr2) 1
 simp only[List.getElem?_toArray,List.getElem?_cons_zero,List.getElem?_cons_succ] at hg
 obtain⟨Hb1,HS1,HS2,Hfr2,HT,HNm,Hs⟩:=hd7 hb1 hS1 hS2 hfr2 hT hNm hs;clear hb1 hS1 hS2 hfr2 hT hNm hs
 go_upto_region 7 with (fail)
 rw[← hw2]
 clear hw2 x1 x3
 have hbd:=Below.drew (Below.refl w2.heap.size w2)
 have hT1:=HT.out _ hbd
 have hSd:w2.drew.cell? ⟨xb,1,none⟩=some (.slice ra m rc):=hg
 have hTr:True:=trivial
 refine wp_region_held_drew (S:=fun _=>True) (by kernel_rfl) trivial (fun hHeld=>?_)
 have hfd:Frm (fun k=>k=r) w w2.drew:=Frm.drew Hfr2.out
 generalize w2.drew=wd at hbd hT1 hfd hSd ⊢
 clear hg
 obtain⟨Hbd,HT1,Hfd⟩:=hd3 hbd hT1 hfd;clear hbd hT1 hfd
 refine wpAnyH_take (i:=0) (v:=?_) rfl (by kernel_rfl) (by kernel_rfl) (by kernel_rfl) (fun _ _ _ h=>h) (Or.inl ⟨by kernel_rfl,?_⟩) (by assumption) ?_
 rotate_left
 ·(intro w hSw;(try dsimp only at hSw);(try obtain⟨⟩:=hSw);go_simp;try with_reducible rfl)
 try simp only[Act.put,lA,lB,lC]
 refine wpAnyH_take (i:=1) (v:=?_) rfl (by kernel_rfl) (by kernel_rfl) (by kernel_rfl) (fun _ _ _ h=>h) (Or.inl ⟨by kernel_rfl,?_⟩) (by assumption) ?_
 rotate_left
 ·(intro w hSw;(try dsimp only at hSw);(try obtain⟨⟩:=hSw);go_simp;try with_reducible rfl)
 try simp only[Act.put,lA,lB,lC]
 refine wpAnyH_take (i:=2) (v:=?_) rfl (by kernel_rfl) (by kernel_rfl) (by kernel_rfl) (fun _ _ _ h=>h) (Or.inl ⟨by kernel_rfl,?_⟩) (by assumption) ?_
 rotate_left
 ·(intro w hSw;(try dsimp only at hSw);(try obtain⟨⟩:=hSw);go_simp;try with_reducible rfl)
 try simp only[Act.put,lA,lB,lC]
 refine wpAnyH_take (i:=3) (v:=?_) rfl (by kernel_rfl) (by kernel_rfl) (by kernel_rfl) (fun _ _ _ h=>h) (Or.inl ⟨by kernel_rfl,?_⟩) (by assumption) ?_
 rotate_left
 ·(intro w hSw;(try dsimp only at hSw);(try obtain⟨⟩:=hSw);go_simp;try with_reducible rfl)
 try simp only[Act.put,lA,lB,lC]
 refine wpAnyH_take (i:=5) (v:=?_) rfl (by kernel_rfl) (by kernel_rfl) (by kernel_rfl) (fun _ _ _ h=>h) (Or.inl ⟨by kernel_rfl,?_⟩) (by assumption) ?_
 rotate_left
 ·(intro w hSw;(try dsimp only at hSw);(try obtain⟨⟩:=hSw);go_simp;try with_reducible rfl)
 try simp only[Act.put,lA,lB,lC]
 refine wpAnyH_take (i:=7) (v:=?_) rfl (by kernel_rfl) (by kernel_rfl) (by kernel_rfl) (fun _ _ _ h=>h) (Or.inl ⟨by kernel_rfl,?_⟩) (by assumption) ?_
 rotate_left
 ·(intro w hSw;(try dsimp only at hSw);(try obtain⟨⟩:=hSw);go_simp;try with_reducible rfl)
 try simp only[Act.put,lA,lB,lC]
 refine wpAnyH_take (i:=9) (v:=?_) rfl (by kernel_rfl) (by kernel_rfl) (by kernel_rfl) (fun _ _ _ h=>h) (Or.inl ⟨by kernel_rfl,?_⟩) (by assumption) ?_
 rotate_left
 ·(intro w hSw;(try dsimp only at hSw);(try obtain⟨⟩:=hSw);go_simp;try with_reducible rfl)
 try simp only[Act.put,lA,lB,lC]
 refine wpAnyH_ready (rs:=[4,6]) (by kernel_rfl) (by simp) ?_
 refine AllReadyH.cons rfl (fun K hK=>?_) (AllReadyH.cons rfl (fun K hK=>?_) AllReadyH.nil)
 ·go_simp
  refine hK.out _ _ trivial (fun hHeld=>?_)
  clear hK K
  try simp only[Act.put,lA,lB,lC]
  refine wpAnyH_ready (rs:=[6]) (by kernel_rfl) (by simp) ?_
  refine AllReadyH.cons rfl (fun K hK=>?_) AllReadyH.nil
  go_simp
  refine HT1.out.mono ?_
  rintro e w3 ⟨⟨hi2,hok,rfl,hbx⟩ | ⟨hno,j,rfl⟩,hfr⟩
  ·have hfr3:Frm (fun k=>k=r) w w3:=Hfd.out.trans hfr (fun _ _ h=>h)
   have hS3:RdS w0 r a n c fin (i+1+1) w3:=zet HS.out hlow hfr3 hbx
   have hNm3:=HNm.out _ hS3
   obtain⟨Hi2,Hok,Hbx,Hfr,Hfr3,HS3,HNm3⟩:=hd7 hi2 hok hbx hfr hfr3 hS3 hNm3;clear hi2 hok hbx hfr hfr3 hS3 hNm3
   go_wp2_with fail
   refine hK.out _ _ trivial (fun hHeld=>?_)
   clear hK K
   try simp only[Act.put,lA,lB,lC]
   refine wpAnyH_ready (rs:=[8]) (by kernel_rfl) (by simp) ?_
   refine AllReadyH.cons rfl (fun K hK=>?_) AllReadyH.nil
   go_simp
   refine HNm3.out.mono ?_
   rintro e w4 ⟨⟨vv,l,hnl,rfl,hown,hbx4⟩ | ⟨hnl,j,rfl⟩,hfr4'⟩
   ·have hfr4:Frm (fun k=>k=r) w w4:=Hfr3.out.trans hfr4' (fun _ _ h=>h)
    have hX4:=Hkeep.out _ hfr4
    obtain⟨la,lc,rfl⟩:=zaa hown
    obtain⟨ln,hln⟩ : ∃ k,k=l.length:=⟨_,rfl⟩
    rw[← hln] at hown ⊢
    have hll:=(zew hnl).symm
    have hlz:∀ x∈l,x.size≤maxLen:=fun x hx=>by
     rw[← hll] at hx
     obtain⟨j,hj,rfl⟩:=List.getElem_of_mem hx
     have hjl:i+1+1+j < ws.length:=by rw[zd3] at hj;omega
     have e:=ze5 hjl
     rw[List.getElem?_eq_getElem hj] at e
     rw[Option.some.inj e]
     have:=HC.out.peek_size (i+1+1+j)
     unfold maxLen
     omega
    have hyesL:¬ ws.length < n→zc4 line (zam ws i) x=some ⟨x.pk,x.pf ++ [(s,l,line)]⟩:=fun hlt=>by
     rw[zad (by omega),← Hfi.out,zfc Hf.out,zcr Hi2.out,if_pos (by rw[← Hs.out];exact Hok.out),hnl,← Hs.out]
     rfl
    have hnoL:ws.length < n→zc4 line (zam ws i) x=none:=fun hlt=>by omega
    obtain⟨Hnl,Hbx4,Hfr4',Hfr4,HX4,Hown,Hln,Hll,Hlz,HyesL,HnoL⟩:=hd11 hnl hbx4 hfr4' hfr4 hX4 hown hln hll hlz hyesL hnoL;clear hnl hbx4 hfr4' hfr4 hX4 hown hln hll hlz hyesL hnoL
    go_wp2_with fail
    refine hK.out _ _ trivial (fun hHeld=>?_)
    clear hK K
    try simp only[Act.put,lA,lB,lC]
    refine wpAnyH_take (i:=10) (v:=?_) rfl (by kernel_rfl) (by kernel_rfl) (by kernel_rfl) (fun _ _ _ h=>h) (Or.inl ⟨by kernel_rfl,?_⟩) (by assumption) ?_
    rotate_left
    ·(intro w hSw;(try dsimp only at hSw);(try obtain⟨⟩:=hSw);go_simp;try with_reducible rfl)
    try simp only[Act.put,lA,lB,lC]
    have H4:=Hto.out _ Hfr4.out
    obtain⟨css,hr⟩:=H4.pf
    have hrow2:w4.ownsRow B 47 3 (.slice ra m rc) m css.flatten:=by
     have h1:=hr.row
     rw[← Hm.out] at h1
     exact h1
    have hne:(Value.slice ra m rc).ownBlock≠some xb:=fun e=>by
     have e1:=hr.tag xb e
     have e2:=H4.tbox
     omega
    have hner:(Value.slice ra m rc).ownBlock≠some r:=fun e=>by
     have e1:=hr.tag r e
     rw[Ht1.out r Hrw.out,Htr.out] at e1
     cases e1
    have hB:B≤w4.heap.size:=Nat.le_trans HBw.out Hfr4.out.size
    have hm7:m≤70000:=by rw[Hm.out];exact Hps.out
    obtain⟨N,hN⟩ : ∃ N,N=css.flatten:=⟨_,rfl⟩
    rw[← hN] at hrow2
    have hels:Ft w4 (Fx w4 (zac t w.heap.size 3)) (fun W'=>RPfM W' [.string s,.slice la ln lc,.int .i64 line] (s,l,line)):=((zm3 (by rw[← Hln.out];exact Hown.out) Hlz.out).mono fun k hk hkv=>.inl (by
     have:=(Hown.out.lt k hkv).1
     have h2:=Hfr3.out.size
     exact zbn (by omega))).imp fun V hV=>⟨_,rfl,hV⟩
    obtain⟨HH4,Hr,Hne,Hner,HN,Hrow2,Hels⟩:=hd7 H4 hr hne hner hN hrow2 hels;clear H4 hr hne hner hN hrow2 hels
    refine wpAnyH_ready (rs:=[11]) (by kernel_rfl) (by simp) ?_
    refine AllReadyH.cons rfl (fun K hK=>?_) AllReadyH.nil
    go_simp
    refine hK.out _ _ trivial (fun hHeld=>?_)
    clear hK K
    try simp only[Act.put,lA,lB,lC]
    refine wpAnyH_ready (rs:=[12]) (by kernel_rfl) (by simp) ?_
    refine AllReadyH.cons rfl (fun K hK=>?_) AllReadyH.nil
    refine zas zie (.tmp 48) (.tmp 55) rfl B (.slice ra m rc) m N rfl Hrow2.out 1 #[.string s,.slice la ln lc,.int .i64 line] rfl rfl (by simp[Value.oneCell']) (by omega) (by unfold maxLen;omega) hB (fun v' w9 hown9 hg9 hm9=>?_)
    obtain⟨a9,c9,rfl⟩:=zaa hown9
    have hx9:w9.heap[xb]? = some (.cells #[vp,.slice ra m rc] 25 (0,0)):=(hg9.block xb (Array.getElem?_eq_some_iff.1 HX4.out).1 (fun e=>Hne.out e.symm)).trans HX4.out
    have d2:=za8 hx9 1
    have d1:=za0 hx9 1
    simp only[List.getElem?_toArray,List.getElem?_cons_zero,List.getElem?_cons_succ] at d1
    have hst9:=HH4.out.pref Hr.out Hels.out (v9:=.slice a9 (m+1) c9) (by rw[← Hm.out,← HN.out];exact hown9) hg9 hm9
    have hbr9:RBox r (.slice a n c) ws.length fin w9:=(hg9.block r (Array.getElem?_eq_some_iff.1 Hbx4.out).1 (fun e=>Hner.out e.symm)).trans Hbx4.out
    have hF8:Frm (fun k=>(Value.slice ra m rc).ownBlock=some k∨k=xb) w4 (w9.setCell ⟨xb,1,none⟩ (.slice a9 (m+1) c9)):=((zap hg9).mono fun _ _ h=>Or.inl h).trans (zae (Frm.refl (fun k=>k=xb) w9) _ _) fun _ _ h=>Or.inr h
    have hF9:Frm (fun k=>k=r∨t k≤9) w (w9.setCell ⟨xb,1,none⟩ (.slice a9 (m+1) c9)) :=
     (Hfr4.out.mono fun _ _ h=>Or.inl h).trans hF8 fun k hk h=>Or.inr (by
      rcases h with h | rfl
      ·have e1:=Hr.out.tag k h
       rw[Ht1.out k hk] at e1
       omega
      have e2:=HH.out.tbox
      omega)
    have ht9:∀ k,k < w.heap.size→9 < t k→zac (zac t w.heap.size 3) w4.heap.size 2 k=t k:=fun k hk h9=>by
     rw[za4 (Nat.lt_of_lt_of_le hk Hfr4.out.size),Ht1.out k hk]
    have hbx9:RBox r (.slice a n c) ws.length fin (w9.setCell ⟨xb,1,none⟩ (.slice a9 (m+1) c9)):=za5 hbr9 (by have:=Hxr.out;omega)
    obtain⟨Hown9,Hg9,Hm9,Hx9,Hst9,Hbr9,HF8,HF9,Ht9,Hbx9⟩:=hd10 hown9 hg9 hm9 hx9 hst9 hbr9 hF8 hF9 ht9 hbx9;clear hown9 hg9 hm9 hx9 hst9 hbr9 hF8 hF9 ht9 hbx9
    refine hK.out _ _ trivial (fun hHeld=>?_)
    clear hK K
    try simp only[Act.put,lA,lB,lC]
    refine wpAnyH_take (i:=13) (v:=?_) rfl (by kernel_rfl) (by kernel_rfl) (by kernel_rfl) (fun _ _ _ h=>h) (Or.inl ⟨by kernel_rfl,?_⟩) (by assumption) ?_
    rotate_left
    ·(intro w hSw;(try dsimp only at hSw);(try obtain⟨⟩:=hSw);go_simp;try with_reducible rfl)
    try simp only[Act.put,lA,lB,lC]
    refine wpAnyH_take (i:=14) (v:=?_) rfl (by kernel_rfl) (by kernel_rfl) (by kernel_rfl) (fun _ _ _ h=>h) (Or.inl ⟨by kernel_rfl,?_⟩) (by assumption) ?_
    rotate_left
    ·(intro w hSw;(try dsimp only at hSw);(try obtain⟨⟩:=hSw);go_simp;try with_reducible rfl)
    try simp only[Act.put,lA,lB,lC]
    refine wpAnyH_ready (rs:=[15]) (by kernel_rfl) (by simp) ?_
    refine AllReadyH.cons rfl (fun K hK=>?_) AllReadyH.nil
    go_simp
    refine hK.out _ _ trivial (fun hHeld=>?_)
    clear hK K
    try simp only[Act.put,lA,lB,lC]
    refine wpAnyH_done (by kernel_rfl) ?_ _
    go_simp
    obtain⟨W9,hW9⟩ : ∃ W,W=w9.setCell ⟨xb,1,none⟩ (.slice a9 (m+1) c9):=⟨_,rfl⟩
    rw[← hW9] at Hst9 HF9 Hbx9 ⊢
    clear hW9
    by_cases hlt:ws.length < n
    ·have hM:=zbi Hbx9.out
     rw[decide_eq_true hlt] at hM
     have HM:=hd hM;clear hM
     go_wp2_with fail
     refine HM.out.mono ?_
     rintro e u1 ⟨rfl,q5,rfl⟩
     have hb5:=za6 (Below.refl W9.heap.size W9) q5
     have hN:=zfe (za1 hb5 Hbx9.out) (Hwds.out _ (zb1 HF9.out hb5))
     generalize W9.drewN q5=u1 at hb5 hN ⊢
     obtain⟨Hb5,HN⟩:=hd2 hb5 hN;clear hb5 hN
     go_wp2_with fail
     refine HN.out.mono ?_
     rintro e u2 ⟨rfl,q6,rfl⟩
     have hb6:=Hb5.out.trans ((za6 (Below.refl u1.heap.size u1) q6).mono Hb5.out.size)
     go_wp2_with fail
     exact⟨rfl,zat (HnoL.out hlt) HF9.out hb6 rfl⟩
    have hM:=zbi Hbx9.out
    rw[decide_eq_false hlt] at hM
    have HM:=hd hM;clear hM
    go_wp2_with fail
    refine HM.out.mono ?_
    rintro e u1 ⟨rfl,q5,rfl⟩
    have hb5:=za6 (Below.refl W9.heap.size W9) q5
    generalize W9.drewN q5=u1 at hb5 ⊢
    have hY:=zc0 u1 r
    obtain⟨Hb5,HY⟩:=hd2 hb5 hY;clear hb5 hY
    go_wp2_with fail
    refine HY.out.mono ?_
    rintro e u2 ⟨rfl,hu2⟩
    subst hu2
    go_wp2_with fail
    go_end0
    exact zbq (HyesL.out hlt) Hst9.out HF9.out Ht9.out Hb5.out rfl
   have hnone:zc4 line (zam ws i) x=none:=by
    rw[zad (by omega),← Hfi.out,zfc Hf.out,zcr Hi2.out,if_pos (by rw[← Hs.out];exact Hok.out),hnl]
    rfl
   have hfrw:Frm (fun k=>k=r∨t k≤9) w w4:=(Hfr3.out.trans hfr4' (fun _ _ h=>h)).mono fun _ _ h=>Or.inl h
   obtain⟨Hnl,Hfr4',Hnone,Hfrw⟩:=hd4 hnl hfr4' hnone hfrw;clear hnl hfr4' hnone hfrw
   go_wp2_with fail
   exact⟨rfl,zat Hnone.out Hfrw.out (Below.refl _ _) rfl⟩
  have hnone:zc4 line (zam ws i) x=none:=by
   rw[zad (by omega),← Hfi.out,zfc Hf.out]
   rcases hno with h | h
   ·rw[zay h]
    rfl
   by_cases hl:i+1 < ws.length
   ·rw[zcr hl,if_neg (by rw[← Hs.out,h];simp)]
    rfl
   rw[zay (by omega)]
   rfl
  have hfrw:Frm (fun k=>k=r∨t k≤9) w w3:=(Hfd.out.trans hfr (fun _ _ h=>h)).mono fun _ _ h=>Or.inl h
  obtain⟨Hno,Hfr,Hnone,Hfrw⟩:=hd4 hno hfr hnone hfrw;clear hno hfr hnone hfrw
  go_wp2_with fail
  exact⟨rfl,zat Hnone.out Hfrw.out (Below.refl _ _) rfl⟩
 go_simp
 refine HT1.out.mono ?_
 rintro e w3 ⟨⟨hi2,hok,rfl,hbx⟩ | ⟨hno,j,rfl⟩,hfr⟩
 ·have hfr3:Frm (fun k=>k=r) w w3:=Hfd.out.trans hfr (fun _ _ h=>h)
  have hS3:RdS w0 r a n c fin (i+1+1) w3:=zet HS.out hlow hfr3 hbx
  have hNm3:=HNm.out _ hS3
  obtain⟨Hi2,Hok,Hbx,Hfr,Hfr3,HS3,HNm3⟩:=hd7 hi2 hok hbx hfr hfr3 hS3 hNm3;clear hi2 hok hbx hfr hfr3 hS3 hNm3
  go_wp2_with fail
  refine hK.out _ _ trivial (fun hHeld=>?_)
  clear hK K
  try simp only[Act.put,lA,lB,lC]
  have hX5:=za0 (Hkeep.out _ Hfr3.out) 1
  simp only[List.getElem?_toArray,List.getElem?_cons_zero,List.getElem?_cons_succ] at hX5
  refine wpAnyH_ready (rs:=[4,8]) (by kernel_rfl) (by simp) ?_
  refine AllReadyH.cons rfl (fun K hK=>?_) (AllReadyH.cons rfl (fun K hK=>?_) AllReadyH.nil)
  ·go_simp
   refine hK.out _ _ trivial (fun hHeld=>?_)
   clear hK K
   try simp only[Act.put,lA,lB,lC]
   clear hX5
   refine wpAnyH_ready (rs:=[8]) (by kernel_rfl) (by simp) ?_
   refine AllReadyH.cons rfl (fun K hK=>?_) AllReadyH.nil
   go_simp
   refine HNm3.out.mono ?_
   rintro e w4 ⟨⟨vv,l,hnl,rfl,hown,hbx4⟩ | ⟨hnl,j,rfl⟩,hfr4'⟩
   ·have hfr4:Frm (fun k=>k=r) w w4:=Hfr3.out.trans hfr4' (fun _ _ h=>h)
    have hX4:=Hkeep.out _ hfr4
    obtain⟨la,lc,rfl⟩:=zaa hown
    obtain⟨ln,hln⟩ : ∃ k,k=l.length:=⟨_,rfl⟩
    rw[← hln] at hown ⊢
    have hll:=(zew hnl).symm
    have hlz:∀ x∈l,x.size≤maxLen:=fun x hx=>by
     rw[← hll] at hx
     obtain⟨j,hj,rfl⟩:=List.getElem_of_mem hx
     have hjl:i+1+1+j < ws.length:=by rw[zd3] at hj;omega
     have e:=ze5 hjl
     rw[List.getElem?_eq_getElem hj] at e
     rw[Option.some.inj e]
     have:=HC.out.peek_size (i+1+1+j)
     unfold maxLen
     omega
    have hyesL:¬ ws.length < n→zc4 line (zam ws i) x=some ⟨x.pk,x.pf ++ [(s,l,line)]⟩:=fun hlt=>by
     rw[zad (by omega),← Hfi.out,zfc Hf.out,zcr Hi2.out,if_pos (by rw[← Hs.out];exact Hok.out),hnl,← Hs.out]
     rfl
    have hnoL:ws.length < n→zc4 line (zam ws i) x=none:=fun hlt=>by omega
    obtain⟨Hnl,Hbx4,Hfr4',Hfr4,HX4,Hown,Hln,Hll,Hlz,HyesL,HnoL⟩:=hd11 hnl hbx4 hfr4' hfr4 hX4 hown hln hll hlz hyesL hnoL;clear hnl hbx4 hfr4' hfr4 hX4 hown hln hll hlz hyesL hnoL
    go_wp2_with fail
    refine hK.out _ _ trivial (fun hHeld=>?_)
    clear hK K
    try simp only[Act.put,lA,lB,lC]
    refine wpAnyH_take (i:=10) (v:=?_) rfl (by kernel_rfl) (by kernel_rfl) (by kernel_rfl) (fun _ _ _ h=>h) (Or.inl ⟨by kernel_rfl,?_⟩) (by assumption) ?_
    rotate_left
    ·(intro w hSw;(try dsimp only at hSw);(try obtain⟨⟩:=hSw);go_simp;try with_reducible rfl)
    try simp only[Act.put,lA,lB,lC]
    have H4:=Hto.out _ Hfr4.out
    obtain⟨css,hr⟩:=H4.pf
    have hrow2:w4.ownsRow B 47 3 (.slice ra m rc) m css.flatten:=by
     have h1:=hr.row
     rw[← Hm.out] at h1
     exact h1
    have hne:(Value.slice ra m rc).ownBlock≠some xb:=fun e=>by
     have e1:=hr.tag xb e
     have e2:=H4.tbox
     omega
    have hner:(Value.slice ra m rc).ownBlock≠some r:=fun e=>by
     have e1:=hr.tag r e
     rw[Ht1.out r Hrw.out,Htr.out] at e1
     cases e1
    have hB:B≤w4.heap.size:=Nat.le_trans HBw.out Hfr4.out.size
    have hm7:m≤70000:=by rw[Hm.out];exact Hps.out
    obtain⟨N,hN⟩ : ∃ N,N=css.flatten:=⟨_,rfl⟩
    rw[← hN] at hrow2
    have hels:Ft w4 (Fx w4 (zac t w.heap.size 3)) (fun W'=>RPfM W' [.string s,.slice la ln lc,.int .i64 line] (s,l,line)):=((zm3 (by rw[← Hln.out];exact Hown.out) Hlz.out).mono fun k hk hkv=>.inl (by
     have:=(Hown.out.lt k hkv).1
     have h2:=Hfr3.out.size
     exact zbn (by omega))).imp fun V hV=>⟨_,rfl,hV⟩
    obtain⟨HH4,Hr,Hne,Hner,HN,Hrow2,Hels⟩:=hd7 H4 hr hne hner hN hrow2 hels;clear H4 hr hne hner hN hrow2 hels
    refine wpAnyH_ready (rs:=[11]) (by kernel_rfl) (by simp) ?_
    refine AllReadyH.cons rfl (fun K hK=>?_) AllReadyH.nil
    go_simp
    refine hK.out _ _ trivial (fun hHeld=>?_)
    clear hK K
    try simp only[Act.put,lA,lB,lC]
    refine wpAnyH_ready (rs:=[12]) (by kernel_rfl) (by simp) ?_
    refine AllReadyH.cons rfl (fun K hK=>?_) AllReadyH.nil
    refine zas zie (.tmp 48) (.tmp 55) rfl B (.slice ra m rc) m N rfl Hrow2.out 1 #[.string s,.slice la ln lc,.int .i64 line] rfl rfl (by simp[Value.oneCell']) (by omega) (by unfold maxLen;omega) hB (fun v' w9 hown9 hg9 hm9=>?_)
    obtain⟨a9,c9,rfl⟩:=zaa hown9
    have hx9:w9.heap[xb]? = some (.cells #[vp,.slice ra m rc] 25 (0,0)):=(hg9.block xb (Array.getElem?_eq_some_iff.1 HX4.out).1 (fun e=>Hne.out e.symm)).trans HX4.out
    have d2:=za8 hx9 1
    have d1:=za0 hx9 1
    simp only[List.getElem?_toArray,List.getElem?_cons_zero,List.getElem?_cons_succ] at d1
    have hst9:=HH4.out.pref Hr.out Hels.out (v9:=.slice a9 (m+1) c9) (by rw[← Hm.out,← HN.out];exact hown9) hg9 hm9
    have hbr9:RBox r (.slice a n c) ws.length fin w9:=(hg9.block r (Array.getElem?_eq_some_iff.1 Hbx4.out).1 (fun e=>Hner.out e.symm)).trans Hbx4.out
    have hF8:Frm (fun k=>(Value.slice ra m rc).ownBlock=some k∨k=xb) w4 (w9.setCell ⟨xb,1,none⟩ (.slice a9 (m+1) c9)):=((zap hg9).mono fun _ _ h=>Or.inl h).trans (zae (Frm.refl (fun k=>k=xb) w9) _ _) fun _ _ h=>Or.inr h
    have hF9:Frm (fun k=>k=r∨t k≤9) w (w9.setCell ⟨xb,1,none⟩ (.slice a9 (m+1) c9)) :=
     (Hfr4.out.mono fun _ _ h=>Or.inl h).trans hF8 fun k hk h=>Or.inr (by
      rcases h with h | rfl
      ·have e1:=Hr.out.tag k h
       rw[Ht1.out k hk] at e1
       omega
      have e2:=HH.out.tbox
      omega)
    have ht9:∀ k,k < w.heap.size→9 < t k→zac (zac t w.heap.size 3) w4.heap.size 2 k=t k:=fun k hk h9=>by
     rw[za4 (Nat.lt_of_lt_of_le hk Hfr4.out.size),Ht1.out k hk]
    have hbx9:RBox r (.slice a n c) ws.length fin (w9.setCell ⟨xb,1,none⟩ (.slice a9 (m+1) c9)):=za5 hbr9 (by have:=Hxr.out;omega)
    obtain⟨Hown9,Hg9,Hm9,Hx9,Hst9,Hbr9,HF8,HF9,Ht9,Hbx9⟩:=hd10 hown9 hg9 hm9 hx9 hst9 hbr9 hF8 hF9 ht9 hbx9;clear hown9 hg9 hm9 hx9 hst9 hbr9 hF8 hF9 ht9 hbx9
    refine hK.out _ _ trivial (fun hHeld=>?_)
    clear hK K
    try simp only[Act.put,lA,lB,lC]
    refine wpAnyH_take (i:=13) (v:=?_) rfl (by kernel_rfl) (by kernel_rfl) (by kernel_rfl) (fun _ _ _ h=>h) (Or.inl ⟨by kernel_rfl,?_⟩) (by assumption) ?_
    rotate_left
    ·(intro w hSw;(try dsimp only at hSw);(try obtain⟨⟩:=hSw);go_simp;try with_reducible rfl)
    try simp only[Act.put,lA,lB,lC]
    refine wpAnyH_take (i:=14) (v:=?_) rfl (by kernel_rfl) (by kernel_rfl) (by kernel_rfl) (fun _ _ _ h=>h) (Or.inl ⟨by kernel_rfl,?_⟩) (by assumption) ?_
    rotate_left
    ·(intro w hSw;(try dsimp only at hSw);(try obtain⟨⟩:=hSw);go_simp;try with_reducible rfl)
    try simp only[Act.put,lA,lB,lC]
    refine wpAnyH_ready (rs:=[15]) (by kernel_rfl) (by simp) ?_
    refine AllReadyH.cons rfl (fun K hK=>?_) AllReadyH.nil
    go_simp
    refine hK.out _ _ trivial (fun hHeld=>?_)
    clear hK K
    try simp only[Act.put,lA,lB,lC]
    refine wpAnyH_done (by kernel_rfl) ?_ _
    go_simp
    obtain⟨W9,hW9⟩ : ∃ W,W=w9.setCell ⟨xb,1,none⟩ (.slice a9 (m+1) c9):=⟨_,rfl⟩
    rw[← hW9] at Hst9 HF9 Hbx9 ⊢
    clear hW9
    by_cases hlt:ws.length < n
    ·have hM:=zbi Hbx9.out
     rw[decide_eq_true hlt] at hM
     have HM:=hd hM;clear hM
     go_wp2_with fail
     refine HM.out.mono ?_
     rintro e u1 ⟨rfl,q5,rfl⟩
     have hb5:=za6 (Below.refl W9.heap.size W9) q5
     have hN:=zfe (za1 hb5 Hbx9.out) (Hwds.out _ (zb1 HF9.out hb5))
     generalize W9.drewN q5=u1 at hb5 hN ⊢
     obtain⟨Hb5,HN⟩:=hd2 hb5 hN;clear hb5 hN
     go_wp2_with fail
     refine HN.out.mono ?_
     rintro e u2 ⟨rfl,q6,rfl⟩
     have hb6:=Hb5.out.trans ((za6 (Below.refl u1.heap.size u1) q6).mono Hb5.out.size)
     go_wp2_with fail
     exact⟨rfl,zat (HnoL.out hlt) HF9.out hb6 rfl⟩
    have hM:=zbi Hbx9.out
    rw[decide_eq_false hlt] at hM
    have HM:=hd hM;clear hM
    go_wp2_with fail
    refine HM.out.mono ?_
    rintro e u1 ⟨rfl,q5,rfl⟩
    have hb5:=za6 (Below.refl W9.heap.size W9) q5
    generalize W9.drewN q5=u1 at hb5 ⊢
    have hY:=zc0 u1 r
    obtain⟨Hb5,HY⟩:=hd2 hb5 hY;clear hb5 hY
    go_wp2_with fail
    refine HY.out.mono ?_
    rintro e u2 ⟨rfl,hu2⟩
    subst hu2
    go_wp2_with fail
    go_end0
    exact zbq (HyesL.out hlt) Hst9.out HF9.out Ht9.out Hb5.out rfl
   have hnone:zc4 line (zam ws i) x=none:=by
    rw[zad (by omega),← Hfi.out,zfc Hf.out,zcr Hi2.out,if_pos (by rw[← Hs.out];exact Hok.out),hnl]
    rfl
   have hfrw:Frm (fun k=>k=r∨t k≤9) w w4:=(Hfr3.out.trans hfr4' (fun _ _ h=>h)).mono fun _ _ h=>Or.inl h
   obtain⟨Hnl,Hfr4',Hnone,Hfrw⟩:=hd4 hnl hfr4' hnone hfrw;clear hnl hfr4' hnone hfrw
   go_wp2_with fail
   exact⟨rfl,zat Hnone.out Hfrw.out (Below.refl _ _) rfl⟩
  clear hX5
  go_simp
  refine HNm3.out.mono ?_
  rintro e w4 ⟨⟨vv,l,hnl,rfl,hown,hbx4⟩ | ⟨hnl,j,rfl⟩,hfr4'⟩
  ·have hfr4:Frm (fun k=>k=r) w w4:=Hfr3.out.trans hfr4' (fun _ _ h=>h)
   have hX4:=Hkeep.out _ hfr4
   obtain⟨la,lc,rfl⟩:=zaa hown
   obtain⟨ln,hln⟩ : ∃ k,k=l.length:=⟨_,rfl⟩
   rw[← hln] at hown ⊢
   have hll:=(zew hnl).symm
   have hlz:∀ x∈l,x.size≤maxLen:=fun x hx=>by
    rw[← hll] at hx
    obtain⟨j,hj,rfl⟩:=List.getElem_of_mem hx
    have hjl:i+1+1+j < ws.length:=by rw[zd3] at hj;omega
    have e:=ze5 hjl
    rw[List.getElem?_eq_getElem hj] at e
    rw[Option.some.inj e]
    have:=HC.out.peek_size (i+1+1+j)
    unfold maxLen
    omega
   have hyesL:¬ ws.length < n→zc4 line (zam ws i) x=some ⟨x.pk,x.pf ++ [(s,l,line)]⟩:=fun hlt=>by
    rw[zad (by omega),← Hfi.out,zfc Hf.out,zcr Hi2.out,if_pos (by rw[← Hs.out];exact Hok.out),hnl,← Hs.out]
    rfl
   have hnoL:ws.length < n→zc4 line (zam ws i) x=none:=fun hlt=>by omega
   obtain⟨Hnl,Hbx4,Hfr4',Hfr4,HX4,Hown,Hln,Hll,Hlz,HyesL,HnoL⟩:=hd11 hnl hbx4 hfr4' hfr4 hX4 hown hln hll hlz hyesL hnoL;clear hnl hbx4 hfr4' hfr4 hX4 hown hln hll hlz hyesL hnoL
   go_wp2_with fail
   refine hK.out _ _ trivial (fun hHeld=>?_)
   clear hK K
   try simp only[Act.put,lA,lB,lC]
   refine wpAnyH_take (i:=10) (v:=?_) rfl (by kernel_rfl) (by kernel_rfl) (by kernel_rfl) (fun _ _ _ h=>h) (Or.inl ⟨by kernel_rfl,?_⟩) (by assumption) ?_
   rotate_left
   ·(intro w hSw;(try dsimp only at hSw);(try obtain⟨⟩:=hSw);go_simp;try with_reducible rfl)
   try simp only[Act.put,lA,lB,lC]
   have H4:=Hto.out _ Hfr4.out
   obtain⟨css,hr⟩:=H4.pf
   have hrow2:w4.ownsRow B 47 3 (.slice ra m rc) m css.flatten:=by
    have h1:=hr.row
    rw[← Hm.out] at h1
    exact h1
   have hne:(Value.slice ra m rc).ownBlock≠some xb:=fun e=>by
    have e1:=hr.tag xb e
    have e2:=H4.tbox
    omega
   have hner:(Value.slice ra m rc).ownBlock≠some r:=fun e=>by
    have e1:=hr.tag r e
    rw[Ht1.out r Hrw.out,Htr.out] at e1
    cases e1
   have hB:B≤w4.heap.size:=Nat.le_trans HBw.out Hfr4.out.size
   have hm7:m≤70000:=by rw[Hm.out];exact Hps.out
   obtain⟨N,hN⟩ : ∃ N,N=css.flatten:=⟨_,rfl⟩
   rw[← hN] at hrow2
   have hels:Ft w4 (Fx w4 (zac t w.heap.size 3)) (fun W'=>RPfM W' [.string s,.slice la ln lc,.int .i64 line] (s,l,line)):=((zm3 (by rw[← Hln.out];exact Hown.out) Hlz.out).mono fun k hk hkv=>.inl (by
    have:=(Hown.out.lt k hkv).1
    have h2:=Hfr3.out.size
    exact zbn (by omega))).imp fun V hV=>⟨_,rfl,hV⟩
   obtain⟨HH4,Hr,Hne,Hner,HN,Hrow2,Hels⟩:=hd7 H4 hr hne hner hN hrow2 hels;clear H4 hr hne hner hN hrow2 hels
   have hX6:=za0 (Hkeep.out _ Hfr4.out) 1
   simp only[List.getElem?_toArray,List.getElem?_cons_zero,List.getElem?_cons_succ] at hX6
   refine wpAnyH_ready (rs:=[4,11]) (by kernel_rfl) (by simp) ?_
   refine AllReadyH.cons rfl (fun K hK=>?_) (AllReadyH.cons rfl (fun K hK=>?_) AllReadyH.nil)
   ·go_simp
    refine hK.out _ _ trivial (fun hHeld=>?_)
    clear hK K
    try simp only[Act.put,lA,lB,lC]
    clear hX6
    refine wpAnyH_ready (rs:=[11]) (by kernel_rfl) (by simp) ?_
    refine AllReadyH.cons rfl (fun K hK=>?_) AllReadyH.nil
    go_simp
    refine hK.out _ _ trivial (fun hHeld=>?_)
    clear hK K
    try simp only[Act.put,lA,lB,lC]
    refine wpAnyH_ready (rs:=[12]) (by kernel_rfl) (by simp) ?_
    refine AllReadyH.cons rfl (fun K hK=>?_) AllReadyH.nil
    refine zas zie (.tmp 48) (.tmp 55) rfl B (.slice ra m rc) m N rfl Hrow2.out 1 #[.string s,.slice la ln lc,.int .i64 line] rfl rfl (by simp[Value.oneCell']) (by omega) (by unfold maxLen;omega) hB (fun v' w9 hown9 hg9 hm9=>?_)
    obtain⟨a9,c9,rfl⟩:=zaa hown9
    have hx9:w9.heap[xb]? = some (.cells #[vp,.slice ra m rc] 25 (0,0)):=(hg9.block xb (Array.getElem?_eq_some_iff.1 HX4.out).1 (fun e=>Hne.out e.symm)).trans HX4.out
    have d2:=za8 hx9 1
    have d1:=za0 hx9 1
    simp only[List.getElem?_toArray,List.getElem?_cons_zero,List.getElem?_cons_succ] at d1
    have hst9:=HH4.out.pref Hr.out Hels.out (v9:=.slice a9 (m+1) c9) (by rw[← Hm.out,← HN.out];exact hown9) hg9 hm9
    have hbr9:RBox r (.slice a n c) ws.length fin w9:=(hg9.block r (Array.getElem?_eq_some_iff.1 Hbx4.out).1 (fun e=>Hner.out e.symm)).trans Hbx4.out
    have hF8:Frm (fun k=>(Value.slice ra m rc).ownBlock=some k∨k=xb) w4 (w9.setCell ⟨xb,1,none⟩ (.slice a9 (m+1) c9)):=((zap hg9).mono fun _ _ h=>Or.inl h).trans (zae (Frm.refl (fun k=>k=xb) w9) _ _) fun _ _ h=>Or.inr h
    have hF9:Frm (fun k=>k=r∨t k≤9) w (w9.setCell ⟨xb,1,none⟩ (.slice a9 (m+1) c9)) :=
     (Hfr4.out.mono fun _ _ h=>Or.inl h).trans hF8 fun k hk h=>Or.inr (by
      rcases h with h | rfl
      ·have e1:=Hr.out.tag k h
       rw[Ht1.out k hk] at e1
       omega
      have e2:=HH.out.tbox
      omega)
    have ht9:∀ k,k < w.heap.size→9 < t k→zac (zac t w.heap.size 3) w4.heap.size 2 k=t k:=fun k hk h9=>by
     rw[za4 (Nat.lt_of_lt_of_le hk Hfr4.out.size),Ht1.out k hk]
    have hbx9:RBox r (.slice a n c) ws.length fin (w9.setCell ⟨xb,1,none⟩ (.slice a9 (m+1) c9)):=za5 hbr9 (by have:=Hxr.out;omega)
    obtain⟨Hown9,Hg9,Hm9,Hx9,Hst9,Hbr9,HF8,HF9,Ht9,Hbx9⟩:=hd10 hown9 hg9 hm9 hx9 hst9 hbr9 hF8 hF9 ht9 hbx9;clear hown9 hg9 hm9 hx9 hst9 hbr9 hF8 hF9 ht9 hbx9
    refine hK.out _ _ trivial (fun hHeld=>?_)
    clear hK K
    try simp only[Act.put,lA,lB,lC]
    refine wpAnyH_take (i:=13) (v:=?_) rfl (by kernel_rfl) (by kernel_rfl) (by kernel_rfl) (fun _ _ _ h=>h) (Or.inl ⟨by kernel_rfl,?_⟩) (by assumption) ?_
    rotate_left
    ·(intro w hSw;(try dsimp only at hSw);(try obtain⟨⟩:=hSw);go_simp;try with_reducible rfl)
    try simp only[Act.put,lA,lB,lC]
    refine wpAnyH_take (i:=14) (v:=?_) rfl (by kernel_rfl) (by kernel_rfl) (by kernel_rfl) (fun _ _ _ h=>h) (Or.inl ⟨by kernel_rfl,?_⟩) (by assumption) ?_
    rotate_left
    ·(intro w hSw;(try dsimp only at hSw);(try obtain⟨⟩:=hSw);go_simp;try with_reducible rfl)
    try simp only[Act.put,lA,lB,lC]
    refine wpAnyH_ready (rs:=[15]) (by kernel_rfl) (by simp) ?_
    refine AllReadyH.cons rfl (fun K hK=>?_) AllReadyH.nil
    go_simp
    refine hK.out _ _ trivial (fun hHeld=>?_)
    clear hK K
    try simp only[Act.put,lA,lB,lC]
    refine wpAnyH_done (by kernel_rfl) ?_ _
    go_simp
    obtain⟨W9,hW9⟩ : ∃ W,W=w9.setCell ⟨xb,1,none⟩ (.slice a9 (m+1) c9):=⟨_,rfl⟩
    rw[← hW9] at Hst9 HF9 Hbx9 ⊢
    clear hW9
    by_cases hlt:ws.length < n
    ·have hM:=zbi Hbx9.out
     rw[decide_eq_true hlt] at hM
     have HM:=hd hM;clear hM
     go_wp2_with fail
     refine HM.out.mono ?_
     rintro e u1 ⟨rfl,q5,rfl⟩
     have hb5:=za6 (Below.refl W9.heap.size W9) q5
     have hN:=zfe (za1 hb5 Hbx9.out) (Hwds.out _ (zb1 HF9.out hb5))
     generalize W9.drewN q5=u1 at hb5 hN ⊢
     obtain⟨Hb5,HN⟩:=hd2 hb5 hN;clear hb5 hN
     go_wp2_with fail
     refine HN.out.mono ?_
     rintro e u2 ⟨rfl,q6,rfl⟩
     have hb6:=Hb5.out.trans ((za6 (Below.refl u1.heap.size u1) q6).mono Hb5.out.size)
     go_wp2_with fail
     exact⟨rfl,zat (HnoL.out hlt) HF9.out hb6 rfl⟩
    have hM:=zbi Hbx9.out
    rw[decide_eq_false hlt] at hM
    have HM:=hd hM;clear hM
    go_wp2_with fail
    refine HM.out.mono ?_
    rintro e u1 ⟨rfl,q5,rfl⟩
    have hb5:=za6 (Below.refl W9.heap.size W9) q5
    generalize W9.drewN q5=u1 at hb5 ⊢
    have hY:=zc0 u1 r
    obtain⟨Hb5,HY⟩:=hd2 hb5 hY;clear hb5 hY
    go_wp2_with fail
    refine HY.out.mono ?_
    rintro e u2 ⟨rfl,hu2⟩
    subst hu2
    go_wp2_with fail
    go_end0
    exact zbq (HyesL.out hlt) Hst9.out HF9.out Ht9.out Hb5.out rfl
   go_simp
   refine hK.out _ _ trivial (fun hHeld=>?_)
   clear hK K
   try simp only[Act.put,lA,lB,lC]
   clear hX6
   have hX7:=za0 ((Frm.refl (fun _=>False) w4).alloc (.cells #[.string s,.slice la ln lc,.int .i64 line] 47) |> fun h=>zav (Hkeep.out _ Hfr4.out) h (fun h=>h)) 1
   simp only[List.getElem?_toArray,List.getElem?_cons_zero,List.getElem?_cons_succ] at hX7
   refine wpAnyH_ready (rs:=[4]) (by kernel_rfl) (by simp) ?_
   refine AllReadyH.cons rfl (fun K hK=>?_) AllReadyH.nil
   go_simp
   refine hK.out _ _ trivial (fun hHeld=>?_)
   clear hK K
   try simp only[Act.put,lA,lB,lC]
   clear hX7
   refine wpAnyH_ready (rs:=[12]) (by kernel_rfl) (by simp) ?_
   refine AllReadyH.cons rfl (fun K hK=>?_) AllReadyH.nil
   refine zas zie (.tmp 48) (.tmp 55) rfl B (.slice ra m rc) m N rfl Hrow2.out 1 #[.string s,.slice la ln lc,.int .i64 line] rfl rfl (by simp[Value.oneCell']) (by omega) (by unfold maxLen;omega) hB (fun v' w9 hown9 hg9 hm9=>?_)
   obtain⟨a9,c9,rfl⟩:=zaa hown9
   have hx9:w9.heap[xb]? = some (.cells #[vp,.slice ra m rc] 25 (0,0)):=(hg9.block xb (Array.getElem?_eq_some_iff.1 HX4.out).1 (fun e=>Hne.out e.symm)).trans HX4.out
   have d2:=za8 hx9 1
   have d1:=za0 hx9 1
   simp only[List.getElem?_toArray,List.getElem?_cons_zero,List.getElem?_cons_succ] at d1
   have hst9:=HH4.out.pref Hr.out Hels.out (v9:=.slice a9 (m+1) c9) (by rw[← Hm.out,← HN.out];exact hown9) hg9 hm9
   have hbr9:RBox r (.slice a n c) ws.length fin w9:=(hg9.block r (Array.getElem?_eq_some_iff.1 Hbx4.out).1 (fun e=>Hner.out e.symm)).trans Hbx4.out
   have hF8:Frm (fun k=>(Value.slice ra m rc).ownBlock=some k∨k=xb) w4 (w9.setCell ⟨xb,1,none⟩ (.slice a9 (m+1) c9)):=((zap hg9).mono fun _ _ h=>Or.inl h).trans (zae (Frm.refl (fun k=>k=xb) w9) _ _) fun _ _ h=>Or.inr h
   have hF9:Frm (fun k=>k=r∨t k≤9) w (w9.setCell ⟨xb,1,none⟩ (.slice a9 (m+1) c9)) :=
    (Hfr4.out.mono fun _ _ h=>Or.inl h).trans hF8 fun k hk h=>Or.inr (by
     rcases h with h | rfl
     ·have e1:=Hr.out.tag k h
      rw[Ht1.out k hk] at e1
      omega
     have e2:=HH.out.tbox
     omega)
   have ht9:∀ k,k < w.heap.size→9 < t k→zac (zac t w.heap.size 3) w4.heap.size 2 k=t k:=fun k hk h9=>by
    rw[za4 (Nat.lt_of_lt_of_le hk Hfr4.out.size),Ht1.out k hk]
   have hbx9:RBox r (.slice a n c) ws.length fin (w9.setCell ⟨xb,1,none⟩ (.slice a9 (m+1) c9)):=za5 hbr9 (by have:=Hxr.out;omega)
   obtain⟨Hown9,Hg9,Hm9,Hx9,Hst9,Hbr9,HF8,HF9,Ht9,Hbx9⟩:=hd10 hown9 hg9 hm9 hx9 hst9 hbr9 hF8 hF9 ht9 hbx9;clear hown9 hg9 hm9 hx9 hst9 hbr9 hF8 hF9 ht9 hbx9
   refine hK.out _ _ trivial (fun hHeld=>?_)
   clear hK K
   try simp only[Act.put,lA,lB,lC]
   refine wpAnyH_take (i:=13) (v:=?_) rfl (by kernel_rfl) (by kernel_rfl) (by kernel_rfl) (fun _ _ _ h=>h) (Or.inl ⟨by kernel_rfl,?_⟩) (by assumption) ?_
   rotate_left
   ·(intro w hSw;(try dsimp only at hSw);(try obtain⟨⟩:=hSw);go_simp;try with_reducible rfl)
   try simp only[Act.put,lA,lB,lC]
   refine wpAnyH_take (i:=14) (v:=?_) rfl (by kernel_rfl) (by kernel_rfl) (by kernel_rfl) (fun _ _ _ h=>h) (Or.inl ⟨by kernel_rfl,?_⟩) (by assumption) ?_
   rotate_left
   ·(intro w hSw;(try dsimp only at hSw);(try obtain⟨⟩:=hSw);go_simp;try with_reducible rfl)
   try simp only[Act.put,lA,lB,lC]
   refine wpAnyH_ready (rs:=[15]) (by kernel_rfl) (by simp) ?_
   refine AllReadyH.cons rfl (fun K hK=>?_) AllReadyH.nil
   go_simp
   refine hK.out _ _ trivial (fun hHeld=>?_)
   clear hK K
   try simp only[Act.put,lA,lB,lC]
   refine wpAnyH_done (by kernel_rfl) ?_ _
   go_simp
   obtain⟨W9,hW9⟩ : ∃ W,W=w9.setCell ⟨xb,1,none⟩ (.slice a9 (m+1) c9):=⟨_,rfl⟩
   rw[← hW9] at Hst9 HF9 Hbx9 ⊢
   clear hW9
   by_cases hlt:ws.length < n
   ·have hM:=zbi Hbx9.out
    rw[decide_eq_true hlt] at hM
    have HM:=hd hM;clear hM
    go_wp2_with fail
    refine HM.out.mono ?_
    rintro e u1 ⟨rfl,q5,rfl⟩
    have hb5:=za6 (Below.refl W9.heap.size W9) q5
    have hN:=zfe (za1 hb5 Hbx9.out) (Hwds.out _ (zb1 HF9.out hb5))
    generalize W9.drewN q5=u1 at hb5 hN ⊢
    obtain⟨Hb5,HN⟩:=hd2 hb5 hN;clear hb5 hN
    go_wp2_with fail
    refine HN.out.mono ?_
    rintro e u2 ⟨rfl,q6,rfl⟩
    have hb6:=Hb5.out.trans ((za6 (Below.refl u1.heap.size u1) q6).mono Hb5.out.size)
    go_wp2_with fail
    exact⟨rfl,zat (HnoL.out hlt) HF9.out hb6 rfl⟩
   have hM:=zbi Hbx9.out
   rw[decide_eq_false hlt] at hM
   have HM:=hd hM;clear hM
   go_wp2_with fail
   refine HM.out.mono ?_
   rintro e u1 ⟨rfl,q5,rfl⟩
   have hb5:=za6 (Below.refl W9.heap.size W9) q5
   generalize W9.drewN q5=u1 at hb5 ⊢
   have hY:=zc0 u1 r
   obtain⟨Hb5,HY⟩:=hd2 hb5 hY;clear hb5 hY
   go_wp2_with fail
   refine HY.out.mono ?_
   rintro e u2 ⟨rfl,hu2⟩
   subst hu2
   go_wp2_with fail
   go_end0
   exact zbq (HyesL.out hlt) Hst9.out HF9.out Ht9.out Hb5.out rfl
  have hnone:zc4 line (zam ws i) x=none:=by
   rw[zad (by omega),← Hfi.out,zfc Hf.out,zcr Hi2.out,if_pos (by rw[← Hs.out];exact Hok.out),hnl]
   rfl
  have hfrw:Frm (fun k=>k=r∨t k≤9) w w4:=(Hfr3.out.trans hfr4' (fun _ _ h=>h)).mono fun _ _ h=>Or.inl h
  obtain⟨Hnl,Hfr4',Hnone,Hfrw⟩:=hd4 hnl hfr4' hnone hfrw;clear hnl hfr4' hnone hfrw
  go_wp2_with fail
  exact⟨rfl,zat Hnone.out Hfrw.out (Below.refl _ _) rfl⟩
 have hnone:zc4 line (zam ws i) x=none:=by
  rw[zad (by omega),← Hfi.out,zfc Hf.out]
  rcases hno with h | h
  ·rw[zay h]
   rfl
  by_cases hl:i+1 < ws.length
  ·rw[zcr hl,if_neg (by rw[← Hs.out,h];simp)]
   rfl
  rw[zay (by omega)]
  rfl
 have hfrw:Frm (fun k=>k=r∨t k≤9) w w3:=(Hfd.out.trans hfr (fun _ _ h=>h)).mono fun _ _ h=>Or.inl h
 obtain⟨Hno,Hfr,Hnone,Hfrw⟩:=hd4 hno hfr hnone hfrw;clear hno hfr hnone hfrw
 go_wp2_with fail
 exact⟨rfl,zat Hnone.out Hfrw.out (Below.refl _ _) rfl⟩
end

section
open Go.Shelf Go.RowKit Go.Lib VerN VarM
open LexM (Wd)
attribute [local go_sem ↓] Go.wp_at_zero Go.wp_at_succ
theorem zub {w0 w:World} {r:Nat} {a:Option Addr} {n c:Nat} {fin:Int} {ws:List Wd} {i:Nat} {t:Nat→Nat} {B xb:Nat} {vp vf:Value} {x:RcpM} {line:Int} (C:RdC w0 r a n c fin ws) (S:RdS w0 r a n c fin i w) (hi1:i≤900) (hin:i < n)
  (H:RcSt w t B xb vp vf x) (tr:t r=10) (ta:∀ p,a=some p→p.block≠r∧9 < t p.block) (hBw:B≤w.heap.size) {ps:List PkgM} {p:PkgM} (hx:x.pk=ps ++ [p]) (hp:FewP p) (hps:ps.length≤70000) (hbl:zdu (zag ws i)=true) :
  Calls Tryz.prog 25 #[rp r,.int .i64 line,.pointer (some ⟨xb,0,none⟩)] w (zeb r fin ws i t B xb x line w):=by
 obtain⟨first,hfi⟩ : ∃ s,s=zag ws i:=⟨_,rfl⟩
 rw[← hfi] at hbl
 have hf1:first≠zbh:=fun e=>by rw[e] at hbl;exact absurd hbl (by decide)
 have hf2:first≠zco:=fun e=>by rw[e] at hbl;exact absurd hbl (by decide)
 have k8:(first.toList == [112,97,99,107,97,103,101])=false:=by rw[zau first [112,97,99,107,97,103,101] zbh rfl];exact decide_eq_false hf1
 have k9:(first.toList == [112,114,101,102,101,114])=false:=by rw[zau first [112,114,101,102,101,114] zco rfl];exact decide_eq_false hf2
 have hrw:r < w.heap.size:=(Array.getElem?_eq_some_iff.1 S.box).1
 have hn:=C.len
 have hn1:=C.n1000
 have hlow:=C.low
 have hrt:=zb3 S.box (by decide)
 have hxr:xb≠r:=fun e=>by
  have h1:=H.tbox
  rw[e,tr] at h1
  cases h1
 have hP:=C.peek S
 simp only[← hfi] at hP
 have hwds:∀ W,Frm (fun k=>k=r∨t k≤9) w W→RWds W [.slice a n c] ws:=fun W hF=>zpy (C.wds S) hF (fun p hp hk=>by
  obtain⟨h1,h2⟩:=ta p hp
  rcases hk with hk | hk
  ·exact h1 hk
  omega)
 have hto:∀ W,Frm (fun k=>k=r) w W→RcSt W (zac t w.heap.size 10) B xb vp vf x:=fun W hF=>H.to hF (fun k _ hk=>by subst hk;exact⟨by omega,hrt⟩) (fun k hk _=>za4 hk)
 have ht1:∀ k,k < w.heap.size→zac t w.heap.size 10 k=t k:=fun k hk=>za4 hk
 have hkeep:∀ W,Frm (fun k=>k=r) w W→W.heap[xb]? = some (.cells #[vp,vf] 25 (0,0)):=fun W hF=>zav H.box hF hxr
 obtain⟨m,hm⟩ : ∃ m,m=ps.length:=⟨_,rfl⟩
 obtain⟨n2,hn2⟩ : ∃ n2,n2=ps.length+1:=⟨_,rfl⟩
 obtain⟨pb,rc,hrv⟩ : ∃ pb rc,vp = .slice (some ⟨pb,0,none⟩) (ps.length+1) rc:=by
  rcases H.pk with⟨h1,_⟩ | ⟨ps',p',dss,v2,v3,v4,v5,v6,v7,h1,L⟩
  ·rw[hx] at h1
   simp at h1
  rw[hx] at h1
  have e1:=List.append_inj_left' h1 rfl
  subst e1
  obtain⟨g,cap',hv,_⟩:=zcs L.row (by omega)
  exact⟨g,cap',hv⟩
 subst hrv
 have hrcap:ps.length+1≤rc:=by
  rcases H.pk with⟨h1,_⟩ | ⟨ps',p',dss,v2,v3,v4,v5,v6,v7,h1,L⟩
  ·rw[hx] at h1
   simp at h1
  rw[hx] at h1
  have e1:=List.append_inj_left' h1 rfl
  subst e1
  obtain⟨g,cap',hv,hcap,_⟩:=zcs L.row (by omega)
  cases hv
  omega
 have hRs:=fun (W:World) (hF:Frm (fun k=>k=r) w W) (hS:RdS w0 r a n c fin (i+1) W)=>rest_any (line:=line) C hS (by omega) (hto W hF) hx ((ht1 r hrw).trans tr) (Nat.le_trans hBw hF.size) hp hps hbl
 unfold ze4 at hRs
 simp only[← hn2] at hRs hkeep hrcap
 simp only[← hm] at hRs
 have k1:((n2:Int) - 1)=((m:Nat):Int):=by omega
 have k2:(0:Int)≤((m:Nat):Int):=by omega
 have k3:((m:Nat):Int) < (n2:Int):=by omega
 have k4:(0:Int) < (n2:Int):=by omega
 have hB:=zl4 first
 rw[hbl] at hB
 have HBw:=Lib.hid hBw
 have Hrw:=Lib.hid hrw
 obtain⟨HC,HS,HH,Hf1,Hf2,Hfi,HP,Hx,Hp,Hbl,Hto,Ht1,Hrt,Htr,Hta,Hxr⟩:=hd16 C S H hf1 hf2 hfi hP hx hp hbl hto ht1 hrt tr ta hxr;obtain⟨Hkeep,Hwds,HRs,HB,Hm,Hn2⟩:=hd6 hkeep hwds hRs hB hm hn2;clear C S H hf1 hf2 hfi hP hx hp hbl hto ht1 hrt tr ta hxr hkeep hwds hRs hB hm hn2
 go_enter Tryz.func25,Tryz.ntmps25
 go_wp2_with fail
 refine HP.out.mono ?_
 rintro e w1 ⟨rfl,q1,rfl⟩
 have hb1:=za6 (Below.refl w.heap.size w) q1
 generalize w.drewN q1=w1 at hb1 ⊢
 have hS1:=HS.out.to hb1
 have hB1:=HB.out w1
 obtain⟨-,x1,-,x3⟩:=zb6 hS1.box
 obtain⟨w2,hw2⟩ : ∃ W,W=w1.setCell ⟨r,1,none⟩ (.int .i64 ((i:Int)+1)):=⟨_,rfl⟩
 have hS2:RdS w0 r a n c fin (i+1) w2:=by rw[hw2];exact hS1.on hlow
 have hfr2:Frm (fun k=>k=r) w w2:=by rw[hw2];exact zae (zb1 (Frm.refl _ _) hb1) 1 _
 have hg1:=za0 (Hkeep.out _ (zb1 (Frm.refl _ _) hb1)) 0
 have hg:=za0 (Hkeep.out _ hfr2) 0
 simp only[List.getElem?_toArray,List.getElem?_cons_zero,List.getElem?_cons_succ] at hg hg1
 obtain⟨Hb1,HS1,HS2,Hfr2,HB1⟩:=hd5 hb1 hS1 hS2 hfr2 hB1;clear hb1 hS1 hS2 hfr2 hB1
 go_wp2_with fail
 refine HB1.out.mono ?_
 rintro e w1' ⟨rfl,hw1⟩
 subst hw1
 go_upto_region 9 with (fail)
 have K1:=Lib.hid k1
 have K2:=Lib.hid k2
 have K3:=Lib.hid k3
 have KW:=Lib.hid (show IntKind.i64.wrap ((n2:Int) - 1)=((m:Nat):Int) by rw[K1.out];have:=Hm.out;exact IntWalk.i64_in _ (by omega))
 have Hg:=Lib.hid hg
 clear k1 k2 k3 k4 hg1 hg
 go_upto_region 10 with (fail)
 have hg:=Hg.out
 rw[← hw2]
 clear hw2 x1 x3
 have hbd:=Below.drew (Below.refl w2.heap.size w2)
 have hSd:w2.drew.cell? ⟨xb,0,none⟩=some (.slice (some ⟨pb,0,none⟩) n2 rc):=hg
 have hTr:True:=trivial
 refine wp_region_held_drew (S:=fun _=>True) (by kernel_rfl) trivial (fun hHeld=>?_)
 have hfd:Frm (fun k=>k=r) w w2.drew:=Frm.drew Hfr2.out
 have hR1:=HRs.out _ hfd (HS2.out.to hbd)
 generalize w2.drew=wd at hbd hfd hSd hR1 ⊢
 clear hg
 obtain⟨Hbd,Hfd,HR1⟩:=hd3 hbd hfd hR1;clear hbd hfd hR1
 refine wpAnyH_take (i:=0) (v:=?_) rfl (by kernel_rfl) (by kernel_rfl) (by kernel_rfl) (fun _ _ _ h=>h) (Or.inl ⟨by kernel_rfl,?_⟩) (by assumption) ?_
 rotate_left
 ·(intro w hSw;(try dsimp only at hSw);(try obtain⟨⟩:=hSw);go_simp;try with_reducible rfl)
 try simp only[Act.put,lA,lB,lC]
 refine wpAnyH_take (i:=1) (v:=?_) rfl (by kernel_rfl) (by kernel_rfl) (by kernel_rfl) (fun _ _ _ h=>h) (Or.inl ⟨by kernel_rfl,?_⟩) (by assumption) ?_
 rotate_left
 ·(intro w hSw;(try dsimp only at hSw);(try obtain⟨⟩:=hSw);go_simp;try with_reducible rfl)
 try simp only[Act.put,lA,lB,lC]
 refine wpAnyH_take (i:=2) (v:=?_) rfl (by kernel_rfl) (by kernel_rfl) (by kernel_rfl) (fun _ _ _ h=>h) (Or.inl ⟨by kernel_rfl,?_⟩) (by assumption) ?_
 rotate_left
 ·(intro w hSw;(try dsimp only at hSw);(try obtain⟨⟩:=hSw);go_simp;try with_reducible rfl)
 try simp only[Act.put,lA,lB,lC]
 refine wpAnyH_take (i:=3) (v:=?_) rfl (by kernel_rfl) (by kernel_rfl) (by kernel_rfl) (fun _ _ _ h=>h) (Or.inl ⟨by kernel_rfl,?_⟩) (by assumption) ?_
 rotate_left
 ·(intro w hSw;(try dsimp only at hSw);(try obtain⟨⟩:=hSw);go_simp;try with_reducible rfl)
 try simp only[Act.put,lA,lB,lC]
 refine wpAnyH_take (i:=4) (v:=?_) rfl (by kernel_rfl) (by kernel_rfl) (by kernel_rfl) (fun _ _ _ h=>h) (Or.inl ⟨by kernel_rfl,?_⟩) (by assumption) ?_
 rotate_left
 ·(intro w hSw;(try dsimp only at hSw);(try obtain⟨⟩:=hSw);go_simp;try with_reducible rfl)
 try simp only[Act.put,lA,lB,lC]
 refine wpAnyH_take (i:=5) (v:=?_) rfl (by kernel_rfl) (by kernel_rfl) (by kernel_rfl) (fun _ _ _ h=>h) (Or.inl ⟨by kernel_rfl,?_⟩) (by assumption) ?_
 rotate_left
 ·(intro w hSw;(try dsimp only at hSw);(try obtain⟨⟩:=hSw);go_simp;try with_reducible rfl)
 try simp only[Act.put,lA,lB,lC]
 refine wpAnyH_take (i:=7) (v:=?_) rfl (by kernel_rfl) (by kernel_rfl) (by kernel_rfl) (fun _ _ _ h=>h) (Or.inl ⟨by kernel_rfl,?_⟩) (by assumption) ?_
 rotate_left
 ·(intro w hSw;(try dsimp only at hSw);(try obtain⟨⟩:=hSw);go_simp;try with_reducible rfl)
 try simp only[Act.put,lA,lB,lC]
 refine wpAnyH_take (i:=8) (v:=?_) rfl (by kernel_rfl) (by kernel_rfl) (by kernel_rfl) (fun _ _ _ h=>h) (Or.inl ⟨by kernel_rfl,?_⟩) (by assumption) ?_
 rotate_left
 ·(intro w hSw;(try dsimp only at hSw);(try obtain⟨⟩:=hSw);go_simp;try with_reducible rfl)
 try simp only[Act.put,lA,lB,lC]
 refine wpAnyH_take (i:=9) (v:=?_) rfl (by kernel_rfl) (by kernel_rfl) (by kernel_rfl) (fun _ _ _ h=>h) (Or.inl ⟨by kernel_rfl,?_⟩) (by assumption) ?_
 rotate_left
 ·(intro w hSw;(try dsimp only at hSw);(try obtain⟨⟩:=hSw);go_simp;try with_reducible rfl)
 try simp only[Act.put,lA,lB,lC]
 refine wpAnyH_ready (rs:=[6,10]) (by kernel_rfl) (by simp) ?_
 refine AllReadyH.cons rfl (fun K hK=>?_) (AllReadyH.cons rfl (fun K hK=>?_) AllReadyH.nil)
 ·go_simp
  refine hK.out _ _ trivial (fun hHeld=>?_)
  clear hK K
  try simp only[Act.put,lA,lB,lC]
  refine wpAnyH_ready (rs:=[10]) (by kernel_rfl) (by simp) ?_
  refine AllReadyH.cons rfl (fun K hK=>?_) AllReadyH.nil
  go_simp
  refine hK.out _ _ trivial (fun hHeld=>?_)
  clear hK K
  try simp only[Act.put,lA,lB,lC]
  refine wpAnyH_take (i:=11) (v:=?_) rfl (by kernel_rfl) (by kernel_rfl) (by kernel_rfl) (fun _ _ _ h=>h) (Or.inl ⟨by kernel_rfl,?_⟩) (by assumption) ?_
  rotate_left
  ·(intro w hSw;(try dsimp only at hSw);(try obtain⟨⟩:=hSw);go_simp;try with_reducible rfl)
  try simp only[Act.put,lA,lB,lC]
  have kw:=KW.out
  refine wpAnyH_take (i:=12) (v:=?_) rfl (by kernel_rfl) (by kernel_rfl) (by kernel_rfl) (fun _ _ _ h=>h) (Or.inl ⟨by kernel_rfl,?_⟩) (by assumption) ?_
  rotate_left
  ·(intro w hSw;(try dsimp only at hSw);(try obtain⟨⟩:=hSw);go_simp;try with_reducible rfl)
  try simp only[Act.put,lA,lB,lC]
  clear kw
  have k2:=K2.out
  have k3:=K3.out
  refine wpAnyH_take (i:=13) (v:=?_) rfl (by kernel_rfl) (by kernel_rfl) (by kernel_rfl) (fun _ _ _ h=>h) (Or.inl ⟨by kernel_rfl,?_⟩) (by assumption) ?_
  rotate_left
  ·(intro w hSw;(try dsimp only at hSw);(try obtain⟨⟩:=hSw);go_simp;try with_reducible rfl)
  try simp only[Act.put,lA,lB,lC]
  clear k2 k3
  refine wpAnyH_ready (rs:=[14]) (by kernel_rfl) (by simp) ?_
  refine AllReadyH.cons rfl (fun K hK=>?_) AllReadyH.nil
  go_simp
  refine HR1.out.mono ?_
  rintro e w3 ⟨⟨q,j,t',rfl,hst3,hq1,hq2,hjn,hbx9,ht3⟩ | ⟨hnone,j,rfl⟩,hfr⟩
  ·have hF9:Frm (fun k=>k=r∨t k≤9) w w3:=(Hfd.out.mono fun _ _ h=>Or.inl h).trans hfr fun k hk h=>h.elim Or.inl fun h=>Or.inr (by rw[Ht1.out k hk] at h;exact h)
   have hyesL:¬ j < n→zc4 line (zam ws i) x=some ⟨ps ++ [q],x.pf⟩:=fun hlt=>by
    rw[zad (by omega),← Hfi.out,zfx Hf1.out Hf2.out Hx.out,hq1 (by omega)]
    rfl
   have hnoL:j < n→zc4 line (zam ws i) x=none:=fun hlt=>by
    rw[zad (by omega),← Hfi.out,zfx Hf1.out Hf2.out Hx.out,hq2 (by omega)]
    rfl
   have ht9:∀ k,k < w.heap.size→9 < t k→t' k=t k:=fun k hk _=>(ht3 k (Nat.lt_of_lt_of_le hk Hfd.out.size)).trans (Ht1.out k hk)
   have hst9:=hst3
   obtain⟨W9,hW9⟩ : ∃ W,W=w3:=⟨_,rfl⟩
   rw[← hW9] at hst9 hF9 hbx9 ⊢
   obtain⟨Hst3,Hq1,Hq2,Hfr,HF9,HyesL,HnoL,Ht9,Ht3,Hst9,Hbx9⟩:=hd11 hst3 hq1 hq2 hfr hF9 hyesL hnoL ht9 ht3 hst9 hbx9;clear hst3 hq1 hq2 hfr hF9 hyesL hnoL ht9 ht3 hst9 hbx9
   clear hW9
   go_wp2_with fail
   refine hK.out _ _ trivial (fun hHeld=>?_)
   clear hK K
   try simp only[Act.put,lA,lB,lC]
   refine wpAnyH_done (by kernel_rfl) ?_ _
   go_simp
   by_cases hlt:j < n
   ·have hM:=zbi Hbx9.out
    rw[decide_eq_true hlt] at hM
    have HM:=hd hM;clear hM
    go_wp2_with fail
    refine HM.out.mono ?_
    rintro e u1 ⟨rfl,q5,rfl⟩
    have hb5:=za6 (Below.refl W9.heap.size W9) q5
    have hN:=zfe (za1 hb5 Hbx9.out) (Hwds.out _ (zb1 HF9.out hb5))
    generalize W9.drewN q5=u1 at hb5 hN ⊢
    obtain⟨Hb5,HN⟩:=hd2 hb5 hN;clear hb5 hN
    go_wp2_with fail
    refine HN.out.mono ?_
    rintro e u2 ⟨rfl,q6,rfl⟩
    have hb6:=Hb5.out.trans ((za6 (Below.refl u1.heap.size u1) q6).mono Hb5.out.size)
    go_wp2_with fail
    exact⟨rfl,zat (HnoL.out hlt) HF9.out hb6 rfl⟩
   have hM:=zbi Hbx9.out
   rw[decide_eq_false hlt] at hM
   have HM:=hd hM;clear hM
   go_wp2_with fail
   refine HM.out.mono ?_
   rintro e u1 ⟨rfl,q5,rfl⟩
   have hb5:=za6 (Below.refl W9.heap.size W9) q5
   generalize W9.drewN q5=u1 at hb5 ⊢
   have hY:=zc0 u1 r
   obtain⟨Hb5,HY⟩:=hd2 hb5 hY;clear hb5 hY
   go_wp2_with fail
   refine HY.out.mono ?_
   rintro e u2 ⟨rfl,hu2⟩
   subst hu2
   go_wp2_with fail
   go_end0
   exact zbq (HyesL.out hlt) Hst9.out HF9.out Ht9.out Hb5.out rfl
  have hnoneL:zc4 line (zam ws i) x=none:=by
   rw[zad (by omega),← Hfi.out,zfx Hf1.out Hf2.out Hx.out,hnone]
   rfl
  have hfrw:Frm (fun k=>k=r∨t k≤9) w w3:=(Hfd.out.mono fun _ _ h=>Or.inl h).trans hfr fun k hk h=>h.elim Or.inl fun h=>Or.inr (by rw[Ht1.out k hk] at h;exact h)
  obtain⟨Hnone,Hfr,HnoneL,Hfrw⟩:=hd4 hnone hfr hnoneL hfrw;clear hnone hfr hnoneL hfrw
  go_wp2_with fail
  exact⟨rfl,zat HnoneL.out Hfrw.out (Below.refl _ _) rfl⟩
 go_simp
 refine hK.out _ _ trivial (fun hHeld=>?_)
 clear hK K
 try simp only[Act.put,lA,lB,lC]
 refine wpAnyH_take (i:=11) (v:=?_) rfl (by kernel_rfl) (by kernel_rfl) (by kernel_rfl) (fun _ _ _ h=>h) (Or.inl ⟨by kernel_rfl,?_⟩) (by assumption) ?_
 rotate_left
 ·(intro w hSw;(try dsimp only at hSw);(try obtain⟨⟩:=hSw);go_simp;try with_reducible rfl)
 try simp only[Act.put,lA,lB,lC]
 have kw:=KW.out
 refine wpAnyH_take (i:=12) (v:=?_) rfl (by kernel_rfl) (by kernel_rfl) (by kernel_rfl) (fun _ _ _ h=>h) (Or.inl ⟨by kernel_rfl,?_⟩) (by assumption) ?_
 rotate_left
 ·(intro w hSw;(try dsimp only at hSw);(try obtain⟨⟩:=hSw);go_simp;try with_reducible rfl)
 try simp only[Act.put,lA,lB,lC]
 clear kw
 refine wpAnyH_ready (rs:=[6]) (by kernel_rfl) (by simp) ?_
 refine AllReadyH.cons rfl (fun K hK=>?_) AllReadyH.nil
 go_simp
 refine hK.out _ _ trivial (fun hHeld=>?_)
 clear hK K
 try simp only[Act.put,lA,lB,lC]
 have k2:=K2.out
 have k3:=K3.out
 refine wpAnyH_take (i:=13) (v:=?_) rfl (by kernel_rfl) (by kernel_rfl) (by kernel_rfl) (fun _ _ _ h=>h) (Or.inl ⟨by kernel_rfl,?_⟩) (by assumption) ?_
 rotate_left
 ·(intro w hSw;(try dsimp only at hSw);(try obtain⟨⟩:=hSw);go_simp;try with_reducible rfl)
 try simp only[Act.put,lA,lB,lC]
 clear k2 k3
 refine wpAnyH_ready (rs:=[14]) (by kernel_rfl) (by simp) ?_
 refine AllReadyH.cons rfl (fun K hK=>?_) AllReadyH.nil
 go_simp
 refine HR1.out.mono ?_
 rintro e w3 ⟨⟨q,j,t',rfl,hst3,hq1,hq2,hjn,hbx9,ht3⟩ | ⟨hnone,j,rfl⟩,hfr⟩
 ·have hF9:Frm (fun k=>k=r∨t k≤9) w w3:=(Hfd.out.mono fun _ _ h=>Or.inl h).trans hfr fun k hk h=>h.elim Or.inl fun h=>Or.inr (by rw[Ht1.out k hk] at h;exact h)
  have hyesL:¬ j < n→zc4 line (zam ws i) x=some ⟨ps ++ [q],x.pf⟩:=fun hlt=>by
   rw[zad (by omega),← Hfi.out,zfx Hf1.out Hf2.out Hx.out,hq1 (by omega)]
   rfl
  have hnoL:j < n→zc4 line (zam ws i) x=none:=fun hlt=>by
   rw[zad (by omega),← Hfi.out,zfx Hf1.out Hf2.out Hx.out,hq2 (by omega)]
   rfl
  have ht9:∀ k,k < w.heap.size→9 < t k→t' k=t k:=fun k hk _=>(ht3 k (Nat.lt_of_lt_of_le hk Hfd.out.size)).trans (Ht1.out k hk)
  have hst9:=hst3
  obtain⟨W9,hW9⟩ : ∃ W,W=w3:=⟨_,rfl⟩
  rw[← hW9] at hst9 hF9 hbx9 ⊢
  obtain⟨Hst3,Hq1,Hq2,Hfr,HF9,HyesL,HnoL,Ht9,Ht3,Hst9,Hbx9⟩:=hd11 hst3 hq1 hq2 hfr hF9 hyesL hnoL ht9 ht3 hst9 hbx9;clear hst3 hq1 hq2 hfr hF9 hyesL hnoL ht9 ht3 hst9 hbx9
  clear hW9
  go_wp2_with fail
  refine hK.out _ _ trivial (fun hHeld=>?_)
  clear hK K
  try simp only[Act.put,lA,lB,lC]
  refine wpAnyH_done (by kernel_rfl) ?_ _
  go_simp
  by_cases hlt:j < n
  ·have hM:=zbi Hbx9.out
   rw[decide_eq_true hlt] at hM
   have HM:=hd hM;clear hM
   go_wp2_with fail
   refine HM.out.mono ?_
   rintro e u1 ⟨rfl,q5,rfl⟩
   have hb5:=za6 (Below.refl W9.heap.size W9) q5
   have hN:=zfe (za1 hb5 Hbx9.out) (Hwds.out _ (zb1 HF9.out hb5))
   generalize W9.drewN q5=u1 at hb5 hN ⊢
   obtain⟨Hb5,HN⟩:=hd2 hb5 hN;clear hb5 hN
   go_wp2_with fail
   refine HN.out.mono ?_
   rintro e u2 ⟨rfl,q6,rfl⟩
   have hb6:=Hb5.out.trans ((za6 (Below.refl u1.heap.size u1) q6).mono Hb5.out.size)
   go_wp2_with fail
   exact⟨rfl,zat (HnoL.out hlt) HF9.out hb6 rfl⟩
  have hM:=zbi Hbx9.out
  rw[decide_eq_false hlt] at hM
  have HM:=hd hM;clear hM
  go_wp2_with fail
  refine HM.out.mono ?_
  rintro e u1 ⟨rfl,q5,rfl⟩
  have hb5:=za6 (Below.refl W9.heap.size W9) q5
  generalize W9.drewN q5=u1 at hb5 ⊢
  have hY:=zc0 u1 r
  obtain⟨Hb5,HY⟩:=hd2 hb5 hY;clear hb5 hY
  go_wp2_with fail
  refine HY.out.mono ?_
  rintro e u2 ⟨rfl,hu2⟩
  subst hu2
  go_wp2_with fail
  go_end0
  exact zbq (HyesL.out hlt) Hst9.out HF9.out Ht9.out Hb5.out rfl
 have hnoneL:zc4 line (zam ws i) x=none:=by
  rw[zad (by omega),← Hfi.out,zfx Hf1.out Hf2.out Hx.out,hnone]
  rfl
 have hfrw:Frm (fun k=>k=r∨t k≤9) w w3:=(Hfd.out.mono fun _ _ h=>Or.inl h).trans hfr fun k hk h=>h.elim Or.inl fun h=>Or.inr (by rw[Ht1.out k hk] at h;exact h)
 obtain⟨Hnone,Hfr,HnoneL,Hfrw⟩:=hd4 hnone hfr hnoneL hfrw;clear hnone hfr hnoneL hfrw
 go_wp2_with fail
 exact⟨rfl,zat HnoneL.out Hfrw.out (Below.refl _ _) rfl⟩
end

section
open Go.Shelf Go.RowKit Go.Lib VerN VarM
open LexM (Wd)
attribute [local go_sem ↓] Go.wp_at_zero Go.wp_at_succ
theorem ztp {f:ByteArray} {n:Int} {p:PkgM} {l:List ByteArray} (h:zdu f=false):zb5 f n p l=none:=by
 unfold zdu at h
 simp only[Bool.or_eq_false_iff,decide_eq_false_iff_not] at h
 obtain⟨⟨⟨⟨⟨h1,h2⟩,h3⟩,h4⟩,h5⟩,h6⟩:=h
 unfold zb5
 rw[if_neg h1,if_neg h2,if_neg h3,if_neg h4,if_neg h5,if_neg h6]
theorem zoz {w0 w:World} {r:Nat} {a:Option Addr} {n c:Nat} {fin:Int} {ws:List Wd} {i:Nat} {t:Nat→Nat} {B xb:Nat} {vp vf:Value} {x:RcpM} {line:Int} (C:RdC w0 r a n c fin ws) (S:RdS w0 r a n c fin i w) (hi1:i≤900) (hin:i < n)
  (H:RcSt w t B xb vp vf x) (tr:t r=10) (ta:∀ p,a=some p→p.block≠r∧9 < t p.block) (hBw:B≤w.heap.size) (hf1:zag ws i≠zbh) (hf2:zag ws i≠zco) (h3:zdu (zag ws i)=false∨x.pk = []) :
  Calls Tryz.prog 25 #[rp r,.int .i64 line,.pointer (some ⟨xb,0,none⟩)] w (zeb r fin ws i t B xb x line w):=by
 obtain⟨first,hfi⟩ : ∃ s,s=zag ws i:=⟨_,rfl⟩
 rw[← hfi] at hf1 hf2 h3
 have k8:(first.toList == [112,97,99,107,97,103,101])=false:=by rw[zau first [112,97,99,107,97,103,101] zbh rfl];exact decide_eq_false hf1
 have k9:(first.toList == [112,114,101,102,101,114])=false:=by rw[zau first [112,114,101,102,101,114] zco rfl];exact decide_eq_false hf2
 have hrw:r < w.heap.size:=(Array.getElem?_eq_some_iff.1 S.box).1
 have hn:=C.len
 have hn1:=C.n1000
 have hlow:=C.low
 have hrt:=zb3 S.box (by decide)
 have hP:=C.peek S
 simp only[← hfi] at hP
 have hnone:zc4 line (zam ws i) x=none:=by
  rw[zad (by omega),← hfi]
  rcases List.eq_nil_or_concat x.pk with e | ⟨ps,p,e⟩
  ·exact lineL_nil hf1 hf2 e
  rw[List.concat_eq_append] at e
  rw[zfx hf1 hf2 e,ztp (h3.resolve_right (by rw[e];simp))]
  rfl
 have hTh:=fun (W:World) (k:Below w.heap.size w W)=>znz (S.to k).box (C.wds (S.to k))
 have hg:=za0 H.box 0
 simp only[List.getElem?_toArray,List.getElem?_cons_zero,List.getElem?_cons_succ] at hg
 have hB:=zl4 first
 have hv:zdu first=true→vp = .slice none 0 0:=fun e=>by
  rcases h3 with h | h
  ·rw[e] at h
   cases h
  rcases H.pk with⟨_,h2⟩ | ⟨ps,p,dss,v2,v3,v4,v5,v6,v7,h1,L⟩
  ·exact h2
  rw[h] at h1
  simp at h1
 obtain⟨bl,hbl⟩ : ∃ b,b=zdu first:=⟨_,rfl⟩
 rw[← hbl] at hB hv
 clear h3
 cases bl with
 | true =>
  obtain rfl:=hv rfl
  obtain⟨HC,HS,HH,Hf1,Hf2,Hfi,HP,Hrt,Htr,Hta,HB,Hbl,HTh,Hnone,Hv⟩:=hd15 C S H hf1 hf2 hfi hP hrt tr ta hB hbl hTh hnone hv;clear C S H hf1 hf2 hfi hP hrt tr ta hB hbl hTh hnone hv
  go_enter Tryz.func25,Tryz.ntmps25
  go_wp2_with fail
  refine HP.out.mono ?_
  rintro e w1 ⟨rfl,q1,rfl⟩
  have hb1:=za6 (Below.refl w.heap.size w) q1
  have hg:=cell_later hb1 hg
  generalize w.drewN q1=w1 at hb1 hg ⊢
  have Hb1:=hd hb1;clear hb1
  go_wp2_with fail
  refine (HB.out w1).mono ?_
  rintro e w1' ⟨rfl,hw1⟩
  subst hw1
  have hTh1:=HTh.out w1' Hb1.out
  have HTh1:=hd hTh1;clear hTh1
  go_wp2_with fail
  refine (HTh.out _ (by first | exact Hb1.out | exact Below.drew Hb1.out)).mono ?_
  rintro e u ⟨rfl,q,rfl⟩
  go_wp2_with fail
  exact⟨rfl,zat Hnone.out (zb1 (Frm.refl _ _) (by first | exact Hb1.out | exact Below.drew Hb1.out)) (za6 (Below.refl _ _) q) rfl⟩
 | false =>
  obtain⟨HC,HS,HH,Hf1,Hf2,Hfi,HP,Hrt,Htr,Hta,HB,Hbl,HTh,Hnone,Hv⟩:=hd15 C S H hf1 hf2 hfi hP hrt tr ta hB hbl hTh hnone hv;clear C S H hf1 hf2 hfi hP hrt tr ta hB hbl hTh hnone hv
  clear hg
  go_enter Tryz.func25,Tryz.ntmps25
  go_wp2_with fail
  refine HP.out.mono ?_
  rintro e w1 ⟨rfl,q1,rfl⟩
  have hb1:=za6 (Below.refl w.heap.size w) q1
  generalize w.drewN q1=w1 at hb1 ⊢
  have Hb1:=hd hb1;clear hb1
  go_wp2_with fail
  refine (HB.out w1).mono ?_
  rintro e w1' ⟨rfl,hw1⟩
  subst hw1
  have hTh1:=HTh.out w1' Hb1.out
  have HTh1:=hd hTh1;clear hTh1
  go_wp2_with fail
  refine (HTh.out _ (by first | exact Hb1.out | exact Below.drew Hb1.out)).mono ?_
  rintro e u ⟨rfl,q,rfl⟩
  go_wp2_with fail
  exact⟨rfl,zat Hnone.out (zb1 (Frm.refl _ _) (by first | exact Hb1.out | exact Below.drew Hb1.out)) (za6 (Below.refl _ _) q) rfl⟩
end

section
open Go.Lib VerN VarM
open LexM (Wd Ln)
def FewK (k:Nat) (p:PkgM):Prop:=p.rel.length≤k∧p.vars.length≤k∧p.prov.length≤k∧p.dep.length≤k∧p.conf.length≤k∧p.files.length≤k
def zmj (k:Nat) (x:RcpM):Prop:=x.pk.length≤k∧x.pf.length≤k∧∀ p∈x.pk,FewK k p
theorem FewK.mono {k m:Nat} {p:PkgM} (h:FewK k p) (hk:k≤m):FewK m p:=by
 obtain⟨h1,h2,h3,h4,h5,h6⟩:=h
 exact⟨by omega,by omega,by omega,by omega,by omega,by omega⟩
theorem FewK.few {k:Nat} {p:PkgM} (h:FewK k p) (hk:k≤70000):FewP p:=h.mono hk
theorem zej {α β:Type} {o:Option α} {f:α→β} {y:β} (h:o.map f=some y):∃ x,o=some x∧f x=y:=by
 cases o with
 | none=>cases h
 | some x=>exact⟨x,rfl,Option.some.inj h⟩
theorem restL_few {k:Nat} {f:ByteArray} {n:Int} {p q:PkgM} {l:List ByteArray} (hp:FewK k p) (h:zb5 f n p l=some q):FewK (k+1) q:=by
 obtain⟨h1,h2,h3,h4,h5,h6⟩:=hp
 unfold zb5 at h
 have fin:∀ q:PkgM,(q.rel.length≤k+1∧q.vars.length≤k+1∧q.prov.length≤k+1∧q.dep.length≤k+1∧q.conf.length≤k+1∧q.files.length≤k+1)→FewK (k+1) q:=fun _ h=>h
 split at h
 ·obtain⟨x,-,rfl⟩:=zej h
  refine fin _ ⟨?_,?_,?_,?_,?_,?_⟩ <;> simp <;> omega
 split at h
 ·obtain⟨x,-,rfl⟩:=zej h
  refine fin _ ⟨?_,?_,?_,?_,?_,?_⟩ <;> simp <;> omega
 split at h
 ·obtain⟨x,-,rfl⟩:=zej h
  refine fin _ ⟨?_,?_,?_,?_,?_,?_⟩ <;> simp <;> omega
 split at h
 ·obtain⟨x,-,rfl⟩:=zej h
  refine fin _ ⟨?_,?_,?_,?_,?_,?_⟩ <;> simp <;> omega
 split at h
 ·obtain⟨x,-,rfl⟩:=zej h
  refine fin _ ⟨?_,?_,?_,?_,?_,?_⟩ <;> simp <;> omega
 split at h
 ·obtain⟨x,-,rfl⟩:=zej h
  refine fin _ ⟨?_,?_,?_,?_,?_,?_⟩ <;> simp <;> omega
 cases h
theorem zqz {k:Nat} {n:Int} {x y:RcpM} {l:List ByteArray} (hx:zmj k x) (h:zc4 n l x=some y):zmj (k+1) y:=by
 obtain⟨h1,h2,h3⟩:=hx
 cases l with
 | nil=>cases h
 | cons f r =>
  have e:zc4 n (f :: r) x=if f=zbh then (oneL zef r).map fun s=>{ x with pk:=x.pk ++ [zkc s n] }
   else if f=zco then (prefL n r).map fun q=>{ x with pf:=x.pf ++ [q] }
   else match x.pk.getLast? with
   | none=>none
   | some p=>(zb5 f n p r).map fun q=>{ x with pk:=x.pk.dropLast ++ [q] }:=rfl
  rw[e] at h
  split at h
  ·obtain⟨s,-,rfl⟩:=zej h
   refine⟨by simp;omega,by show x.pf.length≤_;omega,fun p hp=>?_⟩
   rcases List.mem_append.1 hp with hp | hp
   ·exact (h3 p hp).mono (by omega)
   rw[List.mem_singleton.1 hp]
   refine⟨?_,?_,?_,?_,?_,?_⟩ <;> exact Nat.zero_le _
  split at h
  ·obtain⟨s,-,rfl⟩:=zej h
   exact⟨by show x.pk.length≤_;omega,by simp;omega,fun p hp=>(h3 p hp).mono (by omega)⟩
  split at h
  ·cases h
  rename_i p hp
  obtain⟨q,hq,rfl⟩:=zej h
  have hpm:p∈x.pk:=List.mem_of_getLast? hp
  refine⟨by simp;omega,by show x.pf.length≤_;omega,fun u hu=>?_⟩
  rcases List.mem_append.1 hu with hu | hu
  ·exact (h3 u ((List.dropLast_sublist x.pk).subset hu)).mono (by omega)
  rw[List.mem_singleton.1 hu]
  exact restL_few (h3 p hpm) hq
theorem small_nil:zmj 0 ⟨[],[]⟩:=⟨Nat.le_refl _,Nat.le_refl _,fun p hp=>by simp at hp⟩
theorem goL_eq {l:Ln} {r:List Ln} {x:RcpM}:goL (l :: r) x=(zc4 l.1 (l.2.map wtx) x).bind fun y=>goL r y:=rfl
theorem goL_on {l:Ln} {r:List Ln} {x y:RcpM} (h:zc4 l.1 (l.2.map wtx) x=some y):goL (l :: r) x=goL r y:=by rw[goL_eq,h];rfl
theorem goL_off {l:Ln} {r:List Ln} {x:RcpM} (h:zc4 l.1 (l.2.map wtx) x=none):goL (l :: r) x=none:=by rw[goL_eq,h];rfl
end

section
open Go.Shelf Go.RowKit Go.Lib VerN VarM
open LexM (Wd)
theorem zr0 {w0 w:World} {r:Nat} {a:Option Addr} {n c:Nat} {fin:Int} {ws:List Wd} {i:Nat} {t:Nat→Nat} {B xb:Nat} {vp vf:Value} {x:RcpM} {line:Int} (C:RdC w0 r a n c fin ws) (S:RdS w0 r a n c fin i w) (hi1:i≤900) (hin:i < n)
  (H:RcSt w t B xb vp vf x) (tr:t r=10) (ta:∀ p,a=some p→p.block≠r∧9 < t p.block) (hBw:B≤w.heap.size) {k:Nat} (hx:zmj k x) (hk:k≤70000) :
  Calls Tryz.prog 25 #[rp r,.int .i64 line,.pointer (some ⟨xb,0,none⟩)] w (zeb r fin ws i t B xb x line w):=by
 by_cases h1:zag ws i=zbh
 ·exact zuc C S hi1 hin H tr ta hBw (by have:=hx.1;omega) h1
 by_cases h2:zag ws i=zco
 ·exact zud C S hi1 hin H tr ta hBw (by have:=hx.2.1;omega) h2
 rcases List.eq_nil_or_concat x.pk with h3 | ⟨ps,p,h3⟩
 ·exact zoz C S hi1 hin H tr ta hBw h1 h2 (.inr h3)
 rw[List.concat_eq_append] at h3
 cases h4:zdu (zag ws i) with
 | false=>exact zoz C S hi1 hin H tr ta hBw h1 h2 (.inl h4)
 | true =>
  refine zub C S hi1 hin H tr ta hBw h3 ((hx.2.2 p (by rw[h3];simp)).few hk) ?_ h4
  have:=hx.1
  rw[h3] at this
  simp at this
  omega
end

section
open Go.Shelf Go.RowKit Go.Lib VerN VarM
open LexM (Wd)
attribute [local go_sem ↓] Go.wp_at_zero Go.wp_at_succ
abbrev thrownV (c:Int):Value:=.iface 120 (.agg #[.int .i64 c])
theorem zjb (v:Value) (w:World):(Instr.typeAssert (.iface 120 v) 20 120 true).run Tryz.prog w = .ok (.tuple #[v,.bool true]) w:=by
 have u:=Tryz.underlying120
 unfold Instr.typeAssert
 simp[Sem.run_bind,Sem.run_pure,u,go_sem]
theorem zuz (g:Nat) (w:World):CallsD Tryz.prog 44 #[.pointer (some ⟨g,0,none⟩)] .returning w fun e u' w'=>e = .returned (.tuple #[])∧u' = .returning∧w'=w:=by
 refine callsD_of_wpS Tryz.func44 rfl fun c₀ cs hu=>?_
 apply wpS_seq
 apply wpS_region
 simp[wpOpsS,go_sem,recoverD,hu,Tryz.ntmps44,Exit.thenS]
 have Hu:=hd hu;clear hu
 simp only[Array.replicate_succ,Array.replicate_zero,List.push_toArray,List.append_toArray,List.nil_append,List.cons_append,lA,lB,lC]
 refine wpS_of_wp ?_
 generalize hQ:(fun (e:Exit) (a':Act) (w':World)=>_)=Q
 have HQ:=hd hQ;clear hQ
 go_wp2_with fail
 rw[← HQ.out]
 cases c₀
 have hu:=Hu.out
 simp_all [bodyPostS,results,Tryz.results44]
theorem zrd (g:Nat) (c x:Int) (w:World) (hg:w.heap[g]? = some (.cells #[.int .i64 x] 3 (0,0))) :
  CallsD Tryz.prog 44 #[.pointer (some ⟨g,0,none⟩)] (.panicking [{ v:=thrownV c,recovered:=false }]) w fun e u' w' =>
   e = .returned (.tuple #[])∧u' = .panicking [{ v:=thrownV c,recovered:=true }]∧w'=(w.alloc (.cells #[.int .i64 c] 120)).setCell ⟨g,0,none⟩ (.int .i64 c):=by
 refine callsD_of_wpS Tryz.func44 rfl fun c₀ cs hu=>?_
 apply wpS_seq
 apply wpS_region
 simp[wpOpsS,go_sem,recoverD,hu,Tryz.ntmps44,Exit.thenS]
 have ra:=zjb (.agg #[.int .i64 c])
 have q0:=za0 hg 0
 have q1:=za8 hg 0
 have q2:=za1 (za2 w (.cells #[.int .i64 c] 120)) hg
 have q3:=za0 q2 0
 have q4:=za8 q2 0
 have Hu:=hd hu;clear hu
 simp only[Array.replicate_succ,Array.replicate_zero,List.push_toArray,List.append_toArray,List.nil_append,List.cons_append,lA,lB,lC]
 refine wpS_of_wp ?_
 generalize hQ:(fun (e:Exit) (a':Act) (w':World)=>_)=Q
 have HQ:=hd hQ;clear hQ
 go_wp2_with fail
 rw[← HQ.out]
 cases c₀
 have hu:=Hu.out
 clear ra q0 q1 q2 q3 q4 hg
 simp_all [bodyPostS,results,Tryz.results44]
theorem zmg {w:World} {f:FuncId} {caps:Array Value} (eg:∀ args w,(callFunc f args).run Tryz.prog w = .ok (.enter f args) w) {A:World→Prop} {B:Int→World→Prop}
  (h:Calls Tryz.prog f caps (w.alloc (.cells #[.int .i64 0] 3)) fun e w'=>((e = .returned (.tuple #[])∧A w')∨∃ c,e=zee c∧B c w')∧w'.heap[w.heap.size]? = some (.cells #[.int .i64 0] 3 (0,0))) :
  Calls Tryz.prog 23 #[.func (.func f) #[] caps] w fun e w'=>(∃ w1,A w1∧e = .returned (.int .i64 0)∧w'=w1.setCell ⟨w.heap.size,0,none⟩ (.int .i64 0))∨(∃ c w1,B c w1∧e = .returned (.int .i64 c)∧w'=(w1.alloc (.cells #[.int .i64 c] 120)).setCell ⟨w.heap.size,0,none⟩ (.int .i64 c)):=by
 have hmf:∀ (fn:Fn) (first cap:Array Value) (w:World),(Instr.makeFunc fn first cap).run Tryz.prog w = .ok (.func fn first cap) w:=fun _ _ _ _=>rfl
 have Hh:=hd h;clear h
 go_enter_defers Tryz.func23,Tryz.ntmps23
 go_wp2_with fail
 refine Hh.out.mono ?_
 rintro e w1 ⟨⟨rfl,hA⟩ | ⟨c,rfl,hB⟩,hbx⟩
 ·have q0:=za0 hbx 0
  have q1:=za8 hbx 0
  simp only[List.getElem?_toArray,List.getElem?_cons_zero] at q0
  obtain⟨HA,Hbx⟩:=hd2 hA hbx;clear hA hbx
  go_wp2_with fail
  refine leaves_cons (f:=44) (args:=#[.pointer (some ⟨w.heap.size,0,none⟩)]) (by simp) (by simp[go_sem]) ?_
  refine (zuz _ _).mono ?_
  rintro e u' w'' ⟨rfl,rfl,rfl⟩
  have q2:=za0 (heap_setCell_same w1 w.heap.size 0 _ _ (.int .i64 0) Hbx.out) 0
  have q2:(w1.setCell ⟨w.heap.size,0,none⟩ (.int .i64 0)).cell? ⟨w.heap.size,0,none⟩=some (.int .i64 0):=q2
  simp[Leaves,settle,results,Tryz.results23,go_sem,q2]
  exact .inl ⟨_,HA.out,rfl⟩
 have HB:=hd hB;clear hB
 go_wp2_with fail
 refine leaves_cons (f:=44) (args:=#[.pointer (some ⟨w.heap.size,0,none⟩)]) (by simp) (by simp[go_sem]) ?_
 refine (zrd _ c 0 _ hbx).mono ?_
 rintro e u' w'' ⟨rfl,rfl,rfl⟩
 have q2:=za0 (heap_setCell_same _ w.heap.size 0 _ _ (.int .i64 c) (za1 (za2 w1 (.cells #[.int .i64 c] 120)) hbx)) 0
 have q2:((w1.alloc (.cells #[.int .i64 c] 120)).setCell ⟨w.heap.size,0,none⟩ (.int .i64 c)).cell? ⟨w.heap.size,0,none⟩=some (.int .i64 c):=q2
 simp[Leaves,settle,results,Tryz.results23,go_sem,q2]
 exact .inr ⟨_,_,HB.out,rfl,rfl⟩
end

section
open Go.Shelf Go.RowKit Go.Lib VerN VarM
open LexM (Wd Ln zik)
attribute [local go_sem ↓] Go.wp_at_zero Go.wp_at_succ
theorem zue {w0 w:World} {r:Nat} {a:Option Addr} {n c:Nat} {fin:Int} {ws:List Wd} {t:Nat→Nat} {B xb rv lb:Nat} {vp vf:Value} {x:RcpM} {line:Int} (C:RdC w0 r a n c fin ws) (S:RdS w0 r a n c fin 0 w) (hin:0 < n)
  (H:RcSt w t B xb vp vf x) (tr:t r=10) (ta:∀ p,a=some p→p.block≠r∧9 < t p.block) (hBw:B≤w.heap.size) {k:Nat} (hx:zmj k x) (hk:k≤70000)
  (c0:w.cell? ⟨rv,0,none⟩=some (rp r)) (c1:w.cell? ⟨lb,0,none⟩=some (.int .i64 line)) :
  Calls Tryz.prog 24 #[.pointer (some ⟨rv,0,none⟩),.pointer (some ⟨lb,0,none⟩),.pointer (some ⟨xb,0,none⟩)] w (zeb r fin ws 0 t B xb x line w):=by
 have hL:=zr0 (line:=line) C S (by omega) hin H tr ta hBw hx hk
 obtain⟨HC,HS,HH,Hx,HL,Htr,Hta⟩:=hd7 C S H hx hL tr ta;clear C S H hx hL tr ta
 go_enter Tryz.func24,Tryz.ntmps24
 go_wp2_with fail
 refine HL.out.mono ?_
 rintro e w1 ⟨⟨y,t',vp',vf',rfl,h1,h2,h3⟩ | ⟨h1,j,rfl⟩,hF⟩
 ·obtain⟨H1,H2,H3,HF⟩:=hd4 h1 h2 h3 hF;clear h1 h2 h3 hF
  go_wp2_with fail
  go_end0
  exact⟨.inl ⟨y,t',vp',vf',rfl,H1.out,H2.out,H3.out⟩,HF.out⟩
 obtain⟨H1,HF⟩:=hd2 h1 hF;clear h1 hF
 go_wp2_with fail
 exact⟨rfl,.inr ⟨H1.out,j,rfl⟩,HF.out⟩
end

section
open Go.Shelf Go.RowKit Go.Lib VerN VarM
open LexM (Wd)
attribute [local go_sem ↓] Go.wp_at_zero Go.wp_at_succ
theorem zf8 {P:Program} {fn:Func} {p u v:Tmp} {ty t:TypeId} (h:fn.results=#[.cell p ty,.tmp u,.tmp v]) {tmps:Array Value} {w:World} {g:Nat} {cs:Array Value} {d:TypeDesc} {x y:Value}
  (hp:tmps.getD p undef = .pointer (some ⟨g,0,none⟩)) (hx:tmps.getD u undef=x) (hy:tmps.getD v undef=y) (hg:w.heap[g]? = some (.cells cs t (0,0)))
  (hu:P.underlying ty=some d) (hd:(match d with | .struct _ | .array _ _=>true | _=>false)=true) (hi:(P.info? ty).map (·.size)=some cs.size) :
  (results fn tmps).run P w = .ok (.tuple #[.agg cs,x,y]) w:=by
 have hl:=run_loadVar_row w g t ty cs (0,0) d hg hu hd hi
 have hp':tmps[p]?.getD undef = .pointer (some ⟨g,0,none⟩):=by simpa using hp
 have hx':tmps[u]?.getD undef=x:=by simpa using hx
 have hy':tmps[v]?.getD undef=y:=by simpa using hy
 simp only[results,h]
 simp[Sem.run_bind,Result.andThen,asAddr,hp',hx',hy',hl]
end

section
open Go.Shelf Go.RowKit Go.Lib VerN VarM
open LexM (Wd Ln zik)
attribute [local go_sem ↓] Go.wp_at_zero Go.wp_at_succ
theorem last_some {ws:List Wd} {n:Nat} (hn:n=ws.length) (h0:0 < n):∃ x,ws[n - 1]? = some x∧ws.getLast? = some x:=by
 subst hn
 have h:ws.length - 1 < ws.length:=by omega
 exact⟨ws[ws.length - 1],List.getElem?_eq_getElem h,by rw[List.getLast?_eq_getElem?,List.getElem?_eq_getElem h]⟩
end

section
open Go.RowKit
open LexM (Bs Wd Ln St)
theorem ofNat_toNat (c:UInt8):UInt8.ofNat ((c.toNat:Int)).toNat=c:=by simp
theorem strOf (s:Bs):strOfNums (s.map fun c=>((c.toNat:Int)))=⟨s.toArray⟩:=by
 unfold strOfNums
 congr 2
 rw[List.map_map]
 conv=>rhs;rw[← List.map_id s]
 apply List.map_congr_left
 intro c _
 simp
theorem zut {w:World} {B:Nat} {v:Value} {s:Bs} (h:w.ownsRow B 5 1 v s.length (zj8 s)) (hs:s≠[]):(convert 57 9 v).run Tryz.prog w = .ok (bv s) w:=by
 have hpos:=List.length_pos_iff.2 hs
 obtain⟨g,cap,rfl,_,_,hn,hm,hc⟩:=zcs h hpos
 have:=run_convert_bytes_arg (P:=Tryz.prog) (w:=w) 57 5 Tryz.underlying57 Tryz.underlying5 g 0 s.length cap (s.map fun c=>((c.toNat:Int))) (by simp) (fun i hi=>by
  have h1:(zj8 s)[i]? = some (.int .u8 (s[i].toNat:Int)):=by simp[zj8,hi]
  rw[Nat.zero_add,hc i _ h1]
  simp[List.getD,hi]) 9 Tryz.underlying9
 rw[this,strOf]
theorem zby.setEnds {w0 w:World} {x:Nat} {s:St} {wv sv ov:Value} {rv:List Value} (h:zby w0 x s wv sv ov rv w) :
  zby w0 x { s with frm:=0,word:=[] } (.slice none 0 0) sv ov rv ((w.setCell ⟨x,2,none⟩ (.int .i64 0)).setCell ⟨x,4,none⟩ (.slice none 0 0)):=by
 have f1:Frm (fun k=>k=x) w (w.setCell ⟨x,2,none⟩ (.int .i64 0)):=Frm.setCell (S:=fun k=>k=x) (Frm.refl _ _) (p:=⟨x,2,none⟩) (.inr rfl) _
 have f2:=Frm.setCell f1 (p:=⟨x,4,none⟩) (.inr rfl) (.slice none 0 0)
 refine h.to f2 ?_ (.inr ⟨rfl,rfl⟩) (.inl ⟨rfl,rfl⟩) rfl
 have h1:=heap_setCell_same w x 2 _ _ (.int .i64 0) h.cells
 rw[heap_setCell_same _ x 4 _ _ (.slice none 0 0) h1]
 rfl
abbrev lexp (x:Nat):Value:=.pointer (some ⟨x,0,none⟩)
def zi2 (w0:World) (x:Nat) (s:St) (e:Ending) (w':World):Prop:=e = .returned (.tuple #[])∧∃ wv sv ov rv,zby w0 x s wv sv ov rv w'
theorem zn7 {w0 w:World} {x:Nat} {s s':St} {wv sv ov:Value} {rv:List Value} (h:zby w0 x s' wv sv ov rv w) (e:s'=s):zi2 w0 x s (.returned (.tuple #[])) w:=⟨rfl,wv,sv,ov,rv,e ▸ h⟩
theorem ends_some {w0 w:World} {x:Nat} {s:St} {wv sv ov:Value} {rv:List Value} (h:zby w0 x s wv sv ov rv w) {m:Nat} (hm:m≤1000000) (hs:Small s m) (hf:0 < s.frm) :
  Calls Tryz.prog 82 #[lexp x] w (zi2 w0 x (LexM.ends s)):=by
 have hne:=hs.begun hf
 have hwl:=hs.words
 have hB:=h.bel.size
 have hcv:(convert 57 9 wv).run Tryz.prog w.drew = .ok (bv s.word) w.drew:=zut (w:=w.drew) h.word hne
 have hnx:=zaf h.words h.cells (by decide)
 have c2:=za0 h.cells 2
 have c4:=za0 h.cells 4
 have c5:=za0 h.cells 5
 simp only[zaz,List.getElem?_toArray,List.getElem?_cons_succ,List.getElem?_cons_zero] at c2 c4 c5
 have a5:∀ o:Obj,(w.alloc o).cell? ⟨x,5,none⟩=some sv:=fun o=>((Frm.refl _ w).alloc o).keep c5
 have hwd:(w.drew).ownsRow w0.heap.size 81 2 sv s.words.length (s.words.flatMap zdy):=h.words
 have hBd:w0.heap.size≤w.drew.heap.size:=hB
 obtain⟨Hh,Hwd,Hnx,Hs⟩:=hd4 h hwd hnx hs;clear h hwd hnx hs
 go_enter Tryz.func82,Tryz.ntmps82
 go_wp2_with fail
 go_region_law (refine zb2 elem_word (w:=w.drew) rfl (.tmp 11) (.tmp 22) rfl w0.heap.size sv s.words.length (s.words.flatMap zdy) rfl Hwd.out 1 (by decide) #[.int .i64 s.frm,bv s.word] rfl rfl (by simp[Value.oneCell',bv]) (by omega) (by unfold maxLen;omega) hBd ?_;intro g8 c8 w8 hown8 hg8 hm8;have hc8:=zav Hh.out.cells ((Frm.drew (Frm.refl _ w)).grown hg8 (S:=fun k=>sv.ownBlock=some k) (fun k hk=>.inr hk)) Hnx.out;have d5:=za0 hc8 5;have e5:=za8 hc8 5;simp only[zaz,List.getElem?_toArray,List.getElem?_cons_succ,List.getElem?_cons_zero] at d5)
 all_goals
  have hP:=Hh.out.pushWord (s.frm,s.word) hown8 (zbp hg8) (fun k hk=>hm8 k hk)
  obtain⟨w9,hw9⟩ : ∃ w9,w9=w8.setCell ⟨x,5,none⟩ (.slice (some ⟨g8,0,none⟩) (s.words.length+1) c8):=⟨_,rfl⟩
  rw[← hw9] at hP ⊢
  have z2:=za8 hP.cells 2
  have z4:=za8 hP.cells 4
  have y2:=za0 hP.cells 2
  have y4:=za0 hP.cells 4
  simp only[zaz,List.getElem?_toArray,List.getElem?_cons_succ,List.getElem?_cons_zero] at y2 y4
  have hL:=hP.setEnds
  obtain⟨HP,HL⟩:=hd2 hP hL;clear hP hL
  clear hown8 hg8 hm8 hc8 d5 e5 hw9 c2 c4 c5 a5 hcv
  go_wp2_with fail
  go_end0
  exact zn7 HL.out (by unfold LexM.ends;rw[if_pos hf])
theorem ends_none {w0 w:World} {x:Nat} {s:St} {wv sv ov:Value} {rv:List Value} (h:zby w0 x s wv sv ov rv w) (hf:¬ 0 < s.frm) :
  Calls Tryz.prog 82 #[lexp x] w (zi2 w0 x (LexM.ends s)):=by
 have z2:=za8 h.cells 2
 have z4:=za8 h.cells 4
 have y2:=za0 h.cells 2
 have y4:=za0 h.cells 4
 simp only[zaz,List.getElem?_toArray,List.getElem?_cons_succ,List.getElem?_cons_zero] at y2 y4
 have hL:=h.setEnds
 obtain⟨Hh,HL⟩:=hd2 h hL;clear h hL
 go_enter Tryz.func82,Tryz.ntmps82
 go_wp2_with fail
 go_end0
 exact zn7 HL.out (by unfold LexM.ends;rw[if_neg (by omega)])
theorem zjo {w0 w:World} {x:Nat} {s:St} {wv sv ov:Value} {rv:List Value} (h:zby w0 x s wv sv ov rv w) {m:Nat} (hm:m≤1000000) (hs:Small s m) :
  Calls Tryz.prog 82 #[lexp x] w (zi2 w0 x (LexM.ends s)):=by
 by_cases hf:0 < s.frm
 ·exact ends_some h hm hs hf
 exact ends_none h hf
end

section
open Go.RowKit
open LexM (Bs Wd Ln St)
theorem ends_len (s:St) (m:Nat) (h:s.words.length≤m):(LexM.ends s).words.length≤m+1:=by
 unfold LexM.ends
 dsimp only
 split <;> (try simp) <;> omega
theorem zrf {w0 w:World} {x:Nat} {s:St} {wv sv ov:Value} {rv:List Value} (h:zby w0 x s wv sv ov rv w) {m:Nat} (hm:m≤1000000) (hs:Small s m) (hw:(LexM.ends s).words≠[]) :
  Calls Tryz.prog 43 #[lexp x] w (zi2 w0 x (LexM.breaks s)):=by
 have HE:=Lib.hid (zjo h hm hs)
 have hso:=hs.out
 have hsl:=hs.line
 have hlen:=ends_len s m hs.words
 have hpos:=List.length_pos_iff.2 hw
 obtain⟨Hh,Hs,Hw⟩:=hd3 h hs hw;clear h hs hw
 go_enter Tryz.func43,Tryz.ntmps43
 go_wp2_with fail
 refine HE.out.mono ?_
 rintro e w1 ⟨rfl,wv1,sv1,ov1,rv1,h1⟩
 have hB:=h1.bel.size
 have hnx:=zaf h1.out h1.cells (by decide)
 obtain⟨sa,sc,rfl⟩:=zaa h1.words
 have c0:=za0 h1.cells 0
 have c5:=za0 h1.cells 5
 have c6:=za0 h1.cells 6
 simp only[zaz,LexM.ends,List.getElem?_toArray,List.getElem?_cons_succ,List.getElem?_cons_zero] at c0 c5 c6
 obtain⟨ws,hws⟩ : ∃ ws,ws=(LexM.ends s).words:=⟨_,rfl⟩
 have c5':w1.cell? ⟨x,5,none⟩=some (.slice sa ws.length sc):=by rw[hws];exact c5
 rw[← hws] at hpos hlen
 have a6:∀ o:Obj,(w1.alloc o).cell? ⟨x,6,none⟩=some ov1:=fun o=>((Frm.refl _ w1).alloc o).keep c6
 have hwd:(w1.drew).ownsRow w0.heap.size 79 2 ov1 s.out.length (zgn s.out rv1):=h1.out
 have hBd:w0.heap.size≤w1.drew.heap.size:=hB
 obtain⟨H1,Hwd,Hnx,Hws⟩:=hd4 h1 hwd hnx hws;clear h1 hwd hnx hws
 clear c5
 go_wp2_with fail
 go_region_law (refine zb2 elem_line (w:=w1.drew) rfl (.tmp 14) (.tmp 24) rfl w0.heap.size ov1 s.out.length (zgn s.out rv1) rfl Hwd.out 1 (by decide) #[.int .i64 s.line,.slice sa ws.length sc] rfl rfl (by simp[Value.oneCell']) (by omega) (by unfold maxLen;omega) hBd ?_;intro g8 c8 w8 hown8 hg8 hm8;have hc8:=zav H1.out.cells ((Frm.drew (Frm.refl _ w1)).grown hg8 (S:=fun k=>ov1.ownBlock=some k) (fun k hk=>.inr hk)) Hnx.out;have d6:=za0 hc8 6;have e6:=za8 hc8 6;simp only[zaz,LexM.ends,List.getElem?_toArray,List.getElem?_cons_succ,List.getElem?_cons_zero] at d6)
 all_goals
  have d0:=za0 hc8 0
  have d1:=za0 hc8 1
  have d3:=za0 hc8 3
  have d5:=za0 hc8 5
  have e0:=za8 hc8 0
  have e1:=za8 hc8 1
  have e3:=za8 hc8 3
  have e5:=za8 hc8 5
  simp only[zaz,LexM.ends,List.getElem?_toArray,List.getElem?_cons_succ,List.getElem?_cons_zero] at d0 d1 d3 d5
  have hcells:=hc8
  have hl1 : -9223372036854775808≤s.line+1∧s.line+1≤9223372036854775807:=by omega
  obtain⟨Hown8,Hg8,Hcells⟩:=hd3 hown8 hg8 hcells;clear hown8 hg8 hcells
  clear hm8 hc8 c0 c5' c6 a6
  go_wp2_with fail
  go_end0
  have hS:LexM.breaks s = { (LexM.ends s) with out:=s.out ++ [(s.line,(LexM.ends s).words)],words:=[],off:=false,line:=s.line+1,col:=0 }:=by
   unfold LexM.breaks
   rw[if_neg Hw.out]
  refine zn7 (H1.out.pushLine (s':=LexM.breaks s) (by have:=Hown8.out;rw[Hws.out] at this;exact this) (zbp Hg8.out) ?_ ?_ ?_ ?_ ?_) rfl
  ·exact zae (zae (zae (zae (zae (Frm.refl _ w8) 6 _) 5 _) 3 _) 0 _) 1 _
  ·rw[hS]
   have k0:=heap_setCell_same _ x 6 _ _ (.slice (some ⟨g8,0,none⟩) (s.out.length+1) c8) Hcells.out
   have k1:=heap_setCell_same _ x 5 _ _ (.slice none 0 0) k0
   have k2:=heap_setCell_same _ x 3 _ _ (.bool false) k1
   have k3:=heap_setCell_same _ x 0 _ _ (.int .i64 (s.line+1)) k2
   have k4:=heap_setCell_same _ x 1 _ _ (.int .i64 0) k3
   rw[k4]
   rfl
  ·rw[hS]
  ·rw[hS]
  rw[hS];rfl
theorem zrg {w0 w:World} {x:Nat} {s:St} {wv sv ov:Value} {rv:List Value} (h:zby w0 x s wv sv ov rv w) {m:Nat} (hm:m≤1000000) (hs:Small s m) (hw:(LexM.ends s).words = []) :
  Calls Tryz.prog 43 #[lexp x] w (zi2 w0 x (LexM.breaks s)):=by
 have HE:=Lib.hid (zjo h hm hs)
 have hsl:=hs.line
 obtain⟨Hh,Hs,Hw⟩:=hd3 h hs hw;clear h hs hw
 go_enter Tryz.func43,Tryz.ntmps43
 go_wp2_with fail
 refine HE.out.mono ?_
 rintro e w1 ⟨rfl,wv1,sv1,ov1,rv1,h1⟩
 obtain⟨sa,sc,rfl⟩:=zaa h1.words
 have hcells:=h1.cells
 rw[Hw.out] at hcells
 have d0:=za0 hcells 0
 have d1:=za0 hcells 1
 have d3:=za0 hcells 3
 have d5:=za0 hcells 5
 have e0:=za8 hcells 0
 have e1:=za8 hcells 1
 have e3:=za8 hcells 3
 have e5:=za8 hcells 5
 simp only[zaz,LexM.ends,List.getElem?_toArray,List.getElem?_cons_succ,List.getElem?_cons_zero,List.length_nil] at d0 d1 d3 d5
 have hl1 : -9223372036854775808≤s.line+1∧s.line+1≤9223372036854775807:=by omega
 obtain⟨H1,Hcells⟩:=hd2 h1 hcells;clear h1 hcells
 go_wp2_with fail
 go_end0
 have hS:LexM.breaks s = { (LexM.ends s) with out:=s.out,words:=[],off:=false,line:=s.line+1,col:=0 }:=by
  unfold LexM.breaks
  rw[if_pos Hw.out]
 refine zn7 (H1.out.to (s':=LexM.breaks s) (wv':=wv1) (sv':=.slice none 0 0) ?_ ?_ (.inl ⟨rfl,?_⟩) (.inr ⟨rfl,?_⟩) ?_) rfl
 ·exact zae (zae (zae (zae (Frm.refl _ w1) 5 _) 3 _) 0 _) 1 _
 ·rw[hS]
  have k1:=heap_setCell_same _ x 5 _ _ (.slice none 0 0) Hcells.out
  have k2:=heap_setCell_same _ x 3 _ _ (.bool false) k1
  have k3:=heap_setCell_same _ x 0 _ _ (.int .i64 (s.line+1)) k2
  have k4:=heap_setCell_same _ x 1 _ _ (.int .i64 0) k3
  rw[k4]
  rfl
 ·rw[hS]
 ·rw[hS]
 rw[hS];rfl
theorem zmh {w0 w:World} {x:Nat} {s:St} {wv sv ov:Value} {rv:List Value} (h:zby w0 x s wv sv ov rv w) {m:Nat} (hm:m≤1000000) (hs:Small s m) :
  Calls Tryz.prog 43 #[lexp x] w (zi2 w0 x (LexM.breaks s)):=by
 by_cases hw:(LexM.ends s).words = []
 ·exact zrg h hm hs hw
 exact zrf h hm hs hw
end

section
open Go.RowKit
open LexM (Bs Wd Ln St)
def znr (w0:World) (x:Nat) (s:St) (v:Value) (e:Ending) (w':World):Prop:=e = .returned v∧∃ wv sv ov rv,zby w0 x s wv sv ov rv w'
theorem zdp {w0 w:World} {x:Nat} {s s':St} {wv sv ov v v':Value} {rv:List Value} (h:zby w0 x s' wv sv ov rv w) (e:s'=s) (hv:v'=v):znr w0 x s v (.returned v') w:=⟨by rw[hv],wv,sv,ov,rv,e ▸ h⟩
theorem zby.scal {w0 w:World} {x:Nat} {s:St} {wv sv ov:Value} {rv:List Value} (h:zby w0 x s wv sv ov rv w) (i:Nat) (u:Value) (s':St) (hc:((zaz s wv sv ov).setIfInBounds i u)=zaz s' wv sv ov) (h1:s'.word=s.word) (h2:s'.words=s.words) (h3:s'.out=s.out) :
  zby w0 x s' wv sv ov rv (w.setCell ⟨x,i,none⟩ u):=by
 refine h.to (Frm.setCell (S:=fun k=>k=x) (Frm.refl _ _) (p:=⟨x,i,none⟩) (.inr rfl) _) ?_ (.inl ⟨rfl,h1⟩) (.inl ⟨rfl,h2⟩) h3
 rw[heap_setCell_same w x i _ _ u h.cells,hc]
theorem zv0 {w0 w:World} {x:Nat} {s:St} {wv sv ov:Value} {rv:List Value} (h:zby w0 x s wv sv ov rv w) (hf:¬ 0 < s.frm) :
  Calls Tryz.prog 83 #[lexp x] w (znr w0 x { s with frm:=s.col } (.bool (LexM.mayBegin s))):=by
 obtain⟨sa,sc,rfl⟩:=zaa h.words
 obtain⟨oa,oc,rfl⟩:=zaa h.out
 have d1:=za0 h.cells 1
 have d2:=za0 h.cells 2
 have d5:=za0 h.cells 5
 have d6:=za0 h.cells 6
 have e2:=za8 h.cells 2
 simp only[zaz,List.getElem?_toArray,List.getElem?_cons_succ,List.getElem?_cons_zero] at d1 d2 d5 d6
 have hL:=h.scal 2 (.int .i64 s.col) { s with frm:=s.col } rfl rfl rfl rfl
 obtain⟨Hh,HL⟩:=hd2 h hL;clear h hL
 by_cases h1:s.words.length < 40
 ·by_cases h2:0 < s.words.length
  ·have hb:LexM.mayBegin s=true:=by unfold LexM.mayBegin;simp[h1,h2]
   have Hb:=hd hb;clear hb
   go_enter Tryz.func83,Tryz.ntmps83
   go_wp2_with fail
   go_ret
   exact zdp HL.out rfl (by rw[Hb.out];rfl)
  by_cases h3:s.out.length < 2000
  ·have hb:LexM.mayBegin s=true:=by unfold LexM.mayBegin;simp[h1,h3]
   have Hb:=hd hb;clear hb
   go_enter Tryz.func83,Tryz.ntmps83
   go_wp2_with fail
   go_ret
   exact zdp HL.out rfl (by rw[Hb.out];exact congrArg Value.bool (decide_eq_true (by omega)))
  have hb:LexM.mayBegin s=false:=by unfold LexM.mayBegin;simp[h2,h3]
  have Hb:=hd hb;clear hb
  go_enter Tryz.func83,Tryz.ntmps83
  go_wp2_with fail
  go_ret
  exact zdp HL.out rfl (by rw[Hb.out];exact congrArg Value.bool (decide_eq_false (by omega)))
 have hb:LexM.mayBegin s=false:=by unfold LexM.mayBegin;simp[h1]
 have Hb:=hd hb;clear hb
 go_enter Tryz.func83,Tryz.ntmps83
 go_wp2_with fail
 go_ret
 exact zdp HL.out rfl (by rw[Hb.out];rfl)
theorem begins_on {w0 w:World} {x:Nat} {s:St} {wv sv ov:Value} {rv:List Value} (h:zby w0 x s wv sv ov rv w) (hf:0 < s.frm) :
  Calls Tryz.prog 83 #[lexp x] w (znr w0 x s (.bool true)):=by
 have d2:=za0 h.cells 2
 simp only[zaz,List.getElem?_toArray,List.getElem?_cons_succ,List.getElem?_cons_zero] at d2
 have Hh:=hd h;clear h
 go_enter Tryz.func83,Tryz.ntmps83
 go_wp2_with fail
 go_ret
 exact zdp Hh.out rfl rfl
theorem zmu {s:St} {m:Nat} (h:Small s m):Small (LexM.onward s) (m+1):=by
 obtain⟨a,b,c,d,e,f,g⟩:=h
 refine⟨?_,?_,?_,?_,?_,?_,g⟩ <;> simp only[LexM.onward] <;> omega
theorem zby.on {w0 w:World} {x:Nat} {s:St} {wv sv ov:Value} {rv:List Value} (h:zby w0 x s wv sv ov rv w):zby w0 x (LexM.onward s) wv sv ov rv (w.setCell ⟨x,1,none⟩ (.int .i64 (s.col+1))) :=
 h.scal 1 (.int .i64 (s.col+1)) (LexM.onward s) rfl rfl rfl rfl
def zh9 (w0:World) (x:Nat) (s:St) (c:UInt8):Ending→World→Prop:=znr w0 x (LexM.takes s c).1 (.int .i64 (LexM.takes s c).2)
theorem takes_any {w0 w:World} {x:Nat} {s:St} {wv sv ov:Value} {rv:List Value} (h:zby w0 x s wv sv ov rv w) {m:Nat} (hm:m < 1000000) (hs:Small s m) (c:UInt8) :
  Calls Tryz.prog 42 #[lexp x,.int .u8 c.toNat] w (zh9 w0 x s c):=by
 have hcol:=hs.col
 have hcl:c.toNat < 256:=c.toNat_lt
 have d1:=za0 h.cells 1
 have e1:=za8 h.cells 1
 have h2:=h.on
 have hs2:=zmu hs
 obtain⟨n,hn⟩ : ∃ n,n=c.toNat:=⟨_,rfl⟩
 rw[← hn] at hcl ⊢
 simp only[zaz,List.getElem?_toArray,List.getElem?_cons_succ,List.getElem?_cons_zero] at d1
 obtain⟨Hh,H2,Hs,Hs2,Hn⟩:=hd5 h h2 hs hs2 hn;clear h h2 hs hs2 hn
 by_cases h10:n=10
 ·have ht:LexM.takes s c=(LexM.breaks (LexM.onward s),0):=by unfold LexM.takes;rw[if_pos (by rw[← Hn.out];exact h10)]
  have b10:((n:Int) == 10)=true:=by rw[beq_iff_eq];omega
  have HB:=Lib.hid (zmh H2.out (by omega) Hs2.out)
  unfold zh9
  rw[ht]
  obtain⟨Ht,H10⟩:=hd2 ht h10;clear ht h10
  go_enter Tryz.func42,Tryz.ntmps42
  go_wp2_with fail
  refine HB.out.mono ?_
  rintro e w1 ⟨rfl,wv1,sv1,ov1,rv1,h1⟩
  have H1:=hd h1;clear h1
  go_wp2_with fail
  go_ret
  exact zdp H1.out rfl rfl
 have c10:¬ c.toNat=10:=by rw[← Hn.out];exact h10
 have b10:((n:Int) == 10)=false:=by rw[beq_eq_false_iff_ne];omega
 by_cases hA:n < 32∨126 < n
 ·have ht:LexM.takes s c=(LexM.onward s,3):=by unfold LexM.takes;rw[if_neg c10,if_pos (by rw[← Hn.out];exact hA)]
  unfold zh9
  rw[ht]
  clear ht h10 c10
  by_cases h32:n < 32
  ·clear hA
   go_enter Tryz.func42,Tryz.ntmps42
   go_wp2_with fail
   go_ret
   exact zdp H2.out rfl rfl
  have h126:126 < n:=by omega
  clear hA
  go_enter Tryz.func42,Tryz.ntmps42
  go_wp2_with fail
  go_ret
  exact zdp H2.out rfl rfl
 have hlo:32≤n:=by omega
 have hhi:n≤126:=by omega
 have cA:¬ (c.toNat < 32∨126 < c.toNat):=by rw[← Hn.out];exact hA
 have d3:=za0 Hh.out.cells 3
 simp only[zaz,List.getElem?_toArray,List.getElem?_cons_succ,List.getElem?_cons_zero] at d3
 obtain⟨off,hoff⟩ : ∃ off,off=s.off:=⟨_,rfl⟩
 rw[← hoff] at d3
 clear hA h10
 cases off
 ·have coff:¬ s.off=true:=by rw[← hoff];simp
  clear hoff
  by_cases h35:n=35
  ·have ht:LexM.takes s c=({ LexM.ends (LexM.onward s) with off:=true },0):=by unfold LexM.takes;rw[if_neg c10,if_neg cA,if_neg coff,if_pos (by rw[← Hn.out];exact h35)]
   have b35:((n:Int) == 35)=true:=by rw[beq_iff_eq];omega
   have HE:=Lib.hid (zjo H2.out (by omega) Hs2.out)
   unfold zh9
   rw[ht]
   clear ht c10 cA coff h35
   go_enter Tryz.func42,Tryz.ntmps42
   go_wp2_with fail
   refine HE.out.mono ?_
   rintro e w1 ⟨rfl,wv1,sv1,ov1,rv1,h1⟩
   have e3:=za0 h1.cells 3
   have f3:=za8 h1.cells 3
   simp only[zaz,List.getElem?_toArray,List.getElem?_cons_succ,List.getElem?_cons_zero] at e3
   have hX:=h1.scal 3 (.bool true) { LexM.ends (LexM.onward s) with off:=true } rfl rfl rfl rfl
   obtain⟨H1,HX⟩:=hd2 h1 hX;clear h1 hX
   go_wp2_with fail
   go_ret
   exact zdp HX.out rfl rfl
  have c35:¬ c.toNat=35:=by rw[← Hn.out];exact h35
  have b35:((n:Int) == 35)=false:=by rw[beq_eq_false_iff_ne];omega
  by_cases h32:n=32
  ·have ht:LexM.takes s c=(LexM.ends (LexM.onward s),0):=by unfold LexM.takes;rw[if_neg c10,if_neg cA,if_neg coff,if_neg c35,if_pos (by rw[← Hn.out];exact h32)]
   have b32:((n:Int) == 32)=true:=by rw[beq_iff_eq];omega
   have HE:=Lib.hid (zjo H2.out (by omega) Hs2.out)
   unfold zh9
   rw[ht]
   clear ht c10 cA coff h35 c35 h32
   go_enter Tryz.func42,Tryz.ntmps42
   go_wp2_with fail
   refine HE.out.mono ?_
   rintro e w1 ⟨rfl,wv1,sv1,ov1,rv1,h1⟩
   have H1:=hd h1;clear h1
   go_wp2_with fail
   go_ret
   exact zdp H1.out rfl rfl
  have c32:¬ c.toNat=32:=by rw[← Hn.out];exact h32
  have b32:((n:Int) == 32)=false:=by rw[beq_eq_false_iff_ne];omega
  by_cases hfr:0 < s.frm
  ·have ht:LexM.takes s c=({ LexM.onward s with word:=s.word ++ [c] },0):=by unfold LexM.takes;rw[if_neg c10,if_neg cA,if_neg coff,if_neg c35,if_neg c32,if_pos hfr]
   have HE:=Lib.hid (begins_on H2.out (show 0 < (LexM.onward s).frm from hfr))
   have Ht:=hd ht;clear ht
   clear c10 cA coff h35 c35 h32 c32 hfr
   go_enter Tryz.func42,Tryz.ntmps42
   go_wp2_with fail
   refine HE.out.mono ?_
   rintro e w1 ⟨rfl,wv1,sv1,ov1,rv1,h1⟩
   have e4:=za0 h1.cells 4
   simp only[zaz,List.getElem?_toArray,List.getElem?_cons_succ,List.getElem?_cons_zero] at e4
   have hB1:=h1.bel.size
   have hx1:=zaf h1.word h1.cells (by decide)
   have how:=h1.word
   have hwl:s.word.length≤m:=Hs.out.word
   obtain⟨H1,Hx1,How⟩:=hd3 h1 hx1 how;clear h1 hx1 how
   go_wp2_with (at_builtin;refine zf2 zpf (w:=w1) rfl (.tmp 16) (.tmp 18) rfl w0.heap.size wv1 s.word.length (zj8 s.word) rfl How.out 1 (by decide) #[.int .u8 n] rfl rfl (by simp[Value.oneCell']) (by omega) (by unfold maxLen;omega) hB1 ?_)
   intro g8 c8 w8 hown8 hg8 hm8
   have hc8:=zav H1.out.cells ((Frm.refl _ w1).grown hg8 (S:=fun k=>wv1.ownBlock=some k) (fun k hk=>.inr hk)) Hx1.out
   have k4:=za0 hc8 4
   have f4:=za8 hc8 4
   simp only[zaz,List.getElem?_toArray,List.getElem?_cons_succ,List.getElem?_cons_zero] at k4
   have hP:=H1.out.pushByte c (by rw[← Hn.out];exact hown8) hg8
   have HP:=hd hP;clear hP
   clear hown8 hg8 hm8 hc8
   go_wp2_with fail
   go_ret
   exact zdp HP.out (by rw[Ht.out];rfl) (by rw[Ht.out];rfl)
  have HE:=Lib.hid (zv0 H2.out (show ¬ 0 < (LexM.onward s).frm from hfr))
  by_cases hmb:LexM.mayBegin s=true
  ·have ht:LexM.takes s c=({ LexM.onward s with frm:=s.col+1,word:=s.word ++ [c] },0):=by unfold LexM.takes;rw[if_neg c10,if_neg cA,if_neg coff,if_neg c35,if_neg c32,if_neg hfr,if_pos hmb]
   have hmb2:LexM.mayBegin (LexM.onward s)=true:=hmb
   rw[hmb2] at HE
   have Ht:=hd ht;clear ht
   clear c10 cA coff h35 c35 h32 c32 hfr hmb hmb2
   go_enter Tryz.func42,Tryz.ntmps42
   go_wp2_with fail
   refine HE.out.mono ?_
   rintro e w1 ⟨rfl,wv1,sv1,ov1,rv1,h1⟩
   have e4:=za0 h1.cells 4
   simp only[zaz,List.getElem?_toArray,List.getElem?_cons_succ,List.getElem?_cons_zero] at e4
   have hB1:=h1.bel.size
   have hx1:=zaf h1.word h1.cells (by decide)
   have how:=h1.word
   have hwl:s.word.length≤m:=Hs.out.word
   obtain⟨H1,Hx1,How⟩:=hd3 h1 hx1 how;clear h1 hx1 how
   go_wp2_with (at_builtin;refine zf2 zpf (w:=w1) rfl (.tmp 16) (.tmp 18) rfl w0.heap.size wv1 s.word.length (zj8 s.word) rfl How.out 1 (by decide) #[.int .u8 n] rfl rfl (by simp[Value.oneCell']) (by omega) (by unfold maxLen;omega) hB1 ?_)
   intro g8 c8 w8 hown8 hg8 hm8
   have hc8:=zav H1.out.cells ((Frm.refl _ w1).grown hg8 (S:=fun k=>wv1.ownBlock=some k) (fun k hk=>.inr hk)) Hx1.out
   have k4:=za0 hc8 4
   have f4:=za8 hc8 4
   simp only[zaz,List.getElem?_toArray,List.getElem?_cons_succ,List.getElem?_cons_zero] at k4
   have hP:=H1.out.pushByte c (by rw[← Hn.out];exact hown8) hg8
   have HP:=hd hP;clear hP
   clear hown8 hg8 hm8 hc8
   go_wp2_with fail
   go_ret
   exact zdp HP.out (by rw[Ht.out];rfl) (by rw[Ht.out];rfl)
  have ht:LexM.takes s c=({ LexM.onward s with frm:=s.col+1 },4):=by unfold LexM.takes;rw[if_neg c10,if_neg cA,if_neg coff,if_neg c35,if_neg c32,if_neg hfr,if_neg hmb]
  have hmb2:LexM.mayBegin (LexM.onward s)=false:=(by simpa using hmb:LexM.mayBegin s=false)
  rw[hmb2] at HE
  have Ht:=hd ht;clear ht
  clear c10 cA coff h35 c35 h32 c32 hfr hmb hmb2
  go_enter Tryz.func42,Tryz.ntmps42
  go_wp2_with fail
  refine HE.out.mono ?_
  rintro e w1 ⟨rfl,wv1,sv1,ov1,rv1,h1⟩
  have H1:=hd h1;clear h1
  go_wp2_with fail
  go_ret
  exact zdp H1.out (by rw[Ht.out];rfl) (by rw[Ht.out];rfl)
 have coff:s.off=true:=hoff.symm
 have ht:LexM.takes s c=(LexM.onward s,0):=by unfold LexM.takes;rw[if_neg c10,if_neg cA,if_pos coff]
 unfold zh9
 rw[ht]
 clear ht c10 cA coff hoff
 go_enter Tryz.func42,Tryz.ntmps42
 go_wp2_with fail
 go_ret
 exact zdp H2.out rfl rfl
end

section
open Go.RowKit
open LexM (Bs Wd Ln St)
theorem small0:Small LexM.st0 0:=⟨by decide,by decide,by decide,by decide,by decide,by decide,by decide⟩
theorem zmb {s:St} {m:Nat} (h:Small s m):Small (LexM.ends s) (m+1):=by
 obtain⟨a,b,c,d,e,f,g⟩:=h
 refine⟨?_,?_,?_,?_,?_,?_,?_⟩ <;> unfold LexM.ends <;> dsimp only
 ·omega
 ·omega
 ·omega
 ·simp
 ·split <;> (try simp) <;> omega
 ·omega
 intro h;exact absurd h (by decide)
theorem zpn {s:St} {m:Nat} (h:Small s m):Small (LexM.breaks s) (m+1):=by
 obtain⟨a,b,c,d,e,f,g⟩:=h
 refine⟨?_,?_,?_,?_,?_,?_,?_⟩ <;> unfold LexM.breaks LexM.ends <;> dsimp only
 ·omega
 ·omega
 ·omega
 ·simp
 ·simp
 ·(repeat' split) <;> (try simp) <;> omega
 intro h;exact absurd h (by decide)
theorem Small.mono {s:St} {m k:Nat} (h:Small s m) (hk:m≤k):Small s k:=by
 obtain⟨a,b,c,d,e,f,g⟩:=h
 exact⟨by omega,by omega,by omega,by omega,by omega,by omega,g⟩
theorem zjs {s:St} {m:Nat} (h:Small s m) (c:UInt8) (h0:(LexM.takes s c).2=0):Small (LexM.takes s c).1 (m+2):=by
 have h1:=zmu h
 unfold LexM.takes at h0 ⊢
 split
 ·exact zpn h1
 rename_i c10
 rw[if_neg c10] at h0
 split
 ·rename_i cA;rw[if_pos cA] at h0;cases h0
 rename_i cA
 rw[if_neg cA] at h0
 split
 ·exact h1.mono (by omega)
 rename_i co
 rw[if_neg co] at h0
 split
 ·obtain⟨a,b,c,d,e,f,g⟩:=zmb h1
  exact⟨a,b,c,d,e,f,g⟩
 rename_i c35
 rw[if_neg c35] at h0
 split
 ·exact zmb h1
 rename_i c32
 rw[if_neg c32] at h0
 have hw:=h.word
 have hc:=h.col
 obtain⟨a,b,c,d,e,f,g⟩:=h1
 split
 ·exact⟨by dsimp only;omega,by dsimp only;omega,by dsimp only;omega,by simp;omega,by dsimp only;omega,by dsimp only;omega,fun _=>by simp⟩
 rename_i cf
 rw[if_neg cf] at h0
 split
 ·refine⟨by dsimp only;omega,by dsimp only;omega,by dsimp only;omega,by simp;omega,by dsimp only;omega,by dsimp only;omega,fun _=>by simp⟩
 rename_i cm
 rw[if_neg cm] at h0
 cases h0
theorem run_small (t:Bs):∀ (s:St) (m:Nat),Small s m→(LexM.run s t).2=0→Small (LexM.run s t).1 (m+2 * t.length):=by
 induction t with
 | nil=>intro s m h _;exact h
 | cons c r ih =>
  intro s m h h0
  by_cases hz:(LexM.takes s c).2=0
  ·rw[LexM.run_ok hz] at h0 ⊢
   have:=ih _ _ (zjs h c hz) h0
   rw[List.length_cons]
   exact this.mono (by omega)
  rw[LexM.run_bad hz] at h0;exact absurd h0 hz
theorem zqc (t:Bs) (c:UInt8) (s:St) (h:(LexM.run s t).2=0):LexM.run s (t ++ [c])=if (LexM.takes (LexM.run s t).1 c).2=0 then ((LexM.takes (LexM.run s t).1 c).1,0) else LexM.takes (LexM.run s t).1 c:=by
 rw[LexM.run_append,if_pos h]
 by_cases hz:(LexM.takes (LexM.run s t).1 c).2=0
 ·rw[LexM.run_ok hz,if_pos hz];rfl
 rw[LexM.run_bad hz,if_neg hz]
theorem run_stop (t r:Bs) (s:St) (h:(LexM.run s t).2≠0):LexM.run s (t ++ r)=LexM.run s t:=by rw[LexM.run_append,if_neg h]
def WdOk (m:Nat) (x:Wd):Prop:=0≤x.1∧x.1≤m∧x.2.length≤m
def LnOk (m:Nat) (x:Ln):Prop:=0≤x.1∧x.1≤m+1∧∀ wd∈x.2,WdOk m wd
structure Fine (s:St) (m:Nat):Prop where
 words:∀ wd∈s.words,WdOk m wd
 out:∀ ln∈s.out,LnOk m ln
theorem WdOk.mono {m k:Nat} {x:Wd} (h:WdOk m x) (hk:m≤k):WdOk k x:=by obtain⟨a,b,c⟩:=h;exact⟨a,by omega,by omega⟩
theorem LnOk.mono {m k:Nat} {x:Ln} (h:LnOk m x) (hk:m≤k):LnOk k x:=by obtain⟨a,b,c⟩:=h;exact⟨a,by omega,fun wd hw=>(c wd hw).mono hk⟩
theorem Fine.mono {s:St} {m k:Nat} (h:Fine s m) (hk:m≤k):Fine s k:=⟨fun wd hw=>(h.words wd hw).mono hk,fun ln hl=>(h.out ln hl).mono hk⟩
theorem zpd {s:St} {m:Nat} (hs:Small s m) (h:Fine s m):Fine (LexM.ends s) m:=by
 refine⟨?_,h.out⟩
 unfold LexM.ends
 dsimp only
 split
 ·intro wd hw
  rcases List.mem_append.1 hw with hw | hw
  ·exact h.words wd hw
  simp at hw
  subst hw
  exact⟨hs.frm.1,hs.frm.2,hs.word⟩
 exact h.words
theorem zl3 {s:St} {m:Nat} (hs:Small s m) (h:Fine s m):Fine (LexM.breaks s) m:=by
 have h1:=zpd hs h
 unfold LexM.breaks
 refine⟨by simp,?_⟩
 dsimp only
 split
 ·exact h.out
 intro ln hl
 rcases List.mem_append.1 hl with hl | hl
 ·exact h.out ln hl
 simp at hl
 subst hl
 exact⟨hs.line.1,hs.line.2,h1.words⟩
theorem ztb {s:St} {m:Nat} (hs:Small s m) (h:Fine s m) (c:UInt8):Fine (LexM.takes s c).1 (m+2):=by
 have h1:=zmu hs
 have h2:Fine (LexM.onward s) (m+1):=⟨(h.mono (Nat.le_succ m)).words,(h.mono (Nat.le_succ m)).out⟩
 have h3:=(zpd h1 h2).mono (Nat.le_succ _)
 have h4:=h2.mono (Nat.le_succ (m+1))
 unfold LexM.takes
 split
 ·exact (zl3 h1 h2).mono (Nat.le_succ _)
 split
 ·exact h4
 split
 ·exact h4
 split
 ·exact⟨h3.words,h3.out⟩
 split
 ·exact h3
 split
 ·exact⟨h4.words,h4.out⟩
 split
 ·exact⟨h4.words,h4.out⟩
 exact⟨h4.words,h4.out⟩
theorem run_fine (t:Bs):∀ (s:St) (m:Nat),Small s m→Fine s m→(LexM.run s t).2=0→Fine (LexM.run s t).1 (m+2 * t.length):=by
 induction t with
 | nil=>intro s m _ h _;exact h
 | cons c r ih =>
  intro s m hs h h0
  by_cases hz:(LexM.takes s c).2=0
  ·rw[LexM.run_ok hz] at h0 ⊢
   have:=ih _ _ (zjs hs c hz) (ztb hs h c) h0
   rw[List.length_cons]
   exact this.mono (by omega)
  rw[LexM.run_bad hz] at h0;exact absurd h0 hz
theorem zrq {n:Int} (h0:0≤n) (h1:n≤9223372036854775807):(Lit.int .i64 n).wf=true:=by
 simp[Lit.wf,IntKind.min,IntKind.max,IntKind.signed,IntKind.bits]
 omega
theorem rword {w:World} {m:Nat} (hm:m≤10000000) {x:Wd} (h:WdOk m x):RWd w (zdy x) x:=by
 obtain⟨a,b,c⟩:=h
 exact⟨rfl,zrq a (by omega),by unfold maxLen;omega⟩
theorem zby.reads {w0 w w':World} {x:Nat} {s:St} {wv sv ov:Value} {rv:List Value} (h:zby w0 x s wv sv ov rv w) (hfr:Frm (fun k=>k < w0.heap.size) w w') {m:Nat} (hm:m≤10000000) (hf:Fine s m):RLns w' [ov] s.out:=by
 have hz:(zgn s.out rv)=(s.out.zip rv).flatMap fun x=>[.int .i64 x.1.1,x.2]:=rfl
 have hlen:(s.out.zip rv).length=s.out.length:=by simp[h.rlen]
 have h1:=hfr.owns h.out (fun k hk e=>by have:=(h.out.lt k hk).1;omega)
 rw[hz] at h1
 have h2:zal 2 (fun w cs (y:Ln × Value)=>RLn w cs y.1) w' [ov] (s.out.zip rv):=by
  refine zhh (B:=w0.heap.size) (e:=79) (fun x:Ln × Value=>[.int .i64 x.1.1,x.2]) _ (fun _ _=>rfl) ?_ (by rw[hlen];exact h1)
  intro y hy
  obtain⟨i,hi,rfl⟩:=List.mem_iff_getElem.1 hy
  have hi1:i < s.out.length:=by omega
  have hi2:i < rv.length:=by rw[h.rlen];exact hi1
  rw[List.getElem_zip]
  obtain⟨r0,_⟩:=h.rows i s.out[i] rv[i] (List.getElem?_eq_getElem hi1) (List.getElem?_eq_getElem hi2)
  have r1:=hfr.owns r0 (fun k hk e=>by have:=(r0.lt k hk).1;omega)
  obtain⟨a,b,c⟩:=hf.out _ (List.getElem_mem hi1)
  refine⟨rv[i],rfl,zhh zdy RWd (fun _ _=>rfl) (fun wd hw=>rword hm (c wd hw)) r1,zrq (n:=s.out[i].1) a (by omega)⟩
 obtain⟨a,cap,hv,g1,g2,g3⟩:=h2
 rw[hlen] at hv g1
 refine⟨a,cap,hv,g1,g2,fun i ln hi=>?_⟩
 have hi1:=(List.getElem?_eq_some_iff.1 hi).1
 have hi2:i < rv.length:=by rw[h.rlen];exact hi1
 have hzi:(s.out.zip rv)[i]? = some (ln,rv[i]):=by
  rw[List.getElem?_zip_eq_some]
  exact⟨hi,List.getElem?_eq_getElem hi2⟩
 exact g3 i _ hzi
def zgz (w:World) (r:LexM.Res) (e:Ending) (w':World):Prop:=∃ v,e = .returned (.tuple #[v,.agg #[.int .i64 r.at1,.int .i64 r.at2],.int .i64 r.e])∧RLns w' [v] r.lines∧Below w.heap.size w w'
theorem zn8 (s:ByteArray) (hs:s.size≤140737488351232) (w:World) (h:65536 < s.size):Calls Tryz.prog 22 #[.string s] w (zgz w (LexM.lines s.data.toList)):=by
 have hr:LexM.lines s.data.toList=⟨[],0,0,4⟩:=by unfold LexM.lines;rw[if_pos];rw[Array.length_toList];exact h
 rw[hr]
 clear hr
 go_enter Tryz.func22,Tryz.ntmps22
 go_wp2_with fail
 refine bodyPost_ret (v:=.tuple #[.slice none 0 0,.agg #[.int .i64 0,.int .i64 0],.int .i64 4]) (by simp[results,Tryz.results22,go_sem]) rfl ⟨_,rfl,⟨none,0,rfl,Nat.le_refl _,Nat.zero_le _,fun i x hi=>by simp at hi⟩,?_⟩
 exact (Below.refl _ _).alloc (Nat.le_refl _) _
theorem zby.start (w1:World):zby w1 w1.heap.size LexM.st0 (.slice none 0 0) (.slice none 0 0) (.slice none 0 0) [] (w1.alloc (.cells (zaz LexM.st0 (.slice none 0 0) (.slice none 0 0) (.slice none 0 0)) 117)) :=
 ⟨heap_alloc_new w1 _,World.ownsRow_nil _ _ _ _,World.ownsRow_nil _ _ _ _,World.ownsRow_nil _ _ _ _,rfl,fun i ln v hi=>by simp[LexM.st0] at hi,(Below.refl _ _).alloc (Nat.le_refl _) _,Nat.le_refl _⟩
def zrk (w1:World) (x:Nat) (t:Bs) (k:Nat) (w:World):Prop:=(LexM.run LexM.st0 (t.take k)).2=0∧∃ wv sv ov rv,zby w1 x (LexM.run LexM.st0 (t.take k)).1 wv sv ov rv w
theorem byte_at (s:ByteArray) (k:Nat) (h:k < s.size):s.data.toList.take (k+1)=s.data.toList.take k ++ [s[k]]:=by
 rw[List.take_add_one,List.getElem?_eq_getElem (by rw[Array.length_toList];exact h)]
 rfl
theorem zlp (s:ByteArray) (w:World) (h:s.size≤65536):Calls Tryz.prog 22 #[.string s] w (zgz w (LexM.lines s.data.toList)):=by
 have hlen:s.data.toList.length=s.size:=by rw[Array.length_toList];rfl
 have hr:LexM.lines s.data.toList=LexM.close (LexM.run LexM.st0 s.data.toList):=by unfold LexM.lines;rw[if_neg];omega
 rw[hr]
 clear hr
 obtain⟨t,ht⟩ : ∃ t,t=s.data.toList:=⟨_,rfl⟩
 rw[← ht] at hlen ⊢
 have h0:=zby.start (w.alloc (.cells #[.int .i64 0,.int .i64 0] 31))
 simp only[World.size_alloc] at h0
 have hg0:zrk (w.alloc (.cells #[.int .i64 0,.int .i64 0] 31)) (w.heap.size+1) t 0 ((w.alloc (.cells #[.int .i64 0,.int .i64 0] 31)).alloc (.cells (zaz LexM.st0 (.slice none 0 0) (.slice none 0 0) (.slice none 0 0)) 117)):=⟨rfl,_,_,_,_,h0⟩
 obtain⟨Ht,Hlen,Hg0⟩:=hd3 ht hlen hg0;clear ht hlen hg0
 clear h0
 go_enter Tryz.func22,Tryz.ntmps22
 go_wp2_with fail
 obtain⟨w2,hw2⟩ : ∃ w2,w2=((w.alloc (.cells #[.int .i64 0,.int .i64 0] 31)).alloc (.cells (zaz LexM.st0 (.slice none 0 0) (.slice none 0 0) (.slice none 0 0)) 117)):=⟨_,rfl⟩
 rw[← hw2] at Hg0
 have hw3:=hw2
 simp only[zaz,LexM.st0] at hw3
 rw[← hw3]
 clear hw2 hw3
 go_loopw [16] (fun i wr=>∃ k:Nat,k≤s.size∧i = .int .i64 k∧zrk (w.alloc (.cells #[.int .i64 0,.int .i64 0] 31)) (w.heap.size+1) t k wr) (fun i _=>s.size - (intOf i).toNat)
 case atStart=>exact⟨0,Nat.zero_le _,rfl,Hg0.out⟩
 case round =>
  obtain⟨k,hk,rfl,hg⟩:=hrel
  obtain⟨hz,wv,sv,ov,rv,hL⟩:=hg
  have hS:=run_small (t.take k) LexM.st0 0 small0 hz
  have htl:(t.take k).length≤k:=List.length_take_le _ _
  obtain⟨st,hst⟩ : ∃ st,st=(LexM.run LexM.st0 (t.take k)).1:=⟨_,rfl⟩
  rw[← hst] at hL hS
  by_cases hlt:k < s.size
  ·have hsn:=byte_at s k hlt
   obtain⟨Hz,HL,HS,Hst,Hsn⟩:=hd5 hz hL hS hst hsn;clear hz hL hS hst hsn
   go_wp2_with fail
   refine (takes_any HL.out (by omega) HS.out s[k]).mono ?_
   rintro e w3 ⟨rfl,wv3,sv3,ov3,rv3,h3⟩
   obtain⟨er,her⟩ : ∃ er,er=(LexM.takes st s[k]).2:=⟨_,rfl⟩
   have htk:LexM.run LexM.st0 (t.take (k+1))=if (LexM.takes st s[k]).2=0 then ((LexM.takes st s[k]).1,0) else LexM.takes st s[k]:=by
    rw[Ht.out,Hsn.out,← Ht.out,zqc _ _ _ Hz.out,← Hst.out]
   rw[← her] at htk ⊢
   by_cases he:er=0
   ·have hb:(er != 0)=false:=by rw[he];rfl
    rw[if_pos he] at htk
    have hg:zrk (w.alloc (.cells #[.int .i64 0,.int .i64 0] 31)) (w.heap.size+1) t (k+1) w3:=⟨by rw[htk],wv3,sv3,ov3,rv3,by rw[htk];exact h3⟩
    obtain⟨Hg,Htk,Her,He⟩:=hd4 hg htk her he;clear hg htk her he
    clear h3
    go_wp2_with fail
    go_roundw
    case rel=>exact⟨k+1,by omega,by go_num,Hg.out⟩
    case measure=>simp[intOf];omega
   have hb:(er != 0)=true:=by rw[bne_iff_ne];exact he
   rw[if_neg he] at htk
   have hsplit:t=t.take (k+1) ++ t.drop (k+1):=(List.take_append_drop _ _).symm
   have hrun:LexM.run LexM.st0 t=LexM.takes st s[k]:=by
    rw[hsplit,run_stop _ _ _ (by rw[htk];rw[← her];exact he),htk]
   have hcl:LexM.close (LexM.run LexM.st0 t)=⟨[],(LexM.takes st s[k]).1.line,(LexM.takes st s[k]).1.col,er⟩:=by
    rw[hrun];unfold LexM.close;rw[← her,if_neg he]
   have x0:=za0 h3.cells 0
   have x1:=za0 h3.cells 1
   simp only[zaz,List.getElem?_toArray,List.getElem?_cons_succ,List.getElem?_cons_zero] at x0 x1
   obtain⟨l3,hl3⟩ : ∃ l3,l3=(LexM.takes st s[k]).1.line:=⟨_,rfl⟩
   obtain⟨c3,hc3⟩ : ∃ c3,c3=(LexM.takes st s[k]).1.col:=⟨_,rfl⟩
   rw[← hl3] at x0 hcl
   rw[← hc3] at x1 hcl
   have hblk:w3.heap[w.heap.size]? = some (.cells #[.int .i64 0,.int .i64 0] 31 (0,0)):=by
    rw[h3.bel.block _ (by simp)];exact heap_alloc_new w _
   have z0:=za0 hblk 0
   have z1:=za0 hblk 1
   have y0:=za8 hblk 0
   have y1:=za8 hblk 1
   simp only[List.getElem?_toArray,List.getElem?_cons_succ,List.getElem?_cons_zero] at z0 z1
   have hbel:=h3.bel
   obtain⟨Hbel,Htk,Her,He,Hrun,Hcl,Hsplit,Hl3,Hc3,H3⟩:=hd10 hbel htk her he hrun hcl hsplit hl3 hc3 h3;clear hbel htk her he hrun hcl hsplit hl3 hc3 h3
   clear hblk
   go_wp2_with fail
   go_region
   all_goals
    go_wp2_with fail
    refine bodyPost_ret (v:=.tuple #[.slice none 0 0,.agg #[.int .i64 l3,.int .i64 c3],.int .i64 er]) (by simp[results,Tryz.results22,go_sem,z0,z1]) rfl ?_
    rw[Hcl.out]
    refine⟨_,rfl,⟨none,0,rfl,Nat.le_refl _,Nat.zero_le _,fun i x hi=>by simp at hi⟩,?_⟩
    exact ((((Below.refl _ _).alloc (Nat.le_refl _) _).trans (Hbel.out.mono (by simp))).setCell (Nat.le_refl _) _).setCell (Nat.le_refl _) _ |>.drew
  obtain rfl:k=s.size:=by omega
  have htake:t.take s.size=t:=List.take_of_length_le (by have:=Hlen.out;omega)
  have hF:=run_fine (t.take s.size) LexM.st0 0 small0 ⟨by simp[LexM.st0],by simp[LexM.st0]⟩ hz
  rw[← hst] at hF
  have hcl:LexM.close (LexM.run LexM.st0 t)=⟨(LexM.breaks st).out,0,0,0⟩:=by
   rw[htake] at hz hst
   unfold LexM.close;rw[if_pos hz,← hst]
  have hF2:=zl3 hS hF
  obtain⟨Hz,HL,HS,Hst,Htake,Hcl,HF,HF2⟩:=hd8 hz hL hS hst htake hcl hF hF2;clear hz hL hS hst htake hcl hF hF2
  go_wp2_with fail
  refine (zmh HL.out (by omega) HS.out).mono ?_
  rintro e w3 ⟨rfl,wv3,sv3,ov3,rv3,h3⟩
  have x6:=za0 h3.cells 6
  simp only[zaz,List.getElem?_toArray,List.getElem?_cons_succ,List.getElem?_cons_zero] at x6
  have hblk:w3.heap[w.heap.size]? = some (.cells #[.int .i64 0,.int .i64 0] 31 (0,0)):=by
   rw[h3.bel.block _ (by simp)];exact heap_alloc_new w _
  have z0:=za0 hblk 0
  have z1:=za0 hblk 1
  have y0:=za8 hblk 0
  have y1:=za8 hblk 1
  simp only[List.getElem?_toArray,List.getElem?_cons_succ,List.getElem?_cons_zero] at z0 z1
  have hRd:=h3.reads (w':=(w3.setCell ⟨w.heap.size,0,none⟩ (.int .i64 0)).setCell ⟨w.heap.size,1,none⟩ (.int .i64 0)) (Frm.setCell (Frm.setCell (Frm.refl _ _) (p:=⟨w.heap.size,0,none⟩) (.inr (by simp)) _) (p:=⟨w.heap.size,1,none⟩) (.inr (by simp)) _) (by omega) HF2.out
  have hbel:=h3.bel
  obtain⟨Hbel,HRd,H3⟩:=hd3 hbel hRd h3;clear hbel hRd h3
  clear hblk
  go_wp2_with fail
  refine bodyPost_ret (v:=.tuple #[ov3,.agg #[.int .i64 0,.int .i64 0],.int .i64 0]) (by simp[results,Tryz.results22,go_sem,z0,z1]) rfl ?_
  rw[Hcl.out]
  refine⟨_,rfl,?_,?_⟩
  ·exact HRd.out
  exact (((((Below.refl _ _).alloc (Nat.le_refl _) _).trans (Hbel.out.mono (by simp))).setCell (Nat.le_refl _) _).setCell (Nat.le_refl _) _)
theorem zj4 (s:ByteArray) (hs:s.size≤140737488351232) (w:World):Calls Tryz.prog 22 #[.string s] w (zgz w (LexM.lines s.data.toList)):=by
 by_cases h:65536 < s.size
 ·exact zn8 s hs w h
 exact zlp s w (by omega)
end

section
open Go.Shelf Go.RowKit Go.Lib VerN VarM
open LexM (Wd Ln zik)
attribute [local go_sem ↓] Go.wp_at_zero Go.wp_at_succ
theorem lns_at {w:World} {a:Option Addr} {n c:Nat} {ls:List Ln} (h:RLns w [.slice a n c] ls):n=ls.length∧n≤9223372036854775807∧∀ i x,ls[i]? = some x→∃ b off a2 n2 c2,a=some ⟨b,off,none⟩∧w.cell? ⟨b,off+i * 2,none⟩=some (.int .i64 x.1)∧w.cell? ⟨b,off+i * 2+1,none⟩=some (.slice a2 n2 c2)∧RWds w [.slice a2 n2 c2] x.2:=by
 obtain⟨a',cap,hv,hcap,hmax,hel⟩:=h
 simp only[List.cons.injEq,and_true,Value.slice.injEq] at hv
 obtain⟨rfl,hn,_⟩:=hv
 unfold maxLen at hmax
 refine⟨hn,by omega,fun i x hi=>?_⟩
 obtain⟨b,off,ecs,h1,h2,h3,v,h4,h5,_⟩:=hel i x hi
 obtain⟨a2,c2,rfl⟩:=znv h5
 subst h4
 exact⟨b,off,a2,_,c2,h1,by simpa using h3 0 _ rfl,by simpa using h3 1 _ rfl,h5⟩
theorem zhx {P:Program} {fn:Func} {p q u:Tmp} {ty tz t1 t2:TypeId} (h:fn.results=#[.cell p ty,.cell q tz,.tmp u]) {tmps:Array Value} {w:World} {g k:Nat} {cs ds:Array Value} {d1 d2:TypeDesc} {x:Value}
  (hp:tmps.getD p undef = .pointer (some ⟨g,0,none⟩)) (hq:tmps.getD q undef = .pointer (some ⟨k,0,none⟩)) (hx:tmps.getD u undef=x) (hg:w.heap[g]? = some (.cells cs t1 (0,0))) (hk:w.heap[k]? = some (.cells ds t2 (0,0)))
  (hu:P.underlying ty=some d1) (hd:(match d1 with | .struct _ | .array _ _=>true | _=>false)=true) (hi:(P.info? ty).map (·.size)=some cs.size)
  (hu2:P.underlying tz=some d2) (hd2:(match d2 with | .struct _ | .array _ _=>true | _=>false)=true) (hi2:(P.info? tz).map (·.size)=some ds.size) :
  (results fn tmps).run P w = .ok (.tuple #[.agg cs,.agg ds,x]) w:=by
 have hl:=run_loadVar_row w g t1 ty cs (0,0) d1 hg hu hd hi
 have hl2:=run_loadVar_row w k t2 tz ds (0,0) d2 hk hu2 hd2 hi2
 have hp':tmps[p]?.getD undef = .pointer (some ⟨g,0,none⟩):=by simpa using hp
 have hq':tmps[q]?.getD undef = .pointer (some ⟨k,0,none⟩):=by simpa using hq
 have hx':tmps[u]?.getD undef=x:=by simpa using hx
 simp only[results,h]
 simp[Sem.run_bind,Result.andThen,asAddr,hp',hq',hx',hl,hl2]
abbrev WhBox (k:Nat) (x y:Int) (W:World):Prop:=W.heap[k]? = some (.cells #[.int .i64 x,.int .i64 y] 31 (0,0))
theorem zjf {k:Nat} {x y:Int} {W:World} (h:WhBox k x y W):W.cell? ⟨k,0,none⟩=some (.int .i64 x)∧W.cell? ⟨k,1,none⟩=some (.int .i64 y)∧W.frozen? ⟨k,0,none⟩=false∧W.frozen? ⟨k,1,none⟩=false:=⟨za0 h 0,za0 h 1,za8 h 0,za8 h 1⟩
end
end Go.Proofs.YthgibhhbmmkjmaaGreatDoor
