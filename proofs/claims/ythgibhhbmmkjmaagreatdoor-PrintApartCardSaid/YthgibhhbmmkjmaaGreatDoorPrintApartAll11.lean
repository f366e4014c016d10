/- Walks and plain facts. Texts merged: RsN, RcD, RsD, RsC, RsA, LnP. Condition: none beyond what each says. -/
import Derived.Test.YthgibhhbmmkjmaaGreatDoorPrintApartAll10
set_option linter.unusedVariables false
set_option linter.unusedSimpArgs false
set_option maxRecDepth 10000
set_option maxHeartbeats 4000000
namespace Go.Proofs.YthgibhhbmmkjmaaGreatDoor
section
open Go.Shelf Go.RowKit Go.Lib VerN VarM
open LexM (Wd)
attribute [local go_sem ↓] Go.wp_at_zero Go.wp_at_succ
theorem zew {ok:ByteArray→Bool} {l r:List ByteArray} (h:zeg ok l=some r):r=l:=by
 unfold zeg at h
 split at h
 ·cases h;rfl
 cases h
theorem zm3 {W:World} {B:Nat} {v:Value} {l:List ByteArray} (h:W.ownsRow B 9 1 v l.length (l.map Value.string)) (hz:∀ x∈l,x.size≤maxLen):Ft W (fun k=>v.ownBlock=some k) fun W'=>RTs W' [v] l:=by
 intro V _ hb
 refine ze8 (B:=B) (n:=l.length) ?_ hz
 refine⟨h.1,?_⟩
 rcases h.2 with hn | ⟨g,cap,cur,rfl,hg,hgg,rest⟩
 ·exact .inl hn
 exact .inr ⟨g,cap,cur,rfl,hg,by rw[hb g (Array.getElem?_eq_some_iff.1 hgg).1 rfl];exact hgg,rest⟩
theorem zqe {w0 w:World} {r:Nat} {a:Option Addr} {n c:Nat} {fin:Int} {ws:List Wd} {i:Nat} {t:Nat→Nat} {B xb pb cap:Nat} {vf:Value} {x:RcpM} {ps:List PkgM} {p:PkgM} {line:Int} {first:ByteArray} (C:RdC w0 r a n c fin ws) (S:RdS w0 r a n c fin i w) (hi1:i≤990)
  (H:RcSt w t B xb (.slice (some ⟨pb,0,none⟩) (ps.length+1) cap) vf x) (hx:x.pk=ps ++ [p]) (tr:t r=10) (hBw:B≤w.heap.size) (hp:FewP p) (hps:ps.length≤70000) (hf:first=zdb) :
  Calls Tryz.prog 50 #[rp r,.string first,.int .i64 line,.pointer (some ⟨pb,ps.length * 8,none⟩)] w (ze4 r a n c fin ws i t B xb (.slice (some ⟨pb,0,none⟩) (ps.length+1) cap) vf x ps p line first w):=by
 have k0:(first.toList == [118,101,114,115,105,111,110])=false:=by rw[zau first [118,101,114,115,105,111,110] zcp rfl,hf];decide
 have k1:(first.toList == [118,97,114,105,97,110,116])=true:=by rw[zau first [118,97,114,105,97,110,116] zdb rfl,hf];decide
 have hrw:r < w.heap.size:=(Array.getElem?_eq_some_iff.1 S.box).1
 have hn:=C.len
 have hn1:=C.n1000
 have hlow:=C.low
 obtain⟨dss,v2,v3,v4,v5,v6,v7,L⟩ : ∃ dss v2 v3 v4 v5 v6 v7,zcc w t B (.slice (some ⟨pb,0,none⟩) (ps.length+1) cap) ps p dss v2 v3 v4 v5 v6 v7:=by
  rcases H.pk with⟨h1,_⟩ | ⟨ps',p',dss,v2,v3,v4,v5,v6,v7,h1,L⟩
  ·rw[hx] at h1
   simp at h1
  rw[hx] at h1
  have e1:=List.append_inj_left' h1 rfl
  have e2:=List.append_inj_right' h1 rfl
  obtain rfl:p=p':=by simpa using e2
  subst e1
  exact⟨dss,v2,v3,v4,v5,v6,v7,L⟩
 have hrt:=zb3 S.box (by decide)
 -- the recipe as it is at a later world,ahead of the store
 have hto:∀ W,Frm (fun k=>k=r) w W→RcSt W (zac t w.heap.size 3) B xb (.slice (some ⟨pb,0,none⟩) (ps.length+1) cap) vf x∧zcc W (zac t w.heap.size 3) B (.slice (some ⟨pb,0,none⟩) (ps.length+1) cap) ps p dss v2 v3 v4 v5 v6 v7:=fun W hF =>
  ⟨H.to hF (fun k _ hk=>by subst hk;exact⟨by omega,hrt⟩) (fun k hk _=>za4 hk),L.to hF (fun k _ hk=>by subst hk;unfold Live;exact⟨by omega,by omega,by omega,hrt⟩) (fun k hk _=>za4 hk)⟩
 have ht1:∀ k,k < w.heap.size→zac t w.heap.size 3 k=t k:=fun k hk=>za4 hk
 have hr1:zac t w.heap.size 3 r=10:=by rw[za4 hrw,tr]
 have hpb1:zac t w.heap.size 3 pb=1:=by rw[za4 (L.row.lt pb rfl).2,L.tag pb rfl]
 have hT:=zf4 C S (by omega) (enters_of Tryz.func47 (by kernel_rfl) rfl) (ok:=zef) (fun s W hs _=>zfm s hs W)
 obtain⟨s,hs⟩ : ∃ s,s=zag ws i:=⟨_,rfl⟩
 unfold zbw at hT
 rw[← hs] at hT
 have hNm:=fun (W:World) (S:RdS w0 r a n c fin (i+1) W)=>zou C S (by omega) (enters_of Tryz.func88 (by kernel_rfl) rfl) (ok:=zn0) (fun s W hs _=>zpz s hs W)
 unfold zgx at hNm
 obtain⟨⟨cur0,hcur0⟩,-,g3,-,-,-,-⟩:=L.cells
 obtain⟨css0,hr0⟩:=L.last.vars
 obtain⟨ra,rc,hrv0⟩:=zaa hr0.row
 rw[hrv0] at g3
 obtain⟨m,hm⟩ : ∃ m,m=p.vars.length:=⟨_,rfl⟩
 rw[← hm] at g3 hrv0
 have hkeep:∀ W,Frm (fun k=>k=r) w W→W.cell? ⟨pb,ps.length * 8+3,none⟩=some (.slice ra m rc):=fun W hF=>(hF.cell (p:=⟨pb,ps.length * 8+3,none⟩) (Array.getElem?_eq_some_iff.1 hcur0).1 (fun e=>by
  have h1:pb=r:=e
  have h2:=L.tag pb rfl
  rw[h1,tr] at h2
  cases h2)).trans g3
 clear g3
 have Hkeep:=Lib.hid hkeep
 clear hkeep
 obtain⟨HC,HS,HH,HL,Hx,Hp,Hf,HT,Hs,Hn,Hto,Ht1,Hr1,Hpb1,Hrt,Htr⟩:=hd16 C S H L hx hp hf hT hs hn hto ht1 hr1 hpb1 hrt tr;obtain⟨Hcur0,Hr0,Hrv0,Hm,HNm⟩:=hd5 hcur0 hr0 hrv0 hm hNm;clear C S H L hx hp hf hT hs hn hto ht1 hr1 hpb1 hrt tr hcur0 hr0 hrv0 hm hNm
 go_enter Tryz.func50,Tryz.ntmps50
 go_wp2_with fail
 refine HT.out.mono ?_
 rintro e wa ⟨⟨hia,hoka,rfl,hbxa⟩ | ⟨hno,j,rfl⟩,hfra⟩
 ·have hsta:=zet HS.out hlow hfra hbxa
  have hSa:=Hkeep.out _ hfra
  obtain⟨Hia,Hoka,Hbxa,Hfra,Hsta⟩:=hd5 hia hoka hbxa hfra hsta;clear hia hoka hbxa hfra hsta
  go_upto_region 9 with (fail)
  have hbd:=Below.drew (Below.refl wa.heap.size wa)
  have hT1:=HNm.out _ (Hsta.out.to hbd)
  have hSd:wa.drew.cell? ⟨pb,ps.length * 8+3,none⟩=some (.slice ra m rc):=hSa
  have hTr:True:=trivial
  refine wp_region_held_drew (S:=fun _=>True) (by kernel_rfl) trivial (fun hHeld=>?_)
  have hfd:Frm (fun k=>k=r) w wa.drew:=Frm.drew Hfra.out
  generalize wa.drew=wd at hbd hT1 hfd hSd ⊢
  clear hSa
  obtain⟨Hbd,HT1,Hfd⟩:=hd3 hbd hT1 hfd;clear hbd hT1 hfd
  refine wpAnyH_take (i:=0) (v:=?_) rfl (by kernel_rfl) (by kernel_rfl) (by kernel_rfl) (fun _ _ _ h=>h) (Or.inl ⟨by kernel_rfl,?_⟩) (by assumption) ?_
  rotate_left
  ·(intro w hSw;(try dsimp only at hSw);(try obtain⟨⟩:=hSw);go_simp;try with_reducible rfl)
  try simp only[Act.put,lA,lB,lC]
  refine wpAnyH_take (i:=1) (v:=?_) rfl (by kernel_rfl) (by kernel_rfl) (by kernel_rfl) (fun _ _ _ h=>h) (Or.inl ⟨by kernel_rfl,?_⟩) (by assumption) ?_
  rotate_left
  ·(intro w hSw;(try dsimp only at hSw);(try obtain⟨⟩:=hSw);go_simp;try with_reducible rfl)
  try simp only[Act.put,lA,lB,lC]
  refine wpAnyH_take (i:=2) (v:=?_) rfl (by kernel_rfl) (by kernel_rfl) (by kernel_rfl) (fun _ _ _ h=>h) (Or.inl ⟨by kernel_rfl,?_⟩) (by assumption) ?_
  rotate_left
  ·(intro w hSw;(try dsimp only at hSw);(try obtain⟨⟩:=hSw);go_simp;try with_reducible rfl)
  try simp only[Act.put,lA,lB,lC]
  refine wpAnyH_take (i:=3) (v:=?_) rfl (by kernel_rfl) (by kernel_rfl) (by kernel_rfl) (fun _ _ _ h=>h) (Or.inl ⟨by kernel_rfl,?_⟩) (by assumption) ?_
  rotate_left
  ·(intro w hSw;(try dsimp only at hSw);(try obtain⟨⟩:=hSw);go_simp;try with_reducible rfl)
  try simp only[Act.put,lA,lB,lC]
  refine wpAnyH_take (i:=5) (v:=?_) rfl (by kernel_rfl) (by kernel_rfl) (by kernel_rfl) (fun _ _ _ h=>h) (Or.inl ⟨by kernel_rfl,?_⟩) (by assumption) ?_
  rotate_left
  ·(intro w hSw;(try dsimp only at hSw);(try obtain⟨⟩:=hSw);go_simp;try with_reducible rfl)
  try simp only[Act.put,lA,lB,lC]
  refine wpAnyH_take (i:=6) (v:=?_) rfl (by kernel_rfl) (by kernel_rfl) (by kernel_rfl) (fun _ _ _ h=>h) (Or.inl ⟨by kernel_rfl,?_⟩) (by assumption) ?_
  rotate_left
  ·(intro w hSw;(try dsimp only at hSw);(try obtain⟨⟩:=hSw);go_simp;try with_reducible rfl)
  try simp only[Act.put,lA,lB,lC]
  refine wpAnyH_ready (rs:=[4,7]) (by kernel_rfl) (by simp) ?_
  refine AllReadyH.cons rfl (fun K hK=>?_) (AllReadyH.cons rfl (fun K hK=>?_) AllReadyH.nil)
  ·go_simp
   refine hK.out _ _ trivial (fun hHeld=>?_)
   clear hK K
   try simp only[Act.put,lA,lB,lC]
   refine wpAnyH_ready (rs:=[7]) (by kernel_rfl) (by simp) ?_
   refine AllReadyH.cons rfl (fun K hK=>?_) AllReadyH.nil
   go_simp
   refine HT1.out.mono ?_
   rintro e w1 ⟨⟨vv,l,hnl,rfl,hown,hbx⟩ | ⟨hnl,j,rfl⟩,hfr⟩
   ·have hfr1:Frm (fun k=>k=r) w w1:=Hfd.out.trans hfr (fun _ _ h=>h)
    have hS1:=Hkeep.out _ hfr1
    obtain⟨la,lc,rfl⟩:=zaa hown
    obtain⟨ln,hln⟩ : ∃ k,k=l.length:=⟨_,rfl⟩
    rw[← hln] at hown ⊢
    have hll:=(zew hnl).symm
    have hlz:∀ x∈l,x.size≤maxLen:=fun x hx=>by
     rw[← hll] at hx
     obtain⟨j,hj,rfl⟩:=List.getElem_of_mem hx
     have hjl:i+1+j < ws.length:=by rw[zd3] at hj;omega
     have e:=ze5 hjl
     rw[List.getElem?_eq_getElem hj] at e
     rw[Option.some.inj e]
     have:=HC.out.peek_size (i+1+j)
     unfold maxLen
     omega
    have hwd:=Hfd.out.size
    obtain⟨Hnl,Hbx,Hfr,Hfr1,Hown,Hln,Hll,Hlz⟩:=hd8 hnl hbx hfr hfr1 hown hln hll hlz;clear hnl hbx hfr hfr1 hown hln hll hlz
    go_wp2_with fail
    refine hK.out _ _ trivial (fun hHeld=>?_)
    clear hK K
    try simp only[Act.put,lA,lB,lC]
    refine wpAnyH_take (i:=8) (v:=?_) rfl (by kernel_rfl) (by kernel_rfl) (by kernel_rfl) (fun _ _ _ h=>h) (Or.inl ⟨by kernel_rfl,?_⟩) (by assumption) ?_
    rotate_left
    ·(intro w hSw;(try dsimp only at hSw);(try obtain⟨⟩:=hSw);go_simp;try with_reducible rfl)
    try simp only[Act.put,lA,lB,lC]
    obtain⟨H1,L1⟩:=Hto.out _ Hfr1.out
    obtain⟨⟨cur,hcur⟩,-⟩:=L1.cells
    obtain⟨css,hr⟩:=L1.last.vars
    have hne:v3.ownBlock≠some pb:=fun e=>by
     have e1:=hr.tag pb e
     have e2:=Hpb1.out
     omega
    have hvl:∀ k,v3.ownBlock=some k→Live (zac t w.heap.size 3 k)∧¬ Ty w1 k:=fun k hk=>⟨by have:=hr.tag k hk;unfold Live;omega,zar hr (by decide) hk⟩
    have hpt:¬ Ty w1 pb:=zb3 hcur (by decide)
    have hB:B≤w1.heap.size:=Nat.le_trans hBw Hfr1.out.size
    have hrow:=hr.row
    rw[← Hm.out,Hrv0.out] at hrow
    have hm7:m≤70000:=by rw[Hm.out];exact Hp.out.2.1
    obtain⟨N,hN⟩ : ∃ N,N=css.flatten:=⟨_,rfl⟩
    rw[← hN] at hrow
    have hels:Ft w1 (Fx w1 (zac t w.heap.size 3)) (fun W'=>zg6 W' [.string s,.slice la ln lc] (s,l)):=((zm3 (by rw[← Hln.out];exact Hown.out) Hlz.out).mono fun k hk hkv=>.inl (by
     have:=(Hown.out.lt k hkv).1
     exact zbn (by omega))).imp fun V hV=>⟨_,rfl,hV⟩
    have Hne:=Lib.hid hne
    have Hcur:=Lib.hid hcur
    clear hne hcur
    obtain⟨HH1,HL1,Hr,Hvl,Hpt,HN,Hels,Hrow⟩:=hd8 H1 L1 hr hvl hpt hN hels hrow;clear H1 L1 hr hvl hpt hN hels hrow
    refine wpAnyH_ready (rs:=[9]) (by kernel_rfl) (by simp) ?_
    refine AllReadyH.cons rfl (fun K hK=>?_) AllReadyH.nil
    go_simp
    refine hK.out _ _ trivial (fun hHeld=>?_)
    clear hK K
    try simp only[Act.put,lA,lB,lC]
    refine wpAnyH_ready (rs:=[10]) (by kernel_rfl) (by simp) ?_
    refine AllReadyH.cons rfl (fun K hK=>?_) AllReadyH.nil
    refine zas zng (.tmp 42) (.tmp 47) rfl B (.slice ra m rc) m N rfl Hrow.out 1 #[.string s,.slice la ln lc] rfl rfl (by simp[Value.oneCell']) (by omega) (by unfold maxLen;omega) hB (fun v' w9 hown9 hg9 hm9=>?_)
    obtain⟨a9,c9,rfl⟩:=zaa hown9
    have hc9:w9.heap[pb]? = some (.cells cur 45 (0,0)):=(hg9.block pb (Array.getElem?_eq_some_iff.1 Hcur.out).1 (fun e=>Hne.out (by rw[Hrv0.out];exact e.symm))).trans Hcur.out
    have d2:=za8 hc9 (ps.length * 8+3)
    have d1:=(World.cell?_of_block (w:=w1) (w':=w9) (a:=⟨pb,ps.length * 8+3,none⟩) (hc9.trans Hcur.out.symm)).trans hS1
    have hL9:=HL1.out.vars_push Hr.out Hels.out (v9:=.slice a9 (m+1) c9) (by rw[← Hm.out,← HN.out];exact hown9) (by rw[Hrv0.out];exact hg9) (by rw[Hrv0.out];exact hm9)
    have hg9':w1.grownBy w9 v3.ownBlock:=by rw[Hrv0.out];exact hg9
    obtain⟨Hown9,Hg9,Hm9,Hc9,HL9,Hg9'⟩:=hd6 hown9 hg9 hm9 hc9 hL9 hg9';clear hown9 hg9 hm9 hc9 hL9 hg9'
    refine hK.out _ _ trivial (fun hHeld=>?_)
    clear hK K
    try simp only[Act.put,lA,lB,lC]
    refine wpAnyH_take (i:=11) (v:=?_) rfl (by kernel_rfl) (by kernel_rfl) (by kernel_rfl) (fun _ _ _ h=>h) (Or.inl ⟨by kernel_rfl,?_⟩) (by assumption) ?_
    rotate_left
    ·(intro w hSw;(try dsimp only at hSw);(try obtain⟨⟩:=hSw);go_simp;try with_reducible rfl)
    try simp only[Act.put,lA,lB,lC]
    refine wpAnyH_take (i:=12) (v:=?_) rfl (by kernel_rfl) (by kernel_rfl) (by kernel_rfl) (fun _ _ _ h=>h) (Or.inl ⟨by kernel_rfl,?_⟩) (by assumption) ?_
    rotate_left
    ·(intro w hSw;(try dsimp only at hSw);(try obtain⟨⟩:=hSw);go_simp;try with_reducible rfl)
    try simp only[Act.put,lA,lB,lC]
    refine wpAnyH_ready (rs:=[13]) (by kernel_rfl) (by simp) ?_
    refine AllReadyH.cons rfl (fun K hK=>?_) AllReadyH.nil
    go_simp
    refine hK.out _ _ trivial (fun hHeld=>?_)
    clear hK K
    try simp only[Act.put,lA,lB,lC]
    refine wpAnyH_done (by kernel_rfl) ?_ _
    go_simp
    go_wp2_with fail
    go_end0
    refine zb0 (v:=v3) (j:=ws.length) HH1.out HL9.out Hfr1.out Hg9'.out Ht1.out (fun k hk=>za4 hk) Hvl.out Hpb1.out Hpt.out Hbx.out Hr1.out ?_ ?_ (Nat.le_refl _) rfl
    ·intro _
     rw[Hf.out]
     unfold zb5
     rw[if_neg (by decide),if_pos rfl,zeo Hia.out,if_pos (by rw[← Hs.out];exact Hoka.out),Hnl.out,← Hs.out]
     rfl
    intro hj
    exact absurd hj (by omega)
   have hnone:zb5 first line p (zam ws i)=none:=by
    rw[Hf.out]
    unfold zb5
    rw[if_neg (by decide),if_pos rfl,zeo Hia.out,hnl]
    split <;> rfl
   have hfrw:Frm (fun k=>k=r) w w1:=Hfd.out.trans hfr (fun _ _ h=>h)
   obtain⟨Hnl,Hfr,Hnone,Hfrw⟩:=hd4 hnl hfr hnone hfrw;clear hnl hfr hnone hfrw
   go_wp2_with fail
   exact⟨rfl,zb9 Hnone.out rfl Hfrw.out⟩
  go_simp
  refine HT1.out.mono ?_
  rintro e w1 ⟨⟨vv,l,hnl,rfl,hown,hbx⟩ | ⟨hnl,j,rfl⟩,hfr⟩
  ·have hfr1:Frm (fun k=>k=r) w w1:=Hfd.out.trans hfr (fun _ _ h=>h)
   have hS1:=Hkeep.out _ hfr1
   obtain⟨la,lc,rfl⟩:=zaa hown
   obtain⟨ln,hln⟩ : ∃ k,k=l.length:=⟨_,rfl⟩
   rw[← hln] at hown ⊢
   have hll:=(zew hnl).symm
   have hlz:∀ x∈l,x.size≤maxLen:=fun x hx=>by
    rw[← hll] at hx
    obtain⟨j,hj,rfl⟩:=List.getElem_of_mem hx
    have hjl:i+1+j < ws.length:=by rw[zd3] at hj;omega
    have e:=ze5 hjl
    rw[List.getElem?_eq_getElem hj] at e
    rw[Option.some.inj e]
    have:=HC.out.peek_size (i+1+j)
    unfold maxLen
    omega
   have hwd:=Hfd.out.size
   obtain⟨Hnl,Hbx,Hfr,Hfr1,Hown,Hln,Hll,Hlz⟩:=hd8 hnl hbx hfr hfr1 hown hln hll hlz;clear hnl hbx hfr hfr1 hown hln hll hlz
   go_wp2_with fail
   refine hK.out _ _ trivial (fun hHeld=>?_)
   clear hK K
   try simp only[Act.put,lA,lB,lC]
   refine wpAnyH_take (i:=8) (v:=?_) rfl (by kernel_rfl) (by kernel_rfl) (by kernel_rfl) (fun _ _ _ h=>h) (Or.inl ⟨by kernel_rfl,?_⟩) (by assumption) ?_
   rotate_left
   ·(intro w hSw;(try dsimp only at hSw);(try obtain⟨⟩:=hSw);go_simp;try with_reducible rfl)
   try simp only[Act.put,lA,lB,lC]
   refine wpAnyH_ready (rs:=[4,9]) (by kernel_rfl) (by simp) ?_
   refine AllReadyH.cons rfl (fun K hK=>?_) (AllReadyH.cons rfl (fun K hK=>?_) AllReadyH.nil)
   ·go_simp
    refine hK.out _ _ trivial (fun hHeld=>?_)
    clear hK K
    try simp only[Act.put,lA,lB,lC]
    obtain⟨H1,L1⟩:=Hto.out _ Hfr1.out
    obtain⟨⟨cur,hcur⟩,-⟩:=L1.cells
    obtain⟨css,hr⟩:=L1.last.vars
    have hne:v3.ownBlock≠some pb:=fun e=>by
     have e1:=hr.tag pb e
     have e2:=Hpb1.out
     omega
    have hvl:∀ k,v3.ownBlock=some k→Live (zac t w.heap.size 3 k)∧¬ Ty w1 k:=fun k hk=>⟨by have:=hr.tag k hk;unfold Live;omega,zar hr (by decide) hk⟩
    have hpt:¬ Ty w1 pb:=zb3 hcur (by decide)
    have hB:B≤w1.heap.size:=Nat.le_trans hBw Hfr1.out.size
    have hrow:=hr.row
    rw[← Hm.out,Hrv0.out] at hrow
    have hm7:m≤70000:=by rw[Hm.out];exact Hp.out.2.1
    obtain⟨N,hN⟩ : ∃ N,N=css.flatten:=⟨_,rfl⟩
    rw[← hN] at hrow
    have hels:Ft w1 (Fx w1 (zac t w.heap.size 3)) (fun W'=>zg6 W' [.string s,.slice la ln lc] (s,l)):=((zm3 (by rw[← Hln.out];exact Hown.out) Hlz.out).mono fun k hk hkv=>.inl (by
     have:=(Hown.out.lt k hkv).1
     exact zbn (by omega))).imp fun V hV=>⟨_,rfl,hV⟩
    have Hne:=Lib.hid hne
    have Hcur:=Lib.hid hcur
    clear hne hcur
    obtain⟨HH1,HL1,Hr,Hvl,Hpt,HN,Hels,Hrow⟩:=hd8 H1 L1 hr hvl hpt hN hels hrow;clear H1 L1 hr hvl hpt hN hels hrow
    refine wpAnyH_ready (rs:=[9]) (by kernel_rfl) (by simp) ?_
    refine AllReadyH.cons rfl (fun K hK=>?_) AllReadyH.nil
    go_simp
    refine hK.out _ _ trivial (fun hHeld=>?_)
    clear hK K
    try simp only[Act.put,lA,lB,lC]
    refine wpAnyH_ready (rs:=[10]) (by kernel_rfl) (by simp) ?_
    refine AllReadyH.cons rfl (fun K hK=>?_) AllReadyH.nil
    refine zas zng (.tmp 42) (.tmp 47) rfl B (.slice ra m rc) m N rfl Hrow.out 1 #[.string s,.slice la ln lc] rfl rfl (by simp[Value.oneCell']) (by omega) (by unfold maxLen;omega) hB (fun v' w9 hown9 hg9 hm9=>?_)
    obtain⟨a9,c9,rfl⟩:=zaa hown9
    have hc9:w9.heap[pb]? = some (.cells cur 45 (0,0)):=(hg9.block pb (Array.getElem?_eq_some_iff.1 Hcur.out).1 (fun e=>Hne.out (by rw[Hrv0.out];exact e.symm))).trans Hcur.out
    have d2:=za8 hc9 (ps.length * 8+3)
    have d1:=(World.cell?_of_block (w:=w1) (w':=w9) (a:=⟨pb,ps.length * 8+3,none⟩) (hc9.trans Hcur.out.symm)).trans hS1
    have hL9:=HL1.out.vars_push Hr.out Hels.out (v9:=.slice a9 (m+1) c9) (by rw[← Hm.out,← HN.out];exact hown9) (by rw[Hrv0.out];exact hg9) (by rw[Hrv0.out];exact hm9)
    have hg9':w1.grownBy w9 v3.ownBlock:=by rw[Hrv0.out];exact hg9
    obtain⟨Hown9,Hg9,Hm9,Hc9,HL9,Hg9'⟩:=hd6 hown9 hg9 hm9 hc9 hL9 hg9';clear hown9 hg9 hm9 hc9 hL9 hg9'
    refine hK.out _ _ trivial (fun hHeld=>?_)
    clear hK K
    try simp only[Act.put,lA,lB,lC]
    refine wpAnyH_take (i:=11) (v:=?_) rfl (by kernel_rfl) (by kernel_rfl) (by kernel_rfl) (fun _ _ _ h=>h) (Or.inl ⟨by kernel_rfl,?_⟩) (by assumption) ?_
    rotate_left
    ·(intro w hSw;(try dsimp only at hSw);(try obtain⟨⟩:=hSw);go_simp;try with_reducible rfl)
    try simp only[Act.put,lA,lB,lC]
    refine wpAnyH_take (i:=12) (v:=?_) rfl (by kernel_rfl) (by kernel_rfl) (by kernel_rfl) (fun _ _ _ h=>h) (Or.inl ⟨by kernel_rfl,?_⟩) (by assumption) ?_
    rotate_left
    ·(intro w hSw;(try dsimp only at hSw);(try obtain⟨⟩:=hSw);go_simp;try with_reducible rfl)
    try simp only[Act.put,lA,lB,lC]
    refine wpAnyH_ready (rs:=[13]) (by kernel_rfl) (by simp) ?_
    refine AllReadyH.cons rfl (fun K hK=>?_) AllReadyH.nil
    go_simp
    refine hK.out _ _ trivial (fun hHeld=>?_)
    clear hK K
    try simp only[Act.put,lA,lB,lC]
    refine wpAnyH_done (by kernel_rfl) ?_ _
    go_simp
    go_wp2_with fail
    go_end0
    refine zb0 (v:=v3) (j:=ws.length) HH1.out HL9.out Hfr1.out Hg9'.out Ht1.out (fun k hk=>za4 hk) Hvl.out Hpb1.out Hpt.out Hbx.out Hr1.out ?_ ?_ (Nat.le_refl _) rfl
    ·intro _
     rw[Hf.out]
     unfold zb5
     rw[if_neg (by decide),if_pos rfl,zeo Hia.out,if_pos (by rw[← Hs.out];exact Hoka.out),Hnl.out,← Hs.out]
     rfl
    intro hj
    exact absurd hj (by omega)
   obtain⟨H1,L1⟩:=Hto.out _ Hfr1.out
   obtain⟨⟨cur,hcur⟩,-⟩:=L1.cells
   obtain⟨css,hr⟩:=L1.last.vars
   have hne:v3.ownBlock≠some pb:=fun e=>by
    have e1:=hr.tag pb e
    have e2:=Hpb1.out
    omega
   have hvl:∀ k,v3.ownBlock=some k→Live (zac t w.heap.size 3 k)∧¬ Ty w1 k:=fun k hk=>⟨by have:=hr.tag k hk;unfold Live;omega,zar hr (by decide) hk⟩
   have hpt:¬ Ty w1 pb:=zb3 hcur (by decide)
   have hB:B≤w1.heap.size:=Nat.le_trans hBw Hfr1.out.size
   have hrow:=hr.row
   rw[← Hm.out,Hrv0.out] at hrow
   have hm7:m≤70000:=by rw[Hm.out];exact Hp.out.2.1
   obtain⟨N,hN⟩ : ∃ N,N=css.flatten:=⟨_,rfl⟩
   rw[← hN] at hrow
   have hels:Ft w1 (Fx w1 (zac t w.heap.size 3)) (fun W'=>zg6 W' [.string s,.slice la ln lc] (s,l)):=((zm3 (by rw[← Hln.out];exact Hown.out) Hlz.out).mono fun k hk hkv=>.inl (by
    have:=(Hown.out.lt k hkv).1
    exact zbn (by omega))).imp fun V hV=>⟨_,rfl,hV⟩
   have Hne:=Lib.hid hne
   have Hcur:=Lib.hid hcur
   clear hne hcur
   obtain⟨HH1,HL1,Hr,Hvl,Hpt,HN,Hels,Hrow⟩:=hd8 H1 L1 hr hvl hpt hN hels hrow;clear H1 L1 hr hvl hpt hN hels hrow
   go_simp
   refine hK.out _ _ trivial (fun hHeld=>?_)
   clear hK K
   try simp only[Act.put,lA,lB,lC]
   have hS2:=Hkeep.out _ (Hfr1.out.alloc (.cells #[.string s,.slice la ln lc] 68))
   refine wpAnyH_ready (rs:=[4]) (by kernel_rfl) (by simp) ?_
   refine AllReadyH.cons rfl (fun K hK=>?_) AllReadyH.nil
   go_simp
   refine hK.out _ _ trivial (fun hHeld=>?_)
   clear hK K
   try simp only[Act.put,lA,lB,lC]
   clear hS2
   refine wpAnyH_ready (rs:=[10]) (by kernel_rfl) (by simp) ?_
   refine AllReadyH.cons rfl (fun K hK=>?_) AllReadyH.nil
   refine zas zng (.tmp 42) (.tmp 47) rfl B (.slice ra m rc) m N rfl Hrow.out 1 #[.string s,.slice la ln lc] rfl rfl (by simp[Value.oneCell']) (by omega) (by unfold maxLen;omega) hB (fun v' w9 hown9 hg9 hm9=>?_)
   obtain⟨a9,c9,rfl⟩:=zaa hown9
   have hc9:w9.heap[pb]? = some (.cells cur 45 (0,0)):=(hg9.block pb (Array.getElem?_eq_some_iff.1 Hcur.out).1 (fun e=>Hne.out (by rw[Hrv0.out];exact e.symm))).trans Hcur.out
   have d2:=za8 hc9 (ps.length * 8+3)
   have d1:=(World.cell?_of_block (w:=w1) (w':=w9) (a:=⟨pb,ps.length * 8+3,none⟩) (hc9.trans Hcur.out.symm)).trans hS1
   have hL9:=HL1.out.vars_push Hr.out Hels.out (v9:=.slice a9 (m+1) c9) (by rw[← Hm.out,← HN.out];exact hown9) (by rw[Hrv0.out];exact hg9) (by rw[Hrv0.out];exact hm9)
   have hg9':w1.grownBy w9 v3.ownBlock:=by rw[Hrv0.out];exact hg9
   obtain⟨Hown9,Hg9,Hm9,Hc9,HL9,Hg9'⟩:=hd6 hown9 hg9 hm9 hc9 hL9 hg9';clear hown9 hg9 hm9 hc9 hL9 hg9'
   refine hK.out _ _ trivial (fun hHeld=>?_)
   clear hK K
   try simp only[Act.put,lA,lB,lC]
   refine wpAnyH_take (i:=11) (v:=?_) rfl (by kernel_rfl) (by kernel_rfl) (by kernel_rfl) (fun _ _ _ h=>h) (Or.inl ⟨by kernel_rfl,?_⟩) (by assumption) ?_
   rotate_left
   ·(intro w hSw;(try dsimp only at hSw);(try obtain⟨⟩:=hSw);go_simp;try with_reducible rfl)
   try simp only[Act.put,lA,lB,lC]
   refine wpAnyH_take (i:=12) (v:=?_) rfl (by kernel_rfl) (by kernel_rfl) (by kernel_rfl) (fun _ _ _ h=>h) (Or.inl ⟨by kernel_rfl,?_⟩) (by assumption) ?_
   rotate_left
   ·(intro w hSw;(try dsimp only at hSw);(try obtain⟨⟩:=hSw);go_simp;try with_reducible rfl)
   try simp only[Act.put,lA,lB,lC]
   refine wpAnyH_ready (rs:=[13]) (by kernel_rfl) (by simp) ?_
   refine AllReadyH.cons rfl (fun K hK=>?_) AllReadyH.nil
   go_simp
   refine hK.out _ _ trivial (fun hHeld=>?_)
   clear hK K
   try simp only[Act.put,lA,lB,lC]
   refine wpAnyH_done (by kernel_rfl) ?_ _
   go_simp
   go_wp2_with fail
   go_end0
   refine zb0 (v:=v3) (j:=ws.length) HH1.out HL9.out Hfr1.out Hg9'.out Ht1.out (fun k hk=>za4 hk) Hvl.out Hpb1.out Hpt.out Hbx.out Hr1.out ?_ ?_ (Nat.le_refl _) rfl
   ·intro _
    rw[Hf.out]
    unfold zb5
    rw[if_neg (by decide),if_pos rfl,zeo Hia.out,if_pos (by rw[← Hs.out];exact Hoka.out),Hnl.out,← Hs.out]
    rfl
   intro hj
   exact absurd hj (by omega)
  have hnone:zb5 first line p (zam ws i)=none:=by
   rw[Hf.out]
   unfold zb5
   rw[if_neg (by decide),if_pos rfl,zeo Hia.out,hnl]
   split <;> rfl
  have hfrw:Frm (fun k=>k=r) w w1:=Hfd.out.trans hfr (fun _ _ h=>h)
  obtain⟨Hnl,Hfr,Hnone,Hfrw⟩:=hd4 hnl hfr hnone hfrw;clear hnl hfr hnone hfrw
  go_wp2_with fail
  exact⟨rfl,zb9 Hnone.out rfl Hfrw.out⟩
 have hnone:zb5 first line p (zam ws i)=none:=by
  rw[Hf.out]
  unfold zb5
  rw[if_neg (by decide),if_pos rfl]
  by_cases hl:i < ws.length
  ·rw[zeo hl,if_neg (by rw[← Hs.out,hno.resolve_left (by omega)];simp)]
   rfl
  rw[zay (by omega)]
  rfl
 obtain⟨Hno,Hfra,Hnone⟩:=hd3 hno hfra hnone;clear hno hfra hnone
 go_wp2_with fail
 exact⟨rfl,zb9 Hnone.out rfl Hfra.out⟩
end

section
open Go.RowKit VerN VarM
open LexM (Wd)
section
variable {W W' : World} {T : Nat → Prop} {P : World → Prop} {t : Nat → Nat}
theorem zic (h:Ft W (Ty W) P) (hF:Frm T W W') (hT:∀ k,k < W.heap.size→T k→¬ Ty W k):Ft W' (Ty W') P :=
 h.frm hF (fun k k1 k2 kT=>hT k k1 kT k2) fun k k1 k2=>k2.keep hF fun kT=>hT k k1 kT k2
theorem zd8 (h:Ft W (Ty W) P) (hb:Below W.heap.size W W'):Ft W' (Ty W') P:=zic h (Frm.of_below (S:=fun _=>False) hb) fun _ _ h=>h.elim
theorem zsp (h:Ft W (Ty W) P):Ft W (Fx W t) P:=h.mono fun _ _ h=>.inr h
end
theorem spsT_ty {W:World} {v:Value} {L:List BSp} (h:zgv W v L):Ft W (Ty W) fun W'=>RSps W' [v] L :=
 ((spsT_ft h).mono fun k _ hk=>by obtain⟨cs,fr,h1⟩:=h.2 hk.1 k hk.2;exact⟨cs,_,fr,h1,.inl rfl⟩).imp fun _ h=>h.1
theorem setsT_ty {W:World} {v:Value} {L:List Setg} (h:zez W v L):Ft W (Ty W) fun W'=>zcj W' [v] L :=
 ((setsT_ft h).mono fun k _ hk=>by obtain⟨cs,fr,h1⟩:=h.2 hk.1 k hk.2;exact⟨cs,_,fr,h1,.inr rfl⟩).imp fun _ h=>h.1
theorem zry {W:World} {v1 v2:Value} {s:Spc3} (h1:zgv W v1 s.2.1) (h2:zez W v2 s.2.2):Ft W (Ty W) fun W'=>zlc W' (.string s.1) v1 v2 s:=((spsT_ty h1).and (setsT_ty h2)).imp fun _ h=>⟨rfl,h.1,h.2⟩
theorem zoc (W:World):zcj W [.slice none 0 0] []:=⟨_,0,rfl,Nat.zero_le _,Nat.zero_le _,fun i x hi=>by simp at hi⟩
theorem all_ty (W:World):Ft (W.alloc (.cells #[.string ⟨#[]⟩,.string ⟨#[]⟩] 51)) (Ty (W.alloc (.cells #[.string ⟨#[]⟩,.string ⟨#[]⟩] 51))) fun W'=>zlc W' (.string ⟨#[]⟩) (.slice (some ⟨W.heap.size,0,none⟩) 1 1) (.slice none 0 0) spAll :=
 (spsT_ty (zih W)).imp fun V h=>⟨rfl,h,zoc V⟩
theorem none_ty (W:World):Ft W (Ty W) fun W'=>zlc W' (.string ⟨#[]⟩) (.slice none 0 0) (.slice none 0 0) zo8:=fun V _ _=>⟨rfl,zmq V,zoc V⟩
theorem zod {ws:List Wd} {i j:Nat} {o:Option (List Setg)} (h:zb8 ws i []=(o,j)) (hi:i≤ws.length):i≤j∧j≤ws.length:=by
 have:=zfk ws i []
 rw[h] at this
 simp only at this
 omega
theorem zsw {ws:List Wd} {i j:Nat} {s:Spc3} (h:zbx ws i=(some s,j)):i < j∧j≤ws.length:=by
 have hi:i < ws.length:=by
  apply Nat.lt_of_not_le
  intro hk
  unfold zbx at h
  rw[zeu hk,if_neg (by decide),if_neg (by decide),if_neg (by rw[znd];simp)] at h
  cases h
 unfold zbx at h
 by_cases h1:zag ws i=ze7
 ·rw[if_pos h1] at h
  cases h
  omega
 rw[if_neg h1] at h
 by_cases h2:zgu (zag ws i)=true
 ·rw[if_pos h2] at h
  by_cases h3:zfl (zin (zag ws i))=true
  ·rw[if_pos h3] at h
   have e:(zb8 ws (i+1) []).2=j:=congrArg Prod.snd h
   have:=zod (o:=(zb8 ws (i+1) []).1) (j:=j) (by rw[← e]) (by omega)
   omega
  rw[if_neg h3] at h
  cases h
 rw[if_neg h2] at h
 by_cases h3:hasB 61 (zag ws i)=true
 ·rw[if_pos h3] at h
  have e:(zb8 ws i []).2=j:=congrArg Prod.snd h
  have e1:=congrArg Prod.fst h
  have h4:=zod (o:=(zb8 ws i []).1) (j:=j) (by rw[← e]) (by omega)
  refine⟨?_,h4.2⟩
  -- a word that has an equals sign is taken or wrong
  cases hw:zep ([] ++ [zgf (zag ws i)]) with
  | false =>
   rw[zk7 h3 hw] at e1
   cases e1
  | true =>
   rw[zk6 h3 hw] at e
   have:=zfk ws (i+1) ([] ++ [zgf (zag ws i)])
   omega
 rw[if_neg h3] at h
 cases h
theorem zhn {ws:List Wd} {i j:Nat} {s:Spc3} (h:zed ws i=(some s,j)):wishL (zam ws i)=some (s,zam ws j):=by rw[zjr,h];rfl
theorem zrm {ws:List Wd} {i j:Nat} (h:zed ws i=(none,j)):wishL (zam ws i)=none:=by rw[zjr,h];rfl
theorem zi0 {ws:List Wd} {i j:Nat} {s:Spc3} (h:zbx ws i=(some s,j)):condL (zam ws i)=some (s,zam ws j):=by rw[zl0,h];rfl
theorem zsv {ws:List Wd} {i j:Nat} (h:zbx ws i=(none,j)):condL (zam ws i)=none:=by rw[zl0,h];rfl
section
variable {ws : List Wd} {i j j2 : Nat} {s c : Spc3} {n : Int}
theorem depL_end (h:zed ws i=(some s,j)) (hj:j=ws.length):depL n (zam ws i)=some (s,spAll,n):=by
 unfold depL
 rw[zhn h,zay (by omega)]
theorem depL_bad (h:zed ws i=(none,j)):depL n (zam ws i)=none:=by
 unfold depL
 rw[zrm h]
theorem depL_word (h:zed ws i=(some s,j)) (hj:j < ws.length) (hw:zag ws j≠zle):depL n (zam ws i)=none:=by
 unfold depL
 rw[zhn h,zad hj]
 simp only
 rw[if_neg hw]
theorem depL_cond (h:zed ws i=(some s,j)) (hj:j < ws.length) (hc:zbx ws (j+1)=(none,j2)):depL n (zam ws i)=none:=by
 unfold depL
 rw[zhn h,zad hj]
 simp only
 split
 ·rw[zsv hc]
 rfl
theorem depL_yes (h:zed ws i=(some s,j)) (hj:j < ws.length) (hw:zag ws j=zle) (hc:zbx ws (j+1)=(some c,j2)) (h2:j2=ws.length):depL n (zam ws i)=some (s,c,n):=by
 unfold depL
 rw[zhn h,zad hj]
 simp only
 rw[if_pos hw,zi0 hc,zay (by omega)]
theorem depL_more (h:zed ws i=(some s,j)) (hj:j < ws.length) (hc:zbx ws (j+1)=(some c,j2)) (h2:j2 < ws.length):depL n (zam ws i)=none:=by
 unfold depL
 rw[zhn h,zad hj]
 simp only
 split
 ·rw[zi0 hc,zad h2]
 rfl
theorem confL_end (h:zbx ws i=(some s,j)) (hj:j=ws.length):ziu n (zam ws i)=some (s,zo8,n):=by
 unfold ziu
 rw[zi0 h,zay (by omega)]
theorem confL_bad (h:zbx ws i=(none,j)):ziu n (zam ws i)=none:=by
 unfold ziu
 rw[zsv h]
theorem zuu (h:zbx ws i=(some s,j)) (hj:j < ws.length) (hw:zag ws j≠zmm):ziu n (zam ws i)=none:=by
 unfold ziu
 rw[zi0 h,zad hj]
 simp only
 rw[if_neg hw]
theorem zuw (h:zbx ws i=(some s,j)) (hj:j < ws.length) (hc:zed ws (j+1)=(none,j2)):ziu n (zam ws i)=none:=by
 unfold ziu
 rw[zi0 h,zad hj]
 simp only
 split
 ·rw[zrm hc]
 rfl
theorem confL_yes (h:zbx ws i=(some s,j)) (hj:j < ws.length) (hw:zag ws j=zmm) (hc:zed ws (j+1)=(some c,j2)) (h2:j2=ws.length):ziu n (zam ws i)=some (s,c,n):=by
 unfold ziu
 rw[zi0 h,zad hj]
 simp only
 rw[if_pos hw,zhn hc,zay (by omega)]
theorem zuv (h:zbx ws i=(some s,j)) (hj:j < ws.length) (hc:zed ws (j+1)=(some c,j2)) (h2:j2 < ws.length):ziu n (zam ws i)=none:=by
 unfold ziu
 rw[zi0 h,zad hj]
 simp only
 split
 ·rw[zhn hc,zad h2]
 rfl
end
end

section
open Go.Shelf Go.RowKit Go.Lib VerN VarM
open LexM (Wd)
attribute [local go_sem ↓] Go.wp_at_zero Go.wp_at_succ
theorem zqf {w0 w:World} {r:Nat} {a:Option Addr} {n c:Nat} {fin:Int} {ws:List Wd} {i:Nat} {t:Nat→Nat} {B xb pb cap:Nat} {vf:Value} {x:RcpM} {ps:List PkgM} {p:PkgM} {line:Int} {first:ByteArray} (C:RdC w0 r a n c fin ws) (S:RdS w0 r a n c fin i w) (hi1:i≤990)
  (H:RcSt w t B xb (.slice (some ⟨pb,0,none⟩) (ps.length+1) cap) vf x) (hx:x.pk=ps ++ [p]) (tr:t r=10) (hBw:B≤w.heap.size) (hp:FewP p) (hps:ps.length≤70000) (hf:first=zdc) :
  Calls Tryz.prog 50 #[rp r,.string first,.int .i64 line,.pointer (some ⟨pb,ps.length * 8,none⟩)] w (ze4 r a n c fin ws i t B xb (.slice (some ⟨pb,0,none⟩) (ps.length+1) cap) vf x ps p line first w):=by
 have k0:(first.toList == [118,101,114,115,105,111,110])=false:=by rw[zau first [118,101,114,115,105,111,110] zcp rfl,hf];decide
 have k1:(first.toList == [118,97,114,105,97,110,116])=false:=by rw[zau first [118,97,114,105,97,110,116] zdb rfl,hf];decide
 have k2:(first.toList == [112,114,111,118,105,100,101,115])=false:=by rw[zau first [112,114,111,118,105,100,101,115] zc7 rfl,hf];decide
 have k3:(first.toList == [100,101,112,101,110,100,115])=true:=by rw[zau first [100,101,112,101,110,100,115] zdc rfl,hf];decide
 have hrw:r < w.heap.size:=(Array.getElem?_eq_some_iff.1 S.box).1
 have hn:=C.len
 have hn1:=C.n1000
 have hlow:=C.low
 obtain⟨dss,v2,v3,v4,v5,v6,v7,L⟩ : ∃ dss v2 v3 v4 v5 v6 v7,zcc w t B (.slice (some ⟨pb,0,none⟩) (ps.length+1) cap) ps p dss v2 v3 v4 v5 v6 v7:=by
  rcases H.pk with⟨h1,_⟩ | ⟨ps',p',dss,v2,v3,v4,v5,v6,v7,h1,L⟩
  ·rw[hx] at h1
   simp at h1
  rw[hx] at h1
  have e1:=List.append_inj_left' h1 rfl
  have e2:=List.append_inj_right' h1 rfl
  obtain rfl:p=p':=by simpa using e2
  subst e1
  exact⟨dss,v2,v3,v4,v5,v6,v7,L⟩
 have hrt:=zb3 S.box (by decide)
 -- the recipe as it is at a later world,ahead of the store
 have hto:∀ W,Frm (fun k=>k=r) w W→RcSt W (zac t w.heap.size 3) B xb (.slice (some ⟨pb,0,none⟩) (ps.length+1) cap) vf x∧zcc W (zac t w.heap.size 3) B (.slice (some ⟨pb,0,none⟩) (ps.length+1) cap) ps p dss v2 v3 v4 v5 v6 v7:=fun W hF =>
  ⟨H.to hF (fun k _ hk=>by subst hk;exact⟨by omega,hrt⟩) (fun k hk _=>za4 hk),L.to hF (fun k _ hk=>by subst hk;unfold Live;exact⟨by omega,by omega,by omega,hrt⟩) (fun k hk _=>za4 hk)⟩
 have ht1:∀ k,k < w.heap.size→zac t w.heap.size 3 k=t k:=fun k hk=>za4 hk
 have hr1:zac t w.heap.size 3 r=10:=by rw[za4 hrw,tr]
 have hpb1:zac t w.heap.size 3 pb=1:=by rw[za4 (L.row.lt pb rfl).2,L.tag pb rfl]
 have hF1:=zro C S (by omega)
 obtain⟨HC,HS,HH,HL,Hx,Hp,Hf,HF1,Hn,Hto,Ht1,Hr1,Hpb1,Hrt,Htr⟩:=hd15 C S H L hx hp hf hF1 hn hto ht1 hr1 hpb1 hrt tr;clear C S H L hx hp hf hF1 hn hto ht1 hr1 hpb1 hrt tr
 go_enter Tryz.func50,Tryz.ntmps50
 go_wp2_with fail
 refine HF1.out.mono ?_
 rintro e w1 ⟨⟨s,j,u1,u2,hw,rfl,hv1,hv2,hbx⟩ | ⟨j,hw,rfl⟩,hfr⟩
 ·obtain⟨b1,d1,rfl⟩:=zcq hv1.1
  obtain⟨b2,d2,rfl⟩:=zcm hv2.1
  have hjl:=zrp hw
  obtain⟨wA,hwA⟩ : ∃ W,W=w1.alloc (.cells #[.string ⟨#[]⟩,.string ⟨#[]⟩] 51):=⟨_,rfl⟩
  obtain⟨sa,hsa⟩ : ∃ z:Option Addr,z=some ⟨w1.heap.size,0,none⟩:=⟨_,rfl⟩
  have hb1A:Below w1.heap.size w1 wA:=by rw[hwA];exact za2 _ _
  have hall:Ft wA (Ty wA) fun W'=>zlc W' (.string ⟨#[]⟩) (.slice sa 1 1) (.slice none 0 0) spAll:=by rw[hwA,hsa];exact all_ty w1
  obtain⟨wB,hwB⟩ : ∃ W,W=wA.alloc (.cells #[.string s.1,.slice b1 s.2.1.length d1,.slice b2 s.2.2.length d2,.string ⟨#[]⟩,.slice sa 1 1,.slice none 0 0,.int .i64 line] 96):=⟨_,rfl⟩
  obtain⟨bx,hbxx⟩ : ∃ z,z=w1.heap.size+1:=⟨_,rfl⟩
  have hzA:wA.heap.size=bx:=by rw[hbxx];rw[hwA];simp
  have hbAB:Below wA.heap.size wA wB:=by rw[hwB];exact za2 _ _
  have hb1B:=hb1A.trans (hbAB.mono hb1A.size)
  have pB:wB.heap[bx]? = some (.cells #[.string s.1,.slice b1 s.2.1.length d1,.slice b2 s.2.2.length d2,.string ⟨#[]⟩,.slice sa 1 1,.slice none 0 0,.int .i64 line] 96 (0,0)):=by rw[hwB,← hzA];exact heap_alloc_new _ _
  have hfrB:=zb1 hfr hb1B
  have hbxB:=za1 hb1B hbx
  have hstB:RdS w0 r a n c fin j wB:=zet HS.out hlow hfrB hbxB
  have hM:=HC.out.more hstB
  have hbw:w.heap.size≤bx:=by rw[← hzA];exact Nat.le_trans hfr.size hb1A.size
  have hE1:=zd8 (zry hv1 hv2) hb1B
  have hE2:=zd8 hall hbAB
  clear hzA
  go_upto_region 14 with (fail)
  rw[← hsa,← hwA,← hwB,← hbxx]
  clear hwB hbxx
  obtain⟨m1,hm1⟩ : ∃ k,k=s.2.1.length:=⟨_,rfl⟩
  obtain⟨m2,hm2⟩ : ∃ k,k=s.2.2.length:=⟨_,rfl⟩
  obtain⟨nm,hnm⟩ : ∃ k,k=s.1:=⟨_,rfl⟩
  rw[← hm1,← hm2,← hnm] at pB hE1
  rw[← hm1,← hm2,← hnm]
  clear hwA hsa
  by_cases hlt:j < n
  ·rw[decide_eq_true hlt] at hM
   obtain⟨Hw,Hv1,Hv2,Hbx,Hfr,Hb1A,Hall,HbAB,Hb1B,HpB,HfrB,HbxB,HstB,HM,HE1,HE2⟩:=hd16 hw hv1 hv2 hbx hfr hb1A hall hbAB hb1B pB hfrB hbxB hstB hM hE1 hE2;obtain⟨Hm1,Hm2,Hnm⟩:=hd3 hm1 hm2 hnm;clear hw hv1 hv2 hbx hfr hb1A hall hbAB hb1B pB hfrB hbxB hstB hM hE1 hE2 hm1 hm2 hnm
   go_wp2_with fail
   refine HM.out.mono ?_
   rintro e w3 ⟨rfl,q3,rfl⟩
   have hb3:Below wB.heap.size wB (wB.drewN q3):=za6 (Below.refl _ _) q3
   generalize wB.drewN q3=w3 at hb3 ⊢
   have hIs:=znb ⟨#[119,104,101,110]⟩ w3
   obtain⟨Hb3,HIs⟩:=hd2 hb3 hIs;clear hb3 hIs
   go_wp2_with fail
   refine HIs.out.mono ?_
   rintro e w4 ⟨rfl,hw4⟩
   obtain⟨bo,hbo⟩ : ∃ z,z=w3.heap.size:=⟨_,rfl⟩
   have hb34:Below w3.heap.size w3 w4:=by rw[hw4];exact za2 _ _
   have po:w4.heap[bo]? = some (.cells #[.string ⟨#[119,104,101,110]⟩] 9 (0,0)):=by rw[hw4,hbo];exact heap_alloc_new _ _
   have hbB4:=Hb3.out.trans (hb34.mono Hb3.out.size)
   have hst4:=HstB.out.to hbB4
   have hT4:=zju HC.out hst4 (by omega) (enters_of Tryz.func114 (by kernel_rfl) rfl) (ok:=fun s=>decide (s=zle)) (cp:=.pointer (some ⟨bo,0,none⟩)) (fun s W _ k=>zr2 s zle (za1 k po))
   have p4:=za1 hbB4 HpB.out
   have hfr4:=zb1 HfrB.out hbB4
   have hE14:=zd8 HE1.out hbB4
   rw[← hbo]
   clear hbo
   unfold zbw at hT4
   obtain⟨Hb34,Hpo,HbB4,Hst4,HT4,Hp4,Hfr4,Hw4,HE14⟩:=hd9 hb34 po hbB4 hst4 hT4 p4 hfr4 hw4 hE14;clear hb34 po hbB4 hst4 hT4 p4 hfr4 hw4 hE14
   go_wp2_with fail
   refine HT4.out.mono ?_
   rintro e w5 ⟨⟨hi5,hok5,rfl,hbx5⟩ | ⟨hno,j',rfl⟩,hfr5⟩
   ·have hwd:zag ws j=zle:=of_decide_eq_true hok5
    have h5:bx < w4.heap.size:=(Array.getElem?_eq_some_iff.1 Hp4.out).1
    have p5:=zbd hfr5 Hp4.out (by omega)
    have hfrw5:Frm (fun k=>k=r) w w5:=Hfr4.out.trans hfr5 (fun _ _ h=>h)
    have hst5:=zet Hst4.out hlow hfr5 hbx5
    have hE15:=zic HE14.out hfr5 (fun k _ hk=>by subst hk;exact zb3 Hst4.out.box (by decide))
    have hF2:=znm HC.out hst5 (by omega)
    obtain⟨Hi5,Hok5,Hbx5,Hfr5,Hwd,Hp5,Hfrw5,Hst5,HE15,HF2⟩:=hd10 hi5 hok5 hbx5 hfr5 hwd p5 hfrw5 hst5 hE15 hF2;clear hi5 hok5 hbx5 hfr5 hwd p5 hfrw5 hst5 hE15 hF2
    go_wp2_with fail
    refine HF2.out.mono ?_
    rintro e w6 ⟨⟨s2,j2,u3,u4,hw2,rfl,hv3,hv4,hbx6⟩ | ⟨j2,hw2,rfl⟩,hfr6⟩
    ·obtain⟨b3,d3,rfl⟩:=zcq hv3.1
     obtain⟨b4,d4,rfl⟩:=zcm hv4.1
     have hjl2:=zsw hw2
     have p6:=zbd hfr6 Hp5.out (by omega)
     have hfrw6:Frm (fun k=>k=r) w w6:=Hfrw5.out.trans hfr6 (fun _ _ h=>h)
     have hE16:=zic HE15.out hfr6 (fun k _ hk=>by subst hk;exact zb3 Hst5.out.box (by decide))
     have hE36:=zry hv3 hv4
     have hbt6:¬ Ty w6 bx:=zb3 p6 (by decide)
     obtain⟨w7,hw7⟩ : ∃ W,W=((w6.setCell ⟨bx,3,none⟩ (.string s2.1)).setCell ⟨bx,4,none⟩ (.slice b3 s2.2.1.length d3)).setCell ⟨bx,5,none⟩ (.slice b4 s2.2.2.length d4):=⟨_,rfl⟩
     have hf67:Frm (fun k=>k=bx) w6 w7:=by rw[hw7];exact zae (zae (zae (Frm.refl _ _) 3 _) 4 _) 5 _
     have p7:w7.heap[bx]? = some (.cells #[.string nm,.slice b1 m1 d1,.slice b2 m2 d2,.string s2.1,.slice b3 s2.2.1.length d3,.slice b4 s2.2.2.length d4,.int .i64 line] 96 (0,0)):=by
      rw[hw7]
      have k0:=heap_setCell_same _ bx 3 _ _ (.string s2.1) p6
      have k1:=heap_setCell_same _ bx 4 _ _ (.slice b3 s2.2.1.length d3) k0
      exact heap_setCell_same _ bx 5 _ _ (.slice b4 s2.2.2.length d4) k1
     have hfr7:Frm (fun k=>k=r) w w7:=hfrw6.trans hf67 (fun k hk e=>by omega)
     have hbx7:RBox r (.slice a n c) j2 fin w7:=zbd hf67 hbx6 (by omega)
     have hE17:=zic hE16 hf67 (fun k _ hk=>by subst hk;exact hbt6)
     have hE37:=zic hE36 hf67 (fun k _ hk=>by subst hk;exact hbt6)
     have y3:=za8 p6 3
     have y4:=za8 p6 4
     have y5:=za8 p6 5
     have x3:=za0 p6 3
     have x4:=za0 p6 4
     have x5:=za0 p6 5
     simp only[List.getElem?_toArray,List.getElem?_cons_zero,List.getElem?_cons_succ] at x3 x4 x5
     go_upto_region 17 with (fail)
     rw[← hw7]
     clear hw7 y3 y4 y5 x3 x4 x5
     obtain⟨m3,hm3⟩ : ∃ k,k=s2.2.1.length:=⟨_,rfl⟩
     obtain⟨m4,hm4⟩ : ∃ k,k=s2.2.2.length:=⟨_,rfl⟩
     obtain⟨nm2,hnm2⟩ : ∃ k,k=s2.1:=⟨_,rfl⟩
     rw[← hm3,← hm4,← hnm2] at p7 hE37
     obtain⟨Hw2,Hv3,Hv4,Hbx6,Hfr6,Hp6,Hfrw6,HE16,HE36,Hbt6,Hf67,Hp7,Hfr7,Hbx7,HE17,HE37⟩:=hd16 hw2 hv3 hv4 hbx6 hfr6 p6 hfrw6 hE16 hE36 hbt6 hf67 p7 hfr7 hbx7 hE17 hE37;obtain⟨Hm3,Hm4,Hnm2⟩:=hd3 hm3 hm4 hnm2;clear hw2 hv3 hv4 hbx6 hfr6 p6 hfrw6 hE16 hE36 hbt6 hf67 p7 hfr7 hbx7 hE17 hE37 hm3 hm4 hnm2
     obtain⟨H1,L1⟩:=Hto.out _ Hfr7.out
     obtain⟨⟨cur,hcur⟩,z2,z3,z4,z5,z6,z7⟩:=L1.cells
     obtain⟨css,hr⟩:=L1.last.dep
     obtain⟨ra,rc,hrv⟩:=zaa hr.row
     rw[hrv] at z5
     have zf:=za8 hcur (ps.length * 8+5)
     have hne:v5.ownBlock≠some pb:=fun e=>by
      have e1:=hr.tag pb e
      have e2:=Hpb1.out
      omega
     have hvl:∀ k,v5.ownBlock=some k→Live (zac t w.heap.size 3 k)∧¬ Ty w7 k:=fun k hk=>⟨by have:=hr.tag k hk;unfold Live;omega,zar hr (by decide) hk⟩
     have hpt:¬ Ty w7 pb:=zb3 hcur (by decide)
     have hB:B≤w7.heap.size:=Nat.le_trans hBw Hfr7.out.size
     have hrow:=hr.row
     obtain⟨m,hm⟩ : ∃ m,m=p.dep.length:=⟨_,rfl⟩
     rw[← hm] at hrow hrv z5
     have hm7:m≤70000:=by rw[hm];exact Hp.out.2.2.2.1
     rw[hrv] at hrow
     obtain⟨N,hN⟩ : ∃ N,N=css.flatten:=⟨_,rfl⟩
     rw[← hN] at hrow
     have hels:Ft w7 (Fx w7 (zac t w.heap.size 3)) (fun W'=>zd2 W' [.string nm,.slice b1 m1 d1,.slice b2 m2 d2,.string nm2,.slice b3 m3 d3,.slice b4 m4 d4,.int .i64 line] (s,s2,line)):=(zsp (HE17.out.and HE37.out)).imp fun V h=>⟨_,_,_,_,_,_,rfl,h.1,h.2⟩
     have y0:=za0 Hp7.out 0
     have y1:=za0 Hp7.out 1
     have y2:=za0 Hp7.out 2
     have y3:=za0 Hp7.out 3
     have y4:=za0 Hp7.out 4
     have y5:=za0 Hp7.out 5
     have y6:=za0 Hp7.out 6
     simp only[List.getElem?_toArray,List.getElem?_cons_zero,List.getElem?_cons_succ] at y0 y1 y2 y3 y4 y5 y6
     have za:∀ ob:Obj,(w7.alloc ob).cell? ⟨pb,ps.length * 8+5,none⟩=some (.slice ra m rc):=fun ob=>((Frm.refl (fun _=>False) w7).alloc ob).keep z5
     have hrowd:(w7.drew).ownsRow B 96 7 (.slice ra m rc) m N:=hrow
     have hBd:B≤w7.drew.heap.size:=hB
     clear z2 z3 z4 z6 z7 zf hrow
     have Hne:=Lib.hid hne
     have Hcur:=Lib.hid hcur
     obtain⟨HH1,HL1,Hr,Hrv,Hvl,Hpt,Hm,HN,Hels,Hrowd⟩:=hd10 H1 L1 hr hrv hvl hpt hm hN hels hrowd;clear H1 L1 hr hrv hvl hpt hm hN hels hrowd
     clear hne hcur
     go_region_law (refine zb2 zss (w:=w7.drew) rfl (.tmp 85) (.tmp 87) rfl B (.slice ra m rc) m N rfl Hrowd.out 1 (by decide) #[.string nm,.slice b1 m1 d1,.slice b2 m2 d2,.string nm2,.slice b3 m3 d3,.slice b4 m4 d4,.int .i64 line] rfl rfl (by simp[Value.oneCell']) (by omega) (by unfold maxLen;omega) hBd ?_;intro g9 c9 w9 hown9 hg9 hm9;have hc9:=zav Hcur.out ((Frm.drew (Frm.refl _ w7)).grown hg9 (S:=fun k=>(Value.slice ra m rc).ownBlock=some k) (fun k hk=>.inr hk)) (by rw[← Hrv.out];exact Hne.out);have d2':=za8 hc9 (ps.length * 8+5);have d1':=(World.cell?_of_block (w:=w7) (w':=w9) (a:=⟨pb,ps.length * 8+5,none⟩) (hc9.trans Hcur.out.symm)).trans z5)
     all_goals
      have hL9:=HL1.out.dep_push Hr.out Hels.out (v9:=.slice (some ⟨g9,0,none⟩) (m+1) c9) (by rw[← Hm.out,← HN.out];exact hown9) (by rw[Hrv.out];exact zbp hg9) (by rw[Hrv.out];exact hm9)
      have hg9':w7.grownBy w9 v5.ownBlock:=by rw[Hrv.out];exact zbp hg9
      obtain⟨Hown9,Hg9,Hm9,Hc9,HL9,Hg9'⟩:=hd6 hown9 hg9 hm9 hc9 hL9 hg9';clear hown9 hg9 hm9 hc9 hL9 hg9'
      clear za
      go_wp2_with fail
      go_end0
      refine zb0 (v:=v5) (j:=j2) HH1.out HL9.out Hfr7.out Hg9'.out Ht1.out (fun k hk=>za4 hk) Hvl.out Hpb1.out Hpt.out Hbx7.out Hr1.out ?_ ?_ ?_ rfl
      ·intro hj
       rw[Hf.out]
       unfold zb5
       rw[if_neg (by decide),if_neg (by decide),if_neg (by decide),if_pos rfl,depL_yes Hw.out (by have:=Hn.out;omega) Hwd.out Hw2.out hj]
       rfl
      ·intro hj
       rw[Hf.out]
       unfold zb5
       rw[if_neg (by decide),if_neg (by decide),if_neg (by decide),if_pos rfl,depL_more Hw.out (by have:=Hn.out;omega) Hw2.out hj]
       rfl
      exact hjl2.2
    have hnone:zb5 first line p (zam ws i)=none:=by
     rw[Hf.out]
     unfold zb5
     rw[if_neg (by decide),if_neg (by decide),if_neg (by decide),if_pos rfl,depL_cond Hw.out (by have:=Hn.out;omega) hw2]
     rfl
    have hfrw6:Frm (fun k=>k=r) w w6:=Hfrw5.out.trans hfr6 (fun _ _ h=>h)
    obtain⟨Hw2,Hfr6,Hnone,Hfrw6⟩:=hd4 hw2 hfr6 hnone hfrw6;clear hw2 hfr6 hnone hfrw6
    go_wp2_with fail
    exact⟨rfl,zb9 Hnone.out rfl Hfrw6.out⟩
   have hnone:zb5 first line p (zam ws i)=none:=by
    rw[Hf.out]
    unfold zb5
    rw[if_neg (by decide),if_neg (by decide),if_neg (by decide),if_pos rfl,depL_word Hw.out (by have:=Hn.out;omega) (by
     rcases hno with h | h
     ·have:=Hn.out;omega
     exact of_decide_eq_false h)]
    rfl
   have hfrw5:Frm (fun k=>k=r) w w5:=Hfr4.out.trans hfr5 (fun _ _ h=>h)
   obtain⟨Hno,Hfr5,Hnone,Hfrw5⟩:=hd4 hno hfr5 hnone hfrw5;clear hno hfr5 hnone hfrw5
   go_wp2_with fail
   exact⟨rfl,zb9 Hnone.out rfl Hfrw5.out⟩
  rw[decide_eq_false hlt] at hM
  obtain⟨Hw,Hv1,Hv2,Hbx,Hfr,Hb1A,Hall,HbAB,Hb1B,HpB,HfrB,HbxB,HstB,HM,HE1,HE2⟩:=hd16 hw hv1 hv2 hbx hfr hb1A hall hbAB hb1B pB hfrB hbxB hstB hM hE1 hE2;obtain⟨Hm1,Hm2,Hnm⟩:=hd3 hm1 hm2 hnm;clear hw hv1 hv2 hbx hfr hb1A hall hbAB hb1B pB hfrB hbxB hstB hM hE1 hE2 hm1 hm2 hnm
  go_wp2_with fail
  refine HM.out.mono ?_
  rintro e w3 ⟨rfl,q3,rfl⟩
  have hb3:Below wB.heap.size wB (wB.drewN q3):=za6 (Below.refl _ _) q3
  generalize wB.drewN q3=w3 at hb3 ⊢
  have p3:=za1 hb3 HpB.out
  have hfr3:=zb1 HfrB.out hb3
  have hbx3:=za1 hb3 HbxB.out
  have hE13:=zd8 HE1.out hb3
  have hE23:=zd8 HE2.out hb3
  obtain⟨Hb3,Hp3,Hfr3,Hbx3,HE13,HE23⟩:=hd6 hb3 p3 hfr3 hbx3 hE13 hE23;clear hb3 p3 hfr3 hbx3 hE13 hE23
  go_upto_region 17 with (fail)
  obtain⟨H1,L1⟩:=Hto.out _ Hfr3.out
  obtain⟨⟨cur,hcur⟩,z2,z3,z4,z5,z6,z7⟩:=L1.cells
  obtain⟨css,hr⟩:=L1.last.dep
  obtain⟨ra,rc,hrv⟩:=zaa hr.row
  rw[hrv] at z5
  have zf:=za8 hcur (ps.length * 8+5)
  have hne:v5.ownBlock≠some pb:=fun e=>by
   have e1:=hr.tag pb e
   have e2:=Hpb1.out
   omega
  have hvl:∀ k,v5.ownBlock=some k→Live (zac t w.heap.size 3 k)∧¬ Ty w3 k:=fun k hk=>⟨by have:=hr.tag k hk;unfold Live;omega,zar hr (by decide) hk⟩
  have hpt:¬ Ty w3 pb:=zb3 hcur (by decide)
  have hB:B≤w3.heap.size:=Nat.le_trans hBw Hfr3.out.size
  have hrow:=hr.row
  obtain⟨m,hm⟩ : ∃ m,m=p.dep.length:=⟨_,rfl⟩
  rw[← hm] at hrow hrv z5
  have hm7:m≤70000:=by rw[hm];exact Hp.out.2.2.2.1
  rw[hrv] at hrow
  obtain⟨N,hN⟩ : ∃ N,N=css.flatten:=⟨_,rfl⟩
  rw[← hN] at hrow
  have hels:Ft w3 (Fx w3 (zac t w.heap.size 3)) (fun W'=>zd2 W' [.string nm,.slice b1 m1 d1,.slice b2 m2 d2,.string ⟨#[]⟩,.slice sa 1 1,.slice none 0 0,.int .i64 line] (s,spAll,line)):=(zsp (HE13.out.and HE23.out)).imp fun V h=>⟨_,_,_,_,_,_,rfl,h.1,h.2⟩
  have y0:=za0 Hp3.out 0
  have y1:=za0 Hp3.out 1
  have y2:=za0 Hp3.out 2
  have y3:=za0 Hp3.out 3
  have y4:=za0 Hp3.out 4
  have y5:=za0 Hp3.out 5
  have y6:=za0 Hp3.out 6
  simp only[List.getElem?_toArray,List.getElem?_cons_zero,List.getElem?_cons_succ] at y0 y1 y2 y3 y4 y5 y6
  have za:∀ ob:Obj,(w3.alloc ob).cell? ⟨pb,ps.length * 8+5,none⟩=some (.slice ra m rc):=fun ob=>((Frm.refl (fun _=>False) w3).alloc ob).keep z5
  have hrowd:(w3.drew).ownsRow B 96 7 (.slice ra m rc) m N:=hrow
  have hBd:B≤w3.drew.heap.size:=hB
  clear z2 z3 z4 z6 z7 zf hrow
  have Hne:=Lib.hid hne
  have Hcur:=Lib.hid hcur
  obtain⟨HH1,HL1,Hr,Hrv,Hvl,Hpt,Hm,HN,Hels,Hrowd⟩:=hd10 H1 L1 hr hrv hvl hpt hm hN hels hrowd;clear H1 L1 hr hrv hvl hpt hm hN hels hrowd
  clear hne hcur
  go_region_law (refine zb2 zss (w:=w3.drew) rfl (.tmp 85) (.tmp 87) rfl B (.slice ra m rc) m N rfl Hrowd.out 1 (by decide) #[.string nm,.slice b1 m1 d1,.slice b2 m2 d2,.string ⟨#[]⟩,.slice sa 1 1,.slice none 0 0,.int .i64 line] rfl rfl (by simp[Value.oneCell']) (by omega) (by unfold maxLen;omega) hBd ?_;intro g9 c9 w9 hown9 hg9 hm9;have hc9:=zav Hcur.out ((Frm.drew (Frm.refl _ w3)).grown hg9 (S:=fun k=>(Value.slice ra m rc).ownBlock=some k) (fun k hk=>.inr hk)) (by rw[← Hrv.out];exact Hne.out);have d2':=za8 hc9 (ps.length * 8+5);have d1':=(World.cell?_of_block (w:=w3) (w':=w9) (a:=⟨pb,ps.length * 8+5,none⟩) (hc9.trans Hcur.out.symm)).trans z5)
  all_goals
   have hL9:=HL1.out.dep_push Hr.out Hels.out (v9:=.slice (some ⟨g9,0,none⟩) (m+1) c9) (by rw[← Hm.out,← HN.out];exact hown9) (by rw[Hrv.out];exact zbp hg9) (by rw[Hrv.out];exact hm9)
   have hg9':w3.grownBy w9 v5.ownBlock:=by rw[Hrv.out];exact zbp hg9
   obtain⟨Hown9,Hg9,Hm9,Hc9,HL9,Hg9'⟩:=hd6 hown9 hg9 hm9 hc9 hL9 hg9';clear hown9 hg9 hm9 hc9 hL9 hg9'
   clear za
   go_wp2_with fail
   go_end0
   refine zb0 (v:=v5) (j:=j) HH1.out HL9.out Hfr3.out Hg9'.out Ht1.out (fun k hk=>za4 hk) Hvl.out Hpb1.out Hpt.out Hbx3.out Hr1.out ?_ ?_ ?_ rfl
   ·intro hj
    rw[Hf.out]
    unfold zb5
    rw[if_neg (by decide),if_neg (by decide),if_neg (by decide),if_pos rfl,depL_end Hw.out hj]
    rfl
   ·intro hj
    have:=Hn.out
    omega
   exact hjl.2
 have hnone:zb5 first line p (zam ws i)=none:=by
  rw[Hf.out]
  unfold zb5
  rw[if_neg (by decide),if_neg (by decide),if_neg (by decide),if_pos rfl,depL_bad hw]
  rfl
 obtain⟨Hw,Hfr,Hnone⟩:=hd3 hw hfr hnone;clear hw hfr hnone
 go_wp2_with fail
 exact⟨rfl,zb9 Hnone.out rfl Hfr.out⟩
end

section
open Go.Shelf Go.RowKit Go.Lib VerN VarM
open LexM (Wd)
attribute [local go_sem ↓] Go.wp_at_zero Go.wp_at_succ
theorem zok {w0 w:World} {r:Nat} {a:Option Addr} {n c:Nat} {fin:Int} {ws:List Wd} {i:Nat} {t:Nat→Nat} {B xb pb cap:Nat} {vf:Value} {x:RcpM} {ps:List PkgM} {p:PkgM} {line:Int} {first:ByteArray} (C:RdC w0 r a n c fin ws) (S:RdS w0 r a n c fin i w) (hi1:i≤990)
  (H:RcSt w t B xb (.slice (some ⟨pb,0,none⟩) (ps.length+1) cap) vf x) (hx:x.pk=ps ++ [p]) (tr:t r=10) (hBw:B≤w.heap.size) (hp:FewP p) (hps:ps.length≤70000) (hf:first=zbz) :
  Calls Tryz.prog 50 #[rp r,.string first,.int .i64 line,.pointer (some ⟨pb,ps.length * 8,none⟩)] w (ze4 r a n c fin ws i t B xb (.slice (some ⟨pb,0,none⟩) (ps.length+1) cap) vf x ps p line first w):=by
 have k0:(first.toList == [118,101,114,115,105,111,110])=false:=by rw[zau first [118,101,114,115,105,111,110] zcp rfl,hf];decide
 have k1:(first.toList == [118,97,114,105,97,110,116])=false:=by rw[zau first [118,97,114,105,97,110,116] zdb rfl,hf];decide
 have k2:(first.toList == [112,114,111,118,105,100,101,115])=false:=by rw[zau first [112,114,111,118,105,100,101,115] zc7 rfl,hf];decide
 have k3:(first.toList == [100,101,112,101,110,100,115])=false:=by rw[zau first [100,101,112,101,110,100,115] zdc rfl,hf];decide
 have k4:(first.toList == [99,111,110,102,108,105,99,116,115])=true:=by rw[zau first [99,111,110,102,108,105,99,116,115] zbz rfl,hf];decide
 have hrw:r < w.heap.size:=(Array.getElem?_eq_some_iff.1 S.box).1
 have hn:=C.len
 have hn1:=C.n1000
 have hlow:=C.low
 obtain⟨dss,v2,v3,v4,v5,v6,v7,L⟩ : ∃ dss v2 v3 v4 v5 v6 v7,zcc w t B (.slice (some ⟨pb,0,none⟩) (ps.length+1) cap) ps p dss v2 v3 v4 v5 v6 v7:=by
  rcases H.pk with⟨h1,_⟩ | ⟨ps',p',dss,v2,v3,v4,v5,v6,v7,h1,L⟩
  ·rw[hx] at h1
   simp at h1
  rw[hx] at h1
  have e1:=List.append_inj_left' h1 rfl
  have e2:=List.append_inj_right' h1 rfl
  obtain rfl:p=p':=by simpa using e2
  subst e1
  exact⟨dss,v2,v3,v4,v5,v6,v7,L⟩
 have hrt:=zb3 S.box (by decide)
 -- the recipe as it is at a later world,ahead of the store
 have hto:∀ W,Frm (fun k=>k=r) w W→RcSt W (zac t w.heap.size 3) B xb (.slice (some ⟨pb,0,none⟩) (ps.length+1) cap) vf x∧zcc W (zac t w.heap.size 3) B (.slice (some ⟨pb,0,none⟩) (ps.length+1) cap) ps p dss v2 v3 v4 v5 v6 v7:=fun W hF =>
  ⟨H.to hF (fun k _ hk=>by subst hk;exact⟨by omega,hrt⟩) (fun k hk _=>za4 hk),L.to hF (fun k _ hk=>by subst hk;unfold Live;exact⟨by omega,by omega,by omega,hrt⟩) (fun k hk _=>za4 hk)⟩
 have ht1:∀ k,k < w.heap.size→zac t w.heap.size 3 k=t k:=fun k hk=>za4 hk
 have hr1:zac t w.heap.size 3 r=10:=by rw[za4 hrw,tr]
 have hpb1:zac t w.heap.size 3 pb=1:=by rw[za4 (L.row.lt pb rfl).2,L.tag pb rfl]
 have hF1:=znm C S (by omega)
 obtain⟨HC,HS,HH,HL,Hx,Hp,Hf,HF1,Hn,Hto,Ht1,Hr1,Hpb1,Hrt,Htr⟩:=hd15 C S H L hx hp hf hF1 hn hto ht1 hr1 hpb1 hrt tr;clear C S H L hx hp hf hF1 hn hto ht1 hr1 hpb1 hrt tr
 go_enter Tryz.func50,Tryz.ntmps50
 go_wp2_with fail
 refine HF1.out.mono ?_
 rintro e w1 ⟨⟨s,j,u1,u2,hw,rfl,hv1,hv2,hbx⟩ | ⟨j,hw,rfl⟩,hfr⟩
 ·obtain⟨b1,d1,rfl⟩:=zcq hv1.1
  obtain⟨b2,d2,rfl⟩:=zcm hv2.1
  have hjl:=zsw hw
  have hb1A:Below w1.heap.size w1 w1:=Below.refl _ _
  have hall:Ft w1 (Ty w1) fun W'=>zlc W' (.string ⟨#[]⟩) (.slice none 0 0) (.slice none 0 0) zo8:=none_ty w1
  obtain⟨wB,hwB⟩ : ∃ W,W=w1.alloc (.cells #[.string s.1,.slice b1 s.2.1.length d1,.slice b2 s.2.2.length d2,.string ⟨#[]⟩,.slice none 0 0,.slice none 0 0,.int .i64 line] 98):=⟨_,rfl⟩
  obtain⟨bx,hbxx⟩ : ∃ z,z=w1.heap.size:=⟨_,rfl⟩
  have hzA:w1.heap.size=bx:=by rw[hbxx]
  have hbAB:Below w1.heap.size w1 wB:=by rw[hwB];exact za2 _ _
  have hb1B:=hb1A.trans (hbAB.mono hb1A.size)
  have pB:wB.heap[bx]? = some (.cells #[.string s.1,.slice b1 s.2.1.length d1,.slice b2 s.2.2.length d2,.string ⟨#[]⟩,.slice none 0 0,.slice none 0 0,.int .i64 line] 98 (0,0)):=by rw[hwB,← hzA];exact heap_alloc_new _ _
  have hfrB:=zb1 hfr hb1B
  have hbxB:=za1 hb1B hbx
  have hstB:RdS w0 r a n c fin j wB:=zet HS.out hlow hfrB hbxB
  have hM:=HC.out.more hstB
  have hbw:w.heap.size≤bx:=by rw[← hzA];exact Nat.le_trans hfr.size hb1A.size
  have hE1:=zd8 (zry hv1 hv2) hb1B
  have hE2:=zd8 hall hbAB
  clear hzA
  go_upto_region 20 with (fail)
  rw[← hwB,← hbxx]
  clear hwB hbxx
  obtain⟨m1,hm1⟩ : ∃ k,k=s.2.1.length:=⟨_,rfl⟩
  obtain⟨m2,hm2⟩ : ∃ k,k=s.2.2.length:=⟨_,rfl⟩
  obtain⟨nm,hnm⟩ : ∃ k,k=s.1:=⟨_,rfl⟩
  rw[← hm1,← hm2,← hnm] at pB hE1
  rw[← hm1,← hm2,← hnm]
  skip
  by_cases hlt:j < n
  ·rw[decide_eq_true hlt] at hM
   obtain⟨Hw,Hv1,Hv2,Hbx,Hfr,Hb1A,Hall,HbAB,Hb1B,HpB,HfrB,HbxB,HstB,HM,HE1,HE2⟩:=hd16 hw hv1 hv2 hbx hfr hb1A hall hbAB hb1B pB hfrB hbxB hstB hM hE1 hE2;obtain⟨Hm1,Hm2,Hnm⟩:=hd3 hm1 hm2 hnm;clear hw hv1 hv2 hbx hfr hb1A hall hbAB hb1B pB hfrB hbxB hstB hM hE1 hE2 hm1 hm2 hnm
   go_wp2_with fail
   refine HM.out.mono ?_
   rintro e w3 ⟨rfl,q3,rfl⟩
   have hb3:Below wB.heap.size wB (wB.drewN q3):=za6 (Below.refl _ _) q3
   generalize wB.drewN q3=w3 at hb3 ⊢
   have hIs:=znb ⟨#[119,105,116,104]⟩ w3
   obtain⟨Hb3,HIs⟩:=hd2 hb3 hIs;clear hb3 hIs
   go_wp2_with fail
   refine HIs.out.mono ?_
   rintro e w4 ⟨rfl,hw4⟩
   obtain⟨bo,hbo⟩ : ∃ z,z=w3.heap.size:=⟨_,rfl⟩
   have hb34:Below w3.heap.size w3 w4:=by rw[hw4];exact za2 _ _
   have po:w4.heap[bo]? = some (.cells #[.string ⟨#[119,105,116,104]⟩] 9 (0,0)):=by rw[hw4,hbo];exact heap_alloc_new _ _
   have hbB4:=Hb3.out.trans (hb34.mono Hb3.out.size)
   have hst4:=HstB.out.to hbB4
   have hT4:=zju HC.out hst4 (by omega) (enters_of Tryz.func114 (by kernel_rfl) rfl) (ok:=fun s=>decide (s=zmm)) (cp:=.pointer (some ⟨bo,0,none⟩)) (fun s W _ k=>zr2 s zmm (za1 k po))
   have p4:=za1 hbB4 HpB.out
   have hfr4:=zb1 HfrB.out hbB4
   have hE14:=zd8 HE1.out hbB4
   rw[← hbo]
   clear hbo
   unfold zbw at hT4
   obtain⟨Hb34,Hpo,HbB4,Hst4,HT4,Hp4,Hfr4,Hw4,HE14⟩:=hd9 hb34 po hbB4 hst4 hT4 p4 hfr4 hw4 hE14;clear hb34 po hbB4 hst4 hT4 p4 hfr4 hw4 hE14
   go_wp2_with fail
   refine HT4.out.mono ?_
   rintro e w5 ⟨⟨hi5,hok5,rfl,hbx5⟩ | ⟨hno,j',rfl⟩,hfr5⟩
   ·have hwd:zag ws j=zmm:=of_decide_eq_true hok5
    have h5:bx < w4.heap.size:=(Array.getElem?_eq_some_iff.1 Hp4.out).1
    have p5:=zbd hfr5 Hp4.out (by omega)
    have hfrw5:Frm (fun k=>k=r) w w5:=Hfr4.out.trans hfr5 (fun _ _ h=>h)
    have hst5:=zet Hst4.out hlow hfr5 hbx5
    have hE15:=zic HE14.out hfr5 (fun k _ hk=>by subst hk;exact zb3 Hst4.out.box (by decide))
    have hF2:=zro HC.out hst5 (by omega)
    obtain⟨Hi5,Hok5,Hbx5,Hfr5,Hwd,Hp5,Hfrw5,Hst5,HE15,HF2⟩:=hd10 hi5 hok5 hbx5 hfr5 hwd p5 hfrw5 hst5 hE15 hF2;clear hi5 hok5 hbx5 hfr5 hwd p5 hfrw5 hst5 hE15 hF2
    go_wp2_with fail
    refine HF2.out.mono ?_
    rintro e w6 ⟨⟨s2,j2,u3,u4,hw2,rfl,hv3,hv4,hbx6⟩ | ⟨j2,hw2,rfl⟩,hfr6⟩
    ·obtain⟨b3,d3,rfl⟩:=zcq hv3.1
     obtain⟨b4,d4,rfl⟩:=zcm hv4.1
     have hjl2:=zrp hw2
     have p6:=zbd hfr6 Hp5.out (by omega)
     have hfrw6:Frm (fun k=>k=r) w w6:=Hfrw5.out.trans hfr6 (fun _ _ h=>h)
     have hE16:=zic HE15.out hfr6 (fun k _ hk=>by subst hk;exact zb3 Hst5.out.box (by decide))
     have hE36:=zry hv3 hv4
     have hbt6:¬ Ty w6 bx:=zb3 p6 (by decide)
     obtain⟨w7,hw7⟩ : ∃ W,W=((w6.setCell ⟨bx,3,none⟩ (.string s2.1)).setCell ⟨bx,4,none⟩ (.slice b3 s2.2.1.length d3)).setCell ⟨bx,5,none⟩ (.slice b4 s2.2.2.length d4):=⟨_,rfl⟩
     have hf67:Frm (fun k=>k=bx) w6 w7:=by rw[hw7];exact zae (zae (zae (Frm.refl _ _) 3 _) 4 _) 5 _
     have p7:w7.heap[bx]? = some (.cells #[.string nm,.slice b1 m1 d1,.slice b2 m2 d2,.string s2.1,.slice b3 s2.2.1.length d3,.slice b4 s2.2.2.length d4,.int .i64 line] 98 (0,0)):=by
      rw[hw7]
      have k0:=heap_setCell_same _ bx 3 _ _ (.string s2.1) p6
      have k1:=heap_setCell_same _ bx 4 _ _ (.slice b3 s2.2.1.length d3) k0
      exact heap_setCell_same _ bx 5 _ _ (.slice b4 s2.2.2.length d4) k1
     have hfr7:Frm (fun k=>k=r) w w7:=hfrw6.trans hf67 (fun k hk e=>by omega)
     have hbx7:RBox r (.slice a n c) j2 fin w7:=zbd hf67 hbx6 (by omega)
     have hE17:=zic hE16 hf67 (fun k _ hk=>by subst hk;exact hbt6)
     have hE37:=zic hE36 hf67 (fun k _ hk=>by subst hk;exact hbt6)
     have y3:=za8 p6 3
     have y4:=za8 p6 4
     have y5:=za8 p6 5
     have x3:=za0 p6 3
     have x4:=za0 p6 4
     have x5:=za0 p6 5
     simp only[List.getElem?_toArray,List.getElem?_cons_zero,List.getElem?_cons_succ] at x3 x4 x5
     go_upto_region 23 with (fail)
     rw[← hw7]
     clear hw7 y3 y4 y5 x3 x4 x5
     obtain⟨m3,hm3⟩ : ∃ k,k=s2.2.1.length:=⟨_,rfl⟩
     obtain⟨m4,hm4⟩ : ∃ k,k=s2.2.2.length:=⟨_,rfl⟩
     obtain⟨nm2,hnm2⟩ : ∃ k,k=s2.1:=⟨_,rfl⟩
     rw[← hm3,← hm4,← hnm2] at p7 hE37
     obtain⟨Hw2,Hv3,Hv4,Hbx6,Hfr6,Hp6,Hfrw6,HE16,HE36,Hbt6,Hf67,Hp7,Hfr7,Hbx7,HE17,HE37⟩:=hd16 hw2 hv3 hv4 hbx6 hfr6 p6 hfrw6 hE16 hE36 hbt6 hf67 p7 hfr7 hbx7 hE17 hE37;obtain⟨Hm3,Hm4,Hnm2⟩:=hd3 hm3 hm4 hnm2;clear hw2 hv3 hv4 hbx6 hfr6 p6 hfrw6 hE16 hE36 hbt6 hf67 p7 hfr7 hbx7 hE17 hE37 hm3 hm4 hnm2
     obtain⟨H1,L1⟩:=Hto.out _ Hfr7.out
     obtain⟨⟨cur,hcur⟩,z2,z3,z4,z5,z6,z7⟩:=L1.cells
     obtain⟨css,hr⟩:=L1.last.conf
     obtain⟨ra,rc,hrv⟩:=zaa hr.row
     rw[hrv] at z6
     have zf:=za8 hcur (ps.length * 8+6)
     have hne:v6.ownBlock≠some pb:=fun e=>by
      have e1:=hr.tag pb e
      have e2:=Hpb1.out
      omega
     have hvl:∀ k,v6.ownBlock=some k→Live (zac t w.heap.size 3 k)∧¬ Ty w7 k:=fun k hk=>⟨by have:=hr.tag k hk;unfold Live;omega,zar hr (by decide) hk⟩
     have hpt:¬ Ty w7 pb:=zb3 hcur (by decide)
     have hB:B≤w7.heap.size:=Nat.le_trans hBw Hfr7.out.size
     have hrow:=hr.row
     obtain⟨m,hm⟩ : ∃ m,m=p.conf.length:=⟨_,rfl⟩
     rw[← hm] at hrow hrv z6
     have hm7:m≤70000:=by rw[hm];exact Hp.out.2.2.2.2.1
     rw[hrv] at hrow
     obtain⟨N,hN⟩ : ∃ N,N=css.flatten:=⟨_,rfl⟩
     rw[← hN] at hrow
     have hels:Ft w7 (Fx w7 (zac t w.heap.size 3)) (fun W'=>zd2 W' [.string nm,.slice b1 m1 d1,.slice b2 m2 d2,.string nm2,.slice b3 m3 d3,.slice b4 m4 d4,.int .i64 line] (s,s2,line)):=(zsp (HE17.out.and HE37.out)).imp fun V h=>⟨_,_,_,_,_,_,rfl,h.1,h.2⟩
     have y0:=za0 Hp7.out 0
     have y1:=za0 Hp7.out 1
     have y2:=za0 Hp7.out 2
     have y3:=za0 Hp7.out 3
     have y4:=za0 Hp7.out 4
     have y5:=za0 Hp7.out 5
     have y6:=za0 Hp7.out 6
     simp only[List.getElem?_toArray,List.getElem?_cons_zero,List.getElem?_cons_succ] at y0 y1 y2 y3 y4 y5 y6
     have za:∀ ob:Obj,(w7.alloc ob).cell? ⟨pb,ps.length * 8+6,none⟩=some (.slice ra m rc):=fun ob=>((Frm.refl (fun _=>False) w7).alloc ob).keep z6
     have hrowd:(w7.drew).ownsRow B 98 7 (.slice ra m rc) m N:=hrow
     have hBd:B≤w7.drew.heap.size:=hB
     clear z2 z3 z4 z5 z7 zf hrow
     have Hne:=Lib.hid hne
     have Hcur:=Lib.hid hcur
     obtain⟨HH1,HL1,Hr,Hrv,Hvl,Hpt,Hm,HN,Hels,Hrowd⟩:=hd10 H1 L1 hr hrv hvl hpt hm hN hels hrowd;clear H1 L1 hr hrv hvl hpt hm hN hels hrowd
     clear hne hcur
     go_region_law (refine zb2 zpe (w:=w7.drew) rfl (.tmp 109) (.tmp 111) rfl B (.slice ra m rc) m N rfl Hrowd.out 1 (by decide) #[.string nm,.slice b1 m1 d1,.slice b2 m2 d2,.string nm2,.slice b3 m3 d3,.slice b4 m4 d4,.int .i64 line] rfl rfl (by simp[Value.oneCell']) (by omega) (by unfold maxLen;omega) hBd ?_;intro g9 c9 w9 hown9 hg9 hm9;have hc9:=zav Hcur.out ((Frm.drew (Frm.refl _ w7)).grown hg9 (S:=fun k=>(Value.slice ra m rc).ownBlock=some k) (fun k hk=>.inr hk)) (by rw[← Hrv.out];exact Hne.out);have d2':=za8 hc9 (ps.length * 8+6);have d1':=(World.cell?_of_block (w:=w7) (w':=w9) (a:=⟨pb,ps.length * 8+6,none⟩) (hc9.trans Hcur.out.symm)).trans z6)
     all_goals
      have hL9:=HL1.out.conf_push Hr.out Hels.out (v9:=.slice (some ⟨g9,0,none⟩) (m+1) c9) (by rw[← Hm.out,← HN.out];exact hown9) (by rw[Hrv.out];exact zbp hg9) (by rw[Hrv.out];exact hm9)
      have hg9':w7.grownBy w9 v6.ownBlock:=by rw[Hrv.out];exact zbp hg9
      obtain⟨Hown9,Hg9,Hm9,Hc9,HL9,Hg9'⟩:=hd6 hown9 hg9 hm9 hc9 hL9 hg9';clear hown9 hg9 hm9 hc9 hL9 hg9'
      clear za
      go_wp2_with fail
      go_end0
      refine zb0 (v:=v6) (j:=j2) HH1.out HL9.out Hfr7.out Hg9'.out Ht1.out (fun k hk=>za4 hk) Hvl.out Hpb1.out Hpt.out Hbx7.out Hr1.out ?_ ?_ ?_ rfl
      ·intro hj
       rw[Hf.out]
       unfold zb5
       rw[if_neg (by decide),if_neg (by decide),if_neg (by decide),if_neg (by decide),if_pos rfl,confL_yes Hw.out (by have:=Hn.out;omega) Hwd.out Hw2.out hj]
       rfl
      ·intro hj
       rw[Hf.out]
       unfold zb5
       rw[if_neg (by decide),if_neg (by decide),if_neg (by decide),if_neg (by decide),if_pos rfl,zuv Hw.out (by have:=Hn.out;omega) Hw2.out hj]
       rfl
      exact hjl2.2
    have hnone:zb5 first line p (zam ws i)=none:=by
     rw[Hf.out]
     unfold zb5
     rw[if_neg (by decide),if_neg (by decide),if_neg (by decide),if_neg (by decide),if_pos rfl,zuw Hw.out (by have:=Hn.out;omega) hw2]
     rfl
    have hfrw6:Frm (fun k=>k=r) w w6:=Hfrw5.out.trans hfr6 (fun _ _ h=>h)
    obtain⟨Hw2,Hfr6,Hnone,Hfrw6⟩:=hd4 hw2 hfr6 hnone hfrw6;clear hw2 hfr6 hnone hfrw6
    go_wp2_with fail
    exact⟨rfl,zb9 Hnone.out rfl Hfrw6.out⟩
   have hnone:zb5 first line p (zam ws i)=none:=by
    rw[Hf.out]
    unfold zb5
    rw[if_neg (by decide),if_neg (by decide),if_neg (by decide),if_neg (by decide),if_pos rfl,zuu Hw.out (by have:=Hn.out;omega) (by
     rcases hno with h | h
     ·have:=Hn.out;omega
     exact of_decide_eq_false h)]
    rfl
   have hfrw5:Frm (fun k=>k=r) w w5:=Hfr4.out.trans hfr5 (fun _ _ h=>h)
   obtain⟨Hno,Hfr5,Hnone,Hfrw5⟩:=hd4 hno hfr5 hnone hfrw5;clear hno hfr5 hnone hfrw5
   go_wp2_with fail
   exact⟨rfl,zb9 Hnone.out rfl Hfrw5.out⟩
  rw[decide_eq_false hlt] at hM
  obtain⟨Hw,Hv1,Hv2,Hbx,Hfr,Hb1A,Hall,HbAB,Hb1B,HpB,HfrB,HbxB,HstB,HM,HE1,HE2⟩:=hd16 hw hv1 hv2 hbx hfr hb1A hall hbAB hb1B pB hfrB hbxB hstB hM hE1 hE2;obtain⟨Hm1,Hm2,Hnm⟩:=hd3 hm1 hm2 hnm;clear hw hv1 hv2 hbx hfr hb1A hall hbAB hb1B pB hfrB hbxB hstB hM hE1 hE2 hm1 hm2 hnm
  go_wp2_with fail
  refine HM.out.mono ?_
  rintro e w3 ⟨rfl,q3,rfl⟩
  have hb3:Below wB.heap.size wB (wB.drewN q3):=za6 (Below.refl _ _) q3
  generalize wB.drewN q3=w3 at hb3 ⊢
  have p3:=za1 hb3 HpB.out
  have hfr3:=zb1 HfrB.out hb3
  have hbx3:=za1 hb3 HbxB.out
  have hE13:=zd8 HE1.out hb3
  have hE23:=zd8 HE2.out hb3
  obtain⟨Hb3,Hp3,Hfr3,Hbx3,HE13,HE23⟩:=hd6 hb3 p3 hfr3 hbx3 hE13 hE23;clear hb3 p3 hfr3 hbx3 hE13 hE23
  go_upto_region 23 with (fail)
  obtain⟨H1,L1⟩:=Hto.out _ Hfr3.out
  obtain⟨⟨cur,hcur⟩,z2,z3,z4,z5,z6,z7⟩:=L1.cells
  obtain⟨css,hr⟩:=L1.last.conf
  obtain⟨ra,rc,hrv⟩:=zaa hr.row
  rw[hrv] at z6
  have zf:=za8 hcur (ps.length * 8+6)
  have hne:v6.ownBlock≠some pb:=fun e=>by
   have e1:=hr.tag pb e
   have e2:=Hpb1.out
   omega
  have hvl:∀ k,v6.ownBlock=some k→Live (zac t w.heap.size 3 k)∧¬ Ty w3 k:=fun k hk=>⟨by have:=hr.tag k hk;unfold Live;omega,zar hr (by decide) hk⟩
  have hpt:¬ Ty w3 pb:=zb3 hcur (by decide)
  have hB:B≤w3.heap.size:=Nat.le_trans hBw Hfr3.out.size
  have hrow:=hr.row
  obtain⟨m,hm⟩ : ∃ m,m=p.conf.length:=⟨_,rfl⟩
  rw[← hm] at hrow hrv z6
  have hm7:m≤70000:=by rw[hm];exact Hp.out.2.2.2.2.1
  rw[hrv] at hrow
  obtain⟨N,hN⟩ : ∃ N,N=css.flatten:=⟨_,rfl⟩
  rw[← hN] at hrow
  have hels:Ft w3 (Fx w3 (zac t w.heap.size 3)) (fun W'=>zd2 W' [.string nm,.slice b1 m1 d1,.slice b2 m2 d2,.string ⟨#[]⟩,.slice none 0 0,.slice none 0 0,.int .i64 line] (s,zo8,line)):=(zsp (HE13.out.and HE23.out)).imp fun V h=>⟨_,_,_,_,_,_,rfl,h.1,h.2⟩
  have y0:=za0 Hp3.out 0
  have y1:=za0 Hp3.out 1
  have y2:=za0 Hp3.out 2
  have y3:=za0 Hp3.out 3
  have y4:=za0 Hp3.out 4
  have y5:=za0 Hp3.out 5
  have y6:=za0 Hp3.out 6
  simp only[List.getElem?_toArray,List.getElem?_cons_zero,List.getElem?_cons_succ] at y0 y1 y2 y3 y4 y5 y6
  have za:∀ ob:Obj,(w3.alloc ob).cell? ⟨pb,ps.length * 8+6,none⟩=some (.slice ra m rc):=fun ob=>((Frm.refl (fun _=>False) w3).alloc ob).keep z6
  have hrowd:(w3.drew).ownsRow B 98 7 (.slice ra m rc) m N:=hrow
  have hBd:B≤w3.drew.heap.size:=hB
  clear z2 z3 z4 z5 z7 zf hrow
  have Hne:=Lib.hid hne
  have Hcur:=Lib.hid hcur
  obtain⟨HH1,HL1,Hr,Hrv,Hvl,Hpt,Hm,HN,Hels,Hrowd⟩:=hd10 H1 L1 hr hrv hvl hpt hm hN hels hrowd;clear H1 L1 hr hrv hvl hpt hm hN hels hrowd
  clear hne hcur
  go_region_law (refine zb2 zpe (w:=w3.drew) rfl (.tmp 109) (.tmp 111) rfl B (.slice ra m rc) m N rfl Hrowd.out 1 (by decide) #[.string nm,.slice b1 m1 d1,.slice b2 m2 d2,.string ⟨#[]⟩,.slice none 0 0,.slice none 0 0,.int .i64 line] rfl rfl (by simp[Value.oneCell']) (by omega) (by unfold maxLen;omega) hBd ?_;intro g9 c9 w9 hown9 hg9 hm9;have hc9:=zav Hcur.out ((Frm.drew (Frm.refl _ w3)).grown hg9 (S:=fun k=>(Value.slice ra m rc).ownBlock=some k) (fun k hk=>.inr hk)) (by rw[← Hrv.out];exact Hne.out);have d2':=za8 hc9 (ps.length * 8+6);have d1':=(World.cell?_of_block (w:=w3) (w':=w9) (a:=⟨pb,ps.length * 8+6,none⟩) (hc9.trans Hcur.out.symm)).trans z6)
  all_goals
   have hL9:=HL1.out.conf_push Hr.out Hels.out (v9:=.slice (some ⟨g9,0,none⟩) (m+1) c9) (by rw[← Hm.out,← HN.out];exact hown9) (by rw[Hrv.out];exact zbp hg9) (by rw[Hrv.out];exact hm9)
   have hg9':w3.grownBy w9 v6.ownBlock:=by rw[Hrv.out];exact zbp hg9
   obtain⟨Hown9,Hg9,Hm9,Hc9,HL9,Hg9'⟩:=hd6 hown9 hg9 hm9 hc9 hL9 hg9';clear hown9 hg9 hm9 hc9 hL9 hg9'
   clear za
   go_wp2_with fail
   go_end0
   refine zb0 (v:=v6) (j:=j) HH1.out HL9.out Hfr3.out Hg9'.out Ht1.out (fun k hk=>za4 hk) Hvl.out Hpb1.out Hpt.out Hbx3.out Hr1.out ?_ ?_ ?_ rfl
   ·intro hj
    rw[Hf.out]
    unfold zb5
    rw[if_neg (by decide),if_neg (by decide),if_neg (by decide),if_neg (by decide),if_pos rfl,confL_end Hw.out hj]
    rfl
   ·intro hj
    have:=Hn.out
    omega
   exact hjl.2
 have hnone:zb5 first line p (zam ws i)=none:=by
  rw[Hf.out]
  unfold zb5
  rw[if_neg (by decide),if_neg (by decide),if_neg (by decide),if_neg (by decide),if_pos rfl,confL_bad hw]
  rfl
 obtain⟨Hw,Hfr,Hnone⟩:=hd3 hw hfr hnone;clear hw hfr hnone
 go_wp2_with fail
 exact⟨rfl,zb9 Hnone.out rfl Hfr.out⟩
end

section
open Go.Shelf Go.RowKit Go.Lib VerN VarM
open LexM (Wd)
theorem rest_any {w0 w:World} {r:Nat} {a:Option Addr} {n c:Nat} {fin:Int} {ws:List Wd} {i:Nat} {t:Nat→Nat} {B xb pb cap:Nat} {vf:Value} {x:RcpM} {ps:List PkgM} {p:PkgM} {line:Int} {first:ByteArray} (C:RdC w0 r a n c fin ws) (S:RdS w0 r a n c fin i w) (hi1:i≤990)
  (H:RcSt w t B xb (.slice (some ⟨pb,0,none⟩) (ps.length+1) cap) vf x) (hx:x.pk=ps ++ [p]) (tr:t r=10) (hBw:B≤w.heap.size) (hp:FewP p) (hps:ps.length≤70000) (hf:zdu first=true) :
  Calls Tryz.prog 50 #[rp r,.string first,.int .i64 line,.pointer (some ⟨pb,ps.length * 8,none⟩)] w (ze4 r a n c fin ws i t B xb (.slice (some ⟨pb,0,none⟩) (ps.length+1) cap) vf x ps p line first w):=by
 unfold zdu at hf
 simp only[Bool.or_eq_true,decide_eq_true_eq] at hf
 rcases hf with ((((h | h) | h) | h) | h) | h
 ·exact zqd C S hi1 H hx tr hBw hp hps h
 ·exact zqe C S hi1 H hx tr hBw hp hps h
 ·exact zoi C S hi1 H hx tr hBw hp hps h
 ·exact zqf C S hi1 H hx tr hBw hp hps h
 ·exact zok C S hi1 H hx tr hBw hp hps h
 exact zoj C S hi1 H hx tr hBw hp hps h
end

section
open Go.Shelf Go.RowKit Go.Lib VerN VarM
open LexM (Wd)
attribute [local go_sem ↓] Go.wp_at_zero Go.wp_at_succ
theorem zuc {w0 w:World} {r:Nat} {a:Option Addr} {n c:Nat} {fin:Int} {ws:List Wd} {i:Nat} {t:Nat→Nat} {B xb:Nat} {vp vf:Value} {x:RcpM} {line:Int} (C:RdC w0 r a n c fin ws) (S:RdS w0 r a n c fin i w) (hi1:i≤900) (hin:i < n)
  (H:RcSt w t B xb vp vf x) (tr:t r=10) (ta:∀ p,a=some p→p.block≠r∧9 < t p.block) (hBw:B≤w.heap.size) (hps:x.pk.length≤70000) (hf:zag ws i=zbh) :
  Calls Tryz.prog 25 #[rp r,.int .i64 line,.pointer (some ⟨xb,0,none⟩)] w (zeb r fin ws i t B xb x line w):=by
 obtain⟨first,hfi⟩ : ∃ s,s=zag ws i:=⟨_,rfl⟩
 rw[← hfi] at hf
 have k0:(first.toList == [112,97,99,107,97,103,101])=true:=by rw[zau first [112,97,99,107,97,103,101] zbh rfl,hf];decide
 have hrw:r < w.heap.size:=(Array.getElem?_eq_some_iff.1 S.box).1
 have hn:=C.len
 have hn1:=C.n1000
 have hlow:=C.low
 have hrt:=zb3 S.box (by decide)
 have hxr:xb≠r:=fun e=>by
  have h1:=H.tbox
  rw[e,tr] at h1
  cases h1
 have hP:=C.peek S
 simp only[← hfi] at hP
 have hwds:∀ W,Frm (fun k=>k=r∨t k≤9) w W→RWds W [.slice a n c] ws:=fun W hF=>zpy (C.wds S) hF (fun p hp hk=>by
  obtain⟨h1,h2⟩:=ta p hp
  rcases hk with hk | hk
  ·exact h1 hk
  omega)
 have hto:∀ W,Frm (fun k=>k=r) w W→RcSt W (zac t w.heap.size 10) B xb vp vf x:=fun W hF=>H.to hF (fun k _ hk=>by subst hk;exact⟨by omega,hrt⟩) (fun k hk _=>za4 hk)
 have ht1:∀ k,k < w.heap.size→zac t w.heap.size 10 k=t k:=fun k hk=>za4 hk
 have hkeep:∀ W,Frm (fun k=>k=r) w W→W.heap[xb]? = some (.cells #[vp,vf] 25 (0,0)):=fun W hF=>zav H.box hF hxr
 obtain⟨m,hm⟩ : ∃ m,m=x.pk.length:=⟨_,rfl⟩
 obtain⟨ra,rc,hrv⟩ : ∃ ra rc,vp = .slice ra m rc:=by
  obtain⟨dss,hrow,-⟩:=H.pk.open
  rw[hm]
  exact zaa hrow
 subst hrv
 have HBw:=Lib.hid hBw
 have Hrw:=Lib.hid hrw
 obtain⟨HC,HS,HH,Hf,Hfi,HP,Hps,Hto,Ht1,Hrt,Htr,Hta,Hxr,Hkeep,Hwds,Hm⟩:=hd16 C S H hf hfi hP hps hto ht1 hrt tr ta hxr hkeep hwds hm;clear C S H hf hfi hP hps hto ht1 hrt tr ta hxr hkeep hwds hm
 go_enter Tryz.func25,Tryz.ntmps25
 go_wp2_with fail
 refine HP.out.mono ?_
 rintro e w1 ⟨rfl,q1,rfl⟩
 have hb1:=za6 (Below.refl w.heap.size w) q1
 generalize w.drewN q1=w1 at hb1 ⊢
 have hS1:=HS.out.to hb1
 obtain⟨-,x1,-,x3⟩:=zb6 hS1.box
 obtain⟨w2,hw2⟩ : ∃ W,W=w1.setCell ⟨r,1,none⟩ (.int .i64 ((i:Int)+1)):=⟨_,rfl⟩
 have hS2:RdS w0 r a n c fin (i+1) w2:=by rw[hw2];exact hS1.on hlow
 have hfr2:Frm (fun k=>k=r) w w2:=by rw[hw2];exact zae (zb1 (Frm.refl _ _) hb1) 1 _
 have hT:=fun (W:World) (k:Below w2.heap.size w2 W)=>zf4 HC.out (hS2.to k) (by omega) (enters_of Tryz.func47 (by kernel_rfl) rfl) (ok:=zef) (fun s W hs _=>zfm s hs W)
 obtain⟨s,hs⟩ : ∃ s,s=zag ws (i+1):=⟨_,rfl⟩
 unfold zbw at hT
 simp only[← hs] at hT
 have hg:=za0 (Hkeep.out _ hfr2) 0
 simp only[List.getElem?_toArray,List.getElem?_cons_zero,List.getElem?_cons_succ] at hg
 obtain⟨Hb1,HS1,HS2,Hfr2,HT,Hs⟩:=hd6 hb1 hS1 hS2 hfr2 hT hs;clear hb1 hS1 hS2 hfr2 hT hs
 go_upto_region 4 with (fail)
 rw[← hw2]
 clear hw2 x1 x3
 have hbd:=Below.drew (Below.refl w2.heap.size w2)
 have hT1:=HT.out _ hbd
 have hSd:w2.drew.cell? ⟨xb,0,none⟩=some (.slice ra m rc):=hg
 have hTr:True:=trivial
 refine wp_region_held_drew (S:=fun _=>True) (by kernel_rfl) trivial (fun hHeld=>?_)
 have hfd:Frm (fun k=>k=r) w w2.drew:=Frm.drew Hfr2.out
 generalize w2.drew=wd at hbd hT1 hfd hSd ⊢
 clear hg
 obtain⟨Hbd,HT1,Hfd⟩:=hd3 hbd hT1 hfd;clear hbd hT1 hfd
 refine wpAnyH_take (i:=0) (v:=?_) rfl (by kernel_rfl) (by kernel_rfl) (by kernel_rfl) (fun _ _ _ h=>h) (Or.inl ⟨by kernel_rfl,?_⟩) (by assumption) ?_
 rotate_left
 ·(intro w hSw;(try dsimp only at hSw);(try obtain⟨⟩:=hSw);go_simp;try with_reducible rfl)
 try simp only[Act.put,lA,lB,lC]
 refine wpAnyH_take (i:=1) (v:=?_) rfl (by kernel_rfl) (by kernel_rfl) (by kernel_rfl) (fun _ _ _ h=>h) (Or.inl ⟨by kernel_rfl,?_⟩) (by assumption) ?_
 rotate_left
 ·(intro w hSw;(try dsimp only at hSw);(try obtain⟨⟩:=hSw);go_simp;try with_reducible rfl)
 try simp only[Act.put,lA,lB,lC]
 refine wpAnyH_take (i:=2) (v:=?_) rfl (by kernel_rfl) (by kernel_rfl) (by kernel_rfl) (fun _ _ _ h=>h) (Or.inl ⟨by kernel_rfl,?_⟩) (by assumption) ?_
 rotate_left
 ·(intro w hSw;(try dsimp only at hSw);(try obtain⟨⟩:=hSw);go_simp;try with_reducible rfl)
 try simp only[Act.put,lA,lB,lC]
 refine wpAnyH_take (i:=3) (v:=?_) rfl (by kernel_rfl) (by kernel_rfl) (by kernel_rfl) (fun _ _ _ h=>h) (Or.inl ⟨by kernel_rfl,?_⟩) (by assumption) ?_
 rotate_left
 ·(intro w hSw;(try dsimp only at hSw);(try obtain⟨⟩:=hSw);go_simp;try with_reducible rfl)
 try simp only[Act.put,lA,lB,lC]
 refine wpAnyH_take (i:=5) (v:=?_) rfl (by kernel_rfl) (by kernel_rfl) (by kernel_rfl) (fun _ _ _ h=>h) (Or.inl ⟨by kernel_rfl,?_⟩) (by assumption) ?_
 rotate_left
 ·(intro w hSw;(try dsimp only at hSw);(try obtain⟨⟩:=hSw);go_simp;try with_reducible rfl)
 try simp only[Act.put,lA,lB,lC]
 refine wpAnyH_take (i:=7) (v:=?_) rfl (by kernel_rfl) (by kernel_rfl) (by kernel_rfl) (fun _ _ _ h=>h) (Or.inl ⟨by kernel_rfl,?_⟩) (by assumption) ?_
 rotate_left
 ·(intro w hSw;(try dsimp only at hSw);(try obtain⟨⟩:=hSw);go_simp;try with_reducible rfl)
 try simp only[Act.put,lA,lB,lC]
 refine wpAnyH_ready (rs:=[4,6]) (by kernel_rfl) (by simp) ?_
 refine AllReadyH.cons rfl (fun K hK=>?_) (AllReadyH.cons rfl (fun K hK=>?_) AllReadyH.nil)
 ·go_simp
  refine hK.out _ _ trivial (fun hHeld=>?_)
  clear hK K
  try simp only[Act.put,lA,lB,lC]
  refine wpAnyH_ready (rs:=[6]) (by kernel_rfl) (by simp) ?_
  refine AllReadyH.cons rfl (fun K hK=>?_) AllReadyH.nil
  go_simp
  refine HT1.out.mono ?_
  rintro e w3 ⟨⟨hi2,hok,rfl,hbx⟩ | ⟨hno,j,rfl⟩,hfr⟩
  ·have hfr3:Frm (fun k=>k=r) w w3:=Hfd.out.trans hfr (fun _ _ h=>h)
   have hX3:=Hkeep.out _ hfr3
   have hyesL:¬ i+1+1 < n→zc4 line (zam ws i) x=some ⟨x.pk ++ [zkc s line],x.pf⟩:=fun hlt=>by
    rw[zad (by omega)]
    rw[← Hfi.out,zh7 Hf.out,zfb (by omega) (by rw[← Hs.out];exact hok),← Hs.out]
    rfl
   have hnoL:i+1+1 < n→zc4 line (zam ws i) x=none:=fun hlt=>by
    rw[zad (by omega)]
    rw[← Hfi.out,zh7 Hf.out,zdn (.inr (.inr (by omega)))]
    rfl
   obtain⟨Hi2,Hok,Hbx,Hfr,Hfr3,HX3,HyesL,HnoL⟩:=hd8 hi2 hok hbx hfr hfr3 hX3 hyesL hnoL;clear hi2 hok hbx hfr hfr3 hX3 hyesL hnoL
   go_wp2_with fail
   refine hK.out _ _ trivial (fun hHeld=>?_)
   clear hK K
   try simp only[Act.put,lA,lB,lC]
   refine wpAnyH_take (i:=8) (v:=?_) rfl (by kernel_rfl) (by kernel_rfl) (by kernel_rfl) (fun _ _ _ h=>h) (Or.inl ⟨by kernel_rfl,?_⟩) (by assumption) ?_
   rotate_left
   ·(intro w hSw;(try dsimp only at hSw);(try obtain⟨⟩:=hSw);go_simp;try with_reducible rfl)
   try simp only[Act.put,lA,lB,lC]
   have H3:=Hto.out _ Hfr3.out
   obtain⟨dss,hrow,hdl,hfx,htag⟩:=H3.pk.open
   have hrow2:w3.ownsRow B 45 8 (.slice ra m rc) m dss.flatten:=by
    have h1:=hrow
    rw[← Hm.out] at h1
    exact h1
   have hne:(Value.slice ra m rc).ownBlock≠some xb:=fun e=>by
    have e1:=htag xb e
    have e2:=H3.tbox
    omega
   have hner:(Value.slice ra m rc).ownBlock≠some r:=fun e=>by
    have e1:=htag r e
    rw[Ht1.out r Hrw.out,Htr.out] at e1
    cases e1
   have hB:B≤w3.heap.size:=Nat.le_trans HBw.out Hfr3.out.size
   have hm7:m≤70000:=by rw[Hm.out];exact Hps.out
   obtain⟨N,hN⟩ : ∃ N,N=dss.flatten:=⟨_,rfl⟩
   rw[← hN] at hrow2
   obtain⟨HH3,Hrow,Hdl,Hfx,Htag,Hne,Hner,HN,Hrow2⟩:=hd9 H3 hrow hdl hfx htag hne hner hN hrow2;clear H3 hrow hdl hfx htag hne hner hN hrow2
   refine wpAnyH_ready (rs:=[9]) (by kernel_rfl) (by simp) ?_
   refine AllReadyH.cons rfl (fun K hK=>?_) AllReadyH.nil
   go_simp
   refine hK.out _ _ trivial (fun hHeld=>?_)
   clear hK K
   try simp only[Act.put,lA,lB,lC]
   refine wpAnyH_ready (rs:=[10]) (by kernel_rfl) (by simp) ?_
   refine AllReadyH.cons rfl (fun K hK=>?_) AllReadyH.nil
   refine zas zni (.tmp 25) (.tmp 30) rfl B (.slice ra m rc) m N rfl Hrow2.out 1 #[.string s,.int .i64 line,.slice none 0 0,.slice none 0 0,.slice none 0 0,.slice none 0 0,.slice none 0 0,.slice none 0 0] rfl rfl (by simp[Value.oneCell']) (by omega) (by unfold maxLen;omega) hB (fun v' w9 hown9 hg9 hm9=>?_)
   obtain⟨a9,c9,rfl⟩:=zaa hown9
   have hx9:w9.heap[xb]? = some (.cells #[.slice ra m rc,vf] 25 (0,0)):=(hg9.block xb (Array.getElem?_eq_some_iff.1 HX3.out).1 (fun e=>Hne.out e.symm)).trans HX3.out
   have d2:=za8 hx9 0
   have d1:=za0 hx9 0
   simp only[List.getElem?_toArray,List.getElem?_cons_zero,List.getElem?_cons_succ] at d1
   have hst9:=HH3.out.pkg Hrow.out Hdl.out Hfx.out Htag.out (v9:=.slice a9 (m+1) c9) (s:=s) (line:=line) (by rw[← Hm.out,← HN.out];exact hown9) hg9 hm9
   have hbr9:RBox r (.slice a n c) (i+1+1) fin w9:=(hg9.block r (Array.getElem?_eq_some_iff.1 Hbx.out).1 (fun e=>Hner.out e.symm)).trans Hbx.out
   have hF8:Frm (fun k=>(Value.slice ra m rc).ownBlock=some k∨k=xb) w3 (w9.setCell ⟨xb,0,none⟩ (.slice a9 (m+1) c9)):=((zap hg9).mono fun _ _ h=>Or.inl h).trans (zae (Frm.refl (fun k=>k=xb) w9) _ _) fun _ _ h=>Or.inr h
   have hF9:Frm (fun k=>k=r∨t k≤9) w (w9.setCell ⟨xb,0,none⟩ (.slice a9 (m+1) c9)) :=
    (Hfr3.out.mono fun _ _ h=>Or.inl h).trans hF8 fun k hk h=>Or.inr (by
     rcases h with h | rfl
     ·have e1:=Htag.out k h
      rw[Ht1.out k hk] at e1
      omega
     have e2:=HH.out.tbox
     omega)
   have ht9:∀ k,k < w.heap.size→9 < t k→zq1 (zac t w.heap.size 10) w3.heap.size k=t k:=fun k hk h9=>by
    rw[ze6 (Nat.lt_of_lt_of_le hk Hfr3.out.size) (by rw[Ht1.out k hk];unfold Live;omega),Ht1.out k hk]
   have hbx9:RBox r (.slice a n c) (i+1+1) fin (w9.setCell ⟨xb,0,none⟩ (.slice a9 (m+1) c9)):=za5 hbr9 (by have:=Hxr.out;omega)
   obtain⟨Hown9,Hg9,Hm9,Hx9,Hst9,Hbr9,HF8,HF9,Ht9,Hbx9⟩:=hd10 hown9 hg9 hm9 hx9 hst9 hbr9 hF8 hF9 ht9 hbx9;clear hown9 hg9 hm9 hx9 hst9 hbr9 hF8 hF9 ht9 hbx9
   refine hK.out _ _ trivial (fun hHeld=>?_)
   clear hK K
   try simp only[Act.put,lA,lB,lC]
   refine wpAnyH_take (i:=11) (v:=?_) rfl (by kernel_rfl) (by kernel_rfl) (by kernel_rfl) (fun _ _ _ h=>h) (Or.inl ⟨by kernel_rfl,?_⟩) (by assumption) ?_
   rotate_left
   ·(intro w hSw;(try dsimp only at hSw);(try obtain⟨⟩:=hSw);go_simp;try with_reducible rfl)
   try simp only[Act.put,lA,lB,lC]
   refine wpAnyH_take (i:=12) (v:=?_) rfl (by kernel_rfl) (by kernel_rfl) (by kernel_rfl) (fun _ _ _ h=>h) (Or.inl ⟨by kernel_rfl,?_⟩) (by assumption) ?_
   rotate_left
   ·(intro w hSw;(try dsimp only at hSw);(try obtain⟨⟩:=hSw);go_simp;try with_reducible rfl)
   try simp only[Act.put,lA,lB,lC]
   refine wpAnyH_ready (rs:=[13]) (by kernel_rfl) (by simp) ?_
   refine AllReadyH.cons rfl (fun K hK=>?_) AllReadyH.nil
   go_simp
   refine hK.out _ _ trivial (fun hHeld=>?_)
   clear hK K
   try simp only[Act.put,lA,lB,lC]
   refine wpAnyH_done (by kernel_rfl) ?_ _
   go_simp
   obtain⟨W9,hW9⟩ : ∃ W,W=w9.setCell ⟨xb,0,none⟩ (.slice a9 (m+1) c9):=⟨_,rfl⟩
   rw[← hW9] at Hst9 HF9 Hbx9 ⊢
   clear hW9
   by_cases hlt:i+1+1 < n
   ·have hM:=zbi Hbx9.out
    rw[decide_eq_true hlt] at hM
    have HM:=hd hM;clear hM
    go_wp2_with fail
    refine HM.out.mono ?_
    rintro e u1 ⟨rfl,q5,rfl⟩
    have hb5:=za6 (Below.refl W9.heap.size W9) q5
    have hN:=zfe (za1 hb5 Hbx9.out) (Hwds.out _ (zb1 HF9.out hb5))
    generalize W9.drewN q5=u1 at hb5 hN ⊢
    obtain⟨Hb5,HN⟩:=hd2 hb5 hN;clear hb5 hN
    go_wp2_with fail
    refine HN.out.mono ?_
    rintro e u2 ⟨rfl,q6,rfl⟩
    have hb6:=Hb5.out.trans ((za6 (Below.refl u1.heap.size u1) q6).mono Hb5.out.size)
    go_wp2_with fail
    exact⟨rfl,zat (HnoL.out hlt) HF9.out hb6 rfl⟩
   have hM:=zbi Hbx9.out
   rw[decide_eq_false hlt] at hM
   have HM:=hd hM;clear hM
   go_wp2_with fail
   refine HM.out.mono ?_
   rintro e u1 ⟨rfl,q5,rfl⟩
   have hb5:=za6 (Below.refl W9.heap.size W9) q5
   generalize W9.drewN q5=u1 at hb5 ⊢
   have hY:=zc0 u1 r
   obtain⟨Hb5,HY⟩:=hd2 hb5 hY;clear hb5 hY
   go_wp2_with fail
   refine HY.out.mono ?_
   rintro e u2 ⟨rfl,hu2⟩
   subst hu2
   go_wp2_with fail
   go_end0
   exact zbq (HyesL.out hlt) Hst9.out HF9.out Ht9.out Hb5.out rfl
  have hnone:zc4 line (zam ws i) x=none:=by
   rw[zad (by omega)]
   rw[← Hfi.out,zh7 Hf.out,zdn (by rw[← Hs.out];exact hno.elim Or.inl fun h=>Or.inr (Or.inl h))]
   rfl
  have hfrw:Frm (fun k=>k=r∨t k≤9) w w3:=(Hfd.out.trans hfr (fun _ _ h=>h)).mono fun _ _ h=>.inl h
  obtain⟨Hno,Hfr,Hnone,Hfrw⟩:=hd4 hno hfr hnone hfrw;clear hno hfr hnone hfrw
  go_wp2_with fail
  exact⟨rfl,zat Hnone.out Hfrw.out (Below.refl _ _) rfl⟩
 go_simp
 refine HT1.out.mono ?_
 rintro e w3 ⟨⟨hi2,hok,rfl,hbx⟩ | ⟨hno,j,rfl⟩,hfr⟩
 ·have hfr3:Frm (fun k=>k=r) w w3:=Hfd.out.trans hfr (fun _ _ h=>h)
  have hX3:=Hkeep.out _ hfr3
  have hyesL:¬ i+1+1 < n→zc4 line (zam ws i) x=some ⟨x.pk ++ [zkc s line],x.pf⟩:=fun hlt=>by
   rw[zad (by omega)]
   rw[← Hfi.out,zh7 Hf.out,zfb (by omega) (by rw[← Hs.out];exact hok),← Hs.out]
   rfl
  have hnoL:i+1+1 < n→zc4 line (zam ws i) x=none:=fun hlt=>by
   rw[zad (by omega)]
   rw[← Hfi.out,zh7 Hf.out,zdn (.inr (.inr (by omega)))]
   rfl
  obtain⟨Hi2,Hok,Hbx,Hfr,Hfr3,HX3,HyesL,HnoL⟩:=hd8 hi2 hok hbx hfr hfr3 hX3 hyesL hnoL;clear hi2 hok hbx hfr hfr3 hX3 hyesL hnoL
  go_wp2_with fail
  refine hK.out _ _ trivial (fun hHeld=>?_)
  clear hK K
  try simp only[Act.put,lA,lB,lC]
  refine wpAnyH_take (i:=8) (v:=?_) rfl (by kernel_rfl) (by kernel_rfl) (by kernel_rfl) (fun _ _ _ h=>h) (Or.inl ⟨by kernel_rfl,?_⟩) (by assumption) ?_
  rotate_left
  ·(intro w hSw;(try dsimp only at hSw);(try obtain⟨⟩:=hSw);go_simp;try with_reducible rfl)
  try simp only[Act.put,lA,lB,lC]
  have H3:=Hto.out _ Hfr3.out
  obtain⟨dss,hrow,hdl,hfx,htag⟩:=H3.pk.open
  have hrow2:w3.ownsRow B 45 8 (.slice ra m rc) m dss.flatten:=by
   have h1:=hrow
   rw[← Hm.out] at h1
   exact h1
  have hne:(Value.slice ra m rc).ownBlock≠some xb:=fun e=>by
   have e1:=htag xb e
   have e2:=H3.tbox
   omega
  have hner:(Value.slice ra m rc).ownBlock≠some r:=fun e=>by
   have e1:=htag r e
   rw[Ht1.out r Hrw.out,Htr.out] at e1
   cases e1
  have hB:B≤w3.heap.size:=Nat.le_trans HBw.out Hfr3.out.size
  have hm7:m≤70000:=by rw[Hm.out];exact Hps.out
  obtain⟨N,hN⟩ : ∃ N,N=dss.flatten:=⟨_,rfl⟩
  rw[← hN] at hrow2
  obtain⟨HH3,Hrow,Hdl,Hfx,Htag,Hne,Hner,HN,Hrow2⟩:=hd9 H3 hrow hdl hfx htag hne hner hN hrow2;clear H3 hrow hdl hfx htag hne hner hN hrow2
  have hX4:=Hkeep.out _ Hfr3.out
  have hX4:=za0 hX4 0
  simp only[List.getElem?_toArray,List.getElem?_cons_zero,List.getElem?_cons_succ] at hX4
  refine wpAnyH_ready (rs:=[4,9]) (by kernel_rfl) (by simp) ?_
  refine AllReadyH.cons rfl (fun K hK=>?_) (AllReadyH.cons rfl (fun K hK=>?_) AllReadyH.nil)
  ·go_simp
   refine hK.out _ _ trivial (fun hHeld=>?_)
   clear hK K
   try simp only[Act.put,lA,lB,lC]
   clear hX4
   refine wpAnyH_ready (rs:=[9]) (by kernel_rfl) (by simp) ?_
   refine AllReadyH.cons rfl (fun K hK=>?_) AllReadyH.nil
   go_simp
   refine hK.out _ _ trivial (fun hHeld=>?_)
   clear hK K
   try simp only[Act.put,lA,lB,lC]
   refine wpAnyH_ready (rs:=[10]) (by kernel_rfl) (by simp) ?_
   refine AllReadyH.cons rfl (fun K hK=>?_) AllReadyH.nil
   refine zas zni (.tmp 25) (.tmp 30) rfl B (.slice ra m rc) m N rfl Hrow2.out 1 #[.string s,.int .i64 line,.slice none 0 0,.slice none 0 0,.slice none 0 0,.slice none 0 0,.slice none 0 0,.slice none 0 0] rfl rfl (by simp[Value.oneCell']) (by omega) (by unfold maxLen;omega) hB (fun v' w9 hown9 hg9 hm9=>?_)
   obtain⟨a9,c9,rfl⟩:=zaa hown9
   have hx9:w9.heap[xb]? = some (.cells #[.slice ra m rc,vf] 25 (0,0)):=(hg9.block xb (Array.getElem?_eq_some_iff.1 HX3.out).1 (fun e=>Hne.out e.symm)).trans HX3.out
   have d2:=za8 hx9 0
   have d1:=za0 hx9 0
   simp only[List.getElem?_toArray,List.getElem?_cons_zero,List.getElem?_cons_succ] at d1
   have hst9:=HH3.out.pkg Hrow.out Hdl.out Hfx.out Htag.out (v9:=.slice a9 (m+1) c9) (s:=s) (line:=line) (by rw[← Hm.out,← HN.out];exact hown9) hg9 hm9
   have hbr9:RBox r (.slice a n c) (i+1+1) fin w9:=(hg9.block r (Array.getElem?_eq_some_iff.1 Hbx.out).1 (fun e=>Hner.out e.symm)).trans Hbx.out
   have hF8:Frm (fun k=>(Value.slice ra m rc).ownBlock=some k∨k=xb) w3 (w9.setCell ⟨xb,0,none⟩ (.slice a9 (m+1) c9)):=((zap hg9).mono fun _ _ h=>Or.inl h).trans (zae (Frm.refl (fun k=>k=xb) w9) _ _) fun _ _ h=>Or.inr h
   have hF9:Frm (fun k=>k=r∨t k≤9) w (w9.setCell ⟨xb,0,none⟩ (.slice a9 (m+1) c9)) :=
    (Hfr3.out.mono fun _ _ h=>Or.inl h).trans hF8 fun k hk h=>Or.inr (by
     rcases h with h | rfl
     ·have e1:=Htag.out k h
      rw[Ht1.out k hk] at e1
      omega
     have e2:=HH.out.tbox
     omega)
   have ht9:∀ k,k < w.heap.size→9 < t k→zq1 (zac t w.heap.size 10) w3.heap.size k=t k:=fun k hk h9=>by
    rw[ze6 (Nat.lt_of_lt_of_le hk Hfr3.out.size) (by rw[Ht1.out k hk];unfold Live;omega),Ht1.out k hk]
   have hbx9:RBox r (.slice a n c) (i+1+1) fin (w9.setCell ⟨xb,0,none⟩ (.slice a9 (m+1) c9)):=za5 hbr9 (by have:=Hxr.out;omega)
   obtain⟨Hown9,Hg9,Hm9,Hx9,Hst9,Hbr9,HF8,HF9,Ht9,Hbx9⟩:=hd10 hown9 hg9 hm9 hx9 hst9 hbr9 hF8 hF9 ht9 hbx9;clear hown9 hg9 hm9 hx9 hst9 hbr9 hF8 hF9 ht9 hbx9
   refine hK.out _ _ trivial (fun hHeld=>?_)
   clear hK K
   try simp only[Act.put,lA,lB,lC]
   refine wpAnyH_take (i:=11) (v:=?_) rfl (by kernel_rfl) (by kernel_rfl) (by kernel_rfl) (fun _ _ _ h=>h) (Or.inl ⟨by kernel_rfl,?_⟩) (by assumption) ?_
   rotate_left
   ·(intro w hSw;(try dsimp only at hSw);(try obtain⟨⟩:=hSw);go_simp;try with_reducible rfl)
   try simp only[Act.put,lA,lB,lC]
   refine wpAnyH_take (i:=12) (v:=?_) rfl (by kernel_rfl) (by kernel_rfl) (by kernel_rfl) (fun _ _ _ h=>h) (Or.inl ⟨by kernel_rfl,?_⟩) (by assumption) ?_
   rotate_left
   ·(intro w hSw;(try dsimp only at hSw);(try obtain⟨⟩:=hSw);go_simp;try with_reducible rfl)
   try simp only[Act.put,lA,lB,lC]
   refine wpAnyH_ready (rs:=[13]) (by kernel_rfl) (by simp) ?_
   refine AllReadyH.cons rfl (fun K hK=>?_) AllReadyH.nil
   go_simp
   refine hK.out _ _ trivial (fun hHeld=>?_)
   clear hK K
   try simp only[Act.put,lA,lB,lC]
   refine wpAnyH_done (by kernel_rfl) ?_ _
   go_simp
   obtain⟨W9,hW9⟩ : ∃ W,W=w9.setCell ⟨xb,0,none⟩ (.slice a9 (m+1) c9):=⟨_,rfl⟩
   rw[← hW9] at Hst9 HF9 Hbx9 ⊢
   clear hW9
   by_cases hlt:i+1+1 < n
   ·have hM:=zbi Hbx9.out
    rw[decide_eq_true hlt] at hM
    have HM:=hd hM;clear hM
    go_wp2_with fail
    refine HM.out.mono ?_
    rintro e u1 ⟨rfl,q5,rfl⟩
    have hb5:=za6 (Below.refl W9.heap.size W9) q5
    have hN:=zfe (za1 hb5 Hbx9.out) (Hwds.out _ (zb1 HF9.out hb5))
    generalize W9.drewN q5=u1 at hb5 hN ⊢
    obtain⟨Hb5,HN⟩:=hd2 hb5 hN;clear hb5 hN
    go_wp2_with fail
    refine HN.out.mono ?_
    rintro e u2 ⟨rfl,q6,rfl⟩
    have hb6:=Hb5.out.trans ((za6 (Below.refl u1.heap.size u1) q6).mono Hb5.out.size)
    go_wp2_with fail
    exact⟨rfl,zat (HnoL.out hlt) HF9.out hb6 rfl⟩
   have hM:=zbi Hbx9.out
   rw[decide_eq_false hlt] at hM
   have HM:=hd hM;clear hM
   go_wp2_with fail
   refine HM.out.mono ?_
   rintro e u1 ⟨rfl,q5,rfl⟩
   have hb5:=za6 (Below.refl W9.heap.size W9) q5
   generalize W9.drewN q5=u1 at hb5 ⊢
   have hY:=zc0 u1 r
   obtain⟨Hb5,HY⟩:=hd2 hb5 hY;clear hb5 hY
   go_wp2_with fail
   refine HY.out.mono ?_
   rintro e u2 ⟨rfl,hu2⟩
   subst hu2
   go_wp2_with fail
   go_end0
   exact zbq (HyesL.out hlt) Hst9.out HF9.out Ht9.out Hb5.out rfl
  go_simp
  refine hK.out _ _ trivial (fun hHeld=>?_)
  clear hK K
  try simp only[Act.put,lA,lB,lC]
  clear hX4
  have hX5:=za0 ((Frm.refl (fun _=>False) w3).alloc (.cells #[.string s,.int .i64 line,.slice none 0 0,.slice none 0 0,.slice none 0 0,.slice none 0 0,.slice none 0 0,.slice none 0 0] 45) |> fun h=>zav (Hkeep.out _ Hfr3.out) h (fun h=>h)) 0
  simp only[List.getElem?_toArray,List.getElem?_cons_zero,List.getElem?_cons_succ] at hX5
  refine wpAnyH_ready (rs:=[4]) (by kernel_rfl) (by simp) ?_
  refine AllReadyH.cons rfl (fun K hK=>?_) AllReadyH.nil
  go_simp
  refine hK.out _ _ trivial (fun hHeld=>?_)
  clear hK K
  try simp only[Act.put,lA,lB,lC]
  clear hX5
  refine wpAnyH_ready (rs:=[10]) (by kernel_rfl) (by simp) ?_
  refine AllReadyH.cons rfl (fun K hK=>?_) AllReadyH.nil
  refine zas zni (.tmp 25) (.tmp 30) rfl B (.slice ra m rc) m N rfl Hrow2.out 1 #[.string s,.int .i64 line,.slice none 0 0,.slice none 0 0,.slice none 0 0,.slice none 0 0,.slice none 0 0,.slice none 0 0] rfl rfl (by simp[Value.oneCell']) (by omega) (by unfold maxLen;omega) hB (fun v' w9 hown9 hg9 hm9=>?_)
  obtain⟨a9,c9,rfl⟩:=zaa hown9
  have hx9:w9.heap[xb]? = some (.cells #[.slice ra m rc,vf] 25 (0,0)):=(hg9.block xb (Array.getElem?_eq_some_iff.1 HX3.out).1 (fun e=>Hne.out e.symm)).trans HX3.out
  have d2:=za8 hx9 0
  have d1:=za0 hx9 0
  simp only[List.getElem?_toArray,List.getElem?_cons_zero,List.getElem?_cons_succ] at d1
  have hst9:=HH3.out.pkg Hrow.out Hdl.out Hfx.out Htag.out (v9:=.slice a9 (m+1) c9) (s:=s) (line:=line) (by rw[← Hm.out,← HN.out];exact hown9) hg9 hm9
  have hbr9:RBox r (.slice a n c) (i+1+1) fin w9:=(hg9.block r (Array.getElem?_eq_some_iff.1 Hbx.out).1 (fun e=>Hner.out e.symm)).trans Hbx.out
  have hF8:Frm (fun k=>(Value.slice ra m rc).ownBlock=some k∨k=xb) w3 (w9.setCell ⟨xb,0,none⟩ (.slice a9 (m+1) c9)):=((zap hg9).mono fun _ _ h=>Or.inl h).trans (zae (Frm.refl (fun k=>k=xb) w9) _ _) fun _ _ h=>Or.inr h
  have hF9:Frm (fun k=>k=r∨t k≤9) w (w9.setCell ⟨xb,0,none⟩ (.slice a9 (m+1) c9)) :=
   (Hfr3.out.mono fun _ _ h=>Or.inl h).trans hF8 fun k hk h=>Or.inr (by
    rcases h with h | rfl
    ·have e1:=Htag.out k h
     rw[Ht1.out k hk] at e1
     omega
    have e2:=HH.out.tbox
    omega)
  have ht9:∀ k,k < w.heap.size→9 < t k→zq1 (zac t w.heap.size 10) w3.heap.size k=t k:=fun k hk h9=>by
   rw[ze6 (Nat.lt_of_lt_of_le hk Hfr3.out.size) (by rw[Ht1.out k hk];unfold Live;omega),Ht1.out k hk]
  have hbx9:RBox r (.slice a n c) (i+1+1) fin (w9.setCell ⟨xb,0,none⟩ (.slice a9 (m+1) c9)):=za5 hbr9 (by have:=Hxr.out;omega)
  obtain⟨Hown9,Hg9,Hm9,Hx9,Hst9,Hbr9,HF8,HF9,Ht9,Hbx9⟩:=hd10 hown9 hg9 hm9 hx9 hst9 hbr9 hF8 hF9 ht9 hbx9;clear hown9 hg9 hm9 hx9 hst9 hbr9 hF8 hF9 ht9 hbx9
  refine hK.out _ _ trivial (fun hHeld=>?_)
  clear hK K
  try simp only[Act.put,lA,lB,lC]
  refine wpAnyH_take (i:=11) (v:=?_) rfl (by kernel_rfl) (by kernel_rfl) (by kernel_rfl) (fun _ _ _ h=>h) (Or.inl ⟨by kernel_rfl,?_⟩) (by assumption) ?_
  rotate_left
  ·(intro w hSw;(try dsimp only at hSw);(try obtain⟨⟩:=hSw);go_simp;try with_reducible rfl)
  try simp only[Act.put,lA,lB,lC]
  refine wpAnyH_take (i:=12) (v:=?_) rfl (by kernel_rfl) (by kernel_rfl) (by kernel_rfl) (fun _ _ _ h=>h) (Or.inl ⟨by kernel_rfl,?_⟩) (by assumption) ?_
  rotate_left
  ·(intro w hSw;(try dsimp only at hSw);(try obtain⟨⟩:=hSw);go_simp;try with_reducible rfl)
  try simp only[Act.put,lA,lB,lC]
  refine wpAnyH_ready (rs:=[13]) (by kernel_rfl) (by simp) ?_
  refine AllReadyH.cons rfl (fun K hK=>?_) AllReadyH.nil
  go_simp
  refine hK.out _ _ trivial (fun hHeld=>?_)
  clear hK K
  try simp only[Act.put,lA,lB,lC]
  refine wpAnyH_done (by kernel_rfl) ?_ _
  go_simp
  obtain⟨W9,hW9⟩ : ∃ W,W=w9.setCell ⟨xb,0,none⟩ (.slice a9 (m+1) c9):=⟨_,rfl⟩
  rw[← hW9] at Hst9 HF9 Hbx9 ⊢
  clear hW9
  by_cases hlt:i+1+1 < n
  ·have hM:=zbi Hbx9.out
   rw[decide_eq_true hlt] at hM
   have HM:=hd hM;clear hM
   go_wp2_with fail
   refine HM.out.mono ?_
   rintro e u1 ⟨rfl,q5,rfl⟩
   have hb5:=za6 (Below.refl W9.heap.size W9) q5
   have hN:=zfe (za1 hb5 Hbx9.out) (Hwds.out _ (zb1 HF9.out hb5))
   generalize W9.drewN q5=u1 at hb5 hN ⊢
   obtain⟨Hb5,HN⟩:=hd2 hb5 hN;clear hb5 hN
   go_wp2_with fail
   refine HN.out.mono ?_
   rintro e u2 ⟨rfl,q6,rfl⟩
   have hb6:=Hb5.out.trans ((za6 (Below.refl u1.heap.size u1) q6).mono Hb5.out.size)
   go_wp2_with fail
   exact⟨rfl,zat (HnoL.out hlt) HF9.out hb6 rfl⟩
  have hM:=zbi Hbx9.out
  rw[decide_eq_false hlt] at hM
  have HM:=hd hM;clear hM
  go_wp2_with fail
  refine HM.out.mono ?_
  rintro e u1 ⟨rfl,q5,rfl⟩
  have hb5:=za6 (Below.refl W9.heap.size W9) q5
  generalize W9.drewN q5=u1 at hb5 ⊢
  have hY:=zc0 u1 r
  obtain⟨Hb5,HY⟩:=hd2 hb5 hY;clear hb5 hY
  go_wp2_with fail
  refine HY.out.mono ?_
  rintro e u2 ⟨rfl,hu2⟩
  subst hu2
  go_wp2_with fail
  go_end0
  exact zbq (HyesL.out hlt) Hst9.out HF9.out Ht9.out Hb5.out rfl
 have hnone:zc4 line (zam ws i) x=none:=by
  rw[zad (by omega)]
  rw[← Hfi.out,zh7 Hf.out,zdn (by rw[← Hs.out];exact hno.elim Or.inl fun h=>Or.inr (Or.inl h))]
  rfl
 have hfrw:Frm (fun k=>k=r∨t k≤9) w w3:=(Hfd.out.trans hfr (fun _ _ h=>h)).mono fun _ _ h=>.inl h
 obtain⟨Hno,Hfr,Hnone,Hfrw⟩:=hd4 hno hfr hnone hfrw;clear hno hfr hnone hfrw
 go_wp2_with fail
 exact⟨rfl,zat Hnone.out Hfrw.out (Below.refl _ _) rfl⟩
end
end Go.Proofs.YthgibhhbmmkjmaaGreatDoor
