/- Walks and plain facts. Texts merged: RequestTexts. Condition: none beyond what each says. -/
import Derived.Test.YteailgjiifdgcaaGreatDoorRequestTextsAll14
set_option linter.unusedVariables false
set_option linter.unusedSimpArgs false
set_option maxRecDepth 10000
set_option maxHeartbeats 4000000
namespace Go.Proofs.YteailgjiifdgcaaGreatDoor
section
theorem zlh {p:Prop} (h:p):Go.RowKit.Hid p:=h
theorem hzRequestTexts2 {p0 p1:Prop} (hp0:p0) (hp1:p1):Go.RowKit.Hid p0∧Go.RowKit.Hid p1:=⟨hp0,hp1⟩
theorem hzRequestTexts3 {p0 p1 p2:Prop} (hp0:p0) (hp1:p1) (hp2:p2):Go.RowKit.Hid p0∧Go.RowKit.Hid p1∧Go.RowKit.Hid p2:=⟨hp0,hp1,hp2⟩
theorem hzRequestTexts4 {p0 p1 p2 p3:Prop} (hp0:p0) (hp1:p1) (hp2:p2) (hp3:p3):Go.RowKit.Hid p0∧Go.RowKit.Hid p1∧Go.RowKit.Hid p2∧Go.RowKit.Hid p3:=⟨hp0,hp1,hp2,hp3⟩
theorem hzRequestTexts8 {p0 p1 p2 p3 p4 p5 p6 p7:Prop} (hp0:p0) (hp1:p1) (hp2:p2) (hp3:p3) (hp4:p4) (hp5:p5) (hp6:p6) (hp7:p7):Go.RowKit.Hid p0∧Go.RowKit.Hid p1∧Go.RowKit.Hid p2∧Go.RowKit.Hid p3∧Go.RowKit.Hid p4∧Go.RowKit.Hid p5∧Go.RowKit.Hid p6∧Go.RowKit.Hid p7:=⟨hp0,hp1,hp2,hp3,hp4,hp5,hp6,hp7⟩
theorem hzRequestTexts16 {p0 p1 p2 p3 p4 p5 p6 p7 p8 p9 p10 p11 p12 p13 p14 p15:Prop} (hp0:p0) (hp1:p1) (hp2:p2) (hp3:p3) (hp4:p4) (hp5:p5) (hp6:p6) (hp7:p7) (hp8:p8) (hp9:p9) (hp10:p10) (hp11:p11) (hp12:p12) (hp13:p13) (hp14:p14) (hp15:p15):Go.RowKit.Hid p0∧Go.RowKit.Hid p1∧Go.RowKit.Hid p2∧Go.RowKit.Hid p3∧Go.RowKit.Hid p4∧Go.RowKit.Hid p5∧Go.RowKit.Hid p6∧Go.RowKit.Hid p7∧Go.RowKit.Hid p8∧Go.RowKit.Hid p9∧Go.RowKit.Hid p10∧Go.RowKit.Hid p11∧Go.RowKit.Hid p12∧Go.RowKit.Hid p13∧Go.RowKit.Hid p14∧Go.RowKit.Hid p15:=⟨hp0,hp1,hp2,hp3,hp4,hp5,hp6,hp7,hp8,hp9,hp10,hp11,hp12,hp13,hp14,hp15⟩
open Go.Shelf Go.RowKit Go.Lib VerN VarM
open LexM (Wd Ln)
attribute [local go_sem ↓] Go.wp_at_zero Go.wp_at_succ
theorem zj0 {w:World} {v u:Value} {l m:List Rt} (h:zdo w [v] l) (hm:zdo w [u] m) (hD:zbo w) :
  Calls Tryz.prog 11 #[.agg #[v],.agg #[u]] w fun e w'=>e = .returned (.bool true)∧Below w.heap.size w w':=by
 have hG1:=fun (W:World) (k:Below w.heap.size w W)=>zko (za5 zb4 _ _ _ _ h k)
 have hG2:=fun (W:World) (k:Below w.heap.size w W)=>zko (za5 zb4 _ _ _ _ hm k)
 have hFx:=fun (W:World) (k:Below w.heap.size w W)=>zrp (hD.below k)
 have hT1:=fun (hk:l.length≤40∧∀ x∈l,zd9 x.1) (W:World) (k:Below w.heap.size w W)=>zqr (za5 zb4 _ _ _ _ h k) hk.2 hk.1 (hD.below k)
 have hT2:=fun (hk:l.length≤40∧∀ x∈l,zd9 x.1) (W:World) (k:Below w.heap.size w W)=>zu1 (za5 zb4 _ _ _ _ h k) hk.2 hk.1
 have hS1:=fun (W:World) (k:Below w.heap.size w W)=>zk7 (za5 zb4 _ _ _ _ h k) (za5 zb4 _ _ _ _ hm k)
 have hS2:=fun (W:World) (k:Below w.heap.size w W)=>zia (za5 zb4 _ _ _ _ h k) (za5 zb4 _ _ _ _ hm k) false
 simp only[zgw] at hS2
 have hsz:(l.length≤40∧∀ x∈l,zd9 x.1)→(rqR (l.map (·.1))).1.size≤814761920:=fun hk=>by
  have h1:=zez (l.map (·.1)) (fun s hs=>by obtain⟨y,hy,rfl⟩:=List.mem_map.1 hs;exact hk.2 y hy)
  rw[List.length_map] at h1
  by_cases hc:(∀ s∈l.map (·.1),zdt zat (zd7 s) s)∧(LexM.docLines (rqTx (l.map (·.1)))).e=0
  ·rw[zmw hc]
   show (rqTx (l.map (·.1))).toArray.size≤_
   rw[List.size_toArray]
   have:=hk.1
   omega
  rw[zso hc]
  decide
 have hok:(rqR (l.map (·.1))).2=true→(rqR (l.map (·.1))).1=⟨(rqTx (l.map (·.1))).toArray⟩∧(zf0 (rqTx (l.map (·.1)))).e=0∧(zf0 (rqTx (l.map (·.1)))).roots.map (·.1)=l.map (·.1):=fun hk=>by
  by_cases hc:(∀ s∈l.map (·.1),zdt zat (zd7 s) s)∧(LexM.docLines (rqTx (l.map (·.1)))).e=0
  ·rw[zmw hc]
   exact⟨rfl,(rq_iff _).1 hc⟩
  rw[zso hc] at hk
  cases hk
 obtain⟨a,c,rfl⟩:=zcp h
 obtain⟨a2,c2,rfl⟩:=zcp hm
 obtain⟨res,hres⟩ : ∃ q,q=rqR (l.map (·.1)):=⟨_,rfl⟩
 obtain⟨sm,hsm⟩ : ∃ b,b=decide (l.map (·.1)=m.map (·.1)):=⟨_,rfl⟩
 simp only[← hres] at hT1 hT2 hsz hok
 simp only[← hsm] at hS1 hS2
 obtain⟨n,hn⟩ : ∃ n,n=l.length:=⟨_,rfl⟩
 obtain⟨n2,hn2⟩ : ∃ n,n=m.length:=⟨_,rfl⟩
 have h':=h
 rw[← hn] at h'
 simp only[← hn,← hn2] at hG1 hG2 hT1 hT2 hS1 hS2 hsz ⊢
 obtain⟨rt,rb⟩:=res
 dsimp only at hT1 hT2 hsz hok
 obtain⟨W1,hW⟩ : ∃ W,W=(w.alloc (.cells #[.slice a n c] 38)).alloc (.cells #[.slice a2 n2 c2] 38):=⟨_,rfl⟩
 obtain⟨g,hg⟩ : ∃ g,g=w.heap.size:=⟨_,rfl⟩
 have hb1:Below w.heap.size w W1:=by rw[hW];exact (za2 _ _).alloc (by simp) _
 have p0:zik g (.slice a n c) W1:=by rw[hW,hg];exact za0 (za2 _ _) (za6 rfl)
 have p1:zik (g+1) (.slice a2 n2 c2) W1:=by rw[hW,hg];exact za6 (by simp)
 obtain⟨x0,-⟩:=zak p0
 obtain⟨y0,-⟩:=zak p1
 have Hp0:=Lib.hid p0
 have Hp1:=Lib.hid p1
 clear p0 p1
 have heqt:(rt.toList == rt.toList)=true:=by rw[Txt.eq_dec];exact decide_eq_true rfl
 obtain⟨Hh,H',Hm,HD,HG1,HG2,HFx,HT1,HT2,HS1,HS2,Hsz,Hok,Hb1,Hn,Hn2⟩:=hzRequestTexts16 h h' hm hD hG1 hG2 hFx hT1 hT2 hS1 hS2 hsz hok hb1 hn hn2;obtain⟨Hres,Hsm⟩:=hzRequestTexts2 hres hsm;clear h h' hm hD hG1 hG2 hFx hT1 hT2 hS1 hS2 hsz hok hb1 hn hn2 hres hsm
 go_enter Tryz.func11,Tryz.ntmps11
 go_upto_region 1 with (fail)
 rw[← hW,← hg]
 clear hW hg
 go_wp2_with fail
 refine (HG1.out _ Hb1.out).mono ?_
 rintro e w2 ⟨⟨r1,rfl,hr1⟩,hs⟩
 have hb2:=Hb1.out.trans (hs.mono Hb1.out.size)
 have q0:=za0 hs Hp0.out
 have q1:=za0 hs Hp1.out
 clear x0 y0 Hp0 Hp1
 obtain⟨x0,-⟩:=zak q0
 obtain⟨y0,-⟩:=zak q1
 have Hp0:=Lib.hid q0
 have Hp1:=Lib.hid q1
 clear q0 q1
 obtain⟨Hs,Hb2⟩:=hzRequestTexts2 hs hb2;clear hs hb2
 cases r1 with
 | true =>
  clear hr1
  go_wp2_with fail
  refine (HFx.out _ Hb2.out).mono ?_
  rintro e w3 ⟨rfl,hs⟩
  have hb3:=Hb2.out.trans (hs.mono Hb2.out.size)
  have q0:=za0 hs Hp0.out
  have q1:=za0 hs Hp1.out
  clear x0 y0 Hp0 Hp1
  obtain⟨x0,-⟩:=zak q0
  obtain⟨y0,-⟩:=zak q1
  have Hp0:=Lib.hid q0
  have Hp1:=Lib.hid q1
  clear q0 q1
  obtain⟨Hs,Hb3⟩:=hzRequestTexts2 hs hb3;clear hs hb3
  go_wp2_with fail
  go_ret
  exact⟨by first | rfl | simp,Hb3.out⟩
 | false =>
  have hk:=hr1 rfl
  clear hr1
  have hT1:=HT1.out hk
  have hT2:=HT2.out hk
  have hsz:=Hsz.out hk
  clear HT1 HT2 Hsz
  obtain⟨Hk,HT1,HT2⟩:=hzRequestTexts3 hk hT1 hT2;clear hk hT1 hT2
  go_wp2_with fail
  refine (HG2.out _ Hb2.out).mono ?_
  rintro e w3 ⟨⟨r2,rfl,-⟩,hs⟩
  have hb3:=Hb2.out.trans (hs.mono Hb2.out.size)
  have q0:=za0 hs Hp0.out
  have q1:=za0 hs Hp1.out
  clear x0 y0 Hp0 Hp1
  obtain⟨x0,-⟩:=zak q0
  obtain⟨y0,-⟩:=zak q1
  have Hp0:=Lib.hid q0
  have Hp1:=Lib.hid q1
  clear q0 q1
  obtain⟨Hs,Hb3⟩:=hzRequestTexts2 hs hb3;clear hs hb3
  cases r2 with
  | true =>
   go_wp2_with fail
   refine (HFx.out _ Hb3.out).mono ?_
   rintro e w4 ⟨rfl,hs⟩
   have hb4:=Hb3.out.trans (hs.mono Hb3.out.size)
   have q0:=za0 hs Hp0.out
   have q1:=za0 hs Hp1.out
   clear x0 y0 Hp0 Hp1
   obtain⟨x0,-⟩:=zak q0
   obtain⟨y0,-⟩:=zak q1
   have Hp0:=Lib.hid q0
   have Hp1:=Lib.hid q1
   clear q0 q1
   obtain⟨Hs,Hb4⟩:=hzRequestTexts2 hs hb4;clear hs hb4
   go_wp2_with fail
   go_ret
   exact⟨by first | rfl | simp,Hb4.out⟩
  | false =>
   go_wp2_with fail
   refine (HT1.out _ Hb3.out).mono ?_
   rintro e w4 ⟨rfl,hs⟩
   have hb4:=Hb3.out.trans (hs.mono Hb3.out.size)
   have q0:=za0 hs Hp0.out
   have q1:=za0 hs Hp1.out
   clear x0 y0 Hp0 Hp1
   obtain⟨x0,-⟩:=zak q0
   obtain⟨y0,-⟩:=zak q1
   have Hp0:=Lib.hid q0
   have Hp1:=Lib.hid q1
   clear q0 q1
   obtain⟨Hs,Hb4⟩:=hzRequestTexts2 hs hb4;clear hs hb4
   go_wp2_with fail
   refine (HT2.out _ Hb4.out).mono ?_
   rintro e w5 ⟨rfl,hs⟩
   have hb5:=Hb4.out.trans (hs.mono Hb4.out.size)
   have q0:=za0 hs Hp0.out
   have q1:=za0 hs Hp1.out
   clear x0 y0 Hp0 Hp1
   obtain⟨x0,-⟩:=zak q0
   obtain⟨y0,-⟩:=zak q1
   have Hp0:=Lib.hid q0
   have Hp1:=Lib.hid q1
   clear q0 q1
   obtain⟨Hs,Hb5⟩:=hzRequestTexts2 hs hb5;clear hs hb5
   go_upto_region 5 with (fail)
   have hcf:∀ W,Below w5.heap.size w5 W→W.cell? ⟨g,0,none⟩=some (.slice a n c)∧W.cell? ⟨g+1,0,none⟩=some (.slice a2 n2 c2):=fun W k=>⟨(zak (za0 k Hp0.out)).1,(zak (za0 k Hp1.out)).1⟩
   go_cut [45] (fun v W=>v = .bool false∧Below w5.heap.size w5 W)
   case first =>
    clear x0 y0
    have Hcz:=Lib.hid hcf
    clear hcf
    have hbdd:=Below.drew (Below.refl w5.heap.size w5)
    have hSd:=Hcz.out _ hbdd
    refine wp_region_held_drew (S:=fun W=>W.cell? ⟨g,0,none⟩=some (.slice a n c)∧W.cell? ⟨g+1,0,none⟩=some (.slice a2 n2 c2)) (by kernel_rfl) (by exact hSd) (fun hHeld=>?_)
    generalize w5.drew=wd at hSd hbdd ⊢
    have Hbdd:=zlh hbdd;clear hbdd
    refine wpAnyH_take (i:=0) (v:=?_) rfl (by kernel_rfl) (by kernel_rfl) (by kernel_rfl) (fun _ _ _ h=>h) (Or.inl ⟨by kernel_rfl,?_⟩) (by assumption) ?_
    rotate_left
    ·(intro w hSw;(try dsimp only at hSw);(try obtain⟨o0,o1⟩:=hSw);go_simp;try with_reducible rfl)
    try simp only[Act.put,lA,lB,lC]
    refine wpAnyH_take (i:=1) (v:=?_) rfl (by kernel_rfl) (by kernel_rfl) (by kernel_rfl) (fun _ _ _ h=>h) (Or.inl ⟨by kernel_rfl,?_⟩) (by assumption) ?_
    rotate_left
    ·(intro w hSw;(try dsimp only at hSw);(try obtain⟨o0,o1⟩:=hSw);go_simp;try with_reducible rfl)
    try simp only[Act.put,lA,lB,lC]
    refine wpAnyH_take (i:=2) (v:=?_) rfl (by kernel_rfl) (by kernel_rfl) (by kernel_rfl) (fun _ _ _ h=>h) (Or.inl ⟨by kernel_rfl,?_⟩) (by assumption) ?_
    rotate_left
    ·(intro w hSw;(try dsimp only at hSw);(try obtain⟨o0,o1⟩:=hSw);go_simp;try with_reducible rfl)
    try simp only[Act.put,lA,lB,lC]
    refine wpAnyH_take (i:=3) (v:=?_) rfl (by kernel_rfl) (by kernel_rfl) (by kernel_rfl) (fun _ _ _ h=>h) (Or.inl ⟨by kernel_rfl,?_⟩) (by assumption) ?_
    rotate_left
    ·(intro w hSw;(try dsimp only at hSw);(try obtain⟨o0,o1⟩:=hSw);go_simp;try with_reducible rfl)
    try simp only[Act.put,lA,lB,lC]
    refine wpAnyH_take (i:=4) (v:=?_) rfl (by kernel_rfl) (by kernel_rfl) (by kernel_rfl) (fun _ _ _ h=>h) (Or.inl ⟨by kernel_rfl,?_⟩) (by assumption) ?_
    rotate_left
    ·(intro w hSw;(try dsimp only at hSw);(try obtain⟨o0,o1⟩:=hSw);go_simp;try with_reducible rfl)
    try simp only[Act.put,lA,lB,lC]
    refine wpAnyH_take (i:=5) (v:=?_) rfl (by kernel_rfl) (by kernel_rfl) (by kernel_rfl) (fun _ _ _ h=>h) (Or.inl ⟨by kernel_rfl,?_⟩) (by assumption) ?_
    rotate_left
    ·(intro w hSw;(try dsimp only at hSw);(try obtain⟨o0,o1⟩:=hSw);go_simp;try with_reducible rfl)
    try simp only[Act.put,lA,lB,lC]
    refine wpAnyH_take (i:=6) (v:=?_) rfl (by kernel_rfl) (by kernel_rfl) (by kernel_rfl) (fun _ _ _ h=>h) (Or.inl ⟨by kernel_rfl,?_⟩) (by assumption) ?_
    rotate_left
    ·(intro w hSw;(try dsimp only at hSw);(try obtain⟨o0,o1⟩:=hSw);go_simp;try with_reducible rfl)
    try simp only[Act.put,lA,lB,lC]
    refine wpAnyH_take (i:=7) (v:=?_) rfl (by kernel_rfl) (by kernel_rfl) (by kernel_rfl) (fun _ _ _ h=>h) (Or.inl ⟨by kernel_rfl,?_⟩) (by assumption) ?_
    rotate_left
    ·(intro w hSw;(try dsimp only at hSw);(try obtain⟨o0,o1⟩:=hSw);go_simp;try with_reducible rfl)
    try simp only[Act.put,lA,lB,lC]
    refine wpAnyH_take (i:=8) (v:=?_) rfl (by kernel_rfl) (by kernel_rfl) (by kernel_rfl) (fun _ _ _ h=>h) (Or.inl ⟨by kernel_rfl,?_⟩) (by assumption) ?_
    rotate_left
    ·(intro w hSw;(try dsimp only at hSw);(try obtain⟨o0,o1⟩:=hSw);go_simp;try with_reducible rfl)
    try simp only[Act.put,lA,lB,lC]
    refine wpAnyH_take (i:=9) (v:=?_) rfl (by kernel_rfl) (by kernel_rfl) (by kernel_rfl) (fun _ _ _ h=>h) (Or.inl ⟨by kernel_rfl,?_⟩) (by assumption) ?_
    rotate_left
    ·(intro w hSw;(try dsimp only at hSw);(try obtain⟨o0,o1⟩:=hSw);go_simp;try with_reducible rfl)
    try simp only[Act.put,lA,lB,lC]
    refine wpAnyH_take (i:=10) (v:=?_) rfl (by kernel_rfl) (by kernel_rfl) (by kernel_rfl) (fun _ _ _ h=>h) (Or.inl ⟨by kernel_rfl,?_⟩) (by assumption) ?_
    rotate_left
    ·(intro w hSw;(try dsimp only at hSw);(try obtain⟨o0,o1⟩:=hSw);go_simp;try with_reducible rfl)
    try simp only[Act.put,lA,lB,lC]
    refine wpAnyH_take (i:=12) (v:=?_) rfl (by kernel_rfl) (by kernel_rfl) (by kernel_rfl) (fun _ _ _ h=>h) (Or.inl ⟨by kernel_rfl,?_⟩) (by assumption) ?_
    rotate_left
    ·(intro w hSw;(try dsimp only at hSw);(try obtain⟨o0,o1⟩:=hSw);go_simp;try with_reducible rfl)
    try simp only[Act.put,lA,lB,lC]
    refine wpAnyH_take (i:=13) (v:=?_) rfl (by kernel_rfl) (by kernel_rfl) (by kernel_rfl) (fun _ _ _ h=>h) (Or.inl ⟨by kernel_rfl,?_⟩) (by assumption) ?_
    rotate_left
    ·(intro w hSw;(try dsimp only at hSw);(try obtain⟨o0,o1⟩:=hSw);go_simp;try with_reducible rfl)
    try simp only[Act.put,lA,lB,lC]
    refine wpAnyH_ready (rs:=[11]) (by kernel_rfl) (by simp) ?_
    refine AllReadyH.cons rfl (fun K hK=>?_) AllReadyH.nil
    go_simp
    refine (HS1.out _ (Hb5.out.trans (Hbdd.out.mono Hb5.out.size))).mono ?_
    rintro e wy ⟨rfl,hby⟩
    have hwy:=Hbdd.out.trans (hby.mono Hbdd.out.size)
    have hSy:=Hcz.out _ hwy
    obtain⟨Hby,Hwy⟩:=hzRequestTexts2 hby hwy;clear hby hwy
    go_wp2_with fail
    refine hK.out _ _ (by exact hSy) (fun hHeld=>?_)
    clear hK K
    try simp only[Act.put,lA,lB,lC]
    refine wpAnyH_ready (rs:=[14]) (by kernel_rfl) (by simp) ?_
    refine AllReadyH.cons rfl (fun K hK=>?_) AllReadyH.nil
    go_simp
    refine (HS2.out _ (Hb5.out.trans (Hwy.out.mono Hb5.out.size))).mono ?_
    rintro e wz ⟨rfl,hby⟩
    have hwz:=Hwy.out.trans (hby.mono Hwy.out.size)
    have hSy:=Hcz.out _ hwz
    obtain⟨Hby,Hwz⟩:=hzRequestTexts2 hby hwz;clear hby hwz
    go_wp2_with fail
    refine hK.out _ _ (by exact hSy) (fun hHeld=>?_)
    clear hK K
    try simp only[Act.put,lA,lB,lC]
    cases sm with
    | false =>
     refine wpAnyH_take (i:=15) (v:=?_) rfl (by kernel_rfl) (by kernel_rfl) (by kernel_rfl) (fun _ _ _ h=>h) (Or.inl ⟨by kernel_rfl,?_⟩) (by assumption) ?_
     rotate_left
     ·(intro w hSw;(try dsimp only at hSw);(try obtain⟨o0,o1⟩:=hSw);go_simp;try with_reducible rfl)
     try simp only[Act.put,lA,lB,lC]
     refine wpAnyH_take (i:=16) (v:=?_) rfl (by kernel_rfl) (by kernel_rfl) (by kernel_rfl) (fun _ _ _ h=>h) (Or.inl ⟨by kernel_rfl,?_⟩) (by assumption) ?_
     rotate_left
     ·(intro w hSw;(try dsimp only at hSw);(try obtain⟨o0,o1⟩:=hSw);go_simp;try with_reducible rfl)
     try simp only[Act.put,lA,lB,lC]
     refine wpAnyH_done (by kernel_rfl) ?_ _
     go_simp
     go_wp2_with fail
     go_meet
     exact⟨rfl,Hwz.out⟩
    | true =>
     refine wpAnyH_take (i:=15) (v:=?_) rfl (by kernel_rfl) (by kernel_rfl) (by kernel_rfl) (fun _ _ _ h=>h) (Or.inl ⟨by kernel_rfl,?_⟩) (by assumption) ?_
     rotate_left
     ·(intro w hSw;(try dsimp only at hSw);(try obtain⟨o0,o1⟩:=hSw);go_simp;try with_reducible rfl)
     try simp only[Act.put,lA,lB,lC]
     refine wpAnyH_take (i:=16) (v:=?_) rfl (by kernel_rfl) (by kernel_rfl) (by kernel_rfl) (fun _ _ _ h=>h) (Or.inl ⟨by kernel_rfl,?_⟩) (by assumption) ?_
     rotate_left
     ·(intro w hSw;(try dsimp only at hSw);(try obtain⟨o0,o1⟩:=hSw);go_simp;try with_reducible rfl)
     try simp only[Act.put,lA,lB,lC]
     refine wpAnyH_done (by kernel_rfl) ?_ _
     go_simp
     go_wp2_with fail
     go_meet
     exact⟨rfl,Hwz.out⟩
   case rest =>
    obtain⟨rfl,hs⟩:=hcut
    clear hcf
    have hb6:=Hb5.out.trans (hs.mono Hb5.out.size)
    have q0:=za0 hs Hp0.out
    have q1:=za0 hs Hp1.out
    clear x0 y0 Hp0 Hp1
    obtain⟨x0,-⟩:=zak q0
    obtain⟨y0,-⟩:=zak q1
    have Hp0:=Lib.hid q0
    have Hp1:=Lib.hid q1
    clear q0 q1
    obtain⟨Hs,Hb6⟩:=hzRequestTexts2 hs hb6;clear hs hb6
    cases rb with
    | false =>
     go_wp2_with fail
     refine (HFx.out _ Hb6.out).mono ?_
     rintro e w7 ⟨rfl,hs⟩
     have hb7:=Hb6.out.trans (hs.mono Hb6.out.size)
     have q0:=za0 hs Hp0.out
     have q1:=za0 hs Hp1.out
     clear x0 y0 Hp0 Hp1
     obtain⟨x0,-⟩:=zak q0
     obtain⟨y0,-⟩:=zak q1
     have Hp0:=Lib.hid q0
     have Hp1:=Lib.hid q1
     clear q0 q1
     obtain⟨Hs,Hb7⟩:=hzRequestTexts2 hs hb7;clear hs hb7
     go_wp2_with fail
     go_ret
     exact⟨by first | rfl | simp,Hb7.out⟩
    | true =>
     obtain⟨ht,he0,hrs⟩:=Hok.out rfl
     have hP:=fun (W:World) (k:Below w.heap.size w W)=>zox rt (by omega) (HD.out.below k)
     have hrt:rt.data.toList=rqTx (l.map (·.1)):=by rw[ht]
     rw[hrt] at hP
     unfold zrz at hP
     obtain⟨R,hR⟩ : ∃ R,R=zf0 (rqTx (l.map (·.1))):=⟨_,rfl⟩
     rw[← hR] at hP he0 hrs
     obtain⟨a1,ha1⟩ : ∃ z,z=R.at1:=⟨_,rfl⟩
     obtain⟨a2',ha2⟩ : ∃ z,z=R.at2:=⟨_,rfl⟩
     obtain⟨rs,hrr⟩ : ∃ z,z=R.roots:=⟨_,rfl⟩
     rw[← hrr] at hrs
     simp only[← ha1,← ha2,he0,← hrr] at hP
     clear ha1 ha2 hrr hR ht
     obtain⟨He0,Hrs,HP,Hrt⟩:=hzRequestTexts4 he0 hrs hP hrt;clear he0 hrs hP hrt
     go_wp2_with fail
     refine (HP.out _ Hb6.out).mono ?_
     rintro e w7 ⟨v7,rfl,hv7,hs⟩
     have hb7:=Hb6.out.trans (hs.mono Hb6.out.size)
     have q0:=za0 hs Hp0.out
     have q1:=za0 hs Hp1.out
     clear x0 y0 Hp0 Hp1
     obtain⟨x0,-⟩:=zak q0
     obtain⟨y0,-⟩:=zak q1
     have Hp0:=Lib.hid q0
     have Hp1:=Lib.hid q1
     clear q0 q1
     obtain⟨Hs,Hb7⟩:=hzRequestTexts2 hs hb7;clear hs hb7
     obtain⟨va,vc,rfl⟩:=zcp hv7
     obtain⟨w8,hw8⟩ : ∃ W,W=(w7.alloc (.cells #[.slice va rs.length vc] 38)).alloc (.cells #[.int .i64 a1,.int .i64 a2'] 40):=⟨_,rfl⟩
     obtain⟨q,hq⟩ : ∃ k,k=w7.heap.size:=⟨_,rfl⟩
     have hs:Below w7.heap.size w7 w8:=by rw[hw8];exact (za2 _ _).alloc (by simp) _
     have hb8:=Hb7.out.trans (hs.mono Hb7.out.size)
     have pq:zik q (.slice va rs.length vc) w8:=by rw[hw8,hq];exact za0 (Below.alloc (Below.refl _ _) (by simp) _) (za6 rfl)
     have q0:=za0 hs Hp0.out
     have q1:=za0 hs Hp1.out
     clear x0 y0 Hp0 Hp1
     obtain⟨x0,-⟩:=zak q0
     obtain⟨y0,-⟩:=zak q1
     have Hp0:=Lib.hid q0
     have Hp1:=Lib.hid q1
     clear q0 q1
     have hv8:=za5 zb4 _ _ _ _ hv7 hs
     go_upto_region 10 with (fail)
     rw[← hw8,← hq]
     clear hw8 hq
     have hU1:=fun (W:World) (k:Below w8.heap.size w8 W)=>zia (za5 zb4 _ _ _ _ hv8 k) (za5 zb4 _ _ _ _ Hh.out (hb8.trans (k.mono hb8.size))) false
     have hU2:=fun (W:World) (k:Below w8.heap.size w8 W)=>zk7 (za5 zb4 _ _ _ _ hv8 k) (za5 zb4 _ _ _ _ Hh.out (hb8.trans (k.mono hb8.size)))
     simp only[zgw,Hrs.out,decide_true,← Hn.out] at hU1 hU2
     obtain⟨mm,hmm⟩ : ∃ k,k=rs.length:=⟨_,rfl⟩
     simp only[← hmm] at hU1 hU2 pq ⊢
     obtain⟨z0,-⟩:=zak pq
     obtain⟨Hs,Hb8,Hpq,Hv7,Hv8,HU1,HU2,Hmm⟩:=hzRequestTexts8 hs hb8 pq hv7 hv8 hU1 hU2 hmm;clear hs hb8 pq hv7 hv8 hU1 hU2 hmm
     go_wp2_with fail
     refine (HFx.out _ Hb8.out).mono ?_
     rintro e w9 ⟨rfl,hs⟩
     have hb9:=Hb8.out.trans (hs.mono Hb8.out.size)
     have q0:=za0 hs Hp0.out
     have q1:=za0 hs Hp1.out
     clear x0 y0 Hp0 Hp1
     obtain⟨x0,-⟩:=zak q0
     obtain⟨y0,-⟩:=zak q1
     have qq:=za0 hs Hpq.out
     clear z0 Hpq
     obtain⟨z0,-⟩:=zak qq
     have Hpq:=Lib.hid qq
     clear qq
     have hk9:=hs
     have Hp0:=Lib.hid q0
     have Hp1:=Lib.hid q1
     clear q0 q1
     obtain⟨Hs,Hb9,Hk9⟩:=hzRequestTexts3 hs hb9 hk9;clear hs hb9 hk9
     go_wp2_with fail
     refine (HU1.out _ Hk9.out).mono ?_
     rintro e w10 ⟨rfl,hs⟩
     have hk10:=Hk9.out.trans (hs.mono Hk9.out.size)
     have hb10:=Hb9.out.trans (hs.mono Hb9.out.size)
     have qq:=za0 hs Hpq.out
     clear z0 Hpq
     obtain⟨z0,-⟩:=zak qq
     have Hpq:=Lib.hid qq
     clear qq
     have q0:=za0 hs Hp0.out
     have q1:=za0 hs Hp1.out
     clear x0 y0 Hp0 Hp1
     obtain⟨x0,-⟩:=zak q0
     obtain⟨y0,-⟩:=zak q1
     have Hp0:=Lib.hid q0
     have Hp1:=Lib.hid q1
     clear q0 q1
     obtain⟨Hs,Hk10,Hb10⟩:=hzRequestTexts3 hs hk10 hb10;clear hs hk10 hb10
     go_wp2_with fail
     refine (HU2.out _ Hk10.out).mono ?_
     rintro e w11 ⟨rfl,hs⟩
     have hk11:=Hk10.out.trans (hs.mono Hk10.out.size)
     have hb11:=Hb10.out.trans (hs.mono Hb10.out.size)
     have qq:=za0 hs Hpq.out
     clear z0 Hpq
     obtain⟨z0,-⟩:=zak qq
     have Hpq:=Lib.hid qq
     clear qq
     have q0:=za0 hs Hp0.out
     have q1:=za0 hs Hp1.out
     clear x0 y0 Hp0 Hp1
     obtain⟨x0,-⟩:=zak q0
     obtain⟨y0,-⟩:=zak q1
     have Hp0:=Lib.hid q0
     have Hp1:=Lib.hid q1
     clear q0 q1
     obtain⟨Hs,Hk11,Hb11⟩:=hzRequestTexts3 hs hk11 hb11;clear hs hk11 hb11
     go_wp2_with fail
     go_ret
     exact⟨by first | rfl | simp,Hb11.out⟩
end
end Go.Proofs.YteailgjiifdgcaaGreatDoor
