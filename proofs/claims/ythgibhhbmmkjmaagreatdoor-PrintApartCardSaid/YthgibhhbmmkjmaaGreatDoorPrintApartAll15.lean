/- Walks and plain facts. Texts merged: PrintApart. Condition: none beyond what each says. -/
import Derived.Test.YthgibhhbmmkjmaaGreatDoorPrintApartAll14
set_option linter.unusedVariables false
set_option linter.unusedSimpArgs false
set_option maxRecDepth 10000
set_option maxHeartbeats 4000000
namespace Go.Proofs.YthgibhhbmmkjmaaGreatDoor
section
open Go.Shelf Go.RowKit Go.Lib VerN VarM
attribute [local go_sem ↓] Go.wp_at_zero Go.wp_at_succ
set_option linter.unusedVariables false in
theorem zlm {w:World} {x y:RcpM} {v1 v2 u1 u2:Value} (hp:zi1 w v1 v2 x) (hq:zi1 w u1 u2 y) (hD:zbl w) :
  Calls Tryz.prog 5 #[.agg #[v1,v2],.agg #[u1,u2]] w fun e w'=>e = .returned (.bool true)∧Below w.heap.size w w':=by
 obtain⟨a1,c1,rfl⟩:=zb4 hp.1
 obtain⟨a2,c2,rfl⟩:=zb4 hp.2
 obtain⟨n1,hn1⟩ : ∃ n,n=x.pk.length:=⟨_,rfl⟩
 obtain⟨n2,hn2⟩ : ∃ n,n=x.pf.length:=⟨_,rfl⟩
 rw[← hn1,← hn2] at hp
 rw[← hn1,← hn2]
 obtain⟨d1,e1,rfl⟩:=zb4 hq.1
 obtain⟨d2,e2,rfl⟩:=zb4 hq.2
 obtain⟨m1,hm1⟩ : ∃ n,n=y.pk.length:=⟨_,rfl⟩
 obtain⟨m2,hm2⟩ : ∃ n,n=y.pf.length:=⟨_,rfl⟩
 rw[← hm1,← hm2] at hq
 rw[← hm1,← hm2]
 obtain⟨W1,hW1⟩ : ∃ W,W=(w.alloc (.cells #[.slice a1 n1 c1,.slice a2 n2 c2] 25)).alloc (.cells #[.slice d1 m1 e1,.slice d2 m2 e2] 25):=⟨_,rfl⟩
 obtain⟨g,hg⟩ : ∃ g,g=w.heap.size:=⟨_,rfl⟩
 have hb1:Below w.heap.size w W1:=by rw[hW1];exact (za2 _ _).alloc (by simp) _
 have hp0:W1.heap[g]? = some (.cells #[.slice a1 n1 c1,.slice a2 n2 c2] 25 (0,0)):=by rw[hW1,hg];exact za1 (za2 _ _) (za9 rfl)
 have hp1:W1.heap[g+1]? = some (.cells #[.slice d1 m1 e1,.slice d2 m2 e2] 25 (0,0)):=by rw[hW1,hg];exact za9 (by simp)
 have hcells:∀ W,Below W1.heap.size W1 W→W.cell? ⟨g,0,none⟩=some (.slice a1 n1 c1)∧W.cell? ⟨g,1,none⟩=some (.slice a2 n2 c2)∧W.cell? ⟨g+1,0,none⟩=some (.slice d1 m1 e1)∧W.cell? ⟨g+1,1,none⟩=some (.slice d2 m2 e2):=fun W hW=>⟨za0 (za1 hW hp0) 0,za0 (za1 hW hp0) 1,za0 (za1 hW hp1) 0,za0 (za1 hW hp1) 1⟩
 have hpp:=hp.below hb1
 have hqq:=hq.below hb1
 have hF:=fun (W:World) (k:Below W1.heap.size W1 W)=>zr6 (hD.below (hb1.trans (k.mono hb1.size)))
 have hG1:=zm8 hpp
 have hG2:=fun (W:World) (k:Below W1.heap.size W1 W)=>zm8 (hqq.below k)
 have hA:=fun (hs:zlb x) (W:World) (k:Below W1.heap.size W1 W)=>zj1 (hpp.below k) (zo9 hs) (zs0 hs) (hD.below (hb1.trans (k.mono hb1.size)))
 have hB:=fun (hs:zlb y) (W:World) (k:Below W1.heap.size W1 W)=>zj1 (hqq.below k) (zo9 hs) (zs0 hs) (hD.below (hb1.trans (k.mono hb1.size)))
 have hS:=fun (W:World) (k:Below W1.heap.size W1 W)=>zq9 (hpp.below k) (hqq.below k)
 have hrd:∀ z,(rcR zdv z).2=true→(rcR zdv z).1=rcT zdv z∧zrj zdv z:=fun z h=>by
  by_cases h2:zrj zdv z
  ·rw[rcR_yes h2]
   exact⟨rfl,h2⟩
  rw[rcR_no h2] at h
  cases h
 have hx:=hrd x
 have hy:=hrd y
 obtain⟨q,hq1⟩ : ∃ q,q=rcR zdv x:=⟨_,rfl⟩
 obtain⟨r,hr1⟩ : ∃ q,q=rcR zdv y:=⟨_,rfl⟩
 obtain⟨sm,hsm⟩ : ∃ q,q=zfs x y:=⟨_,rfl⟩
 simp only[← hq1] at hA hx
 simp only[← hr1] at hB hy
 simp only[← hsm] at hS
 obtain⟨qt,qb⟩:=q
 obtain⟨rt,rb⟩:=r
 dsimp only at hA hB hx hy
 have hK:qb=true→rb=true→(qt.toList == rt.toList)=sm:=fun h1 h2=>by
  obtain⟨k1,k2⟩:=hx h1
  obtain⟨k3,k4⟩:=hy h2
  rw[Txt.eq_dec,hsm,Bool.eq_iff_iff,decide_eq_true_iff,zhs,k1,k3]
  exact rcR_apart k2 k4
 obtain⟨i0,i1,-,-⟩:=hcells W1 (Below.refl _ _)
 obtain⟨Hp,Hq,HD,Hb1,Hp0,Hp1,Hcells,Hpp,Hqq,HF,HG1,HG2,HA,HB,HS,Hrd⟩:=hd16 hp hq hD hb1 hp0 hp1 hcells hpp hqq hF hG1 hG2 hA hB hS hrd;obtain⟨Hx,Hy,Hq1,Hr1,Hsm,HK,Hn1,Hn2,Hm1,Hm2⟩:=hd10 hx hy hq1 hr1 hsm hK hn1 hn2 hm1 hm2;clear hp hq hD hb1 hp0 hp1 hcells hpp hqq hF hG1 hG2 hA hB hS hrd hx hy hq1 hr1 hsm hK hn1 hn2 hm1 hm2
 go_enter Tryz.func5,Tryz.ntmps5
 go_upto_region 1 with (fail)
 rw[← hW1,← hg]
 clear hW1 hg
 go_wp2_with fail
 refine HG1.out.mono ?_
 rintro e w2 ⟨⟨r1,rfl,hsx⟩,hb2⟩
 clear i0 i1
 have Hb2:=hd hb2;clear hb2
 cases r1 with
 | true =>
  clear hsx
  go_wp2_with fail
  refine (HF.out _ Hb2.out).mono ?_
  rintro e wf ⟨rfl,hbf⟩
  have hbz:=Hb1.out.trans ((Hb2.out.trans (hbf.mono Hb2.out.size)).mono Hb1.out.size)
  obtain⟨Hbf,Hbz⟩:=hd2 hbf hbz;clear hbf hbz
  go_wp2_with fail
  go_ret
  exact⟨rfl,Hbz.out⟩
 | false =>
  have hs:=hsx rfl
  clear hsx
  obtain⟨-,-,j0,j1⟩:=Hcells.out w2 Hb2.out
  have hG3:=HG2.out _ Hb2.out
  obtain⟨Hs,HG3⟩:=hd2 hs hG3;clear hs hG3
  go_wp2_with fail
  refine HG3.out.mono ?_
  rintro e w3 ⟨⟨r2,rfl,hsy⟩,hb3⟩
  clear j0 j1
  have hb13:=Hb2.out.trans (hb3.mono Hb2.out.size)
  obtain⟨Hb3,Hb13⟩:=hd2 hb3 hb13;clear hb3 hb13
  cases r2 with
  | true =>
   clear hsy
   go_wp2_with fail
   refine (HF.out _ Hb13.out).mono ?_
   rintro e wf ⟨rfl,hbf⟩
   have hbz:=Hb1.out.trans ((Hb13.out.trans (hbf.mono Hb13.out.size)).mono Hb1.out.size)
   obtain⟨Hbf,Hbz⟩:=hd2 hbf hbz;clear hbf hbz
   go_wp2_with fail
   go_ret
   exact⟨rfl,Hbz.out⟩
  | false =>
   have ht:=hsy rfl
   clear hsy
   have hA2:=HA.out Hs.out _ Hb13.out
   obtain⟨i0,i1,-,-⟩:=Hcells.out _ Hb13.out
   obtain⟨Ht,HA2⟩:=hd2 ht hA2;clear ht hA2
   go_wp2_with fail
   refine HA2.out.mono ?_
   rintro e w4 ⟨rfl,hb4⟩
   have hb14:=Hb13.out.trans (hb4.mono Hb13.out.size)
   have hB2:=HB.out Ht.out _ hb14
   clear i0 i1
   obtain⟨-,-,j0,j1⟩:=Hcells.out _ hb14
   obtain⟨Hb4,Hb14,HB2⟩:=hd3 hb4 hb14 hB2;clear hb4 hb14 hB2
   go_wp2_with fail
   refine HB2.out.mono ?_
   rintro e w5 ⟨rfl,hb5⟩
   have hb15:=Hb14.out.trans (hb5.mono Hb14.out.size)
   clear j0 j1
   obtain⟨Hb5,Hb15⟩:=hd2 hb5 hb15;clear hb5 hb15
   cases qb with
   | false =>
    go_wp2_with fail
    refine (HF.out _ Hb15.out).mono ?_
    rintro e wf ⟨rfl,hbf⟩
    have hbz:=Hb1.out.trans ((Hb15.out.trans (hbf.mono Hb15.out.size)).mono Hb1.out.size)
    obtain⟨Hbf,Hbz⟩:=hd2 hbf hbz;clear hbf hbz
    go_wp2_with fail
    go_ret
    exact⟨rfl,Hbz.out⟩
   | true =>
    cases rb with
    | false =>
     go_wp2_with fail
     refine (HF.out _ Hb15.out).mono ?_
     rintro e wf ⟨rfl,hbf⟩
     have hbz:=Hb1.out.trans ((Hb15.out.trans (hbf.mono Hb15.out.size)).mono Hb1.out.size)
     obtain⟨Hbf,Hbz⟩:=hd2 hbf hbz;clear hbf hbz
     go_wp2_with fail
     go_ret
     exact⟨rfl,Hbz.out⟩
    | true =>
     have kk:=HK.out rfl rfl
     go_wp2_with fail
     refine (HF.out _ Hb15.out).mono ?_
     rintro e w6 ⟨rfl,hb6⟩
     have hb16:=Hb15.out.trans (hb6.mono Hb15.out.size)
     have hSm:=HS.out _ hb16
     obtain⟨i0,i1,j0,j1⟩:=Hcells.out _ hb16
     obtain⟨Hb6,Hb16,HSm⟩:=hd3 hb6 hb16 hSm;clear hb6 hb16 hSm
     go_wp2_with fail
     refine HSm.out.mono ?_
     rintro e w7 ⟨rfl,hb7⟩
     have hbz:=Hb1.out.trans ((Hb16.out.trans (hb7.mono Hb16.out.size)).mono Hb1.out.size)
     clear i0 i1 j0 j1
     obtain⟨Hb7,Hbz⟩:=hd2 hb7 hbz;clear hb7 hbz
     cases sm with
     | true =>
      go_wp2_with fail
      go_ret
      exact⟨rfl,Hbz.out⟩
     | false =>
      go_wp2_with fail
      go_ret
      exact⟨rfl,Hbz.out⟩
end
end Go.Proofs.YthgibhhbmmkjmaaGreatDoor
