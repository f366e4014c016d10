/- Walks and plain facts. Texts merged: RequestParses. Condition: none beyond what each says. -/
import Derived.Test.YteailgjiifdgcaaGreatDoorRequestParsesAll13
set_option linter.unusedVariables false
set_option linter.unusedSimpArgs false
set_option maxRecDepth 10000
set_option maxHeartbeats 4000000
namespace Go.Proofs.YteailgjiifdgcaaGreatDoor
section
open Go.Shelf Go.RowKit Go.Lib VerN VarM
attribute [local go_sem ↓] Go.wp_at_zero Go.wp_at_succ
theorem zgi (t:ByteArray) {w:World} (hD:zbi w) (hz:t.size≤9223372036854775807):Calls Tryz.prog 5 #[.string t] w fun e w'=>e = .returned (.bool true)∧Below w.heap.size w w':=by
 have hF:=fun (W:World) (k:Below w.heap.size w W)=>zof (hD.below k)
 by_cases hbig:20000 < t.size
 ·have k1:decide ((20000:Int) < (t.size:Int))=true:=decide_eq_true (by omega)
  obtain⟨HF,HD⟩:=hd2 hF hD;clear hF hD
  go_enter Tryz.func5,Tryz.ntmps5
  go_wp2_with fail
  refine (HF.out _ (Below.refl _ _)).mono ?_
  rintro e w1 ⟨rfl,hb1⟩
  have Hb1:=hd hb1;clear hb1
  go_wp2_with fail
  go_ret
  exact⟨rfl,Hb1.out⟩
 have k1:decide ((20000:Int) < (t.size:Int))=false:=decide_eq_false (by omega)
 have hR:=zm4 t (by omega) hD
 have hM:=fun (W:World)=>znw (w:=W) t (by omega)
 obtain⟨R,hR0⟩ : ∃ R,R=zid t.data.toList:=⟨_,rfl⟩
 rw[← hR0] at hR hM
 unfold zon at hR
 unfold zk1 at hM
 obtain⟨a1,ha1⟩ : ∃ z,z=R.at1:=⟨_,rfl⟩
 obtain⟨a2,ha2⟩ : ∃ z,z=R.at2:=⟨_,rfl⟩
 obtain⟨er,her⟩ : ∃ z,z=R.e:=⟨_,rfl⟩
 obtain⟨rs,hrs⟩ : ∃ z,z=R.roots:=⟨_,rfl⟩
 rw[← ha1,← ha2,← her,← hrs] at hR
 simp only[← ha1,← ha2,← her,← hrs] at hM
 clear hR0 ha1 ha2 her hrs
 obtain⟨HF,HD,HR,HM⟩:=hd4 hF hD hR hM;clear hF hD hR hM
 go_enter Tryz.func5,Tryz.ntmps5
 go_wp2_with fail
 refine HR.out.mono ?_
 rintro e w1 ⟨v,rfl,hrt,hb1⟩
 obtain⟨a,cap,rfl,-,-⟩:=ze6 hrt
 obtain⟨n,hn⟩ : ∃ n,n=rs.length:=⟨_,rfl⟩
 rw[← hn] at hrt ⊢
 obtain⟨g,hg⟩ : ∃ g,g=w1.heap.size:=⟨_,rfl⟩
 obtain⟨w2,hw2⟩ : ∃ W,W=(w1.alloc (.cells #[.slice a n cap] 38)).alloc (.cells #[.int .i64 a1,.int .i64 a2] 40):=⟨_,rfl⟩
 have hb2:Below w1.heap.size w1 w2:=by rw[hw2];exact (za2 _ _).alloc (by simp) _
 have p0:zrq g (.slice a n cap) w2:=by rw[hw2,hg];exact za0 (za2 _ _) (za6 rfl)
 have p1:WhBox (g+1) a1 a2 w2:=by rw[hw2,hg];exact za6 (by simp)
 have hrt2:=zaf ze5 _ _ _ _ hrt hb2
 have hbw:=hb1.trans (hb2.mono hb1.size)
 obtain⟨Hrt,Hb1,Hb2,Hp0,Hp1,Hrt2,Hbw,Hn⟩:=hd8 hrt hb1 hb2 p0 p1 hrt2 hbw hn;clear hrt hb1 hb2 p0 p1 hrt2 hbw hn
 go_upto_region 4 with (fail)
 rw[← hw2,← hg]
 clear hw2 hg
 go_wp2_with fail
 refine (HM.out _).mono ?_
 rintro e w3 ⟨u,rfl,hru,hb3⟩
 obtain⟨b,cap2,rfl,-,-⟩:=ze6 hru
 rw[← Hn.out] at hru ⊢
 obtain⟨q,hq⟩ : ∃ q,q=w3.heap.size:=⟨_,rfl⟩
 obtain⟨w4,hw4⟩ : ∃ W,W=w3.alloc (.cells #[.slice b n cap2,.int .i64 a1,.int .i64 a2,.int .i64 er] 45):=⟨_,rfl⟩
 have hb4:Below w3.heap.size w3 w4:=by rw[hw4];exact za2 _ _
 have p2:R8Box q (.slice b n cap2) a1 a2 er w4:=by rw[hw4,hq];exact heap_alloc_new _ _
 have hb24:=hb3.trans (hb4.mono hb3.size)
 have hrt4:=zaf ze5 _ _ _ _ Hrt2.out hb24
 have hru4:=zaf ze5 _ _ _ _ hru hb4
 have hbw4:=Hbw.out.trans (hb24.mono Hbw.out.size)
 have p04:=za0 hb24 Hp0.out
 have p14:=za0 hb24 Hp1.out
 obtain⟨Hru,Hb3,Hb4,Hp2,Hb24,Hrt4,Hru4,Hbw4,Hp04,Hp14⟩:=hd10 hru hb3 hb4 p2 hb24 hrt4 hru4 hbw4 p04 p14;clear hru hb3 hb4 p2 hb24 hrt4 hru4 hbw4 p04 p14
 go_upto_region 5 with (fail)
 rw[← hw4,← hq]
 clear hw4 hq
 go_wp2_with fail
 refine (HF.out _ Hbw4.out).mono ?_
 rintro e w5 ⟨rfl,hb5⟩
 have hbw5:=Hbw4.out.trans (hb5.mono Hbw4.out.size)
 have hS:=zqk (zaf ze5 _ _ _ _ Hrt4.out hb5) (zaf ze5 _ _ _ _ Hru4.out hb5) true
 rw[znh] at hS
 obtain⟨x0,-⟩:=zc5 (za0 hb5 Hp04.out)
 obtain⟨y0,y1,-,-⟩:=zga (za0 hb5 Hp14.out)
 obtain⟨⟨z0,z1,z2,z3⟩,-⟩:=zhp (za0 hb5 Hp2.out)
 have weq:=fun (W:World)=>wh_eqs a1 a2 a1 a2 W
 simp only[decide_true,Bool.and_true] at weq
 obtain⟨Hb5,Hbw5,HS⟩:=hd3 hb5 hbw5 hS;clear hb5 hbw5 hS
 go_wp2_with fail
 refine HS.out.mono ?_
 rintro e w6 ⟨rfl,hb6⟩
 have hbw6:=Hbw5.out.trans (hb6.mono Hbw5.out.size)
 obtain⟨Hb6,Hbw6⟩:=hd2 hb6 hbw6;clear hb6 hbw6
 go_wp2_with fail
 go_ret
 exact⟨rfl,Hbw6.out⟩
end
end Go.Proofs.YteailgjiifdgcaaGreatDoor
