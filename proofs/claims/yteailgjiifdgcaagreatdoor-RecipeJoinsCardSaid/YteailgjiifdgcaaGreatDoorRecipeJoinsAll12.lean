/- Walks and plain facts. Texts merged: RecipeJoins. Condition: none beyond what each says. -/
import Derived.Test.YteailgjiifdgcaaGreatDoorRecipeJoinsAll11
set_option linter.unusedVariables false
set_option linter.unusedSimpArgs false
set_option maxRecDepth 10000
set_option maxHeartbeats 4000000
namespace Go.Proofs.YteailgjiifdgcaaGreatDoor
section
theorem zal {p:Prop} (h:p):Go.RowKit.Hid p:=h
theorem hzRecipeJoins2 {p0 p1:Prop} (hp0:p0) (hp1:p1):Go.RowKit.Hid p0∧Go.RowKit.Hid p1:=⟨hp0,hp1⟩
theorem hzRecipeJoins3 {p0 p1 p2:Prop} (hp0:p0) (hp1:p1) (hp2:p2):Go.RowKit.Hid p0∧Go.RowKit.Hid p1∧Go.RowKit.Hid p2:=⟨hp0,hp1,hp2⟩
theorem hzRecipeJoins4 {p0 p1 p2 p3:Prop} (hp0:p0) (hp1:p1) (hp2:p2) (hp3:p3):Go.RowKit.Hid p0∧Go.RowKit.Hid p1∧Go.RowKit.Hid p2∧Go.RowKit.Hid p3:=⟨hp0,hp1,hp2,hp3⟩
theorem hzRecipeJoins5 {p0 p1 p2 p3 p4:Prop} (hp0:p0) (hp1:p1) (hp2:p2) (hp3:p3) (hp4:p4):Go.RowKit.Hid p0∧Go.RowKit.Hid p1∧Go.RowKit.Hid p2∧Go.RowKit.Hid p3∧Go.RowKit.Hid p4:=⟨hp0,hp1,hp2,hp3,hp4⟩
theorem hzRecipeJoins6 {p0 p1 p2 p3 p4 p5:Prop} (hp0:p0) (hp1:p1) (hp2:p2) (hp3:p3) (hp4:p4) (hp5:p5):Go.RowKit.Hid p0∧Go.RowKit.Hid p1∧Go.RowKit.Hid p2∧Go.RowKit.Hid p3∧Go.RowKit.Hid p4∧Go.RowKit.Hid p5:=⟨hp0,hp1,hp2,hp3,hp4,hp5⟩
theorem hzRecipeJoins8 {p0 p1 p2 p3 p4 p5 p6 p7:Prop} (hp0:p0) (hp1:p1) (hp2:p2) (hp3:p3) (hp4:p4) (hp5:p5) (hp6:p6) (hp7:p7):Go.RowKit.Hid p0∧Go.RowKit.Hid p1∧Go.RowKit.Hid p2∧Go.RowKit.Hid p3∧Go.RowKit.Hid p4∧Go.RowKit.Hid p5∧Go.RowKit.Hid p6∧Go.RowKit.Hid p7:=⟨hp0,hp1,hp2,hp3,hp4,hp5,hp6,hp7⟩
theorem hzRecipeJoins9 {p0 p1 p2 p3 p4 p5 p6 p7 p8:Prop} (hp0:p0) (hp1:p1) (hp2:p2) (hp3:p3) (hp4:p4) (hp5:p5) (hp6:p6) (hp7:p7) (hp8:p8):Go.RowKit.Hid p0∧Go.RowKit.Hid p1∧Go.RowKit.Hid p2∧Go.RowKit.Hid p3∧Go.RowKit.Hid p4∧Go.RowKit.Hid p5∧Go.RowKit.Hid p6∧Go.RowKit.Hid p7∧Go.RowKit.Hid p8:=⟨hp0,hp1,hp2,hp3,hp4,hp5,hp6,hp7,hp8⟩
theorem hzRecipeJoins14 {p0 p1 p2 p3 p4 p5 p6 p7 p8 p9 p10 p11 p12 p13:Prop} (hp0:p0) (hp1:p1) (hp2:p2) (hp3:p3) (hp4:p4) (hp5:p5) (hp6:p6) (hp7:p7) (hp8:p8) (hp9:p9) (hp10:p10) (hp11:p11) (hp12:p12) (hp13:p13):Go.RowKit.Hid p0∧Go.RowKit.Hid p1∧Go.RowKit.Hid p2∧Go.RowKit.Hid p3∧Go.RowKit.Hid p4∧Go.RowKit.Hid p5∧Go.RowKit.Hid p6∧Go.RowKit.Hid p7∧Go.RowKit.Hid p8∧Go.RowKit.Hid p9∧Go.RowKit.Hid p10∧Go.RowKit.Hid p11∧Go.RowKit.Hid p12∧Go.RowKit.Hid p13:=⟨hp0,hp1,hp2,hp3,hp4,hp5,hp6,hp7,hp8,hp9,hp10,hp11,hp12,hp13⟩
theorem hzRecipeJoins15 {p0 p1 p2 p3 p4 p5 p6 p7 p8 p9 p10 p11 p12 p13 p14:Prop} (hp0:p0) (hp1:p1) (hp2:p2) (hp3:p3) (hp4:p4) (hp5:p5) (hp6:p6) (hp7:p7) (hp8:p8) (hp9:p9) (hp10:p10) (hp11:p11) (hp12:p12) (hp13:p13) (hp14:p14):Go.RowKit.Hid p0∧Go.RowKit.Hid p1∧Go.RowKit.Hid p2∧Go.RowKit.Hid p3∧Go.RowKit.Hid p4∧Go.RowKit.Hid p5∧Go.RowKit.Hid p6∧Go.RowKit.Hid p7∧Go.RowKit.Hid p8∧Go.RowKit.Hid p9∧Go.RowKit.Hid p10∧Go.RowKit.Hid p11∧Go.RowKit.Hid p12∧Go.RowKit.Hid p13∧Go.RowKit.Hid p14:=⟨hp0,hp1,hp2,hp3,hp4,hp5,hp6,hp7,hp8,hp9,hp10,hp11,hp12,hp13,hp14⟩
theorem hzRecipeJoins16 {p0 p1 p2 p3 p4 p5 p6 p7 p8 p9 p10 p11 p12 p13 p14 p15:Prop} (hp0:p0) (hp1:p1) (hp2:p2) (hp3:p3) (hp4:p4) (hp5:p5) (hp6:p6) (hp7:p7) (hp8:p8) (hp9:p9) (hp10:p10) (hp11:p11) (hp12:p12) (hp13:p13) (hp14:p14) (hp15:p15):Go.RowKit.Hid p0∧Go.RowKit.Hid p1∧Go.RowKit.Hid p2∧Go.RowKit.Hid p3∧Go.RowKit.Hid p4∧Go.RowKit.Hid p5∧Go.RowKit.Hid p6∧Go.RowKit.Hid p7∧Go.RowKit.Hid p8∧Go.RowKit.Hid p9∧Go.RowKit.Hid p10∧Go.RowKit.Hid p11∧Go.RowKit.Hid p12∧Go.RowKit.Hid p13∧Go.RowKit.Hid p14∧Go.RowKit.Hid p15:=⟨hp0,hp1,hp2,hp3,hp4,hp5,hp6,hp7,hp8,hp9,hp10,hp11,hp12,hp13,hp14,hp15⟩
open Go.Shelf Go.RowKit Go.Lib VerN VarM
attribute [local go_sem ↓] Go.wp_at_zero Go.wp_at_succ
theorem zmd {t:List UInt8} {x:RcpM} (h:zge t=some x):x.pk.length≤t.length+1∧x.pf.length≤t.length+1:=by
 obtain⟨-,h2⟩:=zl1 h
 have h3:=zmv _ 0 _ _ zm2 h2
 have h4:=(LexM.doc_good t).2
 exact⟨by have:=h3.1;omega,by have:=h3.2.1;omega⟩
theorem zl0 {W:World} {a1 a2:Option Addr} {n1 n2 c1 c2:Nat} {x:RcpM} (h:zhu W (.slice a1 n1 c1) (.slice a2 n2 c2) x):n1=x.pk.length∧n2=x.pf.length:=by
 obtain⟨h1,h2⟩:=h
 obtain⟨_,_,e1⟩:=zf9 h1
 obtain⟨_,_,e2⟩:=zf9 h2
 cases e1
 cases e2
 exact⟨rfl,rfl⟩
theorem zkk (a b:ByteArray):(a ++ ⟨#[10]⟩ ++ b).data.toList=a.data.toList ++ 10 :: b.data.toList:=by
 rw[Go.Joins.data_append,Go.Joins.data_append,List.append_assoc]
 rfl
set_option linter.unusedVariables false in
theorem zi9 (a b:ByteArray) {w:World} (hD:zbz w) (hza:a.size≤9223372036854775807) (hzb:b.size≤9223372036854775807):Calls Tryz.prog 10 #[.string a,.string b] w fun e w'=>e = .returned (.bool true)∧Below w.heap.size w w':=by
 have hF:=fun (W:World) (k:Below w.heap.size w W)=>zom (hD.below k)
 by_cases hba:6000 < a.size
 ·have k1:decide ((6000:Int) < (a.size:Int))=true:=decide_eq_true (by omega)
  obtain⟨HF,HD⟩:=hzRecipeJoins2 hF hD;clear hF hD
  go_enter Tryz.func10,Tryz.ntmps10
  go_wp2_with fail
  refine (HF.out _ (Below.refl _ _)).mono ?_
  rintro e w1 ⟨rfl,hb1⟩
  have Hb1:=zal hb1;clear hb1
  go_wp2_with fail
  go_ret
  exact⟨rfl,Hb1.out⟩
 have k1:decide ((6000:Int) < (a.size:Int))=false:=decide_eq_false (by omega)
 by_cases hbb:6000 < b.size
 ·have k2:decide ((6000:Int) < (b.size:Int))=true:=decide_eq_true (by omega)
  obtain⟨HF,HD⟩:=hzRecipeJoins2 hF hD;clear hF hD
  go_enter Tryz.func10,Tryz.ntmps10
  go_wp2_with fail
  refine (HF.out _ (Below.refl _ _)).mono ?_
  rintro e w1 ⟨rfl,hb1⟩
  have Hb1:=zal hb1;clear hb1
  go_wp2_with fail
  go_ret
  exact⟨rfl,Hb1.out⟩
 have k2:decide ((6000:Int) < (b.size:Int))=false:=decide_eq_false (by omega)
 have hA:=zga a (by omega) hD
 have hB:=fun (W:World) (k:Below w.heap.size w W)=>zga b (by omega) (hD.below k)
 have hsz:(a ++ ⟨#[10]⟩ ++ b).size≤140737488351232:=by
  rw[← Txt.len,zkk,List.length_append,List.length_cons,Txt.len,Txt.len]
  omega
 have hC:=fun (W:World) (k:Below w.heap.size w W)=>zga (a ++ ⟨#[10]⟩ ++ b) hsz (hD.below k)
 obtain⟨oa,hoa⟩ : ∃ o,o=zge a.data.toList:=⟨_,rfl⟩
 obtain⟨ob,hob⟩ : ∃ o,o=zge b.data.toList:=⟨_,rfl⟩
 obtain⟨oc,hoc⟩ : ∃ o,o=zge (a ++ ⟨#[10]⟩ ++ b).data.toList:=⟨_,rfl⟩
 rw[← hoa] at hA
 simp only[← hob] at hB
 simp only[← hoc] at hC
 have hjoin:∀ x y,oa=some x→ob=some y→∃ z,oc=some z∧bare z=bare (both x y)∧x.pk.length≤6001∧x.pf.length≤6001∧y.pk.length≤6001∧y.pf.length≤6001:=fun x y hx hy=>by
  obtain⟨z,hz,hbz⟩:=zqp (a:=a.data.toList) (b:=b.data.toList) (by rw[Txt.len];omega) (by rw[Txt.len];omega) (hoa.symm.trans hx) (hob.symm.trans hy)
  have h1:=zmd (hoa.symm.trans hx)
  have h2:=zmd (hob.symm.trans hy)
  rw[Txt.len] at h1 h2
  exact⟨z,by rw[hoc,zkk];exact hz,hbz,by omega,by omega,by omega,by omega⟩
 unfold zou at hA hB hC
 clear hoa hob hoc
 obtain⟨tc,htc⟩ : ∃ t,t=a ++ ⟨#[10]⟩ ++ b:=⟨_,rfl⟩
 rw[← htc] at hC
 obtain⟨HF,HD,HA,HB,HC,Hjoin,Hsz,Hza,Hzb⟩:=hzRecipeJoins9 hF hD hA hB hC hjoin hsz hza hzb;clear hF hD hA hB hC hjoin hsz hza hzb
 go_enter Tryz.func10,Tryz.ntmps10
 go_wp2_with fail
 refine HA.out.mono ?_
 rintro e w1 ⟨xa,n1,c1,xb,n2,c2,u1,u2,ea,rfl,hx,hb1⟩
 obtain⟨g,hg⟩ : ∃ g,g=w1.heap.size:=⟨_,rfl⟩
 obtain⟨w2,hw2⟩ : ∃ W,W=(w1.alloc (.cells #[.slice xa n1 c1,.slice xb n2 c2] 73)).alloc (.cells #[.int .i64 u1,.int .i64 u2] 40):=⟨_,rfl⟩
 have hb12:Below w1.heap.size w1 w2:=by rw[hw2];exact (za1 _ _).alloc (by simp) _
 have p0:zbi g (.slice xa n1 c1) (.slice xb n2 c2) w2:=by rw[hw2,hg];exact za0 (za1 _ _) (zag rfl)
 have hbw2:=hb1.trans (hb12.mono hb1.size)
 have hB2:=HB.out _ hbw2
 obtain⟨Hx,Hb1,Hb12,Hp0,Hbw2,HB2⟩:=hzRecipeJoins6 hx hb1 hb12 p0 hbw2 hB2;clear hx hb1 hb12 p0 hbw2 hB2
 go_upto_region 4 with (fail)
 rw[← hw2,← hg]
 clear hw2 hg
 go_wp2_with fail
 refine HB2.out.mono ?_
 rintro e w3 ⟨ya,m1,e1,yb,m2,e2,v1,v2,eb,rfl,hy,hb3⟩
 obtain⟨q,hq⟩ : ∃ g,g=w3.heap.size:=⟨_,rfl⟩
 obtain⟨w4,hw4⟩ : ∃ W,W=(w3.alloc (.cells #[.slice ya m1 e1,.slice yb m2 e2] 73)).alloc (.cells #[.int .i64 v1,.int .i64 v2] 40):=⟨_,rfl⟩
 have hb34:Below w3.heap.size w3 w4:=by rw[hw4];exact (za1 _ _).alloc (by simp) _
 have p1:zbi q (.slice ya m1 e1) (.slice yb m2 e2) w4:=by rw[hw4,hq];exact za0 (za1 _ _) (zag rfl)
 have hb24:=hb3.trans (hb34.mono hb3.size)
 have p0':=za0 hb24 Hp0.out
 have hbw4:=Hbw2.out.trans (hb24.mono Hbw2.out.size)
 have hC4:=HC.out _ hbw4
 obtain⟨Hy,Hb3,Hb34,Hp1,Hb24,Hp0',Hbw4,HC4⟩:=hzRecipeJoins8 hy hb3 hb34 p1 hb24 p0' hbw4 hC4;clear hy hb3 hb34 p1 hb24 p0' hbw4 hC4
 go_upto_region 5 with (fail)
 rw[← hw4,← hq]
 clear hw4 hq
 by_cases h1:ea=0
 case neg =>
  have k3:(ea != 0)=true:=by simpa using h1
  have H1:=zal h1;clear h1
  go_wp2_with fail
  refine (HF.out _ Hbw4.out).mono ?_
  rintro e w5 ⟨rfl,hb5⟩
  have hbz:=Hbw4.out.trans (hb5.mono Hbw4.out.size)
  obtain⟨Hb5,Hbz⟩:=hzRecipeJoins2 hb5 hbz;clear hb5 hbz
  go_wp2_with fail
  go_ret
  exact⟨rfl,Hbz.out⟩
 have k3:(ea != 0)=false:=by rw[h1];rfl
 by_cases h2:eb=0
 case neg =>
  have k4:(eb != 0)=true:=by simpa using h2
  obtain⟨H1,H2⟩:=hzRecipeJoins2 h1 h2;clear h1 h2
  go_wp2_with fail
  refine (HF.out _ Hbw4.out).mono ?_
  rintro e w5 ⟨rfl,hb5⟩
  have hbz:=Hbw4.out.trans (hb5.mono Hbw4.out.size)
  obtain⟨Hb5,Hbz⟩:=hzRecipeJoins2 hb5 hbz;clear hb5 hbz
  go_wp2_with fail
  go_ret
  exact⟨rfl,Hbz.out⟩
 have k4:(eb != 0)=false:=by rw[h2];rfl
 obtain⟨x,hox,hrx⟩ : ∃ x,oa=some x∧zhu w1 (.slice xa n1 c1) (.slice xb n2 c2) x:=by
  rcases Hx.out with⟨x,e1,_,e2⟩ | ⟨_,e⟩
  ·exact⟨x,e1,e2⟩
  exact absurd h1 e
 obtain⟨y,hoy,hry⟩ : ∃ y,ob=some y∧zhu w3 (.slice ya m1 e1) (.slice yb m2 e2) y:=by
  rcases Hy.out with⟨y,e1,_,e2⟩ | ⟨_,e⟩
  ·exact⟨y,e1,e2⟩
  exact absurd h2 e
 obtain⟨z,hoz,hbare,hx1,hx2,hy1,hy2⟩:=Hjoin.out x y hox hoy
 have hrx4:=hrx.below (Hb12.out.trans (Hb24.out.mono Hb12.out.size))
 have hry4:=hry.below Hb34.out
 obtain⟨H1,H2,Hoz,Hbare,Hrx,Hry,Hrx4,Hry4,Hox,Hoy,Hx1,Hx2,Hy1,Hy2⟩:=hzRecipeJoins14 h1 h2 hoz hbare hrx hry hrx4 hry4 hox hoy hx1 hx2 hy1 hy2;clear h1 h2 hoz hbare hrx hry hrx4 hry4 hox hoy hx1 hx2 hy1 hy2
 go_wp2_with fail
 rw[← htc]
 clear htc
 refine HC4.out.mono ?_
 rintro e w5 ⟨za,p1,f1,zb,p2,f2,y1,y2,ec,rfl,hzz,hb5⟩
 obtain⟨hec,hrz⟩ : ec=0∧zhu w5 (.slice za p1 f1) (.slice zb p2 f2) z:=by
  rcases hzz with⟨z',e1,e2,e3⟩ | ⟨e1,_⟩
  ·rw[Hoz.out] at e1
   cases e1
   exact⟨e2,e3⟩
  rw[Hoz.out] at e1
  cases e1
 clear hzz
 subst hec
 obtain⟨ln1,ln2⟩:=zl0 Hrx4.out
 obtain⟨lm1,lm2⟩:=zl0 Hry4.out
 obtain⟨lz1,lz2⟩:=zl0 hrz
 obtain⟨lb1,lb2⟩:=both_len Hbare.out
 have jw1:IntKind.i64.wrap ((n1:Int)+(m1:Int))=((p1:Nat):Int):=by
  have:=Hx1.out
  have:=Hy1.out
  rw[show (n1:Int)+(m1:Int)=((p1:Nat):Int) by omega]
  exact IntWalk.i64_in _ (by omega)
 have jw2:IntKind.i64.wrap ((n2:Int)+(m2:Int))=((p2:Nat):Int):=by
  have:=Hx2.out
  have:=Hy2.out
  rw[show (n2:Int)+(m2:Int)=((p2:Nat):Int) by omega]
  exact IntWalk.i64_in _ (by omega)
 obtain⟨h,hh⟩ : ∃ g,g=w5.heap.size:=⟨_,rfl⟩
 obtain⟨w6,hw6⟩ : ∃ W,W=(w5.alloc (.cells #[.slice za p1 f1,.slice zb p2 f2] 73)).alloc (.cells #[.int .i64 y1,.int .i64 y2] 40):=⟨_,rfl⟩
 have hb56:Below w5.heap.size w5 w6:=by rw[hw6];exact (za1 _ _).alloc (by simp) _
 have p2':zbi h (.slice za p1 f1) (.slice zb p2 f2) w6:=by rw[hw6,hh];exact za0 (za1 _ _) (zag rfl)
 have hb46:=hb5.trans (hb56.mono hb5.size)
 have p0'':=za0 hb46 Hp0'.out
 have p1':=za0 hb46 Hp1.out
 have hrx6:=Hrx4.out.below hb46
 have hry6:=Hry4.out.below hb46
 have hrz6:=hrz.below hb56
 have hbw6:=Hbw4.out.trans (hb46.mono Hbw4.out.size)
 have hcells:∀ W,Below w6.heap.size w6 W→W.cell? ⟨g,0,none⟩=some (.slice xa n1 c1)∧W.cell? ⟨g,1,none⟩=some (.slice xb n2 c2)∧W.cell? ⟨q,0,none⟩=some (.slice ya m1 e1)∧W.cell? ⟨q,1,none⟩=some (.slice yb m2 e2)∧W.cell? ⟨h,0,none⟩=some (.slice za p1 f1)∧W.cell? ⟨h,1,none⟩=some (.slice zb p2 f2):=fun W hW=>by
  obtain⟨a1,a2,-⟩:=zar (za0 hW p0'')
  obtain⟨b1,b2,-⟩:=zar (za0 hW p1')
  obtain⟨c1,c2,-⟩:=zar (za0 hW p2')
  exact⟨a1,a2,b1,b2,c1,c2⟩
 obtain⟨css,xc1,xc2,xc3,hl1x,xc5,h11x,xc7⟩:=zh8 (by decide) pk_one hrx6.1
 obtain⟨dss,yc1,yc2,yc3,hl1y,yc5,h11y,yc7⟩:=zh8 (by decide) pk_one hry6.1
 obtain⟨cst,zc1,zc2,zc3,hl2x,zc5,h12x,zc7⟩:=zh8 (by decide) pf_one hrx6.2
 obtain⟨dst,vc1,vc2,vc3,hl2y,vc5,h12y,vc7⟩:=zh8 (by decide) pf_one hry6.2
 have hlit1:∀ W:World,w6.heap.size≤W.heap.size→(W.alloc (.cells #[] 123)).ownsRow w6.heap.size 123 8 (.slice (some ⟨W.heap.size,0,none⟩) 0 0) 0 []:=fun W hW=>World.ownsRow_lit (base:=w6.heap.size) (e:=123) (size:=8) W #[] 0 hW (by decide) rfl
 have hlit2:∀ W:World,w6.heap.size≤W.heap.size→(W.alloc (.cells #[] 125)).ownsRow w6.heap.size 125 3 (.slice (some ⟨W.heap.size,0,none⟩) 0 0) 0 []:=fun W hW=>World.ownsRow_lit (base:=w6.heap.size) (e:=125) (size:=3) W #[] 0 hW (by decide) rfl
 have hbn1x:(0+n1) * 168≤140737488355328:=by have:=Hx1.out;omega
 have hbn1y:(0+n1+m1) * 168≤140737488355328:=by have:=Hx1.out;have:=Hy1.out;omega
 have hbn2x:(0+n2) * 48≤140737488355328:=by have:=Hx2.out;omega
 have hbn2y:(0+n2+m2) * 48≤140737488355328:=by have:=Hx2.out;have:=Hy2.out;omega
 have hbm1x:0+n1≤maxLen:=by unfold maxLen;omega
 have hbm1y:0+n1+m1≤maxLen:=by unfold maxLen;omega
 have hbm2x:0+n2≤maxLen:=by unfold maxLen;omega
 have hbm2y:0+n2+m2≤maxLen:=by unfold maxLen;omega
 have hc1x:∀ W,Below w6.heap.size w6 W→∀ j u,css.flatten[j]? = some u→∃ b off,xa=some ⟨b,off,none⟩∧W.cell? ⟨b,off+j,none⟩=some u:=fun W hW j u hu=>by
  obtain⟨b,off,e1,e2⟩:=xc5 j u hu
  exact⟨b,off,e1,cell_later hW e2⟩
 have hc1y:∀ W,Below w6.heap.size w6 W→∀ j u,dss.flatten[j]? = some u→∃ b off,ya=some ⟨b,off,none⟩∧W.cell? ⟨b,off+j,none⟩=some u:=fun W hW j u hu=>by
  obtain⟨b,off,e1,e2⟩:=yc5 j u hu
  exact⟨b,off,e1,cell_later hW e2⟩
 have hc2x:∀ W,Below w6.heap.size w6 W→∀ j u,cst.flatten[j]? = some u→∃ b off,xb=some ⟨b,off,none⟩∧W.cell? ⟨b,off+j,none⟩=some u:=fun W hW j u hu=>by
  obtain⟨b,off,e1,e2⟩:=zc5 j u hu
  exact⟨b,off,e1,cell_later hW e2⟩
 have hc2y:∀ W,Below w6.heap.size w6 W→∀ j u,dst.flatten[j]? = some u→∃ b off,yb=some ⟨b,off,none⟩∧W.cell? ⟨b,off+j,none⟩=some u:=fun W hW j u hu=>by
  obtain⟨b,off,e1,e2⟩:=vc5 j u hu
  exact⟨b,off,e1,cell_later hW e2⟩
 obtain⟨N1,hN1⟩ : ∃ N,N=0+n1+m1:=⟨_,rfl⟩
 obtain⟨N2,hN2⟩ : ∃ N,N=0+n2+m2:=⟨_,rfl⟩
 have hSm:∀ (W:World) (v u:Value) (B B':Nat),Below w6.heap.size w6 W→W.ownsRow B 123 8 v N1 (css.flatten ++ dss.flatten)→W.ownsRow B' 125 3 u N2 (cst.flatten ++ dst.flatten)→zhu W v u (both x y):=fun W v u B B' hW ho hp =>
  ⟨zpg (by decide) xc1 yc1 xc3 yc3 (by rw[← xc2,← yc2,← Nat.zero_add n1,← hN1];exact ho) (fun i cs x e1 e2=>zit _ _ _ _ (xc7 i cs x e1 e2) hW) (fun i cs x e1 e2=>zit _ _ _ _ (yc7 i cs x e1 e2) hW),
   zpg (by decide) zc1 vc1 zc3 vc3 (by rw[← zc2,← vc2,← Nat.zero_add n2,← hN2];exact hp) (fun i cs x e1 e2=>ziu _ _ _ _ (zc7 i cs x e1 e2) hW) (fun i cs x e1 e2=>ziu _ _ _ _ (vc7 i cs x e1 e2) hW)⟩
 have hsame:zhk z (both x y)=true:=znu.2 Hbare.out
 have hSame:∀ (W:World) (a1 a2:Option Addr) (n1 n2 c1 c2:Nat),Below w6.heap.size w6 W→zhu W (.slice a1 n1 c1) (.slice a2 n2 c2) (both x y)→Calls Tryz.prog 42 #[.agg #[.slice za p1 f1,.slice zb p2 f2],.agg #[.slice a1 n1 c1,.slice a2 n2 c2],.bool false] W fun e w'=>e = .returned (.bool true)∧Below W.heap.size W w':=fun W a1 a2 n1 n2 c1 c2 hW hr=>by
  have h:=znv (hrz6.below hW) hr
  rw[hsame] at h
  exact h
 obtain⟨Hxc1,Hxc2,Hxc3,Hl1x,Hxc5,H11x,Hxc7,Hyc1,Hyc2,Hyc3,Hl1y,Hyc5,H11y,Hyc7,Hzc1,Hzc2⟩:=hzRecipeJoins16 xc1 xc2 xc3 hl1x xc5 h11x xc7 yc1 yc2 yc3 hl1y yc5 h11y yc7 zc1 zc2;obtain⟨Hzc3,Hl2x,Hzc5,H12x,Hzc7,Hvc1,Hvc2,Hvc3,Hl2y,Hvc5,H12y,Hvc7,Hlit1,Hlit2,Hbn1x,Hbn1y⟩:=hzRecipeJoins16 zc3 hl2x zc5 h12x zc7 vc1 vc2 vc3 hl2y vc5 h12y vc7 hlit1 hlit2 hbn1x hbn1y;obtain⟨Hbn2x,Hbn2y,Hbm1x,Hbm1y,Hbm2x,Hbm2y,Hc1x,Hc1y,Hc2x,Hc2y,HSm,Hsame,HSame,HN1,HN2⟩:=hzRecipeJoins15 hbn2x hbn2y hbm1x hbm1y hbm2x hbm2y hc1x hc1y hc2x hc2y hSm hsame hSame hN1 hN2;clear xc1 xc2 xc3 hl1x xc5 h11x xc7 yc1 yc2 yc3 hl1y yc5 h11y yc7 zc1 zc2 zc3 hl2x zc5 h12x zc7 vc1 vc2 vc3 hl2y vc5 h12y vc7 hlit1 hlit2 hbn1x hbn1y hbn2x hbn2y hbm1x hbm1y hbm2x hbm2y hc1x hc1y hc2x hc2y hSm hsame hSame hN1 hN2
 clear k3 k4 k1 k2
 obtain⟨Hrz,Hb5,Hb56,Hb46,Hp0'',Hp1',Hrx6,Hry6,Hrz6,Hbw6,Hcells,Hln1,Hln2,Hlm1,Hlm2,Hlz1⟩:=hzRecipeJoins16 hrz hb5 hb56 hb46 p0'' p1' hrx6 hry6 hrz6 hbw6 hcells ln1 ln2 lm1 lm2 lz1;obtain⟨Hlz2,Hlb1,Hlb2⟩:=hzRecipeJoins3 lz2 lb1 lb2;clear hrz hb5 hb56 hb46 p0'' p1' hrx6 hry6 hrz6 hbw6 hcells ln1 ln2 lm1 lm2 lz1 lz2 lb1 lb2
 obtain⟨i0,i1,-⟩:=zar p2'
 obtain⟨j0,j1,-⟩:=zar Hp0''.out
 obtain⟨l0,l1,-⟩:=zar Hp1'.out
 have Hp2':=zal p2';clear p2'
 go_upto_region 8 with (fail)
 rw[← hw6,← hh]
 clear hw6 hh
 go_upto_region 10 with (fail)
 clear i0 i1 j0 j1 l0 l1 jw1 jw2
 have hS0:=Hcells.out w6 (Below.refl _ _)
 have hb0:Below w6.heap.size w6 w6.drew:=(Below.refl _ _).drew
 refine wp_region_held_drew (S:=fun W=>W.cell? ⟨g,0,none⟩=some (.slice xa n1 c1)∧W.cell? ⟨g,1,none⟩=some (.slice xb n2 c2)∧W.cell? ⟨q,0,none⟩=some (.slice ya m1 e1)∧W.cell? ⟨q,1,none⟩=some (.slice yb m2 e2)∧W.cell? ⟨h,0,none⟩=some (.slice za p1 f1)∧W.cell? ⟨h,1,none⟩=some (.slice zb p2 f2)) (by kernel_rfl) (by exact hS0) (fun hHeld=>?_)
 obtain⟨W0,hW0⟩ : ∃ W,W=w6.drew:=⟨_,rfl⟩
 rw[← hW0] at hb0 ⊢
 clear hW0 hS0
 have hSd:=Hcells.out W0 hb0
 have Hb0:=zal hb0;clear hb0
 refine wpAnyH_take (i:=1) (v:=?_) rfl (by kernel_rfl) (by kernel_rfl) (by kernel_rfl) (fun _ _ _ h=>h) (Or.inl ⟨by kernel_rfl,?_⟩) (by assumption) ?_
 rotate_left
 ·(intro w hSw;(try dsimp only at hSw);(try obtain⟨o0,o1,o2,o3,o4,o5⟩:=hSw);go_simp;try with_reducible rfl)
 try simp only[Act.put,lA,lB,lC]
 refine wpAnyH_take (i:=2) (v:=?_) rfl (by kernel_rfl) (by kernel_rfl) (by kernel_rfl) (fun _ _ _ h=>h) (Or.inl ⟨by kernel_rfl,?_⟩) (by assumption) ?_
 rotate_left
 ·(intro w hSw;(try dsimp only at hSw);(try obtain⟨o0,o1,o2,o3,o4,o5⟩:=hSw);go_simp;try with_reducible rfl)
 try simp only[Act.put,lA,lB,lC]
 refine wpAnyH_take (i:=4) (v:=?_) rfl (by kernel_rfl) (by kernel_rfl) (by kernel_rfl) (fun _ _ _ h=>h) (Or.inl ⟨by kernel_rfl,?_⟩) (by assumption) ?_
 rotate_left
 ·(intro w hSw;(try dsimp only at hSw);(try obtain⟨o0,o1,o2,o3,o4,o5⟩:=hSw);go_simp;try with_reducible rfl)
 try simp only[Act.put,lA,lB,lC]
 refine wpAnyH_take (i:=5) (v:=?_) rfl (by kernel_rfl) (by kernel_rfl) (by kernel_rfl) (fun _ _ _ h=>h) (Or.inl ⟨by kernel_rfl,?_⟩) (by assumption) ?_
 rotate_left
 ·(intro w hSw;(try dsimp only at hSw);(try obtain⟨o0,o1,o2,o3,o4,o5⟩:=hSw);go_simp;try with_reducible rfl)
 try simp only[Act.put,lA,lB,lC]
 refine wpAnyH_take (i:=8) (v:=?_) rfl (by kernel_rfl) (by kernel_rfl) (by kernel_rfl) (fun _ _ _ h=>h) (Or.inl ⟨by kernel_rfl,?_⟩) (by assumption) ?_
 rotate_left
 ·(intro w hSw;(try dsimp only at hSw);(try obtain⟨o0,o1,o2,o3,o4,o5⟩:=hSw);go_simp;try with_reducible rfl)
 try simp only[Act.put,lA,lB,lC]
 refine wpAnyH_take (i:=9) (v:=?_) rfl (by kernel_rfl) (by kernel_rfl) (by kernel_rfl) (fun _ _ _ h=>h) (Or.inl ⟨by kernel_rfl,?_⟩) (by assumption) ?_
 rotate_left
 ·(intro w hSw;(try dsimp only at hSw);(try obtain⟨o0,o1,o2,o3,o4,o5⟩:=hSw);go_simp;try with_reducible rfl)
 try simp only[Act.put,lA,lB,lC]
 refine wpAnyH_take (i:=11) (v:=?_) rfl (by kernel_rfl) (by kernel_rfl) (by kernel_rfl) (fun _ _ _ h=>h) (Or.inl ⟨by kernel_rfl,?_⟩) (by assumption) ?_
 rotate_left
 ·(intro w hSw;(try dsimp only at hSw);(try obtain⟨o0,o1,o2,o3,o4,o5⟩:=hSw);go_simp;try with_reducible rfl)
 try simp only[Act.put,lA,lB,lC]
 refine wpAnyH_take (i:=12) (v:=?_) rfl (by kernel_rfl) (by kernel_rfl) (by kernel_rfl) (fun _ _ _ h=>h) (Or.inl ⟨by kernel_rfl,?_⟩) (by assumption) ?_
 rotate_left
 ·(intro w hSw;(try dsimp only at hSw);(try obtain⟨o0,o1,o2,o3,o4,o5⟩:=hSw);go_simp;try with_reducible rfl)
 try simp only[Act.put,lA,lB,lC]
 refine wpAnyH_ready (rs:=[0,7,15]) (by kernel_rfl) (by simp) ?_
 refine AllReadyH.cons rfl (fun K hK=>?_) (AllReadyH.cons rfl (fun K hK=>?_) (AllReadyH.cons rfl (fun K hK=>?_) AllReadyH.nil))
 ·go_simp
  obtain⟨W01,hW01⟩ : ∃ z,z=W0.alloc (.cells #[] 123):=⟨_,rfl⟩
  have hb01:Below w6.heap.size w6 W01:=by rw[hW01];exact Hb0.out.trans ((za1 _ _).mono Hb0.out.size)
  have hr101:W01.ownsRow w6.heap.size 123 8 (.slice (some ⟨W0.heap.size,0,none⟩) 0 0) 0 []:=by rw[hW01];exact Hlit1.out W0 Hb0.out.size
  rw[← hW01]
  clear hW01
  obtain⟨Hb01,Hr101⟩:=hzRecipeJoins2 hb01 hr101;clear hb01 hr101
  refine hK.out _ _ (by exact Hcells.out _ Hb01.out) (fun hHeld=>?_)
  clear hK K
  try simp only[Act.put,lA,lB,lC]
  refine wpAnyH_ready (rs:=[3,7,15]) (by kernel_rfl) (by simp) ?_
  refine AllReadyH.cons rfl (fun K hK=>?_) (AllReadyH.cons rfl (fun K hK=>?_) (AllReadyH.cons rfl (fun K hK=>?_) AllReadyH.nil))
  ·refine za4 zav (.tmp 80) (.tmp 82) rfl w6.heap.size (.slice (some ⟨W0.heap.size,0,none⟩) 0 0) 0 [] rfl Hr101.out xa n1 c1 css.flatten rfl Hl1x.out (Hc1x.out _ Hb01.out) H11x.out Hbn1x.out Hbm1x.out Hb01.out.size ?_
   intro v011 W011 hr1011 hg011 _
   have hb011:Below w6.heap.size w6 W011:=zai Hb01.out Hr101.out (Nat.le_refl _) hg011 Hb01.out.size
   have hr1011:W011.ownsRow w6.heap.size 123 8 v011 (0+n1) css.flatten:=hr1011
   obtain⟨Hb011,Hr1011,Hg011⟩:=hzRecipeJoins3 hb011 hr1011 hg011;clear hb011 hr1011 hg011
   refine hK.out _ _ (by exact Hcells.out _ Hb011.out) (fun hHeld=>?_)
   clear hK K
   try simp only[Act.put,lA,lB,lC]
   refine wpAnyH_ready (rs:=[6,7,15]) (by kernel_rfl) (by simp) ?_
   refine AllReadyH.cons rfl (fun K hK=>?_) (AllReadyH.cons rfl (fun K hK=>?_) (AllReadyH.cons rfl (fun K hK=>?_) AllReadyH.nil))
   ·refine za4 zav (.tmp 83) (.tmp 85) rfl w6.heap.size v011 (0+n1) css.flatten rfl Hr1011.out ya m1 e1 dss.flatten rfl Hl1y.out (Hc1y.out _ Hb011.out) H11y.out Hbn1y.out Hbm1y.out Hb011.out.size ?_
    intro v0111 W0111 hr10111 hg0111 _
    have hb0111:Below w6.heap.size w6 W0111:=zai Hb011.out Hr1011.out (Nat.le_refl _) hg0111 Hb011.out.size
    obtain⟨Hb0111,Hr10111,Hg0111⟩:=hzRecipeJoins3 hb0111 hr10111 hg0111;clear hb0111 hr10111 hg0111
    refine hK.out _ _ (by exact Hcells.out _ Hb0111.out) (fun hHeld=>?_)
    clear hK K
    try simp only[Act.put,lA,lB,lC]
    refine wpAnyH_ready (rs:=[7,15]) (by kernel_rfl) (by simp) ?_
    refine AllReadyH.cons rfl (fun K hK=>?_) (AllReadyH.cons rfl (fun K hK=>?_) AllReadyH.nil)
    ·go_simp
     obtain⟨W01112,hW01112⟩ : ∃ z,z=W0111.alloc (.cells #[] 125):=⟨_,rfl⟩
     have hb01112:Below w6.heap.size w6 W01112:=by rw[hW01112];exact Hb0111.out.trans ((za1 _ _).mono Hb0111.out.size)
     have hr201112:W01112.ownsRow w6.heap.size 125 3 (.slice (some ⟨W0111.heap.size,0,none⟩) 0 0) 0 []:=by rw[hW01112];exact Hlit2.out W0111 Hb0111.out.size
     have hr101112:=za6 Hr10111.out (za1 W0111 (.cells #[] 125))
     rw[← hW01112]
     rw[← hW01112] at hr101112
     clear hW01112
     obtain⟨Hb01112,Hr201112,Hr101112⟩:=hzRecipeJoins3 hb01112 hr201112 hr101112;clear hb01112 hr201112 hr101112
     refine hK.out _ _ (by exact Hcells.out _ Hb01112.out) (fun hHeld=>?_)
     clear hK K
     try simp only[Act.put,lA,lB,lC]
     refine wpAnyH_ready (rs:=[10,15]) (by kernel_rfl) (by simp) ?_
     refine AllReadyH.cons rfl (fun K hK=>?_) (AllReadyH.cons rfl (fun K hK=>?_) AllReadyH.nil)
     ·refine za4 zak (.tmp 87) (.tmp 89) rfl w6.heap.size (.slice (some ⟨W0111.heap.size,0,none⟩) 0 0) 0 [] rfl Hr201112.out xb n2 c2 cst.flatten rfl Hl2x.out (Hc2x.out _ Hb01112.out) H12x.out Hbn2x.out Hbm2x.out Hb01112.out.size ?_
      intro v011122 W011122 hr2011122 hg011122 _
      have hb011122:Below w6.heap.size w6 W011122:=zai Hb01112.out Hr201112.out (Nat.le_refl _) hg011122 Hb01112.out.size
      have hr2011122:W011122.ownsRow w6.heap.size 125 3 v011122 (0+n2) cst.flatten:=hr2011122
      have hr1011122:=zae Hr201112.out Hr101112.out (by decide) hg011122
      obtain⟨Hb011122,Hr2011122,Hg011122,Hr1011122⟩:=hzRecipeJoins4 hb011122 hr2011122 hg011122 hr1011122;clear hb011122 hr2011122 hg011122 hr1011122
      refine hK.out _ _ (by exact Hcells.out _ Hb011122.out) (fun hHeld=>?_)
      clear hK K
      try simp only[Act.put,lA,lB,lC]
      refine wpAnyH_ready (rs:=[13,15]) (by kernel_rfl) (by simp) ?_
      refine AllReadyH.cons rfl (fun K hK=>?_) (AllReadyH.cons rfl (fun K hK=>?_) AllReadyH.nil)
      ·refine za4 zak (.tmp 90) (.tmp 92) rfl w6.heap.size v011122 (0+n2) cst.flatten rfl Hr2011122.out yb m2 e2 dst.flatten rfl Hl2y.out (Hc2y.out _ Hb011122.out) H12y.out Hbn2y.out Hbm2y.out Hb011122.out.size ?_
       intro v0111222 W0111222 hr20111222 hg0111222 _
       have hb0111222:Below w6.heap.size w6 W0111222:=zai Hb011122.out Hr2011122.out (Nat.le_refl _) hg0111222 Hb011122.out.size
       have hr10111222:=zae Hr2011122.out Hr1011122.out (by decide) hg0111222
       obtain⟨Hb0111222,Hr20111222,Hg0111222,Hr10111222⟩:=hzRecipeJoins4 hb0111222 hr20111222 hg0111222 hr10111222;clear hb0111222 hr20111222 hg0111222 hr10111222
       refine hK.out _ _ (by exact Hcells.out _ Hb0111222.out) (fun hHeld=>?_)
       clear hK K
       try simp only[Act.put,lA,lB,lC]
       have hr1:=Hr10111222.out
       have hr2:=Hr20111222.out
       rw[← HN1.out] at hr1
       rw[← HN2.out] at hr2
       obtain⟨a9,c9,rfl⟩:=za9 hr1
       obtain⟨a8,c8,rfl⟩:=za9 hr2
       clear hr1 hr2
       have hSd:=Hcells.out W0111222 Hb0111222.out
       refine wpAnyH_take (i:=14) (v:=?_) rfl (by kernel_rfl) (by kernel_rfl) (by kernel_rfl) (fun _ _ _ h=>h) (Or.inl ⟨by kernel_rfl,?_⟩) (by assumption) ?_
       rotate_left
       ·(intro w hSw;(try dsimp only at hSw);(try obtain⟨o0,o1,o2,o3,o4,o5⟩:=hSw);go_simp;try with_reducible rfl)
       try simp only[Act.put,lA,lB,lC]
       refine wpAnyH_ready (rs:=[15]) (by kernel_rfl) (by simp) ?_
       refine AllReadyH.cons rfl (fun K hK=>?_) AllReadyH.nil
       go_simp
       obtain⟨W01112223,hW01112223⟩ : ∃ z,z=W0111222.alloc (.cells #[.slice none 0 0,.slice none 0 0] 73):=⟨_,rfl⟩
       obtain⟨gl,hgl⟩ : ∃ z,z=W0111222.heap.size:=⟨_,rfl⟩
       have hb01112223:Below w6.heap.size w6 W01112223:=by rw[hW01112223];exact Hb0111222.out.trans ((za1 _ _).mono Hb0111222.out.size)
       have pl01112223:zbi gl (.slice none 0 0) (.slice none 0 0) W01112223:=by rw[hW01112223,hgl];exact heap_alloc_new _ _
       have hge:w6.heap.size≤gl:=by rw[hgl];exact Hb0111222.out.size
       have hr101112223:=za6 Hr10111222.out (za1 W0111222 (.cells #[.slice none 0 0,.slice none 0 0] 73))
       have hr201112223:=za6 Hr20111222.out (za1 W0111222 (.cells #[.slice none 0 0,.slice none 0 0] 73))
       rw[← hW01112223,← hgl]
       rw[← hW01112223] at hr101112223 hr201112223
       clear hW01112223 hgl
       obtain⟨Hb01112223,Hpl01112223,Hge,Hr101112223,Hr201112223⟩:=hzRecipeJoins5 hb01112223 pl01112223 hge hr101112223 hr201112223;clear hb01112223 pl01112223 hge hr101112223 hr201112223
       refine hK.out _ _ (by exact Hcells.out _ Hb01112223.out) (fun hHeld=>?_)
       clear hK K
       try simp only[Act.put,lA,lB,lC]
       have hr1:=Hr101112223.out
       have hr2:=Hr201112223.out
       rw[← HN1.out] at hr1
       rw[← HN2.out] at hr2
       refine wpAnyH_ready (rs:=[16]) (by kernel_rfl) (by simp) ?_
       refine AllReadyH.cons rfl (fun K hK=>?_) AllReadyH.nil
       have fz0:=za5 Hpl01112223.out 0
       have fz1:=za5 Hpl01112223.out 1
       have fc0:=za2 Hpl01112223.out 0
       have fc1:=za2 Hpl01112223.out 1
       simp only[List.getElem?_toArray,List.getElem?_cons_zero,List.getElem?_cons_succ] at fc0 fc1
       go_simp
       obtain⟨wl,hwl⟩ : ∃ W,W=(W01112223.setCell ⟨gl,0,none⟩ (.slice a9 N1 c9)).setCell ⟨gl,1,none⟩ (.slice a8 N2 c8):=⟨_,rfl⟩
       have hFl:Frm (fun k=>k=gl) W01112223 wl:=by rw[hwl];exact zad (zad (Frm.refl _ _) 0 _) 1 _
       have pl:zbi gl (.slice a9 N1 c9) (.slice a8 N2 c8) wl:=by rw[hwl];exact heap_setCell_same _ gl 1 _ _ _ (heap_setCell_same _ gl 0 _ _ _ Hpl01112223.out)
       have hbl:Below w6.heap.size w6 wl:=Hb01112223.out.trans (hFl.below Hb01112223.out.size (fun k hk=>by rw[hk];exact Hge.out))
       have hr1':=hFl.owns hr1 (fun k hk e=>za3 hr1 Hpl01112223.out (by decide) (by rw[hk,e]))
       have hr2':=hFl.owns hr2 (fun k hk e=>za3 hr2 Hpl01112223.out (by decide) (by rw[hk,e]))
       have hrd:=HSm.out wl _ _ _ _ hbl hr1' hr2'
       rw[← hwl]
       clear hwl fz0 fz1 fc0 fc1
       obtain⟨Hr1,Hr2,HFl,Hr1',Hr2',Hpl,Hbl,Hrd⟩:=hzRecipeJoins8 hr1 hr2 hFl hr1' hr2' pl hbl hrd;clear hr1 hr2 hFl hr1' hr2' pl hbl hrd
       refine hK.out _ _ (by exact Hcells.out _ Hbl.out) (fun hHeld=>?_)
       clear hK K
       try simp only[Act.put,lA,lB,lC]
       refine wpAnyH_done (by kernel_rfl) ?_ _
       go_simp
       have hbwl:=Hbw6.out.trans (Hbl.out.mono Hbw6.out.size)
       have Hbwl:=zal hbwl;clear hbwl
       go_wp2_with fail
       refine (HF.out _ Hbwl.out).mono ?_
       rintro e w7 ⟨rfl,hb7⟩
       have hb67:=Hbl.out.trans (hb7.mono Hbl.out.size)
       have hbw7:=Hbwl.out.trans (hb7.mono Hbwl.out.size)
       have hSm7:=HSame.out w7 _ _ _ _ _ _ hb67 (Hrd.out.below hb7)
       obtain⟨-,-,-,-,i0,i1⟩:=Hcells.out w7 hb67
       obtain⟨j0,j1,-⟩:=zar (za0 hb7 Hpl.out)
       obtain⟨Hb7,Hb67,Hbw7,HSm7⟩:=hzRecipeJoins4 hb7 hb67 hbw7 hSm7;clear hb7 hb67 hbw7 hSm7
       go_wp2_with fail
       refine HSm7.out.mono ?_
       rintro e w8 ⟨rfl,hb8⟩
       have hbw8:=Hbw7.out.trans (hb8.mono Hbw7.out.size)
       clear i0 i1 j0 j1
       obtain⟨Hb8,Hbw8⟩:=hzRecipeJoins2 hb8 hbw8;clear hb8 hbw8
       go_wp2_with fail
       go_ret
       exact⟨rfl,Hbw8.out⟩
      go_simp
      obtain⟨W0111223,hW0111223⟩ : ∃ z,z=W011122.alloc (.cells #[.slice none 0 0,.slice none 0 0] 73):=⟨_,rfl⟩
      obtain⟨gl,hgl⟩ : ∃ z,z=W011122.heap.size:=⟨_,rfl⟩
      have hb0111223:Below w6.heap.size w6 W0111223:=by rw[hW0111223];exact Hb011122.out.trans ((za1 _ _).mono Hb011122.out.size)
      have pl0111223:zbi gl (.slice none 0 0) (.slice none 0 0) W0111223:=by rw[hW0111223,hgl];exact heap_alloc_new _ _
      have hge:w6.heap.size≤gl:=by rw[hgl];exact Hb011122.out.size
      have hr10111223:=za6 Hr1011122.out (za1 W011122 (.cells #[.slice none 0 0,.slice none 0 0] 73))
      have hr20111223:=za6 Hr2011122.out (za1 W011122 (.cells #[.slice none 0 0,.slice none 0 0] 73))
      rw[← hW0111223,← hgl]
      rw[← hW0111223] at hr10111223 hr20111223
      clear hW0111223 hgl
      obtain⟨Hb0111223,Hpl0111223,Hge,Hr10111223,Hr20111223⟩:=hzRecipeJoins5 hb0111223 pl0111223 hge hr10111223 hr20111223;clear hb0111223 pl0111223 hge hr10111223 hr20111223
      refine hK.out _ _ (by exact Hcells.out _ Hb0111223.out) (fun hHeld=>?_)
      clear hK K
      try simp only[Act.put,lA,lB,lC]
      refine wpAnyH_ready (rs:=[13]) (by kernel_rfl) (by simp) ?_
      refine AllReadyH.cons rfl (fun K hK=>?_) AllReadyH.nil
      refine za4 zak (.tmp 90) (.tmp 92) rfl w6.heap.size v011122 (0+n2) cst.flatten rfl Hr20111223.out yb m2 e2 dst.flatten rfl Hl2y.out (Hc2y.out _ Hb0111223.out) H12y.out Hbn2y.out Hbm2y.out Hb0111223.out.size ?_
      intro v01112232 W01112232 hr201112232 hg01112232 _
      have hb01112232:Below w6.heap.size w6 W01112232:=zai Hb0111223.out Hr20111223.out (Nat.le_refl _) hg01112232 Hb0111223.out.size
      have hr101112232:=zae Hr20111223.out Hr10111223.out (by decide) hg01112232
      have pl01112232:=zaf Hpl0111223.out (za7 hg01112232) (za3 Hr20111223.out Hpl0111223.out (by decide))
      obtain⟨Hb01112232,Hr201112232,Hg01112232,Hr101112232,Hpl01112232⟩:=hzRecipeJoins5 hb01112232 hr201112232 hg01112232 hr101112232 pl01112232;clear hb01112232 hr201112232 hg01112232 hr101112232 pl01112232
      refine hK.out _ _ (by exact Hcells.out _ Hb01112232.out) (fun hHeld=>?_)
      clear hK K
      try simp only[Act.put,lA,lB,lC]
      have hr1:=Hr101112232.out
      have hr2:=Hr201112232.out
      rw[← HN1.out] at hr1
      rw[← HN2.out] at hr2
      obtain⟨a9,c9,rfl⟩:=za9 hr1
      obtain⟨a8,c8,rfl⟩:=za9 hr2
      clear hr1 hr2
      have hSd:=Hcells.out W01112232 Hb01112232.out
      refine wpAnyH_take (i:=14) (v:=?_) rfl (by kernel_rfl) (by kernel_rfl) (by kernel_rfl) (fun _ _ _ h=>h) (Or.inl ⟨by kernel_rfl,?_⟩) (by assumption) ?_
      rotate_left
      ·(intro w hSw;(try dsimp only at hSw);(try obtain⟨o0,o1,o2,o3,o4,o5⟩:=hSw);go_simp;try with_reducible rfl)
      try simp only[Act.put,lA,lB,lC]
      have hr1:=Hr101112232.out
      have hr2:=Hr201112232.out
      rw[← HN1.out] at hr1
      rw[← HN2.out] at hr2
      refine wpAnyH_ready (rs:=[16]) (by kernel_rfl) (by simp) ?_
      refine AllReadyH.cons rfl (fun K hK=>?_) AllReadyH.nil
      have fz0:=za5 Hpl01112232.out 0
      have fz1:=za5 Hpl01112232.out 1
      have fc0:=za2 Hpl01112232.out 0
      have fc1:=za2 Hpl01112232.out 1
      simp only[List.getElem?_toArray,List.getElem?_cons_zero,List.getElem?_cons_succ] at fc0 fc1
      go_simp
      obtain⟨wl,hwl⟩ : ∃ W,W=(W01112232.setCell ⟨gl,0,none⟩ (.slice a9 N1 c9)).setCell ⟨gl,1,none⟩ (.slice a8 N2 c8):=⟨_,rfl⟩
      have hFl:Frm (fun k=>k=gl) W01112232 wl:=by rw[hwl];exact zad (zad (Frm.refl _ _) 0 _) 1 _
      have pl:zbi gl (.slice a9 N1 c9) (.slice a8 N2 c8) wl:=by rw[hwl];exact heap_setCell_same _ gl 1 _ _ _ (heap_setCell_same _ gl 0 _ _ _ Hpl01112232.out)
      have hbl:Below w6.heap.size w6 wl:=Hb01112232.out.trans (hFl.below Hb01112232.out.size (fun k hk=>by rw[hk];exact Hge.out))
      have hr1':=hFl.owns hr1 (fun k hk e=>za3 hr1 Hpl01112232.out (by decide) (by rw[hk,e]))
      have hr2':=hFl.owns hr2 (fun k hk e=>za3 hr2 Hpl01112232.out (by decide) (by rw[hk,e]))
      have hrd:=HSm.out wl _ _ _ _ hbl hr1' hr2'
      rw[← hwl]
      clear hwl fz0 fz1 fc0 fc1
      obtain⟨Hr1,Hr2,HFl,Hr1',Hr2',Hpl,Hbl,Hrd⟩:=hzRecipeJoins8 hr1 hr2 hFl hr1' hr2' pl hbl hrd;clear hr1 hr2 hFl hr1' hr2' pl hbl hrd
      refine hK.out _ _ (by exact Hcells.out _ Hbl.out) (fun hHeld=>?_)
      clear hK K
      try simp only[Act.put,lA,lB,lC]
      refine wpAnyH_done (by kernel_rfl) ?_ _
      go_simp
      have hbwl:=Hbw6.out.trans (Hbl.out.mono Hbw6.out.size)
      have Hbwl:=zal hbwl;clear hbwl
      go_wp2_with fail
      refine (HF.out _ Hbwl.out).mono ?_
      rintro e w7 ⟨rfl,hb7⟩
      have hb67:=Hbl.out.trans (hb7.mono Hbl.out.size)
      have hbw7:=Hbwl.out.trans (hb7.mono Hbwl.out.size)
      have hSm7:=HSame.out w7 _ _ _ _ _ _ hb67 (Hrd.out.below hb7)
      obtain⟨-,-,-,-,i0,i1⟩:=Hcells.out w7 hb67
      obtain⟨j0,j1,-⟩:=zar (za0 hb7 Hpl.out)
      obtain⟨Hb7,Hb67,Hbw7,HSm7⟩:=hzRecipeJoins4 hb7 hb67 hbw7 hSm7;clear hb7 hb67 hbw7 hSm7
      go_wp2_with fail
      refine HSm7.out.mono ?_
      rintro e w8 ⟨rfl,hb8⟩
      have hbw8:=Hbw7.out.trans (hb8.mono Hbw7.out.size)
      clear i0 i1 j0 j1
      obtain⟨Hb8,Hbw8⟩:=hzRecipeJoins2 hb8 hbw8;clear hb8 hbw8
      go_wp2_with fail
      go_ret
      exact⟨rfl,Hbw8.out⟩
     go_simp
     obtain⟨W011123,hW011123⟩ : ∃ z,z=W01112.alloc (.cells #[.slice none 0 0,.slice none 0 0] 73):=⟨_,rfl⟩
     obtain⟨gl,hgl⟩ : ∃ z,z=W01112.heap.size:=⟨_,rfl⟩
     have hb011123:Below w6.heap.size w6 W011123:=by rw[hW011123];exact Hb01112.out.trans ((za1 _ _).mono Hb01112.out.size)
     have pl011123:zbi gl (.slice none 0 0) (.slice none 0 0) W011123:=by rw[hW011123,hgl];exact heap_alloc_new _ _
     have hge:w6.heap.size≤gl:=by rw[hgl];exact Hb01112.out.size
     have hr1011123:=za6 Hr101112.out (za1 W01112 (.cells #[.slice none 0 0,.slice none 0 0] 73))
     have hr2011123:=za6 Hr201112.out (za1 W01112 (.cells #[.slice none 0 0,.slice none 0 0] 73))
     rw[← hW011123,← hgl]
     rw[← hW011123] at hr1011123 hr2011123
     clear hW011123 hgl
     obtain⟨Hb011123,Hpl011123,Hge,Hr1011123,Hr2011123⟩:=hzRecipeJoins5 hb011123 pl011123 hge hr1011123 hr2011123;clear hb011123 pl011123 hge hr1011123 hr2011123
     refine hK.out _ _ (by exact Hcells.out _ Hb011123.out) (fun hHeld=>?_)
     clear hK K
     try simp only[Act.put,lA,lB,lC]
     refine wpAnyH_ready (rs:=[10]) (by kernel_rfl) (by simp) ?_
     refine AllReadyH.cons rfl (fun K hK=>?_) AllReadyH.nil
     refine za4 zak (.tmp 87) (.tmp 89) rfl w6.heap.size (.slice (some ⟨W0111.heap.size,0,none⟩) 0 0) 0 [] rfl Hr2011123.out xb n2 c2 cst.flatten rfl Hl2x.out (Hc2x.out _ Hb011123.out) H12x.out Hbn2x.out Hbm2x.out Hb011123.out.size ?_
     intro v0111232 W0111232 hr20111232 hg0111232 _
     have hb0111232:Below w6.heap.size w6 W0111232:=zai Hb011123.out Hr2011123.out (Nat.le_refl _) hg0111232 Hb011123.out.size
     have hr20111232:W0111232.ownsRow w6.heap.size 125 3 v0111232 (0+n2) cst.flatten:=hr20111232
     have hr10111232:=zae Hr2011123.out Hr1011123.out (by decide) hg0111232
     have pl0111232:=zaf Hpl011123.out (za7 hg0111232) (za3 Hr2011123.out Hpl011123.out (by decide))
     obtain⟨Hb0111232,Hr20111232,Hg0111232,Hr10111232,Hpl0111232⟩:=hzRecipeJoins5 hb0111232 hr20111232 hg0111232 hr10111232 pl0111232;clear hb0111232 hr20111232 hg0111232 hr10111232 pl0111232
     refine hK.out _ _ (by exact Hcells.out _ Hb0111232.out) (fun hHeld=>?_)
     clear hK K
     try simp only[Act.put,lA,lB,lC]
     refine wpAnyH_ready (rs:=[13]) (by kernel_rfl) (by simp) ?_
     refine AllReadyH.cons rfl (fun K hK=>?_) AllReadyH.nil
     refine za4 zak (.tmp 90) (.tmp 92) rfl w6.heap.size v0111232 (0+n2) cst.flatten rfl Hr20111232.out yb m2 e2 dst.flatten rfl Hl2y.out (Hc2y.out _ Hb0111232.out) H12y.out Hbn2y.out Hbm2y.out Hb0111232.out.size ?_
     intro v01112322 W01112322 hr201112322 hg01112322 _
     have hb01112322:Below w6.heap.size w6 W01112322:=zai Hb0111232.out Hr20111232.out (Nat.le_refl _) hg01112322 Hb0111232.out.size
     have hr101112322:=zae Hr20111232.out Hr10111232.out (by decide) hg01112322
     have pl01112322:=zaf Hpl0111232.out (za7 hg01112322) (za3 Hr20111232.out Hpl0111232.out (by decide))
     obtain⟨Hb01112322,Hr201112322,Hg01112322,Hr101112322,Hpl01112322⟩:=hzRecipeJoins5 hb01112322 hr201112322 hg01112322 hr101112322 pl01112322;clear hb01112322 hr201112322 hg01112322 hr101112322 pl01112322
     refine hK.out _ _ (by exact Hcells.out _ Hb01112322.out) (fun hHeld=>?_)
     clear hK K
     try simp only[Act.put,lA,lB,lC]
     have hr1:=Hr101112322.out
     have hr2:=Hr201112322.out
     rw[← HN1.out] at hr1
     rw[← HN2.out] at hr2
     obtain⟨a9,c9,rfl⟩:=za9 hr1
     obtain⟨a8,c8,rfl⟩:=za9 hr2
     clear hr1 hr2
     have hSd:=Hcells.out W01112322 Hb01112322.out
     refine wpAnyH_take (i:=14) (v:=?_) rfl (by kernel_rfl) (by kernel_rfl) (by kernel_rfl) (fun _ _ _ h=>h) (Or.inl ⟨by kernel_rfl,?_⟩) (by assumption) ?_
     rotate_left
     ·(intro w hSw;(try dsimp only at hSw);(try obtain⟨o0,o1,o2,o3,o4,o5⟩:=hSw);go_simp;try with_reducible rfl)
     try simp only[Act.put,lA,lB,lC]
     have hr1:=Hr101112322.out
     have hr2:=Hr201112322.out
     rw[← HN1.out] at hr1
     rw[← HN2.out] at hr2
     refine wpAnyH_ready (rs:=[16]) (by kernel_rfl) (by simp) ?_
     refine AllReadyH.cons rfl (fun K hK=>?_) AllReadyH.nil
     have fz0:=za5 Hpl01112322.out 0
     have fz1:=za5 Hpl01112322.out 1
     have fc0:=za2 Hpl01112322.out 0
     have fc1:=za2 Hpl01112322.out 1
     simp only[List.getElem?_toArray,List.getElem?_cons_zero,List.getElem?_cons_succ] at fc0 fc1
     go_simp
     obtain⟨wl,hwl⟩ : ∃ W,W=(W01112322.setCell ⟨gl,0,none⟩ (.slice a9 N1 c9)).setCell ⟨gl,1,none⟩ (.slice a8 N2 c8):=⟨_,rfl⟩
     have hFl:Frm (fun k=>k=gl) W01112322 wl:=by rw[hwl];exact zad (zad (Frm.refl _ _) 0 _) 1 _
     have pl:zbi gl (.slice a9 N1 c9) (.slice a8 N2 c8) wl:=by rw[hwl];exact heap_setCell_same _ gl 1 _ _ _ (heap_setCell_same _ gl 0 _ _ _ Hpl01112322.out)
     have hbl:Below w6.heap.size w6 wl:=Hb01112322.out.trans (hFl.below Hb01112322.out.size (fun k hk=>by rw[hk];exact Hge.out))
     have hr1':=hFl.owns hr1 (fun k hk e=>za3 hr1 Hpl01112322.out (by decide) (by rw[hk,e]))
     have hr2':=hFl.owns hr2 (fun k hk e=>za3 hr2 Hpl01112322.out (by decide) (by rw[hk,e]))
     have hrd:=HSm.out wl _ _ _ _ hbl hr1' hr2'
     rw[← hwl]
     clear hwl fz0 fz1 fc0 fc1
     obtain⟨Hr1,Hr2,HFl,Hr1',Hr2',Hpl,Hbl,Hrd⟩:=hzRecipeJoins8 hr1 hr2 hFl hr1' hr2' pl hbl hrd;clear hr1 hr2 hFl hr1' hr2' pl hbl hrd
     refine hK.out _ _ (by exact Hcells.out _ Hbl.out) (fun hHeld=>?_)
     clear hK K
     try simp only[Act.put,lA,lB,lC]
     refine wpAnyH_done (by kernel_rfl) ?_ _
     go_simp
     have hbwl:=Hbw6.out.trans (Hbl.out.mono Hbw6.out.size)
     have Hbwl:=zal hbwl;clear hbwl
     go_wp2_with fail
     refine (HF.out _ Hbwl.out).mono ?_
     rintro e w7 ⟨rfl,hb7⟩
     have hb67:=Hbl.out.trans (hb7.mono Hbl.out.size)
     have hbw7:=Hbwl.out.trans (hb7.mono Hbwl.out.size)
     have hSm7:=HSame.out w7 _ _ _ _ _ _ hb67 (Hrd.out.below hb7)
     obtain⟨-,-,-,-,i0,i1⟩:=Hcells.out w7 hb67
     obtain⟨j0,j1,-⟩:=zar (za0 hb7 Hpl.out)
     obtain⟨Hb7,Hb67,Hbw7,HSm7⟩:=hzRecipeJoins4 hb7 hb67 hbw7 hSm7;clear hb7 hb67 hbw7 hSm7
     go_wp2_with fail
     refine HSm7.out.mono ?_
     rintro e w8 ⟨rfl,hb8⟩
     have hbw8:=Hbw7.out.trans (hb8.mono Hbw7.out.size)
     clear i0 i1 j0 j1
     obtain⟨Hb8,Hbw8⟩:=hzRecipeJoins2 hb8 hbw8;clear hb8 hbw8
     go_wp2_with fail
     go_ret
     exact⟨rfl,Hbw8.out⟩
    go_simp
    obtain⟨W01113,hW01113⟩ : ∃ z,z=W0111.alloc (.cells #[.slice none 0 0,.slice none 0 0] 73):=⟨_,rfl⟩
    obtain⟨gl,hgl⟩ : ∃ z,z=W0111.heap.size:=⟨_,rfl⟩
    have hb01113:Below w6.heap.size w6 W01113:=by rw[hW01113];exact Hb0111.out.trans ((za1 _ _).mono Hb0111.out.size)
    have pl01113:zbi gl (.slice none 0 0) (.slice none 0 0) W01113:=by rw[hW01113,hgl];exact heap_alloc_new _ _
    have hge:w6.heap.size≤gl:=by rw[hgl];exact Hb0111.out.size
    have hr101113:=za6 Hr10111.out (za1 W0111 (.cells #[.slice none 0 0,.slice none 0 0] 73))
    rw[← hW01113,← hgl]
    rw[← hW01113] at hr101113
    clear hW01113 hgl
    obtain⟨Hb01113,Hpl01113,Hge,Hr101113⟩:=hzRecipeJoins4 hb01113 pl01113 hge hr101113;clear hb01113 pl01113 hge hr101113
    refine hK.out _ _ (by exact Hcells.out _ Hb01113.out) (fun hHeld=>?_)
    clear hK K
    try simp only[Act.put,lA,lB,lC]
    refine wpAnyH_ready (rs:=[7]) (by kernel_rfl) (by simp) ?_
    refine AllReadyH.cons rfl (fun K hK=>?_) AllReadyH.nil
    go_simp
    obtain⟨W011132,hW011132⟩ : ∃ z,z=W01113.alloc (.cells #[] 125):=⟨_,rfl⟩
    have hb011132:Below w6.heap.size w6 W011132:=by rw[hW011132];exact Hb01113.out.trans ((za1 _ _).mono Hb01113.out.size)
    have hr2011132:W011132.ownsRow w6.heap.size 125 3 (.slice (some ⟨W01113.heap.size,0,none⟩) 0 0) 0 []:=by rw[hW011132];exact Hlit2.out W01113 Hb01113.out.size
    have hr1011132:=za6 Hr101113.out (za1 W01113 (.cells #[] 125))
    have pl011132:=za0 (za1 W01113 (.cells #[] 125)) Hpl01113.out
    rw[← hW011132]
    rw[← hW011132] at hr1011132 pl011132
    clear hW011132
    obtain⟨Hb011132,Hr2011132,Hr1011132,Hpl011132⟩:=hzRecipeJoins4 hb011132 hr2011132 hr1011132 pl011132;clear hb011132 hr2011132 hr1011132 pl011132
    refine hK.out _ _ (by exact Hcells.out _ Hb011132.out) (fun hHeld=>?_)
    clear hK K
    try simp only[Act.put,lA,lB,lC]
    refine wpAnyH_ready (rs:=[10]) (by kernel_rfl) (by simp) ?_
    refine AllReadyH.cons rfl (fun K hK=>?_) AllReadyH.nil
    refine za4 zak (.tmp 87) (.tmp 89) rfl w6.heap.size (.slice (some ⟨W01113.heap.size,0,none⟩) 0 0) 0 [] rfl Hr2011132.out xb n2 c2 cst.flatten rfl Hl2x.out (Hc2x.out _ Hb011132.out) H12x.out Hbn2x.out Hbm2x.out Hb011132.out.size ?_
    intro v0111322 W0111322 hr20111322 hg0111322 _
    have hb0111322:Below w6.heap.size w6 W0111322:=zai Hb011132.out Hr2011132.out (Nat.le_refl _) hg0111322 Hb011132.out.size
    have hr20111322:W0111322.ownsRow w6.heap.size 125 3 v0111322 (0+n2) cst.flatten:=hr20111322
    have hr10111322:=zae Hr2011132.out Hr1011132.out (by decide) hg0111322
    have pl0111322:=zaf Hpl011132.out (za7 hg0111322) (za3 Hr2011132.out Hpl011132.out (by decide))
    obtain⟨Hb0111322,Hr20111322,Hg0111322,Hr10111322,Hpl0111322⟩:=hzRecipeJoins5 hb0111322 hr20111322 hg0111322 hr10111322 pl0111322;clear hb0111322 hr20111322 hg0111322 hr10111322 pl0111322
    refine hK.out _ _ (by exact Hcells.out _ Hb0111322.out) (fun hHeld=>?_)
    clear hK K
    try simp only[Act.put,lA,lB,lC]
    refine wpAnyH_ready (rs:=[13]) (by kernel_rfl) (by simp) ?_
    refine AllReadyH.cons rfl (fun K hK=>?_) AllReadyH.nil
    refine za4 zak (.tmp 90) (.tmp 92) rfl w6.heap.size v0111322 (0+n2) cst.flatten rfl Hr20111322.out yb m2 e2 dst.flatten rfl Hl2y.out (Hc2y.out _ Hb0111322.out) H12y.out Hbn2y.out Hbm2y.out Hb0111322.out.size ?_
    intro v01113222 W01113222 hr201113222 hg01113222 _
    have hb01113222:Below w6.heap.size w6 W01113222:=zai Hb0111322.out Hr20111322.out (Nat.le_refl _) hg01113222 Hb0111322.out.size
    have hr101113222:=zae Hr20111322.out Hr10111322.out (by decide) hg01113222
    have pl01113222:=zaf Hpl0111322.out (za7 hg01113222) (za3 Hr20111322.out Hpl0111322.out (by decide))
    obtain⟨Hb01113222,Hr201113222,Hg01113222,Hr101113222,Hpl01113222⟩:=hzRecipeJoins5 hb01113222 hr201113222 hg01113222 hr101113222 pl01113222;clear hb01113222 hr201113222 hg01113222 hr101113222 pl01113222
    refine hK.out _ _ (by exact Hcells.out _ Hb01113222.out) (fun hHeld=>?_)
    clear hK K
    try simp only[Act.put,lA,lB,lC]
    have hr1:=Hr101113222.out
    have hr2:=Hr201113222.out
    rw[← HN1.out] at hr1
    rw[← HN2.out] at hr2
    obtain⟨a9,c9,rfl⟩:=za9 hr1
    obtain⟨a8,c8,rfl⟩:=za9 hr2
    clear hr1 hr2
    have hSd:=Hcells.out W01113222 Hb01113222.out
    refine wpAnyH_take (i:=14) (v:=?_) rfl (by kernel_rfl) (by kernel_rfl) (by kernel_rfl) (fun _ _ _ h=>h) (Or.inl ⟨by kernel_rfl,?_⟩) (by assumption) ?_
    rotate_left
    ·(intro w hSw;(try dsimp only at hSw);(try obtain⟨o0,o1,o2,o3,o4,o5⟩:=hSw);go_simp;try with_reducible rfl)
    try simp only[Act.put,lA,lB,lC]
    have hr1:=Hr101113222.out
    have hr2:=Hr201113222.out
    rw[← HN1.out] at hr1
    rw[← HN2.out] at hr2
    refine wpAnyH_ready (rs:=[16]) (by kernel_rfl) (by simp) ?_
    refine AllReadyH.cons rfl (fun K hK=>?_) AllReadyH.nil
    have fz0:=za5 Hpl01113222.out 0
    have fz1:=za5 Hpl01113222.out 1
    have fc0:=za2 Hpl01113222.out 0
    have fc1:=za2 Hpl01113222.out 1
    simp only[List.getElem?_toArray,List.getElem?_cons_zero,List.getElem?_cons_succ] at fc0 fc1
    go_simp
    obtain⟨wl,hwl⟩ : ∃ W,W=(W01113222.setCell ⟨gl,0,none⟩ (.slice a9 N1 c9)).setCell ⟨gl,1,none⟩ (.slice a8 N2 c8):=⟨_,rfl⟩
    have hFl:Frm (fun k=>k=gl) W01113222 wl:=by rw[hwl];exact zad (zad (Frm.refl _ _) 0 _) 1 _
    have pl:zbi gl (.slice a9 N1 c9) (.slice a8 N2 c8) wl:=by rw[hwl];exact heap_setCell_same _ gl 1 _ _ _ (heap_setCell_same _ gl 0 _ _ _ Hpl01113222.out)
    have hbl:Below w6.heap.size w6 wl:=Hb01113222.out.trans (hFl.below Hb01113222.out.size (fun k hk=>by rw[hk];exact Hge.out))
    have hr1':=hFl.owns hr1 (fun k hk e=>za3 hr1 Hpl01113222.out (by decide) (by rw[hk,e]))
    have hr2':=hFl.owns hr2 (fun k hk e=>za3 hr2 Hpl01113222.out (by decide) (by rw[hk,e]))
    have hrd:=HSm.out wl _ _ _ _ hbl hr1' hr2'
    rw[← hwl]
    clear hwl fz0 fz1 fc0 fc1
    obtain⟨Hr1,Hr2,HFl,Hr1',Hr2',Hpl,Hbl,Hrd⟩:=hzRecipeJoins8 hr1 hr2 hFl hr1' hr2' pl hbl hrd;clear hr1 hr2 hFl hr1' hr2' pl hbl hrd
    refine hK.out _ _ (by exact Hcells.out _ Hbl.out) (fun hHeld=>?_)
    clear hK K
    try simp only[Act.put,lA,lB,lC]
    refine wpAnyH_done (by kernel_rfl) ?_ _
    go_simp
    have hbwl:=Hbw6.out.trans (Hbl.out.mono Hbw6.out.size)
    have Hbwl:=zal hbwl;clear hbwl
    go_wp2_with fail
    refine (HF.out _ Hbwl.out).mono ?_
    rintro e w7 ⟨rfl,hb7⟩
    have hb67:=Hbl.out.trans (hb7.mono Hbl.out.size)
    have hbw7:=Hbwl.out.trans (hb7.mono Hbwl.out.size)
    have hSm7:=HSame.out w7 _ _ _ _ _ _ hb67 (Hrd.out.below hb7)
    obtain⟨-,-,-,-,i0,i1⟩:=Hcells.out w7 hb67
    obtain⟨j0,j1,-⟩:=zar (za0 hb7 Hpl.out)
    obtain⟨Hb7,Hb67,Hbw7,HSm7⟩:=hzRecipeJoins4 hb7 hb67 hbw7 hSm7;clear hb7 hb67 hbw7 hSm7
    go_wp2_with fail
    refine HSm7.out.mono ?_
    rintro e w8 ⟨rfl,hb8⟩
    have hbw8:=Hbw7.out.trans (hb8.mono Hbw7.out.size)
    clear i0 i1 j0 j1
    obtain⟨Hb8,Hbw8⟩:=hzRecipeJoins2 hb8 hbw8;clear hb8 hbw8
    go_wp2_with fail
    go_ret
    exact⟨rfl,Hbw8.out⟩
   ·go_simp
    obtain⟨W0112,hW0112⟩ : ∃ z,z=W011.alloc (.cells #[] 125):=⟨_,rfl⟩
    have hb0112:Below w6.heap.size w6 W0112:=by rw[hW0112];exact Hb011.out.trans ((za1 _ _).mono Hb011.out.size)
    have hr20112:W0112.ownsRow w6.heap.size 125 3 (.slice (some ⟨W011.heap.size,0,none⟩) 0 0) 0 []:=by rw[hW0112];exact Hlit2.out W011 Hb011.out.size
    have hr10112:=za6 Hr1011.out (za1 W011 (.cells #[] 125))
    rw[← hW0112]
    rw[← hW0112] at hr10112
    clear hW0112
    obtain⟨Hb0112,Hr20112,Hr10112⟩:=hzRecipeJoins3 hb0112 hr20112 hr10112;clear hb0112 hr20112 hr10112
    refine hK.out _ _ (by exact Hcells.out _ Hb0112.out) (fun hHeld=>?_)
    clear hK K
    try simp only[Act.put,lA,lB,lC]
    refine wpAnyH_ready (rs:=[6,15]) (by kernel_rfl) (by simp) ?_
    refine AllReadyH.cons rfl (fun K hK=>?_) (AllReadyH.cons rfl (fun K hK=>?_) AllReadyH.nil)
    ·refine za4 zav (.tmp 83) (.tmp 85) rfl w6.heap.size v011 (0+n1) css.flatten rfl Hr10112.out ya m1 e1 dss.flatten rfl Hl1y.out (Hc1y.out _ Hb0112.out) H11y.out Hbn1y.out Hbm1y.out Hb0112.out.size ?_
     intro v01121 W01121 hr101121 hg01121 _
     have hb01121:Below w6.heap.size w6 W01121:=zai Hb0112.out Hr10112.out (Nat.le_refl _) hg01121 Hb0112.out.size
     have hr201121:=zae Hr10112.out Hr20112.out (by decide) hg01121
     obtain⟨Hb01121,Hr101121,Hg01121,Hr201121⟩:=hzRecipeJoins4 hb01121 hr101121 hg01121 hr201121;clear hb01121 hr101121 hg01121 hr201121
     refine hK.out _ _ (by exact Hcells.out _ Hb01121.out) (fun hHeld=>?_)
     clear hK K
     try simp only[Act.put,lA,lB,lC]
     refine wpAnyH_ready (rs:=[10,15]) (by kernel_rfl) (by simp) ?_
     refine AllReadyH.cons rfl (fun K hK=>?_) (AllReadyH.cons rfl (fun K hK=>?_) AllReadyH.nil)
     ·refine za4 zak (.tmp 87) (.tmp 89) rfl w6.heap.size (.slice (some ⟨W011.heap.size,0,none⟩) 0 0) 0 [] rfl Hr201121.out xb n2 c2 cst.flatten rfl Hl2x.out (Hc2x.out _ Hb01121.out) H12x.out Hbn2x.out Hbm2x.out Hb01121.out.size ?_
      intro v011212 W011212 hr2011212 hg011212 _
      have hb011212:Below w6.heap.size w6 W011212:=zai Hb01121.out Hr201121.out (Nat.le_refl _) hg011212 Hb01121.out.size
      have hr2011212:W011212.ownsRow w6.heap.size 125 3 v011212 (0+n2) cst.flatten:=hr2011212
      have hr1011212:=zae Hr201121.out Hr101121.out (by decide) hg011212
      obtain⟨Hb011212,Hr2011212,Hg011212,Hr1011212⟩:=hzRecipeJoins4 hb011212 hr2011212 hg011212 hr1011212;clear hb011212 hr2011212 hg011212 hr1011212
      refine hK.out _ _ (by exact Hcells.out _ Hb011212.out) (fun hHeld=>?_)
      clear hK K
      try simp only[Act.put,lA,lB,lC]
      refine wpAnyH_ready (rs:=[13,15]) (by kernel_rfl) (by simp) ?_
      refine AllReadyH.cons rfl (fun K hK=>?_) (AllReadyH.cons rfl (fun K hK=>?_) AllReadyH.nil)
      ·refine za4 zak (.tmp 90) (.tmp 92) rfl w6.heap.size v011212 (0+n2) cst.flatten rfl Hr2011212.out yb m2 e2 dst.flatten rfl Hl2y.out (Hc2y.out _ Hb011212.out) H12y.out Hbn2y.out Hbm2y.out Hb011212.out.size ?_
       intro v0112122 W0112122 hr20112122 hg0112122 _
       have hb0112122:Below w6.heap.size w6 W0112122:=zai Hb011212.out Hr2011212.out (Nat.le_refl _) hg0112122 Hb011212.out.size
       have hr10112122:=zae Hr2011212.out Hr1011212.out (by decide) hg0112122
       obtain⟨Hb0112122,Hr20112122,Hg0112122,Hr10112122⟩:=hzRecipeJoins4 hb0112122 hr20112122 hg0112122 hr10112122;clear hb0112122 hr20112122 hg0112122 hr10112122
       refine hK.out _ _ (by exact Hcells.out _ Hb0112122.out) (fun hHeld=>?_)
       clear hK K
       try simp only[Act.put,lA,lB,lC]
       have hr1:=Hr10112122.out
       have hr2:=Hr20112122.out
       rw[← HN1.out] at hr1
       rw[← HN2.out] at hr2
       obtain⟨a9,c9,rfl⟩:=za9 hr1
       obtain⟨a8,c8,rfl⟩:=za9 hr2
       clear hr1 hr2
       have hSd:=Hcells.out W0112122 Hb0112122.out
       refine wpAnyH_take (i:=14) (v:=?_) rfl (by kernel_rfl) (by kernel_rfl) (by kernel_rfl) (fun _ _ _ h=>h) (Or.inl ⟨by kernel_rfl,?_⟩) (by assumption) ?_
       rotate_left
       ·(intro w hSw;(try dsimp only at hSw);(try obtain⟨o0,o1,o2,o3,o4,o5⟩:=hSw);go_simp;try with_reducible rfl)
       try simp only[Act.put,lA,lB,lC]
       refine wpAnyH_ready (rs:=[15]) (by kernel_rfl) (by simp) ?_
       refine AllReadyH.cons rfl (fun K hK=>?_) AllReadyH.nil
       go_simp
       obtain⟨W01121223,hW01121223⟩ : ∃ z,z=W0112122.alloc (.cells #[.slice none 0 0,.slice none 0 0] 73):=⟨_,rfl⟩
       obtain⟨gl,hgl⟩ : ∃ z,z=W0112122.heap.size:=⟨_,rfl⟩
       have hb01121223:Below w6.heap.size w6 W01121223:=by rw[hW01121223];exact Hb0112122.out.trans ((za1 _ _).mono Hb0112122.out.size)
       have pl01121223:zbi gl (.slice none 0 0) (.slice none 0 0) W01121223:=by rw[hW01121223,hgl];exact heap_alloc_new _ _
       have hge:w6.heap.size≤gl:=by rw[hgl];exact Hb0112122.out.size
       have hr101121223:=za6 Hr10112122.out (za1 W0112122 (.cells #[.slice none 0 0,.slice none 0 0] 73))
       have hr201121223:=za6 Hr20112122.out (za1 W0112122 (.cells #[.slice none 0 0,.slice none 0 0] 73))
       rw[← hW01121223,← hgl]
       rw[← hW01121223] at hr101121223 hr201121223
       clear hW01121223 hgl
       obtain⟨Hb01121223,Hpl01121223,Hge,Hr101121223,Hr201121223⟩:=hzRecipeJoins5 hb01121223 pl01121223 hge hr101121223 hr201121223;clear hb01121223 pl01121223 hge hr101121223 hr201121223
       refine hK.out _ _ (by exact Hcells.out _ Hb01121223.out) (fun hHeld=>?_)
       clear hK K
       try simp only[Act.put,lA,lB,lC]
       have hr1:=Hr101121223.out
       have hr2:=Hr201121223.out
       rw[← HN1.out] at hr1
       rw[← HN2.out] at hr2
       refine wpAnyH_ready (rs:=[16]) (by kernel_rfl) (by simp) ?_
       refine AllReadyH.cons rfl (fun K hK=>?_) AllReadyH.nil
       have fz0:=za5 Hpl01121223.out 0
       have fz1:=za5 Hpl01121223.out 1
       have fc0:=za2 Hpl01121223.out 0
       have fc1:=za2 Hpl01121223.out 1
       simp only[List.getElem?_toArray,List.getElem?_cons_zero,List.getElem?_cons_succ] at fc0 fc1
       go_simp
       obtain⟨wl,hwl⟩ : ∃ W,W=(W01121223.setCell ⟨gl,0,none⟩ (.slice a9 N1 c9)).setCell ⟨gl,1,none⟩ (.slice a8 N2 c8):=⟨_,rfl⟩
       have hFl:Frm (fun k=>k=gl) W01121223 wl:=by rw[hwl];exact zad (zad (Frm.refl _ _) 0 _) 1 _
       have pl:zbi gl (.slice a9 N1 c9) (.slice a8 N2 c8) wl:=by rw[hwl];exact heap_setCell_same _ gl 1 _ _ _ (heap_setCell_same _ gl 0 _ _ _ Hpl01121223.out)
       have hbl:Below w6.heap.size w6 wl:=Hb01121223.out.trans (hFl.below Hb01121223.out.size (fun k hk=>by rw[hk];exact Hge.out))
       have hr1':=hFl.owns hr1 (fun k hk e=>za3 hr1 Hpl01121223.out (by decide) (by rw[hk,e]))
       have hr2':=hFl.owns hr2 (fun k hk e=>za3 hr2 Hpl01121223.out (by decide) (by rw[hk,e]))
       have hrd:=HSm.out wl _ _ _ _ hbl hr1' hr2'
       rw[← hwl]
       clear hwl fz0 fz1 fc0 fc1
       obtain⟨Hr1,Hr2,HFl,Hr1',Hr2',Hpl,Hbl,Hrd⟩:=hzRecipeJoins8 hr1 hr2 hFl hr1' hr2' pl hbl hrd;clear hr1 hr2 hFl hr1' hr2' pl hbl hrd
       refine hK.out _ _ (by exact Hcells.out _ Hbl.out) (fun hHeld=>?_)
       clear hK K
       try simp only[Act.put,lA,lB,lC]
       refine wpAnyH_done (by kernel_rfl) ?_ _
       go_simp
       have hbwl:=Hbw6.out.trans (Hbl.out.mono Hbw6.out.size)
       have Hbwl:=zal hbwl;clear hbwl
       go_wp2_with fail
       refine (HF.out _ Hbwl.out).mono ?_
       rintro e w7 ⟨rfl,hb7⟩
       have hb67:=Hbl.out.trans (hb7.mono Hbl.out.size)
       have hbw7:=Hbwl.out.trans (hb7.mono Hbwl.out.size)
       have hSm7:=HSame.out w7 _ _ _ _ _ _ hb67 (Hrd.out.below hb7)
       obtain⟨-,-,-,-,i0,i1⟩:=Hcells.out w7 hb67
       obtain⟨j0,j1,-⟩:=zar (za0 hb7 Hpl.out)
       obtain⟨Hb7,Hb67,Hbw7,HSm7⟩:=hzRecipeJoins4 hb7 hb67 hbw7 hSm7;clear hb7 hb67 hbw7 hSm7
       go_wp2_with fail
       refine HSm7.out.mono ?_
       rintro e w8 ⟨rfl,hb8⟩
       have hbw8:=Hbw7.out.trans (hb8.mono Hbw7.out.size)
       clear i0 i1 j0 j1
       obtain⟨Hb8,Hbw8⟩:=hzRecipeJoins2 hb8 hbw8;clear hb8 hbw8
       go_wp2_with fail
       go_ret
       exact⟨rfl,Hbw8.out⟩
      go_simp
      obtain⟨W0112123,hW0112123⟩ : ∃ z,z=W011212.alloc (.cells #[.slice none 0 0,.slice none 0 0] 73):=⟨_,rfl⟩
      obtain⟨gl,hgl⟩ : ∃ z,z=W011212.heap.size:=⟨_,rfl⟩
      have hb0112123:Below w6.heap.size w6 W0112123:=by rw[hW0112123];exact Hb011212.out.trans ((za1 _ _).mono Hb011212.out.size)
      have pl0112123:zbi gl (.slice none 0 0) (.slice none 0 0) W0112123:=by rw[hW0112123,hgl];exact heap_alloc_new _ _
      have hge:w6.heap.size≤gl:=by rw[hgl];exact Hb011212.out.size
      have hr10112123:=za6 Hr1011212.out (za1 W011212 (.cells #[.slice none 0 0,.slice none 0 0] 73))
      have hr20112123:=za6 Hr2011212.out (za1 W011212 (.cells #[.slice none 0 0,.slice none 0 0] 73))
      rw[← hW0112123,← hgl]
      rw[← hW0112123] at hr10112123 hr20112123
      clear hW0112123 hgl
      obtain⟨Hb0112123,Hpl0112123,Hge,Hr10112123,Hr20112123⟩:=hzRecipeJoins5 hb0112123 pl0112123 hge hr10112123 hr20112123;clear hb0112123 pl0112123 hge hr10112123 hr20112123
      refine hK.out _ _ (by exact Hcells.out _ Hb0112123.out) (fun hHeld=>?_)
      clear hK K
      try simp only[Act.put,lA,lB,lC]
      refine wpAnyH_ready (rs:=[13]) (by kernel_rfl) (by simp) ?_
      refine AllReadyH.cons rfl (fun K hK=>?_) AllReadyH.nil
      refine za4 zak (.tmp 90) (.tmp 92) rfl w6.heap.size v011212 (0+n2) cst.flatten rfl Hr20112123.out yb m2 e2 dst.flatten rfl Hl2y.out (Hc2y.out _ Hb0112123.out) H12y.out Hbn2y.out Hbm2y.out Hb0112123.out.size ?_
      intro v01121232 W01121232 hr201121232 hg01121232 _
      have hb01121232:Below w6.heap.size w6 W01121232:=zai Hb0112123.out Hr20112123.out (Nat.le_refl _) hg01121232 Hb0112123.out.size
      have hr101121232:=zae Hr20112123.out Hr10112123.out (by decide) hg01121232
      have pl01121232:=zaf Hpl0112123.out (za7 hg01121232) (za3 Hr20112123.out Hpl0112123.out (by decide))
      obtain⟨Hb01121232,Hr201121232,Hg01121232,Hr101121232,Hpl01121232⟩:=hzRecipeJoins5 hb01121232 hr201121232 hg01121232 hr101121232 pl01121232;clear hb01121232 hr201121232 hg01121232 hr101121232 pl01121232
      refine hK.out _ _ (by exact Hcells.out _ Hb01121232.out) (fun hHeld=>?_)
      clear hK K
      try simp only[Act.put,lA,lB,lC]
      have hr1:=Hr101121232.out
      have hr2:=Hr201121232.out
      rw[← HN1.out] at hr1
      rw[← HN2.out] at hr2
      obtain⟨a9,c9,rfl⟩:=za9 hr1
      obtain⟨a8,c8,rfl⟩:=za9 hr2
      clear hr1 hr2
      have hSd:=Hcells.out W01121232 Hb01121232.out
      refine wpAnyH_take (i:=14) (v:=?_) rfl (by kernel_rfl) (by kernel_rfl) (by kernel_rfl) (fun _ _ _ h=>h) (Or.inl ⟨by kernel_rfl,?_⟩) (by assumption) ?_
      rotate_left
      ·(intro w hSw;(try dsimp only at hSw);(try obtain⟨o0,o1,o2,o3,o4,o5⟩:=hSw);go_simp;try with_reducible rfl)
      try simp only[Act.put,lA,lB,lC]
      have hr1:=Hr101121232.out
      have hr2:=Hr201121232.out
      rw[← HN1.out] at hr1
      rw[← HN2.out] at hr2
      refine wpAnyH_ready (rs:=[16]) (by kernel_rfl) (by simp) ?_
      refine AllReadyH.cons rfl (fun K hK=>?_) AllReadyH.nil
      have fz0:=za5 Hpl01121232.out 0
      have fz1:=za5 Hpl01121232.out 1
      have fc0:=za2 Hpl01121232.out 0
      have fc1:=za2 Hpl01121232.out 1
      simp only[List.getElem?_toArray,List.getElem?_cons_zero,List.getElem?_cons_succ] at fc0 fc1
      go_simp
      obtain⟨wl,hwl⟩ : ∃ W,W=(W01121232.setCell ⟨gl,0,none⟩ (.slice a9 N1 c9)).setCell ⟨gl,1,none⟩ (.slice a8 N2 c8):=⟨_,rfl⟩
      have hFl:Frm (fun k=>k=gl) W01121232 wl:=by rw[hwl];exact zad (zad (Frm.refl _ _) 0 _) 1 _
      have pl:zbi gl (.slice a9 N1 c9) (.slice a8 N2 c8) wl:=by rw[hwl];exact heap_setCell_same _ gl 1 _ _ _ (heap_setCell_same _ gl 0 _ _ _ Hpl01121232.out)
      have hbl:Below w6.heap.size w6 wl:=Hb01121232.out.trans (hFl.below Hb01121232.out.size (fun k hk=>by rw[hk];exact Hge.out))
      have hr1':=hFl.owns hr1 (fun k hk e=>za3 hr1 Hpl01121232.out (by decide) (by rw[hk,e]))
      have hr2':=hFl.owns hr2 (fun k hk e=>za3 hr2 Hpl01121232.out (by decide) (by rw[hk,e]))
      have hrd:=HSm.out wl _ _ _ _ hbl hr1' hr2'
      rw[← hwl]
      clear hwl fz0 fz1 fc0 fc1
      obtain⟨Hr1,Hr2,HFl,Hr1',Hr2',Hpl,Hbl,Hrd⟩:=hzRecipeJoins8 hr1 hr2 hFl hr1' hr2' pl hbl hrd;clear hr1 hr2 hFl hr1' hr2' pl hbl hrd
      refine hK.out _ _ (by exact Hcells.out _ Hbl.out) (fun hHeld=>?_)
      clear hK K
      try simp only[Act.put,lA,lB,lC]
      refine wpAnyH_done (by kernel_rfl) ?_ _
      go_simp
      have hbwl:=Hbw6.out.trans (Hbl.out.mono Hbw6.out.size)
      have Hbwl:=zal hbwl;clear hbwl
      go_wp2_with fail
      refine (HF.out _ Hbwl.out).mono ?_
      rintro e w7 ⟨rfl,hb7⟩
      have hb67:=Hbl.out.trans (hb7.mono Hbl.out.size)
      have hbw7:=Hbwl.out.trans (hb7.mono Hbwl.out.size)
      have hSm7:=HSame.out w7 _ _ _ _ _ _ hb67 (Hrd.out.below hb7)
      obtain⟨-,-,-,-,i0,i1⟩:=Hcells.out w7 hb67
      obtain⟨j0,j1,-⟩:=zar (za0 hb7 Hpl.out)
      obtain⟨Hb7,Hb67,Hbw7,HSm7⟩:=hzRecipeJoins4 hb7 hb67 hbw7 hSm7;clear hb7 hb67 hbw7 hSm7
      go_wp2_with fail
      refine HSm7.out.mono ?_
      rintro e w8 ⟨rfl,hb8⟩
      have hbw8:=Hbw7.out.trans (hb8.mono Hbw7.out.size)
      clear i0 i1 j0 j1
      obtain⟨Hb8,Hbw8⟩:=hzRecipeJoins2 hb8 hbw8;clear hb8 hbw8
      go_wp2_with fail
      go_ret
      exact⟨rfl,Hbw8.out⟩
     go_simp
     obtain⟨W011213,hW011213⟩ : ∃ z,z=W01121.alloc (.cells #[.slice none 0 0,.slice none 0 0] 73):=⟨_,rfl⟩
     obtain⟨gl,hgl⟩ : ∃ z,z=W01121.heap.size:=⟨_,rfl⟩
     have hb011213:Below w6.heap.size w6 W011213:=by rw[hW011213];exact Hb01121.out.trans ((za1 _ _).mono Hb01121.out.size)
     have pl011213:zbi gl (.slice none 0 0) (.slice none 0 0) W011213:=by rw[hW011213,hgl];exact heap_alloc_new _ _
     have hge:w6.heap.size≤gl:=by rw[hgl];exact Hb01121.out.size
     have hr1011213:=za6 Hr101121.out (za1 W01121 (.cells #[.slice none 0 0,.slice none 0 0] 73))
     have hr2011213:=za6 Hr201121.out (za1 W01121 (.cells #[.slice none 0 0,.slice none 0 0] 73))
     rw[← hW011213,← hgl]
     rw[← hW011213] at hr1011213 hr2011213
     clear hW011213 hgl
     obtain⟨Hb011213,Hpl011213,Hge,Hr1011213,Hr2011213⟩:=hzRecipeJoins5 hb011213 pl011213 hge hr1011213 hr2011213;clear hb011213 pl011213 hge hr1011213 hr2011213
     refine hK.out _ _ (by exact Hcells.out _ Hb011213.out) (fun hHeld=>?_)
     clear hK K
     try simp only[Act.put,lA,lB,lC]
     refine wpAnyH_ready (rs:=[10]) (by kernel_rfl) (by simp) ?_
     refine AllReadyH.cons rfl (fun K hK=>?_) AllReadyH.nil
     refine za4 zak (.tmp 87) (.tmp 89) rfl w6.heap.size (.slice (some ⟨W011.heap.size,0,none⟩) 0 0) 0 [] rfl Hr2011213.out xb n2 c2 cst.flatten rfl Hl2x.out (Hc2x.out _ Hb011213.out) H12x.out Hbn2x.out Hbm2x.out Hb011213.out.size ?_
     intro v0112132 W0112132 hr20112132 hg0112132 _
     have hb0112132:Below w6.heap.size w6 W0112132:=zai Hb011213.out Hr2011213.out (Nat.le_refl _) hg0112132 Hb011213.out.size
     have hr20112132:W0112132.ownsRow w6.heap.size 125 3 v0112132 (0+n2) cst.flatten:=hr20112132
     have hr10112132:=zae Hr2011213.out Hr1011213.out (by decide) hg0112132
     have pl0112132:=zaf Hpl011213.out (za7 hg0112132) (za3 Hr2011213.out Hpl011213.out (by decide))
     obtain⟨Hb0112132,Hr20112132,Hg0112132,Hr10112132,Hpl0112132⟩:=hzRecipeJoins5 hb0112132 hr20112132 hg0112132 hr10112132 pl0112132;clear hb0112132 hr20112132 hg0112132 hr10112132 pl0112132
     refine hK.out _ _ (by exact Hcells.out _ Hb0112132.out) (fun hHeld=>?_)
     clear hK K
     try simp only[Act.put,lA,lB,lC]
     refine wpAnyH_ready (rs:=[13]) (by kernel_rfl) (by simp) ?_
     refine AllReadyH.cons rfl (fun K hK=>?_) AllReadyH.nil
     refine za4 zak (.tmp 90) (.tmp 92) rfl w6.heap.size v0112132 (0+n2) cst.flatten rfl Hr20112132.out yb m2 e2 dst.flatten rfl Hl2y.out (Hc2y.out _ Hb0112132.out) H12y.out Hbn2y.out Hbm2y.out Hb0112132.out.size ?_
     intro v01121322 W01121322 hr201121322 hg01121322 _
     have hb01121322:Below w6.heap.size w6 W01121322:=zai Hb0112132.out Hr20112132.out (Nat.le_refl _) hg01121322 Hb0112132.out.size
     have hr101121322:=zae Hr20112132.out Hr10112132.out (by decide) hg01121322
     have pl01121322:=zaf Hpl0112132.out (za7 hg01121322) (za3 Hr20112132.out Hpl0112132.out (by decide))
     obtain⟨Hb01121322,Hr201121322,Hg01121322,Hr101121322,Hpl01121322⟩:=hzRecipeJoins5 hb01121322 hr201121322 hg01121322 hr101121322 pl01121322;clear hb01121322 hr201121322 hg01121322 hr101121322 pl01121322
     refine hK.out _ _ (by exact Hcells.out _ Hb01121322.out) (fun hHeld=>?_)
     clear hK K
     try simp only[Act.put,lA,lB,lC]
     have hr1:=Hr101121322.out
     have hr2:=Hr201121322.out
     rw[← HN1.out] at hr1
     rw[← HN2.out] at hr2
     obtain⟨a9,c9,rfl⟩:=za9 hr1
     obtain⟨a8,c8,rfl⟩:=za9 hr2
     clear hr1 hr2
     have hSd:=Hcells.out W01121322 Hb01121322.out
     refine wpAnyH_take (i:=14) (v:=?_) rfl (by kernel_rfl) (by kernel_rfl) (by kernel_rfl) (fun _ _ _ h=>h) (Or.inl ⟨by kernel_rfl,?_⟩) (by assumption) ?_
     rotate_left
     ·(intro w hSw;(try dsimp only at hSw);(try obtain⟨o0,o1,o2,o3,o4,o5⟩:=hSw);go_simp;try with_reducible rfl)
     try simp only[Act.put,lA,lB,lC]
     have hr1:=Hr101121322.out
     have hr2:=Hr201121322.out
     rw[← HN1.out] at hr1
     rw[← HN2.out] at hr2
     refine wpAnyH_ready (rs:=[16]) (by kernel_rfl) (by simp) ?_
     refine AllReadyH.cons rfl (fun K hK=>?_) AllReadyH.nil
     have fz0:=za5 Hpl01121322.out 0
     have fz1:=za5 Hpl01121322.out 1
     have fc0:=za2 Hpl01121322.out 0
     have fc1:=za2 Hpl01121322.out 1
     simp only[List.getElem?_toArray,List.getElem?_cons_zero,List.getElem?_cons_succ] at fc0 fc1
     go_simp
     obtain⟨wl,hwl⟩ : ∃ W,W=(W01121322.setCell ⟨gl,0,none⟩ (.slice a9 N1 c9)).setCell ⟨gl,1,none⟩ (.slice a8 N2 c8):=⟨_,rfl⟩
     have hFl:Frm (fun k=>k=gl) W01121322 wl:=by rw[hwl];exact zad (zad (Frm.refl _ _) 0 _) 1 _
     have pl:zbi gl (.slice a9 N1 c9) (.slice a8 N2 c8) wl:=by rw[hwl];exact heap_setCell_same _ gl 1 _ _ _ (heap_setCell_same _ gl 0 _ _ _ Hpl01121322.out)
     have hbl:Below w6.heap.size w6 wl:=Hb01121322.out.trans (hFl.below Hb01121322.out.size (fun k hk=>by rw[hk];exact Hge.out))
     have hr1':=hFl.owns hr1 (fun k hk e=>za3 hr1 Hpl01121322.out (by decide) (by rw[hk,e]))
     have hr2':=hFl.owns hr2 (fun k hk e=>za3 hr2 Hpl01121322.out (by decide) (by rw[hk,e]))
     have hrd:=HSm.out wl _ _ _ _ hbl hr1' hr2'
     rw[← hwl]
     clear hwl fz0 fz1 fc0 fc1
     obtain⟨Hr1,Hr2,HFl,Hr1',Hr2',Hpl,Hbl,Hrd⟩:=hzRecipeJoins8 hr1 hr2 hFl hr1' hr2' pl hbl hrd;clear hr1 hr2 hFl hr1' hr2' pl hbl hrd
     refine hK.out _ _ (by exact Hcells.out _ Hbl.out) (fun hHeld=>?_)
     clear hK K
     try simp only[Act.put,lA,lB,lC]
     refine wpAnyH_done (by kernel_rfl) ?_ _
     go_simp
     have hbwl:=Hbw6.out.trans (Hbl.out.mono Hbw6.out.size)
     have Hbwl:=zal hbwl;clear hbwl
     go_wp2_with fail
     refine (HF.out _ Hbwl.out).mono ?_
     rintro e w7 ⟨rfl,hb7⟩
     have hb67:=Hbl.out.trans (hb7.mono Hbl.out.size)
     have hbw7:=Hbwl.out.trans (hb7.mono Hbwl.out.size)
     have hSm7:=HSame.out w7 _ _ _ _ _ _ hb67 (Hrd.out.below hb7)
     obtain⟨-,-,-,-,i0,i1⟩:=Hcells.out w7 hb67
     obtain⟨j0,j1,-⟩:=zar (za0 hb7 Hpl.out)
     obtain⟨Hb7,Hb67,Hbw7,HSm7⟩:=hzRecipeJoins4 hb7 hb67 hbw7 hSm7;clear hb7 hb67 hbw7 hSm7
     go_wp2_with fail
     refine HSm7.out.mono ?_
     rintro e w8 ⟨rfl,hb8⟩
     have hbw8:=Hbw7.out.trans (hb8.mono Hbw7.out.size)
     clear i0 i1 j0 j1
     obtain⟨Hb8,Hbw8⟩:=hzRecipeJoins2 hb8 hbw8;clear hb8 hbw8
     go_wp2_with fail
     go_ret
     exact⟨rfl,Hbw8.out⟩
    go_simp
    obtain⟨W01123,hW01123⟩ : ∃ z,z=W0112.alloc (.cells #[.slice none 0 0,.slice none 0 0] 73):=⟨_,rfl⟩
    obtain⟨gl,hgl⟩ : ∃ z,z=W0112.heap.size:=⟨_,rfl⟩
    have hb01123:Below w6.heap.size w6 W01123:=by rw[hW01123];exact Hb0112.out.trans ((za1 _ _).mono Hb0112.out.size)
    have pl01123:zbi gl (.slice none 0 0) (.slice none 0 0) W01123:=by rw[hW01123,hgl];exact heap_alloc_new _ _
    have hge:w6.heap.size≤gl:=by rw[hgl];exact Hb0112.out.size
    have hr101123:=za6 Hr10112.out (za1 W0112 (.cells #[.slice none 0 0,.slice none 0 0] 73))
    have hr201123:=za6 Hr20112.out (za1 W0112 (.cells #[.slice none 0 0,.slice none 0 0] 73))
    rw[← hW01123,← hgl]
    rw[← hW01123] at hr101123 hr201123
    clear hW01123 hgl
    obtain⟨Hb01123,Hpl01123,Hge,Hr101123,Hr201123⟩:=hzRecipeJoins5 hb01123 pl01123 hge hr101123 hr201123;clear hb01123 pl01123 hge hr101123 hr201123
    refine hK.out _ _ (by exact Hcells.out _ Hb01123.out) (fun hHeld=>?_)
    clear hK K
    try simp only[Act.put,lA,lB,lC]
    refine wpAnyH_ready (rs:=[6]) (by kernel_rfl) (by simp) ?_
    refine AllReadyH.cons rfl (fun K hK=>?_) AllReadyH.nil
    refine za4 zav (.tmp 83) (.tmp 85) rfl w6.heap.size v011 (0+n1) css.flatten rfl Hr101123.out ya m1 e1 dss.flatten rfl Hl1y.out (Hc1y.out _ Hb01123.out) H11y.out Hbn1y.out Hbm1y.out Hb01123.out.size ?_
    intro v011231 W011231 hr1011231 hg011231 _
    have hb011231:Below w6.heap.size w6 W011231:=zai Hb01123.out Hr101123.out (Nat.le_refl _) hg011231 Hb01123.out.size
    have hr2011231:=zae Hr101123.out Hr201123.out (by decide) hg011231
    have pl011231:=zaf Hpl01123.out (za7 hg011231) (za3 Hr101123.out Hpl01123.out (by decide))
    obtain⟨Hb011231,Hr1011231,Hg011231,Hr2011231,Hpl011231⟩:=hzRecipeJoins5 hb011231 hr1011231 hg011231 hr2011231 pl011231;clear hb011231 hr1011231 hg011231 hr2011231 pl011231
    refine hK.out _ _ (by exact Hcells.out _ Hb011231.out) (fun hHeld=>?_)
    clear hK K
    try simp only[Act.put,lA,lB,lC]
    refine wpAnyH_ready (rs:=[10]) (by kernel_rfl) (by simp) ?_
    refine AllReadyH.cons rfl (fun K hK=>?_) AllReadyH.nil
    refine za4 zak (.tmp 87) (.tmp 89) rfl w6.heap.size (.slice (some ⟨W011.heap.size,0,none⟩) 0 0) 0 [] rfl Hr2011231.out xb n2 c2 cst.flatten rfl Hl2x.out (Hc2x.out _ Hb011231.out) H12x.out Hbn2x.out Hbm2x.out Hb011231.out.size ?_
    intro v0112312 W0112312 hr20112312 hg0112312 _
    have hb0112312:Below w6.heap.size w6 W0112312:=zai Hb011231.out Hr2011231.out (Nat.le_refl _) hg0112312 Hb011231.out.size
    have hr20112312:W0112312.ownsRow w6.heap.size 125 3 v0112312 (0+n2) cst.flatten:=hr20112312
    have hr10112312:=zae Hr2011231.out Hr1011231.out (by decide) hg0112312
    have pl0112312:=zaf Hpl011231.out (za7 hg0112312) (za3 Hr2011231.out Hpl011231.out (by decide))
    obtain⟨Hb0112312,Hr20112312,Hg0112312,Hr10112312,Hpl0112312⟩:=hzRecipeJoins5 hb0112312 hr20112312 hg0112312 hr10112312 pl0112312;clear hb0112312 hr20112312 hg0112312 hr10112312 pl0112312
    refine hK.out _ _ (by exact Hcells.out _ Hb0112312.out) (fun hHeld=>?_)
    clear hK K
    try simp only[Act.put,lA,lB,lC]
    refine wpAnyH_ready (rs:=[13]) (by kernel_rfl) (by simp) ?_
    refine AllReadyH.cons rfl (fun K hK=>?_) AllReadyH.nil
    refine za4 zak (.tmp 90) (.tmp 92) rfl w6.heap.size v0112312 (0+n2) cst.flatten rfl Hr20112312.out yb m2 e2 dst.flatten rfl Hl2y.out (Hc2y.out _ Hb0112312.out) H12y.out Hbn2y.out Hbm2y.out Hb0112312.out.size ?_
    intro v01123122 W01123122 hr201123122 hg01123122 _
    have hb01123122:Below w6.heap.size w6 W01123122:=zai Hb0112312.out Hr20112312.out (Nat.le_refl _) hg01123122 Hb0112312.out.size
    have hr101123122:=zae Hr20112312.out Hr10112312.out (by decide) hg01123122
    have pl01123122:=zaf Hpl0112312.out (za7 hg01123122) (za3 Hr20112312.out Hpl0112312.out (by decide))
    obtain⟨Hb01123122,Hr201123122,Hg01123122,Hr101123122,Hpl01123122⟩:=hzRecipeJoins5 hb01123122 hr201123122 hg01123122 hr101123122 pl01123122;clear hb01123122 hr201123122 hg01123122 hr101123122 pl01123122
    refine hK.out _ _ (by exact Hcells.out _ Hb01123122.out) (fun hHeld=>?_)
    clear hK K
    try simp only[Act.put,lA,lB,lC]
    have hr1:=Hr101123122.out
    have hr2:=Hr201123122.out
    rw[← HN1.out] at hr1
    rw[← HN2.out] at hr2
    obtain⟨a9,c9,rfl⟩:=za9 hr1
    obtain⟨a8,c8,rfl⟩:=za9 hr2
    clear hr1 hr2
    have hSd:=Hcells.out W01123122 Hb01123122.out
    refine wpAnyH_take (i:=14) (v:=?_) rfl (by kernel_rfl) (by kernel_rfl) (by kernel_rfl) (fun _ _ _ h=>h) (Or.inl ⟨by kernel_rfl,?_⟩) (by assumption) ?_
    rotate_left
    ·(intro w hSw;(try dsimp only at hSw);(try obtain⟨o0,o1,o2,o3,o4,o5⟩:=hSw);go_simp;try with_reducible rfl)
    try simp only[Act.put,lA,lB,lC]
    have hr1:=Hr101123122.out
    have hr2:=Hr201123122.out
    rw[← HN1.out] at hr1
    rw[← HN2.out] at hr2
    refine wpAnyH_ready (rs:=[16]) (by kernel_rfl) (by simp) ?_
    refine AllReadyH.cons rfl (fun K hK=>?_) AllReadyH.nil
    have fz0:=za5 Hpl01123122.out 0
    have fz1:=za5 Hpl01123122.out 1
    have fc0:=za2 Hpl01123122.out 0
    have fc1:=za2 Hpl01123122.out 1
    simp only[List.getElem?_toArray,List.getElem?_cons_zero,List.getElem?_cons_succ] at fc0 fc1
    go_simp
    obtain⟨wl,hwl⟩ : ∃ W,W=(W01123122.setCell ⟨gl,0,none⟩ (.slice a9 N1 c9)).setCell ⟨gl,1,none⟩ (.slice a8 N2 c8):=⟨_,rfl⟩
    have hFl:Frm (fun k=>k=gl) W01123122 wl:=by rw[hwl];exact zad (zad (Frm.refl _ _) 0 _) 1 _
    have pl:zbi gl (.slice a9 N1 c9) (.slice a8 N2 c8) wl:=by rw[hwl];exact heap_setCell_same _ gl 1 _ _ _ (heap_setCell_same _ gl 0 _ _ _ Hpl01123122.out)
    have hbl:Below w6.heap.size w6 wl:=Hb01123122.out.trans (hFl.below Hb01123122.out.size (fun k hk=>by rw[hk];exact Hge.out))
    have hr1':=hFl.owns hr1 (fun k hk e=>za3 hr1 Hpl01123122.out (by decide) (by rw[hk,e]))
    have hr2':=hFl.owns hr2 (fun k hk e=>za3 hr2 Hpl01123122.out (by decide) (by rw[hk,e]))
    have hrd:=HSm.out wl _ _ _ _ hbl hr1' hr2'
    rw[← hwl]
    clear hwl fz0 fz1 fc0 fc1
    obtain⟨Hr1,Hr2,HFl,Hr1',Hr2',Hpl,Hbl,Hrd⟩:=hzRecipeJoins8 hr1 hr2 hFl hr1' hr2' pl hbl hrd;clear hr1 hr2 hFl hr1' hr2' pl hbl hrd
    refine hK.out _ _ (by exact Hcells.out _ Hbl.out) (fun hHeld=>?_)
    clear hK K
    try simp only[Act.put,lA,lB,lC]
    refine wpAnyH_done (by kernel_rfl) ?_ _
    go_simp
    have hbwl:=Hbw6.out.trans (Hbl.out.mono Hbw6.out.size)
    have Hbwl:=zal hbwl;clear hbwl
    go_wp2_with fail
    refine (HF.out _ Hbwl.out).mono ?_
    rintro e w7 ⟨rfl,hb7⟩
    have hb67:=Hbl.out.trans (hb7.mono Hbl.out.size)
    have hbw7:=Hbwl.out.trans (hb7.mono Hbwl.out.size)
    have hSm7:=HSame.out w7 _ _ _ _ _ _ hb67 (Hrd.out.below hb7)
    obtain⟨-,-,-,-,i0,i1⟩:=Hcells.out w7 hb67
    obtain⟨j0,j1,-⟩:=zar (za0 hb7 Hpl.out)
    obtain⟨Hb7,Hb67,Hbw7,HSm7⟩:=hzRecipeJoins4 hb7 hb67 hbw7 hSm7;clear hb7 hb67 hbw7 hSm7
    go_wp2_with fail
    refine HSm7.out.mono ?_
    rintro e w8 ⟨rfl,hb8⟩
    have hbw8:=Hbw7.out.trans (hb8.mono Hbw7.out.size)
    clear i0 i1 j0 j1
    obtain⟨Hb8,Hbw8⟩:=hzRecipeJoins2 hb8 hbw8;clear hb8 hbw8
    go_wp2_with fail
    go_ret
    exact⟨rfl,Hbw8.out⟩
   go_simp
   obtain⟨W0113,hW0113⟩ : ∃ z,z=W011.alloc (.cells #[.slice none 0 0,.slice none 0 0] 73):=⟨_,rfl⟩
   obtain⟨gl,hgl⟩ : ∃ z,z=W011.heap.size:=⟨_,rfl⟩
   have hb0113:Below w6.heap.size w6 W0113:=by rw[hW0113];exact Hb011.out.trans ((za1 _ _).mono Hb011.out.size)
   have pl0113:zbi gl (.slice none 0 0) (.slice none 0 0) W0113:=by rw[hW0113,hgl];exact heap_alloc_new _ _
   have hge:w6.heap.size≤gl:=by rw[hgl];exact Hb011.out.size
   have hr10113:=za6 Hr1011.out (za1 W011 (.cells #[.slice none 0 0,.slice none 0 0] 73))
   rw[← hW0113,← hgl]
   rw[← hW0113] at hr10113
   clear hW0113 hgl
   obtain⟨Hb0113,Hpl0113,Hge,Hr10113⟩:=hzRecipeJoins4 hb0113 pl0113 hge hr10113;clear hb0113 pl0113 hge hr10113
   refine hK.out _ _ (by exact Hcells.out _ Hb0113.out) (fun hHeld=>?_)
   clear hK K
   try simp only[Act.put,lA,lB,lC]
   refine wpAnyH_ready (rs:=[6,7]) (by kernel_rfl) (by simp) ?_
   refine AllReadyH.cons rfl (fun K hK=>?_) (AllReadyH.cons rfl (fun K hK=>?_) AllReadyH.nil)
   ·refine za4 zav (.tmp 83) (.tmp 85) rfl w6.heap.size v011 (0+n1) css.flatten rfl Hr10113.out ya m1 e1 dss.flatten rfl Hl1y.out (Hc1y.out _ Hb0113.out) H11y.out Hbn1y.out Hbm1y.out Hb0113.out.size ?_
    intro v01131 W01131 hr101131 hg01131 _
    have hb01131:Below w6.heap.size w6 W01131:=zai Hb0113.out Hr10113.out (Nat.le_refl _) hg01131 Hb0113.out.size
    have pl01131:=zaf Hpl0113.out (za7 hg01131) (za3 Hr10113.out Hpl0113.out (by decide))
    obtain⟨Hb01131,Hr101131,Hg01131,Hpl01131⟩:=hzRecipeJoins4 hb01131 hr101131 hg01131 pl01131;clear hb01131 hr101131 hg01131 pl01131
    refine hK.out _ _ (by exact Hcells.out _ Hb01131.out) (fun hHeld=>?_)
    clear hK K
    try simp only[Act.put,lA,lB,lC]
    refine wpAnyH_ready (rs:=[7]) (by kernel_rfl) (by simp) ?_
    refine AllReadyH.cons rfl (fun K hK=>?_) AllReadyH.nil
    go_simp
    obtain⟨W011312,hW011312⟩ : ∃ z,z=W01131.alloc (.cells #[] 125):=⟨_,rfl⟩
    have hb011312:Below w6.heap.size w6 W011312:=by rw[hW011312];exact Hb01131.out.trans ((za1 _ _).mono Hb01131.out.size)
    have hr2011312:W011312.ownsRow w6.heap.size 125 3 (.slice (some ⟨W01131.heap.size,0,none⟩) 0 0) 0 []:=by rw[hW011312];exact Hlit2.out W01131 Hb01131.out.size
    have hr1011312:=za6 Hr101131.out (za1 W01131 (.cells #[] 125))
    have pl011312:=za0 (za1 W01131 (.cells #[] 125)) Hpl01131.out
    rw[← hW011312]
    rw[← hW011312] at hr1011312 pl011312
    clear hW011312
    obtain⟨Hb011312,Hr2011312,Hr1011312,Hpl011312⟩:=hzRecipeJoins4 hb011312 hr2011312 hr1011312 pl011312;clear hb011312 hr2011312 hr1011312 pl011312
    refine hK.out _ _ (by exact Hcells.out _ Hb011312.out) (fun hHeld=>?_)
    clear hK K
    try simp only[Act.put,lA,lB,lC]
    refine wpAnyH_ready (rs:=[10]) (by kernel_rfl) (by simp) ?_
    refine AllReadyH.cons rfl (fun K hK=>?_) AllReadyH.nil
    refine za4 zak (.tmp 87) (.tmp 89) rfl w6.heap.size (.slice (some ⟨W01131.heap.size,0,none⟩) 0 0) 0 [] rfl Hr2011312.out xb n2 c2 cst.flatten rfl Hl2x.out (Hc2x.out _ Hb011312.out) H12x.out Hbn2x.out Hbm2x.out Hb011312.out.size ?_
    intro v0113122 W0113122 hr20113122 hg0113122 _
    have hb0113122:Below w6.heap.size w6 W0113122:=zai Hb011312.out Hr2011312.out (Nat.le_refl _) hg0113122 Hb011312.out.size
    have hr20113122:W0113122.ownsRow w6.heap.size 125 3 v0113122 (0+n2) cst.flatten:=hr20113122
    have hr10113122:=zae Hr2011312.out Hr1011312.out (by decide) hg0113122
    have pl0113122:=zaf Hpl011312.out (za7 hg0113122) (za3 Hr2011312.out Hpl011312.out (by decide))
    obtain⟨Hb0113122,Hr20113122,Hg0113122,Hr10113122,Hpl0113122⟩:=hzRecipeJoins5 hb0113122 hr20113122 hg0113122 hr10113122 pl0113122;clear hb0113122 hr20113122 hg0113122 hr10113122 pl0113122
    refine hK.out _ _ (by exact Hcells.out _ Hb0113122.out) (fun hHeld=>?_)
    clear hK K
    try simp only[Act.put,lA,lB,lC]
    refine wpAnyH_ready (rs:=[13]) (by kernel_rfl) (by simp) ?_
    refine AllReadyH.cons rfl (fun K hK=>?_) AllReadyH.nil
    refine za4 zak (.tmp 90) (.tmp 92) rfl w6.heap.size v0113122 (0+n2) cst.flatten rfl Hr20113122.out yb m2 e2 dst.flatten rfl Hl2y.out (Hc2y.out _ Hb0113122.out) H12y.out Hbn2y.out Hbm2y.out Hb0113122.out.size ?_
    intro v01131222 W01131222 hr201131222 hg01131222 _
    have hb01131222:Below w6.heap.size w6 W01131222:=zai Hb0113122.out Hr20113122.out (Nat.le_refl _) hg01131222 Hb0113122.out.size
    have hr101131222:=zae Hr20113122.out Hr10113122.out (by decide) hg01131222
    have pl01131222:=zaf Hpl0113122.out (za7 hg01131222) (za3 Hr20113122.out Hpl0113122.out (by decide))
    obtain⟨Hb01131222,Hr201131222,Hg01131222,Hr101131222,Hpl01131222⟩:=hzRecipeJoins5 hb01131222 hr201131222 hg01131222 hr101131222 pl01131222;clear hb01131222 hr201131222 hg01131222 hr101131222 pl01131222
    refine hK.out _ _ (by exact Hcells.out _ Hb01131222.out) (fun hHeld=>?_)
    clear hK K
    try simp only[Act.put,lA,lB,lC]
    have hr1:=Hr101131222.out
    have hr2:=Hr201131222.out
    rw[← HN1.out] at hr1
    rw[← HN2.out] at hr2
    obtain⟨a9,c9,rfl⟩:=za9 hr1
    obtain⟨a8,c8,rfl⟩:=za9 hr2
    clear hr1 hr2
    have hSd:=Hcells.out W01131222 Hb01131222.out
    refine wpAnyH_take (i:=14) (v:=?_) rfl (by kernel_rfl) (by kernel_rfl) (by kernel_rfl) (fun _ _ _ h=>h) (Or.inl ⟨by kernel_rfl,?_⟩) (by assumption) ?_
    rotate_left
    ·(intro w hSw;(try dsimp only at hSw);(try obtain⟨o0,o1,o2,o3,o4,o5⟩:=hSw);go_simp;try with_reducible rfl)
    try simp only[Act.put,lA,lB,lC]
    have hr1:=Hr101131222.out
    have hr2:=Hr201131222.out
    rw[← HN1.out] at hr1
    rw[← HN2.out] at hr2
    refine wpAnyH_ready (rs:=[16]) (by kernel_rfl) (by simp) ?_
    refine AllReadyH.cons rfl (fun K hK=>?_) AllReadyH.nil
    have fz0:=za5 Hpl01131222.out 0
    have fz1:=za5 Hpl01131222.out 1
    have fc0:=za2 Hpl01131222.out 0
    have fc1:=za2 Hpl01131222.out 1
    simp only[List.getElem?_toArray,List.getElem?_cons_zero,List.getElem?_cons_succ] at fc0 fc1
    go_simp
    obtain⟨wl,hwl⟩ : ∃ W,W=(W01131222.setCell ⟨gl,0,none⟩ (.slice a9 N1 c9)).setCell ⟨gl,1,none⟩ (.slice a8 N2 c8):=⟨_,rfl⟩
    have hFl:Frm (fun k=>k=gl) W01131222 wl:=by rw[hwl];exact zad (zad (Frm.refl _ _) 0 _) 1 _
    have pl:zbi gl (.slice a9 N1 c9) (.slice a8 N2 c8) wl:=by rw[hwl];exact heap_setCell_same _ gl 1 _ _ _ (heap_setCell_same _ gl 0 _ _ _ Hpl01131222.out)
    have hbl:Below w6.heap.size w6 wl:=Hb01131222.out.trans (hFl.below Hb01131222.out.size (fun k hk=>by rw[hk];exact Hge.out))
    have hr1':=hFl.owns hr1 (fun k hk e=>za3 hr1 Hpl01131222.out (by decide) (by rw[hk,e]))
    have hr2':=hFl.owns hr2 (fun k hk e=>za3 hr2 Hpl01131222.out (by decide) (by rw[hk,e]))
    have hrd:=HSm.out wl _ _ _ _ hbl hr1' hr2'
    rw[← hwl]
    clear hwl fz0 fz1 fc0 fc1
    obtain⟨Hr1,Hr2,HFl,Hr1',Hr2',Hpl,Hbl,Hrd⟩:=hzRecipeJoins8 hr1 hr2 hFl hr1' hr2' pl hbl hrd;clear hr1 hr2 hFl hr1' hr2' pl hbl hrd
    refine hK.out _ _ (by exact Hcells.out _ Hbl.out) (fun hHeld=>?_)
    clear hK K
    try simp only[Act.put,lA,lB,lC]
    refine wpAnyH_done (by kernel_rfl) ?_ _
    go_simp
    have hbwl:=Hbw6.out.trans (Hbl.out.mono Hbw6.out.size)
    have Hbwl:=zal hbwl;clear hbwl
    go_wp2_with fail
    refine (HF.out _ Hbwl.out).mono ?_
    rintro e w7 ⟨rfl,hb7⟩
    have hb67:=Hbl.out.trans (hb7.mono Hbl.out.size)
    have hbw7:=Hbwl.out.trans (hb7.mono Hbwl.out.size)
    have hSm7:=HSame.out w7 _ _ _ _ _ _ hb67 (Hrd.out.below hb7)
    obtain⟨-,-,-,-,i0,i1⟩:=Hcells.out w7 hb67
    obtain⟨j0,j1,-⟩:=zar (za0 hb7 Hpl.out)
    obtain⟨Hb7,Hb67,Hbw7,HSm7⟩:=hzRecipeJoins4 hb7 hb67 hbw7 hSm7;clear hb7 hb67 hbw7 hSm7
    go_wp2_with fail
    refine HSm7.out.mono ?_
    rintro e w8 ⟨rfl,hb8⟩
    have hbw8:=Hbw7.out.trans (hb8.mono Hbw7.out.size)
    clear i0 i1 j0 j1
    obtain⟨Hb8,Hbw8⟩:=hzRecipeJoins2 hb8 hbw8;clear hb8 hbw8
    go_wp2_with fail
    go_ret
    exact⟨rfl,Hbw8.out⟩
   go_simp
   obtain⟨W01132,hW01132⟩ : ∃ z,z=W0113.alloc (.cells #[] 125):=⟨_,rfl⟩
   have hb01132:Below w6.heap.size w6 W01132:=by rw[hW01132];exact Hb0113.out.trans ((za1 _ _).mono Hb0113.out.size)
   have hr201132:W01132.ownsRow w6.heap.size 125 3 (.slice (some ⟨W0113.heap.size,0,none⟩) 0 0) 0 []:=by rw[hW01132];exact Hlit2.out W0113 Hb0113.out.size
   have hr101132:=za6 Hr10113.out (za1 W0113 (.cells #[] 125))
   have pl01132:=za0 (za1 W0113 (.cells #[] 125)) Hpl0113.out
   rw[← hW01132]
   rw[← hW01132] at hr101132 pl01132
   clear hW01132
   obtain⟨Hb01132,Hr201132,Hr101132,Hpl01132⟩:=hzRecipeJoins4 hb01132 hr201132 hr101132 pl01132;clear hb01132 hr201132 hr101132 pl01132
   refine hK.out _ _ (by exact Hcells.out _ Hb01132.out) (fun hHeld=>?_)
   clear hK K
   try simp only[Act.put,lA,lB,lC]
   refine wpAnyH_ready (rs:=[6]) (by kernel_rfl) (by simp) ?_
   refine AllReadyH.cons rfl (fun K hK=>?_) AllReadyH.nil
   refine za4 zav (.tmp 83) (.tmp 85) rfl w6.heap.size v011 (0+n1) css.flatten rfl Hr101132.out ya m1 e1 dss.flatten rfl Hl1y.out (Hc1y.out _ Hb01132.out) H11y.out Hbn1y.out Hbm1y.out Hb01132.out.size ?_
   intro v011321 W011321 hr1011321 hg011321 _
   have hb011321:Below w6.heap.size w6 W011321:=zai Hb01132.out Hr101132.out (Nat.le_refl _) hg011321 Hb01132.out.size
   have hr2011321:=zae Hr101132.out Hr201132.out (by decide) hg011321
   have pl011321:=zaf Hpl01132.out (za7 hg011321) (za3 Hr101132.out Hpl01132.out (by decide))
   obtain⟨Hb011321,Hr1011321,Hg011321,Hr2011321,Hpl011321⟩:=hzRecipeJoins5 hb011321 hr1011321 hg011321 hr2011321 pl011321;clear hb011321 hr1011321 hg011321 hr2011321 pl011321
   refine hK.out _ _ (by exact Hcells.out _ Hb011321.out) (fun hHeld=>?_)
   clear hK K
   try simp only[Act.put,lA,lB,lC]
   refine wpAnyH_ready (rs:=[10]) (by kernel_rfl) (by simp) ?_
   refine AllReadyH.cons rfl (fun K hK=>?_) AllReadyH.nil
   refine za4 zak (.tmp 87) (.tmp 89) rfl w6.heap.size (.slice (some ⟨W0113.heap.size,0,none⟩) 0 0) 0 [] rfl Hr2011321.out xb n2 c2 cst.flatten rfl Hl2x.out (Hc2x.out _ Hb011321.out) H12x.out Hbn2x.out Hbm2x.out Hb011321.out.size ?_
   intro v0113212 W0113212 hr20113212 hg0113212 _
   have hb0113212:Below w6.heap.size w6 W0113212:=zai Hb011321.out Hr2011321.out (Nat.le_refl _) hg0113212 Hb011321.out.size
   have hr20113212:W0113212.ownsRow w6.heap.size 125 3 v0113212 (0+n2) cst.flatten:=hr20113212
   have hr10113212:=zae Hr2011321.out Hr1011321.out (by decide) hg0113212
   have pl0113212:=zaf Hpl011321.out (za7 hg0113212) (za3 Hr2011321.out Hpl011321.out (by decide))
   obtain⟨Hb0113212,Hr20113212,Hg0113212,Hr10113212,Hpl0113212⟩:=hzRecipeJoins5 hb0113212 hr20113212 hg0113212 hr10113212 pl0113212;clear hb0113212 hr20113212 hg0113212 hr10113212 pl0113212
   refine hK.out _ _ (by exact Hcells.out _ Hb0113212.out) (fun hHeld=>?_)
   clear hK K
   try simp only[Act.put,lA,lB,lC]
   refine wpAnyH_ready (rs:=[13]) (by kernel_rfl) (by simp) ?_
   refine AllReadyH.cons rfl (fun K hK=>?_) AllReadyH.nil
   refine za4 zak (.tmp 90) (.tmp 92) rfl w6.heap.size v0113212 (0+n2) cst.flatten rfl Hr20113212.out yb m2 e2 dst.flatten rfl Hl2y.out (Hc2y.out _ Hb0113212.out) H12y.out Hbn2y.out Hbm2y.out Hb0113212.out.size ?_
   intro v01132122 W01132122 hr201132122 hg01132122 _
   have hb01132122:Below w6.heap.size w6 W01132122:=zai Hb0113212.out Hr20113212.out (Nat.le_refl _) hg01132122 Hb0113212.out.size
   have hr101132122:=zae Hr20113212.out Hr10113212.out (by decide) hg01132122
   have pl01132122:=zaf Hpl0113212.out (za7 hg01132122) (za3 Hr20113212.out Hpl0113212.out (by decide))
   obtain⟨Hb01132122,Hr201132122,Hg01132122,Hr101132122,Hpl01132122⟩:=hzRecipeJoins5 hb01132122 hr201132122 hg01132122 hr101132122 pl01132122;clear hb01132122 hr201132122 hg01132122 hr101132122 pl01132122
   refine hK.out _ _ (by exact Hcells.out _ Hb01132122.out) (fun hHeld=>?_)
   clear hK K
   try simp only[Act.put,lA,lB,lC]
   have hr1:=Hr101132122.out
   have hr2:=Hr201132122.out
   rw[← HN1.out] at hr1
   rw[← HN2.out] at hr2
   obtain⟨a9,c9,rfl⟩:=za9 hr1
   obtain⟨a8,c8,rfl⟩:=za9 hr2
   clear hr1 hr2
   have hSd:=Hcells.out W01132122 Hb01132122.out
   refine wpAnyH_take (i:=14) (v:=?_) rfl (by kernel_rfl) (by kernel_rfl) (by kernel_rfl) (fun _ _ _ h=>h) (Or.inl ⟨by kernel_rfl,?_⟩) (by assumption) ?_
   rotate_left
   ·(intro w hSw;(try dsimp only at hSw);(try obtain⟨o0,o1,o2,o3,o4,o5⟩:=hSw);go_simp;try with_reducible rfl)
   try simp only[Act.put,lA,lB,lC]
   have hr1:=Hr101132122.out
   have hr2:=Hr201132122.out
   rw[← HN1.out] at hr1
   rw[← HN2.out] at hr2
   refine wpAnyH_ready (rs:=[16]) (by kernel_rfl) (by simp) ?_
   refine AllReadyH.cons rfl (fun K hK=>?_) AllReadyH.nil
   have fz0:=za5 Hpl01132122.out 0
   have fz1:=za5 Hpl01132122.out 1
   have fc0:=za2 Hpl01132122.out 0
   have fc1:=za2 Hpl01132122.out 1
   simp only[List.getElem?_toArray,List.getElem?_cons_zero,List.getElem?_cons_succ] at fc0 fc1
   go_simp
   obtain⟨wl,hwl⟩ : ∃ W,W=(W01132122.setCell ⟨gl,0,none⟩ (.slice a9 N1 c9)).setCell ⟨gl,1,none⟩ (.slice a8 N2 c8):=⟨_,rfl⟩
   have hFl:Frm (fun k=>k=gl) W01132122 wl:=by rw[hwl];exact zad (zad (Frm.refl _ _) 0 _) 1 _
   have pl:zbi gl (.slice a9 N1 c9) (.slice a8 N2 c8) wl:=by rw[hwl];exact heap_setCell_same _ gl 1 _ _ _ (heap_setCell_same _ gl 0 _ _ _ Hpl01132122.out)
   have hbl:Below w6.heap.size w6 wl:=Hb01132122.out.trans (hFl.below Hb01132122.out.size (fun k hk=>by rw[hk];exact Hge.out))
   have hr1':=hFl.owns hr1 (fun k hk e=>za3 hr1 Hpl01132122.out (by decide) (by rw[hk,e]))
   have hr2':=hFl.owns hr2 (fun k hk e=>za3 hr2 Hpl01132122.out (by decide) (by rw[hk,e]))
   have hrd:=HSm.out wl _ _ _ _ hbl hr1' hr2'
   rw[← hwl]
   clear hwl fz0 fz1 fc0 fc1
   obtain⟨Hr1,Hr2,HFl,Hr1',Hr2',Hpl,Hbl,Hrd⟩:=hzRecipeJoins8 hr1 hr2 hFl hr1' hr2' pl hbl hrd;clear hr1 hr2 hFl hr1' hr2' pl hbl hrd
   refine hK.out _ _ (by exact Hcells.out _ Hbl.out) (fun hHeld=>?_)
   clear hK K
   try simp only[Act.put,lA,lB,lC]
   refine wpAnyH_done (by kernel_rfl) ?_ _
   go_simp
   have hbwl:=Hbw6.out.trans (Hbl.out.mono Hbw6.out.size)
   have Hbwl:=zal hbwl;clear hbwl
   go_wp2_with fail
   refine (HF.out _ Hbwl.out).mono ?_
   rintro e w7 ⟨rfl,hb7⟩
   have hb67:=Hbl.out.trans (hb7.mono Hbl.out.size)
   have hbw7:=Hbwl.out.trans (hb7.mono Hbwl.out.size)
   have hSm7:=HSame.out w7 _ _ _ _ _ _ hb67 (Hrd.out.below hb7)
   obtain⟨-,-,-,-,i0,i1⟩:=Hcells.out w7 hb67
   obtain⟨j0,j1,-⟩:=zar (za0 hb7 Hpl.out)
   obtain⟨Hb7,Hb67,Hbw7,HSm7⟩:=hzRecipeJoins4 hb7 hb67 hbw7 hSm7;clear hb7 hb67 hbw7 hSm7
   go_wp2_with fail
   refine HSm7.out.mono ?_
   rintro e w8 ⟨rfl,hb8⟩
   have hbw8:=Hbw7.out.trans (hb8.mono Hbw7.out.size)
   clear i0 i1 j0 j1
   obtain⟨Hb8,Hbw8⟩:=hzRecipeJoins2 hb8 hbw8;clear hb8 hbw8
   go_wp2_with fail
   go_ret
   exact⟨rfl,Hbw8.out⟩
  ·go_simp
   obtain⟨W012,hW012⟩ : ∃ z,z=W01.alloc (.cells #[] 125):=⟨_,rfl⟩
   have hb012:Below w6.heap.size w6 W012:=by rw[hW012];exact Hb01.out.trans ((za1 _ _).mono Hb01.out.size)
   have hr2012:W012.ownsRow w6.heap.size 125 3 (.slice (some ⟨W01.heap.size,0,none⟩) 0 0) 0 []:=by rw[hW012];exact Hlit2.out W01 Hb01.out.size
   have hr1012:=za6 Hr101.out (za1 W01 (.cells #[] 125))
   rw[← hW012]
   rw[← hW012] at hr1012
   clear hW012
   obtain⟨Hb012,Hr2012,Hr1012⟩:=hzRecipeJoins3 hb012 hr2012 hr1012;clear hb012 hr2012 hr1012
   refine hK.out _ _ (by exact Hcells.out _ Hb012.out) (fun hHeld=>?_)
   clear hK K
   try simp only[Act.put,lA,lB,lC]
   refine wpAnyH_ready (rs:=[3,15]) (by kernel_rfl) (by simp) ?_
   refine AllReadyH.cons rfl (fun K hK=>?_) (AllReadyH.cons rfl (fun K hK=>?_) AllReadyH.nil)
   ·refine za4 zav (.tmp 80) (.tmp 82) rfl w6.heap.size (.slice (some ⟨W0.heap.size,0,none⟩) 0 0) 0 [] rfl Hr1012.out xa n1 c1 css.flatten rfl Hl1x.out (Hc1x.out _ Hb012.out) H11x.out Hbn1x.out Hbm1x.out Hb012.out.size ?_
    intro v0121 W0121 hr10121 hg0121 _
    have hb0121:Below w6.heap.size w6 W0121:=zai Hb012.out Hr1012.out (Nat.le_refl _) hg0121 Hb012.out.size
    have hr10121:W0121.ownsRow w6.heap.size 123 8 v0121 (0+n1) css.flatten:=hr10121
    have hr20121:=zae Hr1012.out Hr2012.out (by decide) hg0121
    obtain⟨Hb0121,Hr10121,Hg0121,Hr20121⟩:=hzRecipeJoins4 hb0121 hr10121 hg0121 hr20121;clear hb0121 hr10121 hg0121 hr20121
    refine hK.out _ _ (by exact Hcells.out _ Hb0121.out) (fun hHeld=>?_)
    clear hK K
    try simp only[Act.put,lA,lB,lC]
    refine wpAnyH_ready (rs:=[6,15]) (by kernel_rfl) (by simp) ?_
    refine AllReadyH.cons rfl (fun K hK=>?_) (AllReadyH.cons rfl (fun K hK=>?_) AllReadyH.nil)
    ·refine za4 zav (.tmp 83) (.tmp 85) rfl w6.heap.size v0121 (0+n1) css.flatten rfl Hr10121.out ya m1 e1 dss.flatten rfl Hl1y.out (Hc1y.out _ Hb0121.out) H11y.out Hbn1y.out Hbm1y.out Hb0121.out.size ?_
     intro v01211 W01211 hr101211 hg01211 _
     have hb01211:Below w6.heap.size w6 W01211:=zai Hb0121.out Hr10121.out (Nat.le_refl _) hg01211 Hb0121.out.size
     have hr201211:=zae Hr10121.out Hr20121.out (by decide) hg01211
     obtain⟨Hb01211,Hr101211,Hg01211,Hr201211⟩:=hzRecipeJoins4 hb01211 hr101211 hg01211 hr201211;clear hb01211 hr101211 hg01211 hr201211
     refine hK.out _ _ (by exact Hcells.out _ Hb01211.out) (fun hHeld=>?_)
     clear hK K
     try simp only[Act.put,lA,lB,lC]
     refine wpAnyH_ready (rs:=[10,15]) (by kernel_rfl) (by simp) ?_
     refine AllReadyH.cons rfl (fun K hK=>?_) (AllReadyH.cons rfl (fun K hK=>?_) AllReadyH.nil)
     ·refine za4 zak (.tmp 87) (.tmp 89) rfl w6.heap.size (.slice (some ⟨W01.heap.size,0,none⟩) 0 0) 0 [] rfl Hr201211.out xb n2 c2 cst.flatten rfl Hl2x.out (Hc2x.out _ Hb01211.out) H12x.out Hbn2x.out Hbm2x.out Hb01211.out.size ?_
      intro v012112 W012112 hr2012112 hg012112 _
      have hb012112:Below w6.heap.size w6 W012112:=zai Hb01211.out Hr201211.out (Nat.le_refl _) hg012112 Hb01211.out.size
      have hr2012112:W012112.ownsRow w6.heap.size 125 3 v012112 (0+n2) cst.flatten:=hr2012112
      have hr1012112:=zae Hr201211.out Hr101211.out (by decide) hg012112
      obtain⟨Hb012112,Hr2012112,Hg012112,Hr1012112⟩:=hzRecipeJoins4 hb012112 hr2012112 hg012112 hr1012112;clear hb012112 hr2012112 hg012112 hr1012112
      refine hK.out _ _ (by exact Hcells.out _ Hb012112.out) (fun hHeld=>?_)
      clear hK K
      try simp only[Act.put,lA,lB,lC]
      refine wpAnyH_ready (rs:=[13,15]) (by kernel_rfl) (by simp) ?_
      refine AllReadyH.cons rfl (fun K hK=>?_) (AllReadyH.cons rfl (fun K hK=>?_) AllReadyH.nil)
      ·refine za4 zak (.tmp 90) (.tmp 92) rfl w6.heap.size v012112 (0+n2) cst.flatten rfl Hr2012112.out yb m2 e2 dst.flatten rfl Hl2y.out (Hc2y.out _ Hb012112.out) H12y.out Hbn2y.out Hbm2y.out Hb012112.out.size ?_
       intro v0121122 W0121122 hr20121122 hg0121122 _
       have hb0121122:Below w6.heap.size w6 W0121122:=zai Hb012112.out Hr2012112.out (Nat.le_refl _) hg0121122 Hb012112.out.size
       have hr10121122:=zae Hr2012112.out Hr1012112.out (by decide) hg0121122
       obtain⟨Hb0121122,Hr20121122,Hg0121122,Hr10121122⟩:=hzRecipeJoins4 hb0121122 hr20121122 hg0121122 hr10121122;clear hb0121122 hr20121122 hg0121122 hr10121122
       refine hK.out _ _ (by exact Hcells.out _ Hb0121122.out) (fun hHeld=>?_)
       clear hK K
       try simp only[Act.put,lA,lB,lC]
       have hr1:=Hr10121122.out
       have hr2:=Hr20121122.out
       rw[← HN1.out] at hr1
       rw[← HN2.out] at hr2
       obtain⟨a9,c9,rfl⟩:=za9 hr1
       obtain⟨a8,c8,rfl⟩:=za9 hr2
       clear hr1 hr2
       have hSd:=Hcells.out W0121122 Hb0121122.out
       refine wpAnyH_take (i:=14) (v:=?_) rfl (by kernel_rfl) (by kernel_rfl) (by kernel_rfl) (fun _ _ _ h=>h) (Or.inl ⟨by kernel_rfl,?_⟩) (by assumption) ?_
       rotate_left
       ·(intro w hSw;(try dsimp only at hSw);(try obtain⟨o0,o1,o2,o3,o4,o5⟩:=hSw);go_simp;try with_reducible rfl)
       try simp only[Act.put,lA,lB,lC]
       refine wpAnyH_ready (rs:=[15]) (by kernel_rfl) (by simp) ?_
       refine AllReadyH.cons rfl (fun K hK=>?_) AllReadyH.nil
       go_simp
       obtain⟨W01211223,hW01211223⟩ : ∃ z,z=W0121122.alloc (.cells #[.slice none 0 0,.slice none 0 0] 73):=⟨_,rfl⟩
       obtain⟨gl,hgl⟩ : ∃ z,z=W0121122.heap.size:=⟨_,rfl⟩
       have hb01211223:Below w6.heap.size w6 W01211223:=by rw[hW01211223];exact Hb0121122.out.trans ((za1 _ _).mono Hb0121122.out.size)
       have pl01211223:zbi gl (.slice none 0 0) (.slice none 0 0) W01211223:=by rw[hW01211223,hgl];exact heap_alloc_new _ _
       have hge:w6.heap.size≤gl:=by rw[hgl];exact Hb0121122.out.size
       have hr101211223:=za6 Hr10121122.out (za1 W0121122 (.cells #[.slice none 0 0,.slice none 0 0] 73))
       have hr201211223:=za6 Hr20121122.out (za1 W0121122 (.cells #[.slice none 0 0,.slice none 0 0] 73))
       rw[← hW01211223,← hgl]
       rw[← hW01211223] at hr101211223 hr201211223
       clear hW01211223 hgl
       obtain⟨Hb01211223,Hpl01211223,Hge,Hr101211223,Hr201211223⟩:=hzRecipeJoins5 hb01211223 pl01211223 hge hr101211223 hr201211223;clear hb01211223 pl01211223 hge hr101211223 hr201211223
       refine hK.out _ _ (by exact Hcells.out _ Hb01211223.out) (fun hHeld=>?_)
       clear hK K
       try simp only[Act.put,lA,lB,lC]
       have hr1:=Hr101211223.out
       have hr2:=Hr201211223.out
       rw[← HN1.out] at hr1
       rw[← HN2.out] at hr2
       refine wpAnyH_ready (rs:=[16]) (by kernel_rfl) (by simp) ?_
       refine AllReadyH.cons rfl (fun K hK=>?_) AllReadyH.nil
       have fz0:=za5 Hpl01211223.out 0
       have fz1:=za5 Hpl01211223.out 1
       have fc0:=za2 Hpl01211223.out 0
       have fc1:=za2 Hpl01211223.out 1
       simp only[List.getElem?_toArray,List.getElem?_cons_zero,List.getElem?_cons_succ] at fc0 fc1
       go_simp
       obtain⟨wl,hwl⟩ : ∃ W,W=(W01211223.setCell ⟨gl,0,none⟩ (.slice a9 N1 c9)).setCell ⟨gl,1,none⟩ (.slice a8 N2 c8):=⟨_,rfl⟩
       have hFl:Frm (fun k=>k=gl) W01211223 wl:=by rw[hwl];exact zad (zad (Frm.refl _ _) 0 _) 1 _
       have pl:zbi gl (.slice a9 N1 c9) (.slice a8 N2 c8) wl:=by rw[hwl];exact heap_setCell_same _ gl 1 _ _ _ (heap_setCell_same _ gl 0 _ _ _ Hpl01211223.out)
       have hbl:Below w6.heap.size w6 wl:=Hb01211223.out.trans (hFl.below Hb01211223.out.size (fun k hk=>by rw[hk];exact Hge.out))
       have hr1':=hFl.owns hr1 (fun k hk e=>za3 hr1 Hpl01211223.out (by decide) (by rw[hk,e]))
       have hr2':=hFl.owns hr2 (fun k hk e=>za3 hr2 Hpl01211223.out (by decide) (by rw[hk,e]))
       have hrd:=HSm.out wl _ _ _ _ hbl hr1' hr2'
       rw[← hwl]
       clear hwl fz0 fz1 fc0 fc1
       obtain⟨Hr1,Hr2,HFl,Hr1',Hr2',Hpl,Hbl,Hrd⟩:=hzRecipeJoins8 hr1 hr2 hFl hr1' hr2' pl hbl hrd;clear hr1 hr2 hFl hr1' hr2' pl hbl hrd
       refine hK.out _ _ (by exact Hcells.out _ Hbl.out) (fun hHeld=>?_)
       clear hK K
       try simp only[Act.put,lA,lB,lC]
       refine wpAnyH_done (by kernel_rfl) ?_ _
       go_simp
       have hbwl:=Hbw6.out.trans (Hbl.out.mono Hbw6.out.size)
       have Hbwl:=zal hbwl;clear hbwl
       go_wp2_with fail
       refine (HF.out _ Hbwl.out).mono ?_
       rintro e w7 ⟨rfl,hb7⟩
       have hb67:=Hbl.out.trans (hb7.mono Hbl.out.size)
       have hbw7:=Hbwl.out.trans (hb7.mono Hbwl.out.size)
       have hSm7:=HSame.out w7 _ _ _ _ _ _ hb67 (Hrd.out.below hb7)
       obtain⟨-,-,-,-,i0,i1⟩:=Hcells.out w7 hb67
       obtain⟨j0,j1,-⟩:=zar (za0 hb7 Hpl.out)
       obtain⟨Hb7,Hb67,Hbw7,HSm7⟩:=hzRecipeJoins4 hb7 hb67 hbw7 hSm7;clear hb7 hb67 hbw7 hSm7
       go_wp2_with fail
       refine HSm7.out.mono ?_
       rintro e w8 ⟨rfl,hb8⟩
       have hbw8:=Hbw7.out.trans (hb8.mono Hbw7.out.size)
       clear i0 i1 j0 j1
       obtain⟨Hb8,Hbw8⟩:=hzRecipeJoins2 hb8 hbw8;clear hb8 hbw8
       go_wp2_with fail
       go_ret
       exact⟨rfl,Hbw8.out⟩
      go_simp
      obtain⟨W0121123,hW0121123⟩ : ∃ z,z=W012112.alloc (.cells #[.slice none 0 0,.slice none 0 0] 73):=⟨_,rfl⟩
      obtain⟨gl,hgl⟩ : ∃ z,z=W012112.heap.size:=⟨_,rfl⟩
      have hb0121123:Below w6.heap.size w6 W0121123:=by rw[hW0121123];exact Hb012112.out.trans ((za1 _ _).mono Hb012112.out.size)
      have pl0121123:zbi gl (.slice none 0 0) (.slice none 0 0) W0121123:=by rw[hW0121123,hgl];exact heap_alloc_new _ _
      have hge:w6.heap.size≤gl:=by rw[hgl];exact Hb012112.out.size
      have hr10121123:=za6 Hr1012112.out (za1 W012112 (.cells #[.slice none 0 0,.slice none 0 0] 73))
      have hr20121123:=za6 Hr2012112.out (za1 W012112 (.cells #[.slice none 0 0,.slice none 0 0] 73))
      rw[← hW0121123,← hgl]
      rw[← hW0121123] at hr10121123 hr20121123
      clear hW0121123 hgl
      obtain⟨Hb0121123,Hpl0121123,Hge,Hr10121123,Hr20121123⟩:=hzRecipeJoins5 hb0121123 pl0121123 hge hr10121123 hr20121123;clear hb0121123 pl0121123 hge hr10121123 hr20121123
      refine hK.out _ _ (by exact Hcells.out _ Hb0121123.out) (fun hHeld=>?_)
      clear hK K
      try simp only[Act.put,lA,lB,lC]
      refine wpAnyH_ready (rs:=[13]) (by kernel_rfl) (by simp) ?_
      refine AllReadyH.cons rfl (fun K hK=>?_) AllReadyH.nil
      refine za4 zak (.tmp 90) (.tmp 92) rfl w6.heap.size v012112 (0+n2) cst.flatten rfl Hr20121123.out yb m2 e2 dst.flatten rfl Hl2y.out (Hc2y.out _ Hb0121123.out) H12y.out Hbn2y.out Hbm2y.out Hb0121123.out.size ?_
      intro v01211232 W01211232 hr201211232 hg01211232 _
      have hb01211232:Below w6.heap.size w6 W01211232:=zai Hb0121123.out Hr20121123.out (Nat.le_refl _) hg01211232 Hb0121123.out.size
      have hr101211232:=zae Hr20121123.out Hr10121123.out (by decide) hg01211232
      have pl01211232:=zaf Hpl0121123.out (za7 hg01211232) (za3 Hr20121123.out Hpl0121123.out (by decide))
      obtain⟨Hb01211232,Hr201211232,Hg01211232,Hr101211232,Hpl01211232⟩:=hzRecipeJoins5 hb01211232 hr201211232 hg01211232 hr101211232 pl01211232;clear hb01211232 hr201211232 hg01211232 hr101211232 pl01211232
      refine hK.out _ _ (by exact Hcells.out _ Hb01211232.out) (fun hHeld=>?_)
      clear hK K
      try simp only[Act.put,lA,lB,lC]
      have hr1:=Hr101211232.out
      have hr2:=Hr201211232.out
      rw[← HN1.out] at hr1
      rw[← HN2.out] at hr2
      obtain⟨a9,c9,rfl⟩:=za9 hr1
      obtain⟨a8,c8,rfl⟩:=za9 hr2
      clear hr1 hr2
      have hSd:=Hcells.out W01211232 Hb01211232.out
      refine wpAnyH_take (i:=14) (v:=?_) rfl (by kernel_rfl) (by kernel_rfl) (by kernel_rfl) (fun _ _ _ h=>h) (Or.inl ⟨by kernel_rfl,?_⟩) (by assumption) ?_
      rotate_left
      ·(intro w hSw;(try dsimp only at hSw);(try obtain⟨o0,o1,o2,o3,o4,o5⟩:=hSw);go_simp;try with_reducible rfl)
      try simp only[Act.put,lA,lB,lC]
      have hr1:=Hr101211232.out
      have hr2:=Hr201211232.out
      rw[← HN1.out] at hr1
      rw[← HN2.out] at hr2
      refine wpAnyH_ready (rs:=[16]) (by kernel_rfl) (by simp) ?_
      refine AllReadyH.cons rfl (fun K hK=>?_) AllReadyH.nil
      have fz0:=za5 Hpl01211232.out 0
      have fz1:=za5 Hpl01211232.out 1
      have fc0:=za2 Hpl01211232.out 0
      have fc1:=za2 Hpl01211232.out 1
      simp only[List.getElem?_toArray,List.getElem?_cons_zero,List.getElem?_cons_succ] at fc0 fc1
      go_simp
      obtain⟨wl,hwl⟩ : ∃ W,W=(W01211232.setCell ⟨gl,0,none⟩ (.slice a9 N1 c9)).setCell ⟨gl,1,none⟩ (.slice a8 N2 c8):=⟨_,rfl⟩
      have hFl:Frm (fun k=>k=gl) W01211232 wl:=by rw[hwl];exact zad (zad (Frm.refl _ _) 0 _) 1 _
      have pl:zbi gl (.slice a9 N1 c9) (.slice a8 N2 c8) wl:=by rw[hwl];exact heap_setCell_same _ gl 1 _ _ _ (heap_setCell_same _ gl 0 _ _ _ Hpl01211232.out)
      have hbl:Below w6.heap.size w6 wl:=Hb01211232.out.trans (hFl.below Hb01211232.out.size (fun k hk=>by rw[hk];exact Hge.out))
      have hr1':=hFl.owns hr1 (fun k hk e=>za3 hr1 Hpl01211232.out (by decide) (by rw[hk,e]))
      have hr2':=hFl.owns hr2 (fun k hk e=>za3 hr2 Hpl01211232.out (by decide) (by rw[hk,e]))
      have hrd:=HSm.out wl _ _ _ _ hbl hr1' hr2'
      rw[← hwl]
      clear hwl fz0 fz1 fc0 fc1
      obtain⟨Hr1,Hr2,HFl,Hr1',Hr2',Hpl,Hbl,Hrd⟩:=hzRecipeJoins8 hr1 hr2 hFl hr1' hr2' pl hbl hrd;clear hr1 hr2 hFl hr1' hr2' pl hbl hrd
      refine hK.out _ _ (by exact Hcells.out _ Hbl.out) (fun hHeld=>?_)
      clear hK K
      try simp only[Act.put,lA,lB,lC]
      refine wpAnyH_done (by kernel_rfl) ?_ _
      go_simp
      have hbwl:=Hbw6.out.trans (Hbl.out.mono Hbw6.out.size)
      have Hbwl:=zal hbwl;clear hbwl
      go_wp2_with fail
      refine (HF.out _ Hbwl.out).mono ?_
      rintro e w7 ⟨rfl,hb7⟩
      have hb67:=Hbl.out.trans (hb7.mono Hbl.out.size)
      have hbw7:=Hbwl.out.trans (hb7.mono Hbwl.out.size)
      have hSm7:=HSame.out w7 _ _ _ _ _ _ hb67 (Hrd.out.below hb7)
      obtain⟨-,-,-,-,i0,i1⟩:=Hcells.out w7 hb67
      obtain⟨j0,j1,-⟩:=zar (za0 hb7 Hpl.out)
      obtain⟨Hb7,Hb67,Hbw7,HSm7⟩:=hzRecipeJoins4 hb7 hb67 hbw7 hSm7;clear hb7 hb67 hbw7 hSm7
      go_wp2_with fail
      refine HSm7.out.mono ?_
      rintro e w8 ⟨rfl,hb8⟩
      have hbw8:=Hbw7.out.trans (hb8.mono Hbw7.out.size)
      clear i0 i1 j0 j1
      obtain⟨Hb8,Hbw8⟩:=hzRecipeJoins2 hb8 hbw8;clear hb8 hbw8
      go_wp2_with fail
      go_ret
      exact⟨rfl,Hbw8.out⟩
     go_simp
     obtain⟨W012113,hW012113⟩ : ∃ z,z=W01211.alloc (.cells #[.slice none 0 0,.slice none 0 0] 73):=⟨_,rfl⟩
     obtain⟨gl,hgl⟩ : ∃ z,z=W01211.heap.size:=⟨_,rfl⟩
     have hb012113:Below w6.heap.size w6 W012113:=by rw[hW012113];exact Hb01211.out.trans ((za1 _ _).mono Hb01211.out.size)
     have pl012113:zbi gl (.slice none 0 0) (.slice none 0 0) W012113:=by rw[hW012113,hgl];exact heap_alloc_new _ _
     have hge:w6.heap.size≤gl:=by rw[hgl];exact Hb01211.out.size
     have hr1012113:=za6 Hr101211.out (za1 W01211 (.cells #[.slice none 0 0,.slice none 0 0] 73))
     have hr2012113:=za6 Hr201211.out (za1 W01211 (.cells #[.slice none 0 0,.slice none 0 0] 73))
     rw[← hW012113,← hgl]
     rw[← hW012113] at hr1012113 hr2012113
     clear hW012113 hgl
     obtain⟨Hb012113,Hpl012113,Hge,Hr1012113,Hr2012113⟩:=hzRecipeJoins5 hb012113 pl012113 hge hr1012113 hr2012113;clear hb012113 pl012113 hge hr1012113 hr2012113
     refine hK.out _ _ (by exact Hcells.out _ Hb012113.out) (fun hHeld=>?_)
     clear hK K
     try simp only[Act.put,lA,lB,lC]
     refine wpAnyH_ready (rs:=[10]) (by kernel_rfl) (by simp) ?_
     refine AllReadyH.cons rfl (fun K hK=>?_) AllReadyH.nil
     refine za4 zak (.tmp 87) (.tmp 89) rfl w6.heap.size (.slice (some ⟨W01.heap.size,0,none⟩) 0 0) 0 [] rfl Hr2012113.out xb n2 c2 cst.flatten rfl Hl2x.out (Hc2x.out _ Hb012113.out) H12x.out Hbn2x.out Hbm2x.out Hb012113.out.size ?_
     intro v0121132 W0121132 hr20121132 hg0121132 _
     have hb0121132:Below w6.heap.size w6 W0121132:=zai Hb012113.out Hr2012113.out (Nat.le_refl _) hg0121132 Hb012113.out.size
     have hr20121132:W0121132.ownsRow w6.heap.size 125 3 v0121132 (0+n2) cst.flatten:=hr20121132
     have hr10121132:=zae Hr2012113.out Hr1012113.out (by decide) hg0121132
     have pl0121132:=zaf Hpl012113.out (za7 hg0121132) (za3 Hr2012113.out Hpl012113.out (by decide))
     obtain⟨Hb0121132,Hr20121132,Hg0121132,Hr10121132,Hpl0121132⟩:=hzRecipeJoins5 hb0121132 hr20121132 hg0121132 hr10121132 pl0121132;clear hb0121132 hr20121132 hg0121132 hr10121132 pl0121132
     refine hK.out _ _ (by exact Hcells.out _ Hb0121132.out) (fun hHeld=>?_)
     clear hK K
     try simp only[Act.put,lA,lB,lC]
     refine wpAnyH_ready (rs:=[13]) (by kernel_rfl) (by simp) ?_
     refine AllReadyH.cons rfl (fun K hK=>?_) AllReadyH.nil
     refine za4 zak (.tmp 90) (.tmp 92) rfl w6.heap.size v0121132 (0+n2) cst.flatten rfl Hr20121132.out yb m2 e2 dst.flatten rfl Hl2y.out (Hc2y.out _ Hb0121132.out) H12y.out Hbn2y.out Hbm2y.out Hb0121132.out.size ?_
     intro v01211322 W01211322 hr201211322 hg01211322 _
     have hb01211322:Below w6.heap.size w6 W01211322:=zai Hb0121132.out Hr20121132.out (Nat.le_refl _) hg01211322 Hb0121132.out.size
     have hr101211322:=zae Hr20121132.out Hr10121132.out (by decide) hg01211322
     have pl01211322:=zaf Hpl0121132.out (za7 hg01211322) (za3 Hr20121132.out Hpl0121132.out (by decide))
     obtain⟨Hb01211322,Hr201211322,Hg01211322,Hr101211322,Hpl01211322⟩:=hzRecipeJoins5 hb01211322 hr201211322 hg01211322 hr101211322 pl01211322;clear hb01211322 hr201211322 hg01211322 hr101211322 pl01211322
     refine hK.out _ _ (by exact Hcells.out _ Hb01211322.out) (fun hHeld=>?_)
     clear hK K
     try simp only[Act.put,lA,lB,lC]
     have hr1:=Hr101211322.out
     have hr2:=Hr201211322.out
     rw[← HN1.out] at hr1
     rw[← HN2.out] at hr2
     obtain⟨a9,c9,rfl⟩:=za9 hr1
     obtain⟨a8,c8,rfl⟩:=za9 hr2
     clear hr1 hr2
     have hSd:=Hcells.out W01211322 Hb01211322.out
     refine wpAnyH_take (i:=14) (v:=?_) rfl (by kernel_rfl) (by kernel_rfl) (by kernel_rfl) (fun _ _ _ h=>h) (Or.inl ⟨by kernel_rfl,?_⟩) (by assumption) ?_
     rotate_left
     ·(intro w hSw;(try dsimp only at hSw);(try obtain⟨o0,o1,o2,o3,o4,o5⟩:=hSw);go_simp;try with_reducible rfl)
     try simp only[Act.put,lA,lB,lC]
     have hr1:=Hr101211322.out
     have hr2:=Hr201211322.out
     rw[← HN1.out] at hr1
     rw[← HN2.out] at hr2
     refine wpAnyH_ready (rs:=[16]) (by kernel_rfl) (by simp) ?_
     refine AllReadyH.cons rfl (fun K hK=>?_) AllReadyH.nil
     have fz0:=za5 Hpl01211322.out 0
     have fz1:=za5 Hpl01211322.out 1
     have fc0:=za2 Hpl01211322.out 0
     have fc1:=za2 Hpl01211322.out 1
     simp only[List.getElem?_toArray,List.getElem?_cons_zero,List.getElem?_cons_succ] at fc0 fc1
     go_simp
     obtain⟨wl,hwl⟩ : ∃ W,W=(W01211322.setCell ⟨gl,0,none⟩ (.slice a9 N1 c9)).setCell ⟨gl,1,none⟩ (.slice a8 N2 c8):=⟨_,rfl⟩
     have hFl:Frm (fun k=>k=gl) W01211322 wl:=by rw[hwl];exact zad (zad (Frm.refl _ _) 0 _) 1 _
     have pl:zbi gl (.slice a9 N1 c9) (.slice a8 N2 c8) wl:=by rw[hwl];exact heap_setCell_same _ gl 1 _ _ _ (heap_setCell_same _ gl 0 _ _ _ Hpl01211322.out)
     have hbl:Below w6.heap.size w6 wl:=Hb01211322.out.trans (hFl.below Hb01211322.out.size (fun k hk=>by rw[hk];exact Hge.out))
     have hr1':=hFl.owns hr1 (fun k hk e=>za3 hr1 Hpl01211322.out (by decide) (by rw[hk,e]))
     have hr2':=hFl.owns hr2 (fun k hk e=>za3 hr2 Hpl01211322.out (by decide) (by rw[hk,e]))
     have hrd:=HSm.out wl _ _ _ _ hbl hr1' hr2'
     rw[← hwl]
     clear hwl fz0 fz1 fc0 fc1
     obtain⟨Hr1,Hr2,HFl,Hr1',Hr2',Hpl,Hbl,Hrd⟩:=hzRecipeJoins8 hr1 hr2 hFl hr1' hr2' pl hbl hrd;clear hr1 hr2 hFl hr1' hr2' pl hbl hrd
     refine hK.out _ _ (by exact Hcells.out _ Hbl.out) (fun hHeld=>?_)
     clear hK K
     try simp only[Act.put,lA,lB,lC]
     refine wpAnyH_done (by kernel_rfl) ?_ _
     go_simp
     have hbwl:=Hbw6.out.trans (Hbl.out.mono Hbw6.out.size)
     have Hbwl:=zal hbwl;clear hbwl
     go_wp2_with fail
     refine (HF.out _ Hbwl.out).mono ?_
     rintro e w7 ⟨rfl,hb7⟩
     have hb67:=Hbl.out.trans (hb7.mono Hbl.out.size)
     have hbw7:=Hbwl.out.trans (hb7.mono Hbwl.out.size)
     have hSm7:=HSame.out w7 _ _ _ _ _ _ hb67 (Hrd.out.below hb7)
     obtain⟨-,-,-,-,i0,i1⟩:=Hcells.out w7 hb67
     obtain⟨j0,j1,-⟩:=zar (za0 hb7 Hpl.out)
     obtain⟨Hb7,Hb67,Hbw7,HSm7⟩:=hzRecipeJoins4 hb7 hb67 hbw7 hSm7;clear hb7 hb67 hbw7 hSm7
     go_wp2_with fail
     refine HSm7.out.mono ?_
     rintro e w8 ⟨rfl,hb8⟩
     have hbw8:=Hbw7.out.trans (hb8.mono Hbw7.out.size)
     clear i0 i1 j0 j1
     obtain⟨Hb8,Hbw8⟩:=hzRecipeJoins2 hb8 hbw8;clear hb8 hbw8
     go_wp2_with fail
     go_ret
     exact⟨rfl,Hbw8.out⟩
    go_simp
    obtain⟨W01213,hW01213⟩ : ∃ z,z=W0121.alloc (.cells #[.slice none 0 0,.slice none 0 0] 73):=⟨_,rfl⟩
    obtain⟨gl,hgl⟩ : ∃ z,z=W0121.heap.size:=⟨_,rfl⟩
    have hb01213:Below w6.heap.size w6 W01213:=by rw[hW01213];exact Hb0121.out.trans ((za1 _ _).mono Hb0121.out.size)
    have pl01213:zbi gl (.slice none 0 0) (.slice none 0 0) W01213:=by rw[hW01213,hgl];exact heap_alloc_new _ _
    have hge:w6.heap.size≤gl:=by rw[hgl];exact Hb0121.out.size
    have hr101213:=za6 Hr10121.out (za1 W0121 (.cells #[.slice none 0 0,.slice none 0 0] 73))
    have hr201213:=za6 Hr20121.out (za1 W0121 (.cells #[.slice none 0 0,.slice none 0 0] 73))
    rw[← hW01213,← hgl]
    rw[← hW01213] at hr101213 hr201213
    clear hW01213 hgl
    obtain⟨Hb01213,Hpl01213,Hge,Hr101213,Hr201213⟩:=hzRecipeJoins5 hb01213 pl01213 hge hr101213 hr201213;clear hb01213 pl01213 hge hr101213 hr201213
    refine hK.out _ _ (by exact Hcells.out _ Hb01213.out) (fun hHeld=>?_)
    clear hK K
    try simp only[Act.put,lA,lB,lC]
    refine wpAnyH_ready (rs:=[6]) (by kernel_rfl) (by simp) ?_
    refine AllReadyH.cons rfl (fun K hK=>?_) AllReadyH.nil
    refine za4 zav (.tmp 83) (.tmp 85) rfl w6.heap.size v0121 (0+n1) css.flatten rfl Hr101213.out ya m1 e1 dss.flatten rfl Hl1y.out (Hc1y.out _ Hb01213.out) H11y.out Hbn1y.out Hbm1y.out Hb01213.out.size ?_
    intro v012131 W012131 hr1012131 hg012131 _
    have hb012131:Below w6.heap.size w6 W012131:=zai Hb01213.out Hr101213.out (Nat.le_refl _) hg012131 Hb01213.out.size
    have hr2012131:=zae Hr101213.out Hr201213.out (by decide) hg012131
    have pl012131:=zaf Hpl01213.out (za7 hg012131) (za3 Hr101213.out Hpl01213.out (by decide))
    obtain⟨Hb012131,Hr1012131,Hg012131,Hr2012131,Hpl012131⟩:=hzRecipeJoins5 hb012131 hr1012131 hg012131 hr2012131 pl012131;clear hb012131 hr1012131 hg012131 hr2012131 pl012131
    refine hK.out _ _ (by exact Hcells.out _ Hb012131.out) (fun hHeld=>?_)
    clear hK K
    try simp only[Act.put,lA,lB,lC]
    refine wpAnyH_ready (rs:=[10]) (by kernel_rfl) (by simp) ?_
    refine AllReadyH.cons rfl (fun K hK=>?_) AllReadyH.nil
    refine za4 zak (.tmp 87) (.tmp 89) rfl w6.heap.size (.slice (some ⟨W01.heap.size,0,none⟩) 0 0) 0 [] rfl Hr2012131.out xb n2 c2 cst.flatten rfl Hl2x.out (Hc2x.out _ Hb012131.out) H12x.out Hbn2x.out Hbm2x.out Hb012131.out.size ?_
    intro v0121312 W0121312 hr20121312 hg0121312 _
    have hb0121312:Below w6.heap.size w6 W0121312:=zai Hb012131.out Hr2012131.out (Nat.le_refl _) hg0121312 Hb012131.out.size
    have hr20121312:W0121312.ownsRow w6.heap.size 125 3 v0121312 (0+n2) cst.flatten:=hr20121312
    have hr10121312:=zae Hr2012131.out Hr1012131.out (by decide) hg0121312
    have pl0121312:=zaf Hpl012131.out (za7 hg0121312) (za3 Hr2012131.out Hpl012131.out (by decide))
    obtain⟨Hb0121312,Hr20121312,Hg0121312,Hr10121312,Hpl0121312⟩:=hzRecipeJoins5 hb0121312 hr20121312 hg0121312 hr10121312 pl0121312;clear hb0121312 hr20121312 hg0121312 hr10121312 pl0121312
    refine hK.out _ _ (by exact Hcells.out _ Hb0121312.out) (fun hHeld=>?_)
    clear hK K
    try simp only[Act.put,lA,lB,lC]
    refine wpAnyH_ready (rs:=[13]) (by kernel_rfl) (by simp) ?_
    refine AllReadyH.cons rfl (fun K hK=>?_) AllReadyH.nil
    refine za4 zak (.tmp 90) (.tmp 92) rfl w6.heap.size v0121312 (0+n2) cst.flatten rfl Hr20121312.out yb m2 e2 dst.flatten rfl Hl2y.out (Hc2y.out _ Hb0121312.out) H12y.out Hbn2y.out Hbm2y.out Hb0121312.out.size ?_
    intro v01213122 W01213122 hr201213122 hg01213122 _
    have hb01213122:Below w6.heap.size w6 W01213122:=zai Hb0121312.out Hr20121312.out (Nat.le_refl _) hg01213122 Hb0121312.out.size
    have hr101213122:=zae Hr20121312.out Hr10121312.out (by decide) hg01213122
    have pl01213122:=zaf Hpl0121312.out (za7 hg01213122) (za3 Hr20121312.out Hpl0121312.out (by decide))
    obtain⟨Hb01213122,Hr201213122,Hg01213122,Hr101213122,Hpl01213122⟩:=hzRecipeJoins5 hb01213122 hr201213122 hg01213122 hr101213122 pl01213122;clear hb01213122 hr201213122 hg01213122 hr101213122 pl01213122
    refine hK.out _ _ (by exact Hcells.out _ Hb01213122.out) (fun hHeld=>?_)
    clear hK K
    try simp only[Act.put,lA,lB,lC]
    have hr1:=Hr101213122.out
    have hr2:=Hr201213122.out
    rw[← HN1.out] at hr1
    rw[← HN2.out] at hr2
    obtain⟨a9,c9,rfl⟩:=za9 hr1
    obtain⟨a8,c8,rfl⟩:=za9 hr2
    clear hr1 hr2
    have hSd:=Hcells.out W01213122 Hb01213122.out
    refine wpAnyH_take (i:=14) (v:=?_) rfl (by kernel_rfl) (by kernel_rfl) (by kernel_rfl) (fun _ _ _ h=>h) (Or.inl ⟨by kernel_rfl,?_⟩) (by assumption) ?_
    rotate_left
    ·(intro w hSw;(try dsimp only at hSw);(try obtain⟨o0,o1,o2,o3,o4,o5⟩:=hSw);go_simp;try with_reducible rfl)
    try simp only[Act.put,lA,lB,lC]
    have hr1:=Hr101213122.out
    have hr2:=Hr201213122.out
    rw[← HN1.out] at hr1
    rw[← HN2.out] at hr2
    refine wpAnyH_ready (rs:=[16]) (by kernel_rfl) (by simp) ?_
    refine AllReadyH.cons rfl (fun K hK=>?_) AllReadyH.nil
    have fz0:=za5 Hpl01213122.out 0
    have fz1:=za5 Hpl01213122.out 1
    have fc0:=za2 Hpl01213122.out 0
    have fc1:=za2 Hpl01213122.out 1
    simp only[List.getElem?_toArray,List.getElem?_cons_zero,List.getElem?_cons_succ] at fc0 fc1
    go_simp
    obtain⟨wl,hwl⟩ : ∃ W,W=(W01213122.setCell ⟨gl,0,none⟩ (.slice a9 N1 c9)).setCell ⟨gl,1,none⟩ (.slice a8 N2 c8):=⟨_,rfl⟩
    have hFl:Frm (fun k=>k=gl) W01213122 wl:=by rw[hwl];exact zad (zad (Frm.refl _ _) 0 _) 1 _
    have pl:zbi gl (.slice a9 N1 c9) (.slice a8 N2 c8) wl:=by rw[hwl];exact heap_setCell_same _ gl 1 _ _ _ (heap_setCell_same _ gl 0 _ _ _ Hpl01213122.out)
    have hbl:Below w6.heap.size w6 wl:=Hb01213122.out.trans (hFl.below Hb01213122.out.size (fun k hk=>by rw[hk];exact Hge.out))
    have hr1':=hFl.owns hr1 (fun k hk e=>za3 hr1 Hpl01213122.out (by decide) (by rw[hk,e]))
    have hr2':=hFl.owns hr2 (fun k hk e=>za3 hr2 Hpl01213122.out (by decide) (by rw[hk,e]))
    have hrd:=HSm.out wl _ _ _ _ hbl hr1' hr2'
    rw[← hwl]
    clear hwl fz0 fz1 fc0 fc1
    obtain⟨Hr1,Hr2,HFl,Hr1',Hr2',Hpl,Hbl,Hrd⟩:=hzRecipeJoins8 hr1 hr2 hFl hr1' hr2' pl hbl hrd;clear hr1 hr2 hFl hr1' hr2' pl hbl hrd
    refine hK.out _ _ (by exact Hcells.out _ Hbl.out) (fun hHeld=>?_)
    clear hK K
    try simp only[Act.put,lA,lB,lC]
    refine wpAnyH_done (by kernel_rfl) ?_ _
    go_simp
    have hbwl:=Hbw6.out.trans (Hbl.out.mono Hbw6.out.size)
    have Hbwl:=zal hbwl;clear hbwl
    go_wp2_with fail
    refine (HF.out _ Hbwl.out).mono ?_
    rintro e w7 ⟨rfl,hb7⟩
    have hb67:=Hbl.out.trans (hb7.mono Hbl.out.size)
    have hbw7:=Hbwl.out.trans (hb7.mono Hbwl.out.size)
    have hSm7:=HSame.out w7 _ _ _ _ _ _ hb67 (Hrd.out.below hb7)
    obtain⟨-,-,-,-,i0,i1⟩:=Hcells.out w7 hb67
    obtain⟨j0,j1,-⟩:=zar (za0 hb7 Hpl.out)
    obtain⟨Hb7,Hb67,Hbw7,HSm7⟩:=hzRecipeJoins4 hb7 hb67 hbw7 hSm7;clear hb7 hb67 hbw7 hSm7
    go_wp2_with fail
    refine HSm7.out.mono ?_
    rintro e w8 ⟨rfl,hb8⟩
    have hbw8:=Hbw7.out.trans (hb8.mono Hbw7.out.size)
    clear i0 i1 j0 j1
    obtain⟨Hb8,Hbw8⟩:=hzRecipeJoins2 hb8 hbw8;clear hb8 hbw8
    go_wp2_with fail
    go_ret
    exact⟨rfl,Hbw8.out⟩
   go_simp
   obtain⟨W0123,hW0123⟩ : ∃ z,z=W012.alloc (.cells #[.slice none 0 0,.slice none 0 0] 73):=⟨_,rfl⟩
   obtain⟨gl,hgl⟩ : ∃ z,z=W012.heap.size:=⟨_,rfl⟩
   have hb0123:Below w6.heap.size w6 W0123:=by rw[hW0123];exact Hb012.out.trans ((za1 _ _).mono Hb012.out.size)
   have pl0123:zbi gl (.slice none 0 0) (.slice none 0 0) W0123:=by rw[hW0123,hgl];exact heap_alloc_new _ _
   have hge:w6.heap.size≤gl:=by rw[hgl];exact Hb012.out.size
   have hr10123:=za6 Hr1012.out (za1 W012 (.cells #[.slice none 0 0,.slice none 0 0] 73))
   have hr20123:=za6 Hr2012.out (za1 W012 (.cells #[.slice none 0 0,.slice none 0 0] 73))
   rw[← hW0123,← hgl]
   rw[← hW0123] at hr10123 hr20123
   clear hW0123 hgl
   obtain⟨Hb0123,Hpl0123,Hge,Hr10123,Hr20123⟩:=hzRecipeJoins5 hb0123 pl0123 hge hr10123 hr20123;clear hb0123 pl0123 hge hr10123 hr20123
   refine hK.out _ _ (by exact Hcells.out _ Hb0123.out) (fun hHeld=>?_)
   clear hK K
   try simp only[Act.put,lA,lB,lC]
   refine wpAnyH_ready (rs:=[3]) (by kernel_rfl) (by simp) ?_
   refine AllReadyH.cons rfl (fun K hK=>?_) AllReadyH.nil
   refine za4 zav (.tmp 80) (.tmp 82) rfl w6.heap.size (.slice (some ⟨W0.heap.size,0,none⟩) 0 0) 0 [] rfl Hr10123.out xa n1 c1 css.flatten rfl Hl1x.out (Hc1x.out _ Hb0123.out) H11x.out Hbn1x.out Hbm1x.out Hb0123.out.size ?_
   intro v01231 W01231 hr101231 hg01231 _
   have hb01231:Below w6.heap.size w6 W01231:=zai Hb0123.out Hr10123.out (Nat.le_refl _) hg01231 Hb0123.out.size
   have hr101231:W01231.ownsRow w6.heap.size 123 8 v01231 (0+n1) css.flatten:=hr101231
   have hr201231:=zae Hr10123.out Hr20123.out (by decide) hg01231
   have pl01231:=zaf Hpl0123.out (za7 hg01231) (za3 Hr10123.out Hpl0123.out (by decide))
   obtain⟨Hb01231,Hr101231,Hg01231,Hr201231,Hpl01231⟩:=hzRecipeJoins5 hb01231 hr101231 hg01231 hr201231 pl01231;clear hb01231 hr101231 hg01231 hr201231 pl01231
   refine hK.out _ _ (by exact Hcells.out _ Hb01231.out) (fun hHeld=>?_)
   clear hK K
   try simp only[Act.put,lA,lB,lC]
   refine wpAnyH_ready (rs:=[6]) (by kernel_rfl) (by simp) ?_
   refine AllReadyH.cons rfl (fun K hK=>?_) AllReadyH.nil
   refine za4 zav (.tmp 83) (.tmp 85) rfl w6.heap.size v01231 (0+n1) css.flatten rfl Hr101231.out ya m1 e1 dss.flatten rfl Hl1y.out (Hc1y.out _ Hb01231.out) H11y.out Hbn1y.out Hbm1y.out Hb01231.out.size ?_
   intro v012311 W012311 hr1012311 hg012311 _
   have hb012311:Below w6.heap.size w6 W012311:=zai Hb01231.out Hr101231.out (Nat.le_refl _) hg012311 Hb01231.out.size
   have hr2012311:=zae Hr101231.out Hr201231.out (by decide) hg012311
   have pl012311:=zaf Hpl01231.out (za7 hg012311) (za3 Hr101231.out Hpl01231.out (by decide))
   obtain⟨Hb012311,Hr1012311,Hg012311,Hr2012311,Hpl012311⟩:=hzRecipeJoins5 hb012311 hr1012311 hg012311 hr2012311 pl012311;clear hb012311 hr1012311 hg012311 hr2012311 pl012311
   refine hK.out _ _ (by exact Hcells.out _ Hb012311.out) (fun hHeld=>?_)
   clear hK K
   try simp only[Act.put,lA,lB,lC]
   refine wpAnyH_ready (rs:=[10]) (by kernel_rfl) (by simp) ?_
   refine AllReadyH.cons rfl (fun K hK=>?_) AllReadyH.nil
   refine za4 zak (.tmp 87) (.tmp 89) rfl w6.heap.size (.slice (some ⟨W01.heap.size,0,none⟩) 0 0) 0 [] rfl Hr2012311.out xb n2 c2 cst.flatten rfl Hl2x.out (Hc2x.out _ Hb012311.out) H12x.out Hbn2x.out Hbm2x.out Hb012311.out.size ?_
   intro v0123112 W0123112 hr20123112 hg0123112 _
   have hb0123112:Below w6.heap.size w6 W0123112:=zai Hb012311.out Hr2012311.out (Nat.le_refl _) hg0123112 Hb012311.out.size
   have hr20123112:W0123112.ownsRow w6.heap.size 125 3 v0123112 (0+n2) cst.flatten:=hr20123112
   have hr10123112:=zae Hr2012311.out Hr1012311.out (by decide) hg0123112
   have pl0123112:=zaf Hpl012311.out (za7 hg0123112) (za3 Hr2012311.out Hpl012311.out (by decide))
   obtain⟨Hb0123112,Hr20123112,Hg0123112,Hr10123112,Hpl0123112⟩:=hzRecipeJoins5 hb0123112 hr20123112 hg0123112 hr10123112 pl0123112;clear hb0123112 hr20123112 hg0123112 hr10123112 pl0123112
   refine hK.out _ _ (by exact Hcells.out _ Hb0123112.out) (fun hHeld=>?_)
   clear hK K
   try simp only[Act.put,lA,lB,lC]
   refine wpAnyH_ready (rs:=[13]) (by kernel_rfl) (by simp) ?_
   refine AllReadyH.cons rfl (fun K hK=>?_) AllReadyH.nil
   refine za4 zak (.tmp 90) (.tmp 92) rfl w6.heap.size v0123112 (0+n2) cst.flatten rfl Hr20123112.out yb m2 e2 dst.flatten rfl Hl2y.out (Hc2y.out _ Hb0123112.out) H12y.out Hbn2y.out Hbm2y.out Hb0123112.out.size ?_
   intro v01231122 W01231122 hr201231122 hg01231122 _
   have hb01231122:Below w6.heap.size w6 W01231122:=zai Hb0123112.out Hr20123112.out (Nat.le_refl _) hg01231122 Hb0123112.out.size
   have hr101231122:=zae Hr20123112.out Hr10123112.out (by decide) hg01231122
   have pl01231122:=zaf Hpl0123112.out (za7 hg01231122) (za3 Hr20123112.out Hpl0123112.out (by decide))
   obtain⟨Hb01231122,Hr201231122,Hg01231122,Hr101231122,Hpl01231122⟩:=hzRecipeJoins5 hb01231122 hr201231122 hg01231122 hr101231122 pl01231122;clear hb01231122 hr201231122 hg01231122 hr101231122 pl01231122
   refine hK.out _ _ (by exact Hcells.out _ Hb01231122.out) (fun hHeld=>?_)
   clear hK K
   try simp only[Act.put,lA,lB,lC]
   have hr1:=Hr101231122.out
   have hr2:=Hr201231122.out
   rw[← HN1.out] at hr1
   rw[← HN2.out] at hr2
   obtain⟨a9,c9,rfl⟩:=za9 hr1
   obtain⟨a8,c8,rfl⟩:=za9 hr2
   clear hr1 hr2
   have hSd:=Hcells.out W01231122 Hb01231122.out
   refine wpAnyH_take (i:=14) (v:=?_) rfl (by kernel_rfl) (by kernel_rfl) (by kernel_rfl) (fun _ _ _ h=>h) (Or.inl ⟨by kernel_rfl,?_⟩) (by assumption) ?_
   rotate_left
   ·(intro w hSw;(try dsimp only at hSw);(try obtain⟨o0,o1,o2,o3,o4,o5⟩:=hSw);go_simp;try with_reducible rfl)
   try simp only[Act.put,lA,lB,lC]
   have hr1:=Hr101231122.out
   have hr2:=Hr201231122.out
   rw[← HN1.out] at hr1
   rw[← HN2.out] at hr2
   refine wpAnyH_ready (rs:=[16]) (by kernel_rfl) (by simp) ?_
   refine AllReadyH.cons rfl (fun K hK=>?_) AllReadyH.nil
   have fz0:=za5 Hpl01231122.out 0
   have fz1:=za5 Hpl01231122.out 1
   have fc0:=za2 Hpl01231122.out 0
   have fc1:=za2 Hpl01231122.out 1
   simp only[List.getElem?_toArray,List.getElem?_cons_zero,List.getElem?_cons_succ] at fc0 fc1
   go_simp
   obtain⟨wl,hwl⟩ : ∃ W,W=(W01231122.setCell ⟨gl,0,none⟩ (.slice a9 N1 c9)).setCell ⟨gl,1,none⟩ (.slice a8 N2 c8):=⟨_,rfl⟩
   have hFl:Frm (fun k=>k=gl) W01231122 wl:=by rw[hwl];exact zad (zad (Frm.refl _ _) 0 _) 1 _
   have pl:zbi gl (.slice a9 N1 c9) (.slice a8 N2 c8) wl:=by rw[hwl];exact heap_setCell_same _ gl 1 _ _ _ (heap_setCell_same _ gl 0 _ _ _ Hpl01231122.out)
   have hbl:Below w6.heap.size w6 wl:=Hb01231122.out.trans (hFl.below Hb01231122.out.size (fun k hk=>by rw[hk];exact Hge.out))
   have hr1':=hFl.owns hr1 (fun k hk e=>za3 hr1 Hpl01231122.out (by decide) (by rw[hk,e]))
   have hr2':=hFl.owns hr2 (fun k hk e=>za3 hr2 Hpl01231122.out (by decide) (by rw[hk,e]))
   have hrd:=HSm.out wl _ _ _ _ hbl hr1' hr2'
   rw[← hwl]
   clear hwl fz0 fz1 fc0 fc1
   obtain⟨Hr1,Hr2,HFl,Hr1',Hr2',Hpl,Hbl,Hrd⟩:=hzRecipeJoins8 hr1 hr2 hFl hr1' hr2' pl hbl hrd;clear hr1 hr2 hFl hr1' hr2' pl hbl hrd
   refine hK.out _ _ (by exact Hcells.out _ Hbl.out) (fun hHeld=>?_)
   clear hK K
   try simp only[Act.put,lA,lB,lC]
   refine wpAnyH_done (by kernel_rfl) ?_ _
   go_simp
   have hbwl:=Hbw6.out.trans (Hbl.out.mono Hbw6.out.size)
   have Hbwl:=zal hbwl;clear hbwl
   go_wp2_with fail
   refine (HF.out _ Hbwl.out).mono ?_
   rintro e w7 ⟨rfl,hb7⟩
   have hb67:=Hbl.out.trans (hb7.mono Hbl.out.size)
   have hbw7:=Hbwl.out.trans (hb7.mono Hbwl.out.size)
   have hSm7:=HSame.out w7 _ _ _ _ _ _ hb67 (Hrd.out.below hb7)
   obtain⟨-,-,-,-,i0,i1⟩:=Hcells.out w7 hb67
   obtain⟨j0,j1,-⟩:=zar (za0 hb7 Hpl.out)
   obtain⟨Hb7,Hb67,Hbw7,HSm7⟩:=hzRecipeJoins4 hb7 hb67 hbw7 hSm7;clear hb7 hb67 hbw7 hSm7
   go_wp2_with fail
   refine HSm7.out.mono ?_
   rintro e w8 ⟨rfl,hb8⟩
   have hbw8:=Hbw7.out.trans (hb8.mono Hbw7.out.size)
   clear i0 i1 j0 j1
   obtain⟨Hb8,Hbw8⟩:=hzRecipeJoins2 hb8 hbw8;clear hb8 hbw8
   go_wp2_with fail
   go_ret
   exact⟨rfl,Hbw8.out⟩
  go_simp
  obtain⟨W013,hW013⟩ : ∃ z,z=W01.alloc (.cells #[.slice none 0 0,.slice none 0 0] 73):=⟨_,rfl⟩
  obtain⟨gl,hgl⟩ : ∃ z,z=W01.heap.size:=⟨_,rfl⟩
  have hb013:Below w6.heap.size w6 W013:=by rw[hW013];exact Hb01.out.trans ((za1 _ _).mono Hb01.out.size)
  have pl013:zbi gl (.slice none 0 0) (.slice none 0 0) W013:=by rw[hW013,hgl];exact heap_alloc_new _ _
  have hge:w6.heap.size≤gl:=by rw[hgl];exact Hb01.out.size
  have hr1013:=za6 Hr101.out (za1 W01 (.cells #[.slice none 0 0,.slice none 0 0] 73))
  rw[← hW013,← hgl]
  rw[← hW013] at hr1013
  clear hW013 hgl
  obtain⟨Hb013,Hpl013,Hge,Hr1013⟩:=hzRecipeJoins4 hb013 pl013 hge hr1013;clear hb013 pl013 hge hr1013
  refine hK.out _ _ (by exact Hcells.out _ Hb013.out) (fun hHeld=>?_)
  clear hK K
  try simp only[Act.put,lA,lB,lC]
  refine wpAnyH_ready (rs:=[3,7]) (by kernel_rfl) (by simp) ?_
  refine AllReadyH.cons rfl (fun K hK=>?_) (AllReadyH.cons rfl (fun K hK=>?_) AllReadyH.nil)
  ·refine za4 zav (.tmp 80) (.tmp 82) rfl w6.heap.size (.slice (some ⟨W0.heap.size,0,none⟩) 0 0) 0 [] rfl Hr1013.out xa n1 c1 css.flatten rfl Hl1x.out (Hc1x.out _ Hb013.out) H11x.out Hbn1x.out Hbm1x.out Hb013.out.size ?_
   intro v0131 W0131 hr10131 hg0131 _
   have hb0131:Below w6.heap.size w6 W0131:=zai Hb013.out Hr1013.out (Nat.le_refl _) hg0131 Hb013.out.size
   have hr10131:W0131.ownsRow w6.heap.size 123 8 v0131 (0+n1) css.flatten:=hr10131
   have pl0131:=zaf Hpl013.out (za7 hg0131) (za3 Hr1013.out Hpl013.out (by decide))
   obtain⟨Hb0131,Hr10131,Hg0131,Hpl0131⟩:=hzRecipeJoins4 hb0131 hr10131 hg0131 pl0131;clear hb0131 hr10131 hg0131 pl0131
   refine hK.out _ _ (by exact Hcells.out _ Hb0131.out) (fun hHeld=>?_)
   clear hK K
   try simp only[Act.put,lA,lB,lC]
   refine wpAnyH_ready (rs:=[6,7]) (by kernel_rfl) (by simp) ?_
   refine AllReadyH.cons rfl (fun K hK=>?_) (AllReadyH.cons rfl (fun K hK=>?_) AllReadyH.nil)
   ·refine za4 zav (.tmp 83) (.tmp 85) rfl w6.heap.size v0131 (0+n1) css.flatten rfl Hr10131.out ya m1 e1 dss.flatten rfl Hl1y.out (Hc1y.out _ Hb0131.out) H11y.out Hbn1y.out Hbm1y.out Hb0131.out.size ?_
    intro v01311 W01311 hr101311 hg01311 _
    have hb01311:Below w6.heap.size w6 W01311:=zai Hb0131.out Hr10131.out (Nat.le_refl _) hg01311 Hb0131.out.size
    have pl01311:=zaf Hpl0131.out (za7 hg01311) (za3 Hr10131.out Hpl0131.out (by decide))
    obtain⟨Hb01311,Hr101311,Hg01311,Hpl01311⟩:=hzRecipeJoins4 hb01311 hr101311 hg01311 pl01311;clear hb01311 hr101311 hg01311 pl01311
    refine hK.out _ _ (by exact Hcells.out _ Hb01311.out) (fun hHeld=>?_)
    clear hK K
    try simp only[Act.put,lA,lB,lC]
    refine wpAnyH_ready (rs:=[7]) (by kernel_rfl) (by simp) ?_
    refine AllReadyH.cons rfl (fun K hK=>?_) AllReadyH.nil
    go_simp
    obtain⟨W013112,hW013112⟩ : ∃ z,z=W01311.alloc (.cells #[] 125):=⟨_,rfl⟩
    have hb013112:Below w6.heap.size w6 W013112:=by rw[hW013112];exact Hb01311.out.trans ((za1 _ _).mono Hb01311.out.size)
    have hr2013112:W013112.ownsRow w6.heap.size 125 3 (.slice (some ⟨W01311.heap.size,0,none⟩) 0 0) 0 []:=by rw[hW013112];exact Hlit2.out W01311 Hb01311.out.size
    have hr1013112:=za6 Hr101311.out (za1 W01311 (.cells #[] 125))
    have pl013112:=za0 (za1 W01311 (.cells #[] 125)) Hpl01311.out
    rw[← hW013112]
    rw[← hW013112] at hr1013112 pl013112
    clear hW013112
    obtain⟨Hb013112,Hr2013112,Hr1013112,Hpl013112⟩:=hzRecipeJoins4 hb013112 hr2013112 hr1013112 pl013112;clear hb013112 hr2013112 hr1013112 pl013112
    refine hK.out _ _ (by exact Hcells.out _ Hb013112.out) (fun hHeld=>?_)
    clear hK K
    try simp only[Act.put,lA,lB,lC]
    refine wpAnyH_ready (rs:=[10]) (by kernel_rfl) (by simp) ?_
    refine AllReadyH.cons rfl (fun K hK=>?_) AllReadyH.nil
    refine za4 zak (.tmp 87) (.tmp 89) rfl w6.heap.size (.slice (some ⟨W01311.heap.size,0,none⟩) 0 0) 0 [] rfl Hr2013112.out xb n2 c2 cst.flatten rfl Hl2x.out (Hc2x.out _ Hb013112.out) H12x.out Hbn2x.out Hbm2x.out Hb013112.out.size ?_
    intro v0131122 W0131122 hr20131122 hg0131122 _
    have hb0131122:Below w6.heap.size w6 W0131122:=zai Hb013112.out Hr2013112.out (Nat.le_refl _) hg0131122 Hb013112.out.size
    have hr20131122:W0131122.ownsRow w6.heap.size 125 3 v0131122 (0+n2) cst.flatten:=hr20131122
    have hr10131122:=zae Hr2013112.out Hr1013112.out (by decide) hg0131122
    have pl0131122:=zaf Hpl013112.out (za7 hg0131122) (za3 Hr2013112.out Hpl013112.out (by decide))
    obtain⟨Hb0131122,Hr20131122,Hg0131122,Hr10131122,Hpl0131122⟩:=hzRecipeJoins5 hb0131122 hr20131122 hg0131122 hr10131122 pl0131122;clear hb0131122 hr20131122 hg0131122 hr10131122 pl0131122
    refine hK.out _ _ (by exact Hcells.out _ Hb0131122.out) (fun hHeld=>?_)
    clear hK K
    try simp only[Act.put,lA,lB,lC]
    refine wpAnyH_ready (rs:=[13]) (by kernel_rfl) (by simp) ?_
    refine AllReadyH.cons rfl (fun K hK=>?_) AllReadyH.nil
    refine za4 zak (.tmp 90) (.tmp 92) rfl w6.heap.size v0131122 (0+n2) cst.flatten rfl Hr20131122.out yb m2 e2 dst.flatten rfl Hl2y.out (Hc2y.out _ Hb0131122.out) H12y.out Hbn2y.out Hbm2y.out Hb0131122.out.size ?_
    intro v01311222 W01311222 hr201311222 hg01311222 _
    have hb01311222:Below w6.heap.size w6 W01311222:=zai Hb0131122.out Hr20131122.out (Nat.le_refl _) hg01311222 Hb0131122.out.size
    have hr101311222:=zae Hr20131122.out Hr10131122.out (by decide) hg01311222
    have pl01311222:=zaf Hpl0131122.out (za7 hg01311222) (za3 Hr20131122.out Hpl0131122.out (by decide))
    obtain⟨Hb01311222,Hr201311222,Hg01311222,Hr101311222,Hpl01311222⟩:=hzRecipeJoins5 hb01311222 hr201311222 hg01311222 hr101311222 pl01311222;clear hb01311222 hr201311222 hg01311222 hr101311222 pl01311222
    refine hK.out _ _ (by exact Hcells.out _ Hb01311222.out) (fun hHeld=>?_)
    clear hK K
    try simp only[Act.put,lA,lB,lC]
    have hr1:=Hr101311222.out
    have hr2:=Hr201311222.out
    rw[← HN1.out] at hr1
    rw[← HN2.out] at hr2
    obtain⟨a9,c9,rfl⟩:=za9 hr1
    obtain⟨a8,c8,rfl⟩:=za9 hr2
    clear hr1 hr2
    have hSd:=Hcells.out W01311222 Hb01311222.out
    refine wpAnyH_take (i:=14) (v:=?_) rfl (by kernel_rfl) (by kernel_rfl) (by kernel_rfl) (fun _ _ _ h=>h) (Or.inl ⟨by kernel_rfl,?_⟩) (by assumption) ?_
    rotate_left
    ·(intro w hSw;(try dsimp only at hSw);(try obtain⟨o0,o1,o2,o3,o4,o5⟩:=hSw);go_simp;try with_reducible rfl)
    try simp only[Act.put,lA,lB,lC]
    have hr1:=Hr101311222.out
    have hr2:=Hr201311222.out
    rw[← HN1.out] at hr1
    rw[← HN2.out] at hr2
    refine wpAnyH_ready (rs:=[16]) (by kernel_rfl) (by simp) ?_
    refine AllReadyH.cons rfl (fun K hK=>?_) AllReadyH.nil
    have fz0:=za5 Hpl01311222.out 0
    have fz1:=za5 Hpl01311222.out 1
    have fc0:=za2 Hpl01311222.out 0
    have fc1:=za2 Hpl01311222.out 1
    simp only[List.getElem?_toArray,List.getElem?_cons_zero,List.getElem?_cons_succ] at fc0 fc1
    go_simp
    obtain⟨wl,hwl⟩ : ∃ W,W=(W01311222.setCell ⟨gl,0,none⟩ (.slice a9 N1 c9)).setCell ⟨gl,1,none⟩ (.slice a8 N2 c8):=⟨_,rfl⟩
    have hFl:Frm (fun k=>k=gl) W01311222 wl:=by rw[hwl];exact zad (zad (Frm.refl _ _) 0 _) 1 _
    have pl:zbi gl (.slice a9 N1 c9) (.slice a8 N2 c8) wl:=by rw[hwl];exact heap_setCell_same _ gl 1 _ _ _ (heap_setCell_same _ gl 0 _ _ _ Hpl01311222.out)
    have hbl:Below w6.heap.size w6 wl:=Hb01311222.out.trans (hFl.below Hb01311222.out.size (fun k hk=>by rw[hk];exact Hge.out))
    have hr1':=hFl.owns hr1 (fun k hk e=>za3 hr1 Hpl01311222.out (by decide) (by rw[hk,e]))
    have hr2':=hFl.owns hr2 (fun k hk e=>za3 hr2 Hpl01311222.out (by decide) (by rw[hk,e]))
    have hrd:=HSm.out wl _ _ _ _ hbl hr1' hr2'
    rw[← hwl]
    clear hwl fz0 fz1 fc0 fc1
    obtain⟨Hr1,Hr2,HFl,Hr1',Hr2',Hpl,Hbl,Hrd⟩:=hzRecipeJoins8 hr1 hr2 hFl hr1' hr2' pl hbl hrd;clear hr1 hr2 hFl hr1' hr2' pl hbl hrd
    refine hK.out _ _ (by exact Hcells.out _ Hbl.out) (fun hHeld=>?_)
    clear hK K
    try simp only[Act.put,lA,lB,lC]
    refine wpAnyH_done (by kernel_rfl) ?_ _
    go_simp
    have hbwl:=Hbw6.out.trans (Hbl.out.mono Hbw6.out.size)
    have Hbwl:=zal hbwl;clear hbwl
    go_wp2_with fail
    refine (HF.out _ Hbwl.out).mono ?_
    rintro e w7 ⟨rfl,hb7⟩
    have hb67:=Hbl.out.trans (hb7.mono Hbl.out.size)
    have hbw7:=Hbwl.out.trans (hb7.mono Hbwl.out.size)
    have hSm7:=HSame.out w7 _ _ _ _ _ _ hb67 (Hrd.out.below hb7)
    obtain⟨-,-,-,-,i0,i1⟩:=Hcells.out w7 hb67
    obtain⟨j0,j1,-⟩:=zar (za0 hb7 Hpl.out)
    obtain⟨Hb7,Hb67,Hbw7,HSm7⟩:=hzRecipeJoins4 hb7 hb67 hbw7 hSm7;clear hb7 hb67 hbw7 hSm7
    go_wp2_with fail
    refine HSm7.out.mono ?_
    rintro e w8 ⟨rfl,hb8⟩
    have hbw8:=Hbw7.out.trans (hb8.mono Hbw7.out.size)
    clear i0 i1 j0 j1
    obtain⟨Hb8,Hbw8⟩:=hzRecipeJoins2 hb8 hbw8;clear hb8 hbw8
    go_wp2_with fail
    go_ret
    exact⟨rfl,Hbw8.out⟩
   go_simp
   obtain⟨W01312,hW01312⟩ : ∃ z,z=W0131.alloc (.cells #[] 125):=⟨_,rfl⟩
   have hb01312:Below w6.heap.size w6 W01312:=by rw[hW01312];exact Hb0131.out.trans ((za1 _ _).mono Hb0131.out.size)
   have hr201312:W01312.ownsRow w6.heap.size 125 3 (.slice (some ⟨W0131.heap.size,0,none⟩) 0 0) 0 []:=by rw[hW01312];exact Hlit2.out W0131 Hb0131.out.size
   have hr101312:=za6 Hr10131.out (za1 W0131 (.cells #[] 125))
   have pl01312:=za0 (za1 W0131 (.cells #[] 125)) Hpl0131.out
   rw[← hW01312]
   rw[← hW01312] at hr101312 pl01312
   clear hW01312
   obtain⟨Hb01312,Hr201312,Hr101312,Hpl01312⟩:=hzRecipeJoins4 hb01312 hr201312 hr101312 pl01312;clear hb01312 hr201312 hr101312 pl01312
   refine hK.out _ _ (by exact Hcells.out _ Hb01312.out) (fun hHeld=>?_)
   clear hK K
   try simp only[Act.put,lA,lB,lC]
   refine wpAnyH_ready (rs:=[6]) (by kernel_rfl) (by simp) ?_
   refine AllReadyH.cons rfl (fun K hK=>?_) AllReadyH.nil
   refine za4 zav (.tmp 83) (.tmp 85) rfl w6.heap.size v0131 (0+n1) css.flatten rfl Hr101312.out ya m1 e1 dss.flatten rfl Hl1y.out (Hc1y.out _ Hb01312.out) H11y.out Hbn1y.out Hbm1y.out Hb01312.out.size ?_
   intro v013121 W013121 hr1013121 hg013121 _
   have hb013121:Below w6.heap.size w6 W013121:=zai Hb01312.out Hr101312.out (Nat.le_refl _) hg013121 Hb01312.out.size
   have hr2013121:=zae Hr101312.out Hr201312.out (by decide) hg013121
   have pl013121:=zaf Hpl01312.out (za7 hg013121) (za3 Hr101312.out Hpl01312.out (by decide))
   obtain⟨Hb013121,Hr1013121,Hg013121,Hr2013121,Hpl013121⟩:=hzRecipeJoins5 hb013121 hr1013121 hg013121 hr2013121 pl013121;clear hb013121 hr1013121 hg013121 hr2013121 pl013121
   refine hK.out _ _ (by exact Hcells.out _ Hb013121.out) (fun hHeld=>?_)
   clear hK K
   try simp only[Act.put,lA,lB,lC]
   refine wpAnyH_ready (rs:=[10]) (by kernel_rfl) (by simp) ?_
   refine AllReadyH.cons rfl (fun K hK=>?_) AllReadyH.nil
   refine za4 zak (.tmp 87) (.tmp 89) rfl w6.heap.size (.slice (some ⟨W0131.heap.size,0,none⟩) 0 0) 0 [] rfl Hr2013121.out xb n2 c2 cst.flatten rfl Hl2x.out (Hc2x.out _ Hb013121.out) H12x.out Hbn2x.out Hbm2x.out Hb013121.out.size ?_
   intro v0131212 W0131212 hr20131212 hg0131212 _
   have hb0131212:Below w6.heap.size w6 W0131212:=zai Hb013121.out Hr2013121.out (Nat.le_refl _) hg0131212 Hb013121.out.size
   have hr20131212:W0131212.ownsRow w6.heap.size 125 3 v0131212 (0+n2) cst.flatten:=hr20131212
   have hr10131212:=zae Hr2013121.out Hr1013121.out (by decide) hg0131212
   have pl0131212:=zaf Hpl013121.out (za7 hg0131212) (za3 Hr2013121.out Hpl013121.out (by decide))
   obtain⟨Hb0131212,Hr20131212,Hg0131212,Hr10131212,Hpl0131212⟩:=hzRecipeJoins5 hb0131212 hr20131212 hg0131212 hr10131212 pl0131212;clear hb0131212 hr20131212 hg0131212 hr10131212 pl0131212
   refine hK.out _ _ (by exact Hcells.out _ Hb0131212.out) (fun hHeld=>?_)
   clear hK K
   try simp only[Act.put,lA,lB,lC]
   refine wpAnyH_ready (rs:=[13]) (by kernel_rfl) (by simp) ?_
   refine AllReadyH.cons rfl (fun K hK=>?_) AllReadyH.nil
   refine za4 zak (.tmp 90) (.tmp 92) rfl w6.heap.size v0131212 (0+n2) cst.flatten rfl Hr20131212.out yb m2 e2 dst.flatten rfl Hl2y.out (Hc2y.out _ Hb0131212.out) H12y.out Hbn2y.out Hbm2y.out Hb0131212.out.size ?_
   intro v01312122 W01312122 hr201312122 hg01312122 _
   have hb01312122:Below w6.heap.size w6 W01312122:=zai Hb0131212.out Hr20131212.out (Nat.le_refl _) hg01312122 Hb0131212.out.size
   have hr101312122:=zae Hr20131212.out Hr10131212.out (by decide) hg01312122
   have pl01312122:=zaf Hpl0131212.out (za7 hg01312122) (za3 Hr20131212.out Hpl0131212.out (by decide))
   obtain⟨Hb01312122,Hr201312122,Hg01312122,Hr101312122,Hpl01312122⟩:=hzRecipeJoins5 hb01312122 hr201312122 hg01312122 hr101312122 pl01312122;clear hb01312122 hr201312122 hg01312122 hr101312122 pl01312122
   refine hK.out _ _ (by exact Hcells.out _ Hb01312122.out) (fun hHeld=>?_)
   clear hK K
   try simp only[Act.put,lA,lB,lC]
   have hr1:=Hr101312122.out
   have hr2:=Hr201312122.out
   rw[← HN1.out] at hr1
   rw[← HN2.out] at hr2
   obtain⟨a9,c9,rfl⟩:=za9 hr1
   obtain⟨a8,c8,rfl⟩:=za9 hr2
   clear hr1 hr2
   have hSd:=Hcells.out W01312122 Hb01312122.out
   refine wpAnyH_take (i:=14) (v:=?_) rfl (by kernel_rfl) (by kernel_rfl) (by kernel_rfl) (fun _ _ _ h=>h) (Or.inl ⟨by kernel_rfl,?_⟩) (by assumption) ?_
   rotate_left
   ·(intro w hSw;(try dsimp only at hSw);(try obtain⟨o0,o1,o2,o3,o4,o5⟩:=hSw);go_simp;try with_reducible rfl)
   try simp only[Act.put,lA,lB,lC]
   have hr1:=Hr101312122.out
   have hr2:=Hr201312122.out
   rw[← HN1.out] at hr1
   rw[← HN2.out] at hr2
   refine wpAnyH_ready (rs:=[16]) (by kernel_rfl) (by simp) ?_
   refine AllReadyH.cons rfl (fun K hK=>?_) AllReadyH.nil
   have fz0:=za5 Hpl01312122.out 0
   have fz1:=za5 Hpl01312122.out 1
   have fc0:=za2 Hpl01312122.out 0
   have fc1:=za2 Hpl01312122.out 1
   simp only[List.getElem?_toArray,List.getElem?_cons_zero,List.getElem?_cons_succ] at fc0 fc1
   go_simp
   obtain⟨wl,hwl⟩ : ∃ W,W=(W01312122.setCell ⟨gl,0,none⟩ (.slice a9 N1 c9)).setCell ⟨gl,1,none⟩ (.slice a8 N2 c8):=⟨_,rfl⟩
   have hFl:Frm (fun k=>k=gl) W01312122 wl:=by rw[hwl];exact zad (zad (Frm.refl _ _) 0 _) 1 _
   have pl:zbi gl (.slice a9 N1 c9) (.slice a8 N2 c8) wl:=by rw[hwl];exact heap_setCell_same _ gl 1 _ _ _ (heap_setCell_same _ gl 0 _ _ _ Hpl01312122.out)
   have hbl:Below w6.heap.size w6 wl:=Hb01312122.out.trans (hFl.below Hb01312122.out.size (fun k hk=>by rw[hk];exact Hge.out))
   have hr1':=hFl.owns hr1 (fun k hk e=>za3 hr1 Hpl01312122.out (by decide) (by rw[hk,e]))
   have hr2':=hFl.owns hr2 (fun k hk e=>za3 hr2 Hpl01312122.out (by decide) (by rw[hk,e]))
   have hrd:=HSm.out wl _ _ _ _ hbl hr1' hr2'
   rw[← hwl]
   clear hwl fz0 fz1 fc0 fc1
   obtain⟨Hr1,Hr2,HFl,Hr1',Hr2',Hpl,Hbl,Hrd⟩:=hzRecipeJoins8 hr1 hr2 hFl hr1' hr2' pl hbl hrd;clear hr1 hr2 hFl hr1' hr2' pl hbl hrd
   refine hK.out _ _ (by exact Hcells.out _ Hbl.out) (fun hHeld=>?_)
   clear hK K
   try simp only[Act.put,lA,lB,lC]
   refine wpAnyH_done (by kernel_rfl) ?_ _
   go_simp
   have hbwl:=Hbw6.out.trans (Hbl.out.mono Hbw6.out.size)
   have Hbwl:=zal hbwl;clear hbwl
   go_wp2_with fail
   refine (HF.out _ Hbwl.out).mono ?_
   rintro e w7 ⟨rfl,hb7⟩
   have hb67:=Hbl.out.trans (hb7.mono Hbl.out.size)
   have hbw7:=Hbwl.out.trans (hb7.mono Hbwl.out.size)
   have hSm7:=HSame.out w7 _ _ _ _ _ _ hb67 (Hrd.out.below hb7)
   obtain⟨-,-,-,-,i0,i1⟩:=Hcells.out w7 hb67
   obtain⟨j0,j1,-⟩:=zar (za0 hb7 Hpl.out)
   obtain⟨Hb7,Hb67,Hbw7,HSm7⟩:=hzRecipeJoins4 hb7 hb67 hbw7 hSm7;clear hb7 hb67 hbw7 hSm7
   go_wp2_with fail
   refine HSm7.out.mono ?_
   rintro e w8 ⟨rfl,hb8⟩
   have hbw8:=Hbw7.out.trans (hb8.mono Hbw7.out.size)
   clear i0 i1 j0 j1
   obtain⟨Hb8,Hbw8⟩:=hzRecipeJoins2 hb8 hbw8;clear hb8 hbw8
   go_wp2_with fail
   go_ret
   exact⟨rfl,Hbw8.out⟩
  go_simp
  obtain⟨W0132,hW0132⟩ : ∃ z,z=W013.alloc (.cells #[] 125):=⟨_,rfl⟩
  have hb0132:Below w6.heap.size w6 W0132:=by rw[hW0132];exact Hb013.out.trans ((za1 _ _).mono Hb013.out.size)
  have hr20132:W0132.ownsRow w6.heap.size 125 3 (.slice (some ⟨W013.heap.size,0,none⟩) 0 0) 0 []:=by rw[hW0132];exact Hlit2.out W013 Hb013.out.size
  have hr10132:=za6 Hr1013.out (za1 W013 (.cells #[] 125))
  have pl0132:=za0 (za1 W013 (.cells #[] 125)) Hpl013.out
  rw[← hW0132]
  rw[← hW0132] at hr10132 pl0132
  clear hW0132
  obtain⟨Hb0132,Hr20132,Hr10132,Hpl0132⟩:=hzRecipeJoins4 hb0132 hr20132 hr10132 pl0132;clear hb0132 hr20132 hr10132 pl0132
  refine hK.out _ _ (by exact Hcells.out _ Hb0132.out) (fun hHeld=>?_)
  clear hK K
  try simp only[Act.put,lA,lB,lC]
  refine wpAnyH_ready (rs:=[3]) (by kernel_rfl) (by simp) ?_
  refine AllReadyH.cons rfl (fun K hK=>?_) AllReadyH.nil
  refine za4 zav (.tmp 80) (.tmp 82) rfl w6.heap.size (.slice (some ⟨W0.heap.size,0,none⟩) 0 0) 0 [] rfl Hr10132.out xa n1 c1 css.flatten rfl Hl1x.out (Hc1x.out _ Hb0132.out) H11x.out Hbn1x.out Hbm1x.out Hb0132.out.size ?_
  intro v01321 W01321 hr101321 hg01321 _
  have hb01321:Below w6.heap.size w6 W01321:=zai Hb0132.out Hr10132.out (Nat.le_refl _) hg01321 Hb0132.out.size
  have hr101321:W01321.ownsRow w6.heap.size 123 8 v01321 (0+n1) css.flatten:=hr101321
  have hr201321:=zae Hr10132.out Hr20132.out (by decide) hg01321
  have pl01321:=zaf Hpl0132.out (za7 hg01321) (za3 Hr10132.out Hpl0132.out (by decide))
  obtain⟨Hb01321,Hr101321,Hg01321,Hr201321,Hpl01321⟩:=hzRecipeJoins5 hb01321 hr101321 hg01321 hr201321 pl01321;clear hb01321 hr101321 hg01321 hr201321 pl01321
  refine hK.out _ _ (by exact Hcells.out _ Hb01321.out) (fun hHeld=>?_)
  clear hK K
  try simp only[Act.put,lA,lB,lC]
  refine wpAnyH_ready (rs:=[6]) (by kernel_rfl) (by simp) ?_
  refine AllReadyH.cons rfl (fun K hK=>?_) AllReadyH.nil
  refine za4 zav (.tmp 83) (.tmp 85) rfl w6.heap.size v01321 (0+n1) css.flatten rfl Hr101321.out ya m1 e1 dss.flatten rfl Hl1y.out (Hc1y.out _ Hb01321.out) H11y.out Hbn1y.out Hbm1y.out Hb01321.out.size ?_
  intro v013211 W013211 hr1013211 hg013211 _
  have hb013211:Below w6.heap.size w6 W013211:=zai Hb01321.out Hr101321.out (Nat.le_refl _) hg013211 Hb01321.out.size
  have hr2013211:=zae Hr101321.out Hr201321.out (by decide) hg013211
  have pl013211:=zaf Hpl01321.out (za7 hg013211) (za3 Hr101321.out Hpl01321.out (by decide))
  obtain⟨Hb013211,Hr1013211,Hg013211,Hr2013211,Hpl013211⟩:=hzRecipeJoins5 hb013211 hr1013211 hg013211 hr2013211 pl013211;clear hb013211 hr1013211 hg013211 hr2013211 pl013211
  refine hK.out _ _ (by exact Hcells.out _ Hb013211.out) (fun hHeld=>?_)
  clear hK K
  try simp only[Act.put,lA,lB,lC]
  refine wpAnyH_ready (rs:=[10]) (by kernel_rfl) (by simp) ?_
  refine AllReadyH.cons rfl (fun K hK=>?_) AllReadyH.nil
  refine za4 zak (.tmp 87) (.tmp 89) rfl w6.heap.size (.slice (some ⟨W013.heap.size,0,none⟩) 0 0) 0 [] rfl Hr2013211.out xb n2 c2 cst.flatten rfl Hl2x.out (Hc2x.out _ Hb013211.out) H12x.out Hbn2x.out Hbm2x.out Hb013211.out.size ?_
  intro v0132112 W0132112 hr20132112 hg0132112 _
  have hb0132112:Below w6.heap.size w6 W0132112:=zai Hb013211.out Hr2013211.out (Nat.le_refl _) hg0132112 Hb013211.out.size
  have hr20132112:W0132112.ownsRow w6.heap.size 125 3 v0132112 (0+n2) cst.flatten:=hr20132112
  have hr10132112:=zae Hr2013211.out Hr1013211.out (by decide) hg0132112
  have pl0132112:=zaf Hpl013211.out (za7 hg0132112) (za3 Hr2013211.out Hpl013211.out (by decide))
  obtain⟨Hb0132112,Hr20132112,Hg0132112,Hr10132112,Hpl0132112⟩:=hzRecipeJoins5 hb0132112 hr20132112 hg0132112 hr10132112 pl0132112;clear hb0132112 hr20132112 hg0132112 hr10132112 pl0132112
  refine hK.out _ _ (by exact Hcells.out _ Hb0132112.out) (fun hHeld=>?_)
  clear hK K
  try simp only[Act.put,lA,lB,lC]
  refine wpAnyH_ready (rs:=[13]) (by kernel_rfl) (by simp) ?_
  refine AllReadyH.cons rfl (fun K hK=>?_) AllReadyH.nil
  refine za4 zak (.tmp 90) (.tmp 92) rfl w6.heap.size v0132112 (0+n2) cst.flatten rfl Hr20132112.out yb m2 e2 dst.flatten rfl Hl2y.out (Hc2y.out _ Hb0132112.out) H12y.out Hbn2y.out Hbm2y.out Hb0132112.out.size ?_
  intro v01321122 W01321122 hr201321122 hg01321122 _
  have hb01321122:Below w6.heap.size w6 W01321122:=zai Hb0132112.out Hr20132112.out (Nat.le_refl _) hg01321122 Hb0132112.out.size
  have hr101321122:=zae Hr20132112.out Hr10132112.out (by decide) hg01321122
  have pl01321122:=zaf Hpl0132112.out (za7 hg01321122) (za3 Hr20132112.out Hpl0132112.out (by decide))
  obtain⟨Hb01321122,Hr201321122,Hg01321122,Hr101321122,Hpl01321122⟩:=hzRecipeJoins5 hb01321122 hr201321122 hg01321122 hr101321122 pl01321122;clear hb01321122 hr201321122 hg01321122 hr101321122 pl01321122
  refine hK.out _ _ (by exact Hcells.out _ Hb01321122.out) (fun hHeld=>?_)
  clear hK K
  try simp only[Act.put,lA,lB,lC]
  have hr1:=Hr101321122.out
  have hr2:=Hr201321122.out
  rw[← HN1.out] at hr1
  rw[← HN2.out] at hr2
  obtain⟨a9,c9,rfl⟩:=za9 hr1
  obtain⟨a8,c8,rfl⟩:=za9 hr2
  clear hr1 hr2
  have hSd:=Hcells.out W01321122 Hb01321122.out
  refine wpAnyH_take (i:=14) (v:=?_) rfl (by kernel_rfl) (by kernel_rfl) (by kernel_rfl) (fun _ _ _ h=>h) (Or.inl ⟨by kernel_rfl,?_⟩) (by assumption) ?_
  rotate_left
  ·(intro w hSw;(try dsimp only at hSw);(try obtain⟨o0,o1,o2,o3,o4,o5⟩:=hSw);go_simp;try with_reducible rfl)
  try simp only[Act.put,lA,lB,lC]
  have hr1:=Hr101321122.out
  have hr2:=Hr201321122.out
  rw[← HN1.out] at hr1
  rw[← HN2.out] at hr2
  refine wpAnyH_ready (rs:=[16]) (by kernel_rfl) (by simp) ?_
  refine AllReadyH.cons rfl (fun K hK=>?_) AllReadyH.nil
  have fz0:=za5 Hpl01321122.out 0
  have fz1:=za5 Hpl01321122.out 1
  have fc0:=za2 Hpl01321122.out 0
  have fc1:=za2 Hpl01321122.out 1
  simp only[List.getElem?_toArray,List.getElem?_cons_zero,List.getElem?_cons_succ] at fc0 fc1
  go_simp
  obtain⟨wl,hwl⟩ : ∃ W,W=(W01321122.setCell ⟨gl,0,none⟩ (.slice a9 N1 c9)).setCell ⟨gl,1,none⟩ (.slice a8 N2 c8):=⟨_,rfl⟩
  have hFl:Frm (fun k=>k=gl) W01321122 wl:=by rw[hwl];exact zad (zad (Frm.refl _ _) 0 _) 1 _
  have pl:zbi gl (.slice a9 N1 c9) (.slice a8 N2 c8) wl:=by rw[hwl];exact heap_setCell_same _ gl 1 _ _ _ (heap_setCell_same _ gl 0 _ _ _ Hpl01321122.out)
  have hbl:Below w6.heap.size w6 wl:=Hb01321122.out.trans (hFl.below Hb01321122.out.size (fun k hk=>by rw[hk];exact Hge.out))
  have hr1':=hFl.owns hr1 (fun k hk e=>za3 hr1 Hpl01321122.out (by decide) (by rw[hk,e]))
  have hr2':=hFl.owns hr2 (fun k hk e=>za3 hr2 Hpl01321122.out (by decide) (by rw[hk,e]))
  have hrd:=HSm.out wl _ _ _ _ hbl hr1' hr2'
  rw[← hwl]
  clear hwl fz0 fz1 fc0 fc1
  obtain⟨Hr1,Hr2,HFl,Hr1',Hr2',Hpl,Hbl,Hrd⟩:=hzRecipeJoins8 hr1 hr2 hFl hr1' hr2' pl hbl hrd;clear hr1 hr2 hFl hr1' hr2' pl hbl hrd
  refine hK.out _ _ (by exact Hcells.out _ Hbl.out) (fun hHeld=>?_)
  clear hK K
  try simp only[Act.put,lA,lB,lC]
  refine wpAnyH_done (by kernel_rfl) ?_ _
  go_simp
  have hbwl:=Hbw6.out.trans (Hbl.out.mono Hbw6.out.size)
  have Hbwl:=zal hbwl;clear hbwl
  go_wp2_with fail
  refine (HF.out _ Hbwl.out).mono ?_
  rintro e w7 ⟨rfl,hb7⟩
  have hb67:=Hbl.out.trans (hb7.mono Hbl.out.size)
  have hbw7:=Hbwl.out.trans (hb7.mono Hbwl.out.size)
  have hSm7:=HSame.out w7 _ _ _ _ _ _ hb67 (Hrd.out.below hb7)
  obtain⟨-,-,-,-,i0,i1⟩:=Hcells.out w7 hb67
  obtain⟨j0,j1,-⟩:=zar (za0 hb7 Hpl.out)
  obtain⟨Hb7,Hb67,Hbw7,HSm7⟩:=hzRecipeJoins4 hb7 hb67 hbw7 hSm7;clear hb7 hb67 hbw7 hSm7
  go_wp2_with fail
  refine HSm7.out.mono ?_
  rintro e w8 ⟨rfl,hb8⟩
  have hbw8:=Hbw7.out.trans (hb8.mono Hbw7.out.size)
  clear i0 i1 j0 j1
  obtain⟨Hb8,Hbw8⟩:=hzRecipeJoins2 hb8 hbw8;clear hb8 hbw8
  go_wp2_with fail
  go_ret
  exact⟨rfl,Hbw8.out⟩
 ·go_simp
  obtain⟨W02,hW02⟩ : ∃ z,z=W0.alloc (.cells #[] 125):=⟨_,rfl⟩
  have hb02:Below w6.heap.size w6 W02:=by rw[hW02];exact Hb0.out.trans ((za1 _ _).mono Hb0.out.size)
  have hr202:W02.ownsRow w6.heap.size 125 3 (.slice (some ⟨W0.heap.size,0,none⟩) 0 0) 0 []:=by rw[hW02];exact Hlit2.out W0 Hb0.out.size
  rw[← hW02]
  clear hW02
  obtain⟨Hb02,Hr202⟩:=hzRecipeJoins2 hb02 hr202;clear hb02 hr202
  refine hK.out _ _ (by exact Hcells.out _ Hb02.out) (fun hHeld=>?_)
  clear hK K
  try simp only[Act.put,lA,lB,lC]
  refine wpAnyH_ready (rs:=[0,15]) (by kernel_rfl) (by simp) ?_
  refine AllReadyH.cons rfl (fun K hK=>?_) (AllReadyH.cons rfl (fun K hK=>?_) AllReadyH.nil)
  ·go_simp
   obtain⟨W021,hW021⟩ : ∃ z,z=W02.alloc (.cells #[] 123):=⟨_,rfl⟩
   have hb021:Below w6.heap.size w6 W021:=by rw[hW021];exact Hb02.out.trans ((za1 _ _).mono Hb02.out.size)
   have hr1021:W021.ownsRow w6.heap.size 123 8 (.slice (some ⟨W02.heap.size,0,none⟩) 0 0) 0 []:=by rw[hW021];exact Hlit1.out W02 Hb02.out.size
   have hr2021:=za6 Hr202.out (za1 W02 (.cells #[] 123))
   rw[← hW021]
   rw[← hW021] at hr2021
   clear hW021
   obtain⟨Hb021,Hr1021,Hr2021⟩:=hzRecipeJoins3 hb021 hr1021 hr2021;clear hb021 hr1021 hr2021
   refine hK.out _ _ (by exact Hcells.out _ Hb021.out) (fun hHeld=>?_)
   clear hK K
   try simp only[Act.put,lA,lB,lC]
   refine wpAnyH_ready (rs:=[3,15]) (by kernel_rfl) (by simp) ?_
   refine AllReadyH.cons rfl (fun K hK=>?_) (AllReadyH.cons rfl (fun K hK=>?_) AllReadyH.nil)
   ·refine za4 zav (.tmp 80) (.tmp 82) rfl w6.heap.size (.slice (some ⟨W02.heap.size,0,none⟩) 0 0) 0 [] rfl Hr1021.out xa n1 c1 css.flatten rfl Hl1x.out (Hc1x.out _ Hb021.out) H11x.out Hbn1x.out Hbm1x.out Hb021.out.size ?_
    intro v0211 W0211 hr10211 hg0211 _
    have hb0211:Below w6.heap.size w6 W0211:=zai Hb021.out Hr1021.out (Nat.le_refl _) hg0211 Hb021.out.size
    have hr10211:W0211.ownsRow w6.heap.size 123 8 v0211 (0+n1) css.flatten:=hr10211
    have hr20211:=zae Hr1021.out Hr2021.out (by decide) hg0211
    obtain⟨Hb0211,Hr10211,Hg0211,Hr20211⟩:=hzRecipeJoins4 hb0211 hr10211 hg0211 hr20211;clear hb0211 hr10211 hg0211 hr20211
    refine hK.out _ _ (by exact Hcells.out _ Hb0211.out) (fun hHeld=>?_)
    clear hK K
    try simp only[Act.put,lA,lB,lC]
    refine wpAnyH_ready (rs:=[6,15]) (by kernel_rfl) (by simp) ?_
    refine AllReadyH.cons rfl (fun K hK=>?_) (AllReadyH.cons rfl (fun K hK=>?_) AllReadyH.nil)
    ·refine za4 zav (.tmp 83) (.tmp 85) rfl w6.heap.size v0211 (0+n1) css.flatten rfl Hr10211.out ya m1 e1 dss.flatten rfl Hl1y.out (Hc1y.out _ Hb0211.out) H11y.out Hbn1y.out Hbm1y.out Hb0211.out.size ?_
     intro v02111 W02111 hr102111 hg02111 _
     have hb02111:Below w6.heap.size w6 W02111:=zai Hb0211.out Hr10211.out (Nat.le_refl _) hg02111 Hb0211.out.size
     have hr202111:=zae Hr10211.out Hr20211.out (by decide) hg02111
     obtain⟨Hb02111,Hr102111,Hg02111,Hr202111⟩:=hzRecipeJoins4 hb02111 hr102111 hg02111 hr202111;clear hb02111 hr102111 hg02111 hr202111
     refine hK.out _ _ (by exact Hcells.out _ Hb02111.out) (fun hHeld=>?_)
     clear hK K
     try simp only[Act.put,lA,lB,lC]
     refine wpAnyH_ready (rs:=[10,15]) (by kernel_rfl) (by simp) ?_
     refine AllReadyH.cons rfl (fun K hK=>?_) (AllReadyH.cons rfl (fun K hK=>?_) AllReadyH.nil)
     ·refine za4 zak (.tmp 87) (.tmp 89) rfl w6.heap.size (.slice (some ⟨W0.heap.size,0,none⟩) 0 0) 0 [] rfl Hr202111.out xb n2 c2 cst.flatten rfl Hl2x.out (Hc2x.out _ Hb02111.out) H12x.out Hbn2x.out Hbm2x.out Hb02111.out.size ?_
      intro v021112 W021112 hr2021112 hg021112 _
      have hb021112:Below w6.heap.size w6 W021112:=zai Hb02111.out Hr202111.out (Nat.le_refl _) hg021112 Hb02111.out.size
      have hr2021112:W021112.ownsRow w6.heap.size 125 3 v021112 (0+n2) cst.flatten:=hr2021112
      have hr1021112:=zae Hr202111.out Hr102111.out (by decide) hg021112
      obtain⟨Hb021112,Hr2021112,Hg021112,Hr1021112⟩:=hzRecipeJoins4 hb021112 hr2021112 hg021112 hr1021112;clear hb021112 hr2021112 hg021112 hr1021112
      refine hK.out _ _ (by exact Hcells.out _ Hb021112.out) (fun hHeld=>?_)
      clear hK K
      try simp only[Act.put,lA,lB,lC]
      refine wpAnyH_ready (rs:=[13,15]) (by kernel_rfl) (by simp) ?_
      refine AllReadyH.cons rfl (fun K hK=>?_) (AllReadyH.cons rfl (fun K hK=>?_) AllReadyH.nil)
      ·refine za4 zak (.tmp 90) (.tmp 92) rfl w6.heap.size v021112 (0+n2) cst.flatten rfl Hr2021112.out yb m2 e2 dst.flatten rfl Hl2y.out (Hc2y.out _ Hb021112.out) H12y.out Hbn2y.out Hbm2y.out Hb021112.out.size ?_
       intro v0211122 W0211122 hr20211122 hg0211122 _
       have hb0211122:Below w6.heap.size w6 W0211122:=zai Hb021112.out Hr2021112.out (Nat.le_refl _) hg0211122 Hb021112.out.size
       have hr10211122:=zae Hr2021112.out Hr1021112.out (by decide) hg0211122
       obtain⟨Hb0211122,Hr20211122,Hg0211122,Hr10211122⟩:=hzRecipeJoins4 hb0211122 hr20211122 hg0211122 hr10211122;clear hb0211122 hr20211122 hg0211122 hr10211122
       refine hK.out _ _ (by exact Hcells.out _ Hb0211122.out) (fun hHeld=>?_)
       clear hK K
       try simp only[Act.put,lA,lB,lC]
       have hr1:=Hr10211122.out
       have hr2:=Hr20211122.out
       rw[← HN1.out] at hr1
       rw[← HN2.out] at hr2
       obtain⟨a9,c9,rfl⟩:=za9 hr1
       obtain⟨a8,c8,rfl⟩:=za9 hr2
       clear hr1 hr2
       have hSd:=Hcells.out W0211122 Hb0211122.out
       refine wpAnyH_take (i:=14) (v:=?_) rfl (by kernel_rfl) (by kernel_rfl) (by kernel_rfl) (fun _ _ _ h=>h) (Or.inl ⟨by kernel_rfl,?_⟩) (by assumption) ?_
       rotate_left
       ·(intro w hSw;(try dsimp only at hSw);(try obtain⟨o0,o1,o2,o3,o4,o5⟩:=hSw);go_simp;try with_reducible rfl)
       try simp only[Act.put,lA,lB,lC]
       refine wpAnyH_ready (rs:=[15]) (by kernel_rfl) (by simp) ?_
       refine AllReadyH.cons rfl (fun K hK=>?_) AllReadyH.nil
       go_simp
       obtain⟨W02111223,hW02111223⟩ : ∃ z,z=W0211122.alloc (.cells #[.slice none 0 0,.slice none 0 0] 73):=⟨_,rfl⟩
       obtain⟨gl,hgl⟩ : ∃ z,z=W0211122.heap.size:=⟨_,rfl⟩
       have hb02111223:Below w6.heap.size w6 W02111223:=by rw[hW02111223];exact Hb0211122.out.trans ((za1 _ _).mono Hb0211122.out.size)
       have pl02111223:zbi gl (.slice none 0 0) (.slice none 0 0) W02111223:=by rw[hW02111223,hgl];exact heap_alloc_new _ _
       have hge:w6.heap.size≤gl:=by rw[hgl];exact Hb0211122.out.size
       have hr102111223:=za6 Hr10211122.out (za1 W0211122 (.cells #[.slice none 0 0,.slice none 0 0] 73))
       have hr202111223:=za6 Hr20211122.out (za1 W0211122 (.cells #[.slice none 0 0,.slice none 0 0] 73))
       rw[← hW02111223,← hgl]
       rw[← hW02111223] at hr102111223 hr202111223
       clear hW02111223 hgl
       obtain⟨Hb02111223,Hpl02111223,Hge,Hr102111223,Hr202111223⟩:=hzRecipeJoins5 hb02111223 pl02111223 hge hr102111223 hr202111223;clear hb02111223 pl02111223 hge hr102111223 hr202111223
       refine hK.out _ _ (by exact Hcells.out _ Hb02111223.out) (fun hHeld=>?_)
       clear hK K
       try simp only[Act.put,lA,lB,lC]
       have hr1:=Hr102111223.out
       have hr2:=Hr202111223.out
       rw[← HN1.out] at hr1
       rw[← HN2.out] at hr2
       refine wpAnyH_ready (rs:=[16]) (by kernel_rfl) (by simp) ?_
       refine AllReadyH.cons rfl (fun K hK=>?_) AllReadyH.nil
       have fz0:=za5 Hpl02111223.out 0
       have fz1:=za5 Hpl02111223.out 1
       have fc0:=za2 Hpl02111223.out 0
       have fc1:=za2 Hpl02111223.out 1
       simp only[List.getElem?_toArray,List.getElem?_cons_zero,List.getElem?_cons_succ] at fc0 fc1
       go_simp
       obtain⟨wl,hwl⟩ : ∃ W,W=(W02111223.setCell ⟨gl,0,none⟩ (.slice a9 N1 c9)).setCell ⟨gl,1,none⟩ (.slice a8 N2 c8):=⟨_,rfl⟩
       have hFl:Frm (fun k=>k=gl) W02111223 wl:=by rw[hwl];exact zad (zad (Frm.refl _ _) 0 _) 1 _
       have pl:zbi gl (.slice a9 N1 c9) (.slice a8 N2 c8) wl:=by rw[hwl];exact heap_setCell_same _ gl 1 _ _ _ (heap_setCell_same _ gl 0 _ _ _ Hpl02111223.out)
       have hbl:Below w6.heap.size w6 wl:=Hb02111223.out.trans (hFl.below Hb02111223.out.size (fun k hk=>by rw[hk];exact Hge.out))
       have hr1':=hFl.owns hr1 (fun k hk e=>za3 hr1 Hpl02111223.out (by decide) (by rw[hk,e]))
       have hr2':=hFl.owns hr2 (fun k hk e=>za3 hr2 Hpl02111223.out (by decide) (by rw[hk,e]))
       have hrd:=HSm.out wl _ _ _ _ hbl hr1' hr2'
       rw[← hwl]
       clear hwl fz0 fz1 fc0 fc1
       obtain⟨Hr1,Hr2,HFl,Hr1',Hr2',Hpl,Hbl,Hrd⟩:=hzRecipeJoins8 hr1 hr2 hFl hr1' hr2' pl hbl hrd;clear hr1 hr2 hFl hr1' hr2' pl hbl hrd
       refine hK.out _ _ (by exact Hcells.out _ Hbl.out) (fun hHeld=>?_)
       clear hK K
       try simp only[Act.put,lA,lB,lC]
       refine wpAnyH_done (by kernel_rfl) ?_ _
       go_simp
       have hbwl:=Hbw6.out.trans (Hbl.out.mono Hbw6.out.size)
       have Hbwl:=zal hbwl;clear hbwl
       go_wp2_with fail
       refine (HF.out _ Hbwl.out).mono ?_
       rintro e w7 ⟨rfl,hb7⟩
       have hb67:=Hbl.out.trans (hb7.mono Hbl.out.size)
       have hbw7:=Hbwl.out.trans (hb7.mono Hbwl.out.size)
       have hSm7:=HSame.out w7 _ _ _ _ _ _ hb67 (Hrd.out.below hb7)
       obtain⟨-,-,-,-,i0,i1⟩:=Hcells.out w7 hb67
       obtain⟨j0,j1,-⟩:=zar (za0 hb7 Hpl.out)
       obtain⟨Hb7,Hb67,Hbw7,HSm7⟩:=hzRecipeJoins4 hb7 hb67 hbw7 hSm7;clear hb7 hb67 hbw7 hSm7
       go_wp2_with fail
       refine HSm7.out.mono ?_
       rintro e w8 ⟨rfl,hb8⟩
       have hbw8:=Hbw7.out.trans (hb8.mono Hbw7.out.size)
       clear i0 i1 j0 j1
       obtain⟨Hb8,Hbw8⟩:=hzRecipeJoins2 hb8 hbw8;clear hb8 hbw8
       go_wp2_with fail
       go_ret
       exact⟨rfl,Hbw8.out⟩
      go_simp
      obtain⟨W0211123,hW0211123⟩ : ∃ z,z=W021112.alloc (.cells #[.slice none 0 0,.slice none 0 0] 73):=⟨_,rfl⟩
      obtain⟨gl,hgl⟩ : ∃ z,z=W021112.heap.size:=⟨_,rfl⟩
      have hb0211123:Below w6.heap.size w6 W0211123:=by rw[hW0211123];exact Hb021112.out.trans ((za1 _ _).mono Hb021112.out.size)
      have pl0211123:zbi gl (.slice none 0 0) (.slice none 0 0) W0211123:=by rw[hW0211123,hgl];exact heap_alloc_new _ _
      have hge:w6.heap.size≤gl:=by rw[hgl];exact Hb021112.out.size
      have hr10211123:=za6 Hr1021112.out (za1 W021112 (.cells #[.slice none 0 0,.slice none 0 0] 73))
      have hr20211123:=za6 Hr2021112.out (za1 W021112 (.cells #[.slice none 0 0,.slice none 0 0] 73))
      rw[← hW0211123,← hgl]
      rw[← hW0211123] at hr10211123 hr20211123
      clear hW0211123 hgl
      obtain⟨Hb0211123,Hpl0211123,Hge,Hr10211123,Hr20211123⟩:=hzRecipeJoins5 hb0211123 pl0211123 hge hr10211123 hr20211123;clear hb0211123 pl0211123 hge hr10211123 hr20211123
      refine hK.out _ _ (by exact Hcells.out _ Hb0211123.out) (fun hHeld=>?_)
      clear hK K
      try simp only[Act.put,lA,lB,lC]
      refine wpAnyH_ready (rs:=[13]) (by kernel_rfl) (by simp) ?_
      refine AllReadyH.cons rfl (fun K hK=>?_) AllReadyH.nil
      refine za4 zak (.tmp 90) (.tmp 92) rfl w6.heap.size v021112 (0+n2) cst.flatten rfl Hr20211123.out yb m2 e2 dst.flatten rfl Hl2y.out (Hc2y.out _ Hb0211123.out) H12y.out Hbn2y.out Hbm2y.out Hb0211123.out.size ?_
      intro v02111232 W02111232 hr202111232 hg02111232 _
      have hb02111232:Below w6.heap.size w6 W02111232:=zai Hb0211123.out Hr20211123.out (Nat.le_refl _) hg02111232 Hb0211123.out.size
      have hr102111232:=zae Hr20211123.out Hr10211123.out (by decide) hg02111232
      have pl02111232:=zaf Hpl0211123.out (za7 hg02111232) (za3 Hr20211123.out Hpl0211123.out (by decide))
      obtain⟨Hb02111232,Hr202111232,Hg02111232,Hr102111232,Hpl02111232⟩:=hzRecipeJoins5 hb02111232 hr202111232 hg02111232 hr102111232 pl02111232;clear hb02111232 hr202111232 hg02111232 hr102111232 pl02111232
      refine hK.out _ _ (by exact Hcells.out _ Hb02111232.out) (fun hHeld=>?_)
      clear hK K
      try simp only[Act.put,lA,lB,lC]
      have hr1:=Hr102111232.out
      have hr2:=Hr202111232.out
      rw[← HN1.out] at hr1
      rw[← HN2.out] at hr2
      obtain⟨a9,c9,rfl⟩:=za9 hr1
      obtain⟨a8,c8,rfl⟩:=za9 hr2
      clear hr1 hr2
      have hSd:=Hcells.out W02111232 Hb02111232.out
      refine wpAnyH_take (i:=14) (v:=?_) rfl (by kernel_rfl) (by kernel_rfl) (by kernel_rfl) (fun _ _ _ h=>h) (Or.inl ⟨by kernel_rfl,?_⟩) (by assumption) ?_
      rotate_left
      ·(intro w hSw;(try dsimp only at hSw);(try obtain⟨o0,o1,o2,o3,o4,o5⟩:=hSw);go_simp;try with_reducible rfl)
      try simp only[Act.put,lA,lB,lC]
      have hr1:=Hr102111232.out
      have hr2:=Hr202111232.out
      rw[← HN1.out] at hr1
      rw[← HN2.out] at hr2
      refine wpAnyH_ready (rs:=[16]) (by kernel_rfl) (by simp) ?_
      refine AllReadyH.cons rfl (fun K hK=>?_) AllReadyH.nil
      have fz0:=za5 Hpl02111232.out 0
      have fz1:=za5 Hpl02111232.out 1
      have fc0:=za2 Hpl02111232.out 0
      have fc1:=za2 Hpl02111232.out 1
      simp only[List.getElem?_toArray,List.getElem?_cons_zero,List.getElem?_cons_succ] at fc0 fc1
      go_simp
      obtain⟨wl,hwl⟩ : ∃ W,W=(W02111232.setCell ⟨gl,0,none⟩ (.slice a9 N1 c9)).setCell ⟨gl,1,none⟩ (.slice a8 N2 c8):=⟨_,rfl⟩
      have hFl:Frm (fun k=>k=gl) W02111232 wl:=by rw[hwl];exact zad (zad (Frm.refl _ _) 0 _) 1 _
      have pl:zbi gl (.slice a9 N1 c9) (.slice a8 N2 c8) wl:=by rw[hwl];exact heap_setCell_same _ gl 1 _ _ _ (heap_setCell_same _ gl 0 _ _ _ Hpl02111232.out)
      have hbl:Below w6.heap.size w6 wl:=Hb02111232.out.trans (hFl.below Hb02111232.out.size (fun k hk=>by rw[hk];exact Hge.out))
      have hr1':=hFl.owns hr1 (fun k hk e=>za3 hr1 Hpl02111232.out (by decide) (by rw[hk,e]))
      have hr2':=hFl.owns hr2 (fun k hk e=>za3 hr2 Hpl02111232.out (by decide) (by rw[hk,e]))
      have hrd:=HSm.out wl _ _ _ _ hbl hr1' hr2'
      rw[← hwl]
      clear hwl fz0 fz1 fc0 fc1
      obtain⟨Hr1,Hr2,HFl,Hr1',Hr2',Hpl,Hbl,Hrd⟩:=hzRecipeJoins8 hr1 hr2 hFl hr1' hr2' pl hbl hrd;clear hr1 hr2 hFl hr1' hr2' pl hbl hrd
      refine hK.out _ _ (by exact Hcells.out _ Hbl.out) (fun hHeld=>?_)
      clear hK K
      try simp only[Act.put,lA,lB,lC]
      refine wpAnyH_done (by kernel_rfl) ?_ _
      go_simp
      have hbwl:=Hbw6.out.trans (Hbl.out.mono Hbw6.out.size)
      have Hbwl:=zal hbwl;clear hbwl
      go_wp2_with fail
      refine (HF.out _ Hbwl.out).mono ?_
      rintro e w7 ⟨rfl,hb7⟩
      have hb67:=Hbl.out.trans (hb7.mono Hbl.out.size)
      have hbw7:=Hbwl.out.trans (hb7.mono Hbwl.out.size)
      have hSm7:=HSame.out w7 _ _ _ _ _ _ hb67 (Hrd.out.below hb7)
      obtain⟨-,-,-,-,i0,i1⟩:=Hcells.out w7 hb67
      obtain⟨j0,j1,-⟩:=zar (za0 hb7 Hpl.out)
      obtain⟨Hb7,Hb67,Hbw7,HSm7⟩:=hzRecipeJoins4 hb7 hb67 hbw7 hSm7;clear hb7 hb67 hbw7 hSm7
      go_wp2_with fail
      refine HSm7.out.mono ?_
      rintro e w8 ⟨rfl,hb8⟩
      have hbw8:=Hbw7.out.trans (hb8.mono Hbw7.out.size)
      clear i0 i1 j0 j1
      obtain⟨Hb8,Hbw8⟩:=hzRecipeJoins2 hb8 hbw8;clear hb8 hbw8
      go_wp2_with fail
      go_ret
      exact⟨rfl,Hbw8.out⟩
     go_simp
     obtain⟨W021113,hW021113⟩ : ∃ z,z=W02111.alloc (.cells #[.slice none 0 0,.slice none 0 0] 73):=⟨_,rfl⟩
     obtain⟨gl,hgl⟩ : ∃ z,z=W02111.heap.size:=⟨_,rfl⟩
     have hb021113:Below w6.heap.size w6 W021113:=by rw[hW021113];exact Hb02111.out.trans ((za1 _ _).mono Hb02111.out.size)
     have pl021113:zbi gl (.slice none 0 0) (.slice none 0 0) W021113:=by rw[hW021113,hgl];exact heap_alloc_new _ _
     have hge:w6.heap.size≤gl:=by rw[hgl];exact Hb02111.out.size
     have hr1021113:=za6 Hr102111.out (za1 W02111 (.cells #[.slice none 0 0,.slice none 0 0] 73))
     have hr2021113:=za6 Hr202111.out (za1 W02111 (.cells #[.slice none 0 0,.slice none 0 0] 73))
     rw[← hW021113,← hgl]
     rw[← hW021113] at hr1021113 hr2021113
     clear hW021113 hgl
     obtain⟨Hb021113,Hpl021113,Hge,Hr1021113,Hr2021113⟩:=hzRecipeJoins5 hb021113 pl021113 hge hr1021113 hr2021113;clear hb021113 pl021113 hge hr1021113 hr2021113
     refine hK.out _ _ (by exact Hcells.out _ Hb021113.out) (fun hHeld=>?_)
     clear hK K
     try simp only[Act.put,lA,lB,lC]
     refine wpAnyH_ready (rs:=[10]) (by kernel_rfl) (by simp) ?_
     refine AllReadyH.cons rfl (fun K hK=>?_) AllReadyH.nil
     refine za4 zak (.tmp 87) (.tmp 89) rfl w6.heap.size (.slice (some ⟨W0.heap.size,0,none⟩) 0 0) 0 [] rfl Hr2021113.out xb n2 c2 cst.flatten rfl Hl2x.out (Hc2x.out _ Hb021113.out) H12x.out Hbn2x.out Hbm2x.out Hb021113.out.size ?_
     intro v0211132 W0211132 hr20211132 hg0211132 _
     have hb0211132:Below w6.heap.size w6 W0211132:=zai Hb021113.out Hr2021113.out (Nat.le_refl _) hg0211132 Hb021113.out.size
     have hr20211132:W0211132.ownsRow w6.heap.size 125 3 v0211132 (0+n2) cst.flatten:=hr20211132
     have hr10211132:=zae Hr2021113.out Hr1021113.out (by decide) hg0211132
     have pl0211132:=zaf Hpl021113.out (za7 hg0211132) (za3 Hr2021113.out Hpl021113.out (by decide))
     obtain⟨Hb0211132,Hr20211132,Hg0211132,Hr10211132,Hpl0211132⟩:=hzRecipeJoins5 hb0211132 hr20211132 hg0211132 hr10211132 pl0211132;clear hb0211132 hr20211132 hg0211132 hr10211132 pl0211132
     refine hK.out _ _ (by exact Hcells.out _ Hb0211132.out) (fun hHeld=>?_)
     clear hK K
     try simp only[Act.put,lA,lB,lC]
     refine wpAnyH_ready (rs:=[13]) (by kernel_rfl) (by simp) ?_
     refine AllReadyH.cons rfl (fun K hK=>?_) AllReadyH.nil
     refine za4 zak (.tmp 90) (.tmp 92) rfl w6.heap.size v0211132 (0+n2) cst.flatten rfl Hr20211132.out yb m2 e2 dst.flatten rfl Hl2y.out (Hc2y.out _ Hb0211132.out) H12y.out Hbn2y.out Hbm2y.out Hb0211132.out.size ?_
     intro v02111322 W02111322 hr202111322 hg02111322 _
     have hb02111322:Below w6.heap.size w6 W02111322:=zai Hb0211132.out Hr20211132.out (Nat.le_refl _) hg02111322 Hb0211132.out.size
     have hr102111322:=zae Hr20211132.out Hr10211132.out (by decide) hg02111322
     have pl02111322:=zaf Hpl0211132.out (za7 hg02111322) (za3 Hr20211132.out Hpl0211132.out (by decide))
     obtain⟨Hb02111322,Hr202111322,Hg02111322,Hr102111322,Hpl02111322⟩:=hzRecipeJoins5 hb02111322 hr202111322 hg02111322 hr102111322 pl02111322;clear hb02111322 hr202111322 hg02111322 hr102111322 pl02111322
     refine hK.out _ _ (by exact Hcells.out _ Hb02111322.out) (fun hHeld=>?_)
     clear hK K
     try simp only[Act.put,lA,lB,lC]
     have hr1:=Hr102111322.out
     have hr2:=Hr202111322.out
     rw[← HN1.out] at hr1
     rw[← HN2.out] at hr2
     obtain⟨a9,c9,rfl⟩:=za9 hr1
     obtain⟨a8,c8,rfl⟩:=za9 hr2
     clear hr1 hr2
     have hSd:=Hcells.out W02111322 Hb02111322.out
     refine wpAnyH_take (i:=14) (v:=?_) rfl (by kernel_rfl) (by kernel_rfl) (by kernel_rfl) (fun _ _ _ h=>h) (Or.inl ⟨by kernel_rfl,?_⟩) (by assumption) ?_
     rotate_left
     ·(intro w hSw;(try dsimp only at hSw);(try obtain⟨o0,o1,o2,o3,o4,o5⟩:=hSw);go_simp;try with_reducible rfl)
     try simp only[Act.put,lA,lB,lC]
     have hr1:=Hr102111322.out
     have hr2:=Hr202111322.out
     rw[← HN1.out] at hr1
     rw[← HN2.out] at hr2
     refine wpAnyH_ready (rs:=[16]) (by kernel_rfl) (by simp) ?_
     refine AllReadyH.cons rfl (fun K hK=>?_) AllReadyH.nil
     have fz0:=za5 Hpl02111322.out 0
     have fz1:=za5 Hpl02111322.out 1
     have fc0:=za2 Hpl02111322.out 0
     have fc1:=za2 Hpl02111322.out 1
     simp only[List.getElem?_toArray,List.getElem?_cons_zero,List.getElem?_cons_succ] at fc0 fc1
     go_simp
     obtain⟨wl,hwl⟩ : ∃ W,W=(W02111322.setCell ⟨gl,0,none⟩ (.slice a9 N1 c9)).setCell ⟨gl,1,none⟩ (.slice a8 N2 c8):=⟨_,rfl⟩
     have hFl:Frm (fun k=>k=gl) W02111322 wl:=by rw[hwl];exact zad (zad (Frm.refl _ _) 0 _) 1 _
     have pl:zbi gl (.slice a9 N1 c9) (.slice a8 N2 c8) wl:=by rw[hwl];exact heap_setCell_same _ gl 1 _ _ _ (heap_setCell_same _ gl 0 _ _ _ Hpl02111322.out)
     have hbl:Below w6.heap.size w6 wl:=Hb02111322.out.trans (hFl.below Hb02111322.out.size (fun k hk=>by rw[hk];exact Hge.out))
     have hr1':=hFl.owns hr1 (fun k hk e=>za3 hr1 Hpl02111322.out (by decide) (by rw[hk,e]))
     have hr2':=hFl.owns hr2 (fun k hk e=>za3 hr2 Hpl02111322.out (by decide) (by rw[hk,e]))
     have hrd:=HSm.out wl _ _ _ _ hbl hr1' hr2'
     rw[← hwl]
     clear hwl fz0 fz1 fc0 fc1
     obtain⟨Hr1,Hr2,HFl,Hr1',Hr2',Hpl,Hbl,Hrd⟩:=hzRecipeJoins8 hr1 hr2 hFl hr1' hr2' pl hbl hrd;clear hr1 hr2 hFl hr1' hr2' pl hbl hrd
     refine hK.out _ _ (by exact Hcells.out _ Hbl.out) (fun hHeld=>?_)
     clear hK K
     try simp only[Act.put,lA,lB,lC]
     refine wpAnyH_done (by kernel_rfl) ?_ _
     go_simp
     have hbwl:=Hbw6.out.trans (Hbl.out.mono Hbw6.out.size)
     have Hbwl:=zal hbwl;clear hbwl
     go_wp2_with fail
     refine (HF.out _ Hbwl.out).mono ?_
     rintro e w7 ⟨rfl,hb7⟩
     have hb67:=Hbl.out.trans (hb7.mono Hbl.out.size)
     have hbw7:=Hbwl.out.trans (hb7.mono Hbwl.out.size)
     have hSm7:=HSame.out w7 _ _ _ _ _ _ hb67 (Hrd.out.below hb7)
     obtain⟨-,-,-,-,i0,i1⟩:=Hcells.out w7 hb67
     obtain⟨j0,j1,-⟩:=zar (za0 hb7 Hpl.out)
     obtain⟨Hb7,Hb67,Hbw7,HSm7⟩:=hzRecipeJoins4 hb7 hb67 hbw7 hSm7;clear hb7 hb67 hbw7 hSm7
     go_wp2_with fail
     refine HSm7.out.mono ?_
     rintro e w8 ⟨rfl,hb8⟩
     have hbw8:=Hbw7.out.trans (hb8.mono Hbw7.out.size)
     clear i0 i1 j0 j1
     obtain⟨Hb8,Hbw8⟩:=hzRecipeJoins2 hb8 hbw8;clear hb8 hbw8
     go_wp2_with fail
     go_ret
     exact⟨rfl,Hbw8.out⟩
    go_simp
    obtain⟨W02113,hW02113⟩ : ∃ z,z=W0211.alloc (.cells #[.slice none 0 0,.slice none 0 0] 73):=⟨_,rfl⟩
    obtain⟨gl,hgl⟩ : ∃ z,z=W0211.heap.size:=⟨_,rfl⟩
    have hb02113:Below w6.heap.size w6 W02113:=by rw[hW02113];exact Hb0211.out.trans ((za1 _ _).mono Hb0211.out.size)
    have pl02113:zbi gl (.slice none 0 0) (.slice none 0 0) W02113:=by rw[hW02113,hgl];exact heap_alloc_new _ _
    have hge:w6.heap.size≤gl:=by rw[hgl];exact Hb0211.out.size
    have hr102113:=za6 Hr10211.out (za1 W0211 (.cells #[.slice none 0 0,.slice none 0 0] 73))
    have hr202113:=za6 Hr20211.out (za1 W0211 (.cells #[.slice none 0 0,.slice none 0 0] 73))
    rw[← hW02113,← hgl]
    rw[← hW02113] at hr102113 hr202113
    clear hW02113 hgl
    obtain⟨Hb02113,Hpl02113,Hge,Hr102113,Hr202113⟩:=hzRecipeJoins5 hb02113 pl02113 hge hr102113 hr202113;clear hb02113 pl02113 hge hr102113 hr202113
    refine hK.out _ _ (by exact Hcells.out _ Hb02113.out) (fun hHeld=>?_)
    clear hK K
    try simp only[Act.put,lA,lB,lC]
    refine wpAnyH_ready (rs:=[6]) (by kernel_rfl) (by simp) ?_
    refine AllReadyH.cons rfl (fun K hK=>?_) AllReadyH.nil
    refine za4 zav (.tmp 83) (.tmp 85) rfl w6.heap.size v0211 (0+n1) css.flatten rfl Hr102113.out ya m1 e1 dss.flatten rfl Hl1y.out (Hc1y.out _ Hb02113.out) H11y.out Hbn1y.out Hbm1y.out Hb02113.out.size ?_
    intro v021131 W021131 hr1021131 hg021131 _
    have hb021131:Below w6.heap.size w6 W021131:=zai Hb02113.out Hr102113.out (Nat.le_refl _) hg021131 Hb02113.out.size
    have hr2021131:=zae Hr102113.out Hr202113.out (by decide) hg021131
    have pl021131:=zaf Hpl02113.out (za7 hg021131) (za3 Hr102113.out Hpl02113.out (by decide))
    obtain⟨Hb021131,Hr1021131,Hg021131,Hr2021131,Hpl021131⟩:=hzRecipeJoins5 hb021131 hr1021131 hg021131 hr2021131 pl021131;clear hb021131 hr1021131 hg021131 hr2021131 pl021131
    refine hK.out _ _ (by exact Hcells.out _ Hb021131.out) (fun hHeld=>?_)
    clear hK K
    try simp only[Act.put,lA,lB,lC]
    refine wpAnyH_ready (rs:=[10]) (by kernel_rfl) (by simp) ?_
    refine AllReadyH.cons rfl (fun K hK=>?_) AllReadyH.nil
    refine za4 zak (.tmp 87) (.tmp 89) rfl w6.heap.size (.slice (some ⟨W0.heap.size,0,none⟩) 0 0) 0 [] rfl Hr2021131.out xb n2 c2 cst.flatten rfl Hl2x.out (Hc2x.out _ Hb021131.out) H12x.out Hbn2x.out Hbm2x.out Hb021131.out.size ?_
    intro v0211312 W0211312 hr20211312 hg0211312 _
    have hb0211312:Below w6.heap.size w6 W0211312:=zai Hb021131.out Hr2021131.out (Nat.le_refl _) hg0211312 Hb021131.out.size
    have hr20211312:W0211312.ownsRow w6.heap.size 125 3 v0211312 (0+n2) cst.flatten:=hr20211312
    have hr10211312:=zae Hr2021131.out Hr1021131.out (by decide) hg0211312
    have pl0211312:=zaf Hpl021131.out (za7 hg0211312) (za3 Hr2021131.out Hpl021131.out (by decide))
    obtain⟨Hb0211312,Hr20211312,Hg0211312,Hr10211312,Hpl0211312⟩:=hzRecipeJoins5 hb0211312 hr20211312 hg0211312 hr10211312 pl0211312;clear hb0211312 hr20211312 hg0211312 hr10211312 pl0211312
    refine hK.out _ _ (by exact Hcells.out _ Hb0211312.out) (fun hHeld=>?_)
    clear hK K
    try simp only[Act.put,lA,lB,lC]
    refine wpAnyH_ready (rs:=[13]) (by kernel_rfl) (by simp) ?_
    refine AllReadyH.cons rfl (fun K hK=>?_) AllReadyH.nil
    refine za4 zak (.tmp 90) (.tmp 92) rfl w6.heap.size v0211312 (0+n2) cst.flatten rfl Hr20211312.out yb m2 e2 dst.flatten rfl Hl2y.out (Hc2y.out _ Hb0211312.out) H12y.out Hbn2y.out Hbm2y.out Hb0211312.out.size ?_
    intro v02113122 W02113122 hr202113122 hg02113122 _
    have hb02113122:Below w6.heap.size w6 W02113122:=zai Hb0211312.out Hr20211312.out (Nat.le_refl _) hg02113122 Hb0211312.out.size
    have hr102113122:=zae Hr20211312.out Hr10211312.out (by decide) hg02113122
    have pl02113122:=zaf Hpl0211312.out (za7 hg02113122) (za3 Hr20211312.out Hpl0211312.out (by decide))
    obtain⟨Hb02113122,Hr202113122,Hg02113122,Hr102113122,Hpl02113122⟩:=hzRecipeJoins5 hb02113122 hr202113122 hg02113122 hr102113122 pl02113122;clear hb02113122 hr202113122 hg02113122 hr102113122 pl02113122
    refine hK.out _ _ (by exact Hcells.out _ Hb02113122.out) (fun hHeld=>?_)
    clear hK K
    try simp only[Act.put,lA,lB,lC]
    have hr1:=Hr102113122.out
    have hr2:=Hr202113122.out
    rw[← HN1.out] at hr1
    rw[← HN2.out] at hr2
    obtain⟨a9,c9,rfl⟩:=za9 hr1
    obtain⟨a8,c8,rfl⟩:=za9 hr2
    clear hr1 hr2
    have hSd:=Hcells.out W02113122 Hb02113122.out
    refine wpAnyH_take (i:=14) (v:=?_) rfl (by kernel_rfl) (by kernel_rfl) (by kernel_rfl) (fun _ _ _ h=>h) (Or.inl ⟨by kernel_rfl,?_⟩) (by assumption) ?_
    rotate_left
    ·(intro w hSw;(try dsimp only at hSw);(try obtain⟨o0,o1,o2,o3,o4,o5⟩:=hSw);go_simp;try with_reducible rfl)
    try simp only[Act.put,lA,lB,lC]
    have hr1:=Hr102113122.out
    have hr2:=Hr202113122.out
    rw[← HN1.out] at hr1
    rw[← HN2.out] at hr2
    refine wpAnyH_ready (rs:=[16]) (by kernel_rfl) (by simp) ?_
    refine AllReadyH.cons rfl (fun K hK=>?_) AllReadyH.nil
    have fz0:=za5 Hpl02113122.out 0
    have fz1:=za5 Hpl02113122.out 1
    have fc0:=za2 Hpl02113122.out 0
    have fc1:=za2 Hpl02113122.out 1
    simp only[List.getElem?_toArray,List.getElem?_cons_zero,List.getElem?_cons_succ] at fc0 fc1
    go_simp
    obtain⟨wl,hwl⟩ : ∃ W,W=(W02113122.setCell ⟨gl,0,none⟩ (.slice a9 N1 c9)).setCell ⟨gl,1,none⟩ (.slice a8 N2 c8):=⟨_,rfl⟩
    have hFl:Frm (fun k=>k=gl) W02113122 wl:=by rw[hwl];exact zad (zad (Frm.refl _ _) 0 _) 1 _
    have pl:zbi gl (.slice a9 N1 c9) (.slice a8 N2 c8) wl:=by rw[hwl];exact heap_setCell_same _ gl 1 _ _ _ (heap_setCell_same _ gl 0 _ _ _ Hpl02113122.out)
    have hbl:Below w6.heap.size w6 wl:=Hb02113122.out.trans (hFl.below Hb02113122.out.size (fun k hk=>by rw[hk];exact Hge.out))
    have hr1':=hFl.owns hr1 (fun k hk e=>za3 hr1 Hpl02113122.out (by decide) (by rw[hk,e]))
    have hr2':=hFl.owns hr2 (fun k hk e=>za3 hr2 Hpl02113122.out (by decide) (by rw[hk,e]))
    have hrd:=HSm.out wl _ _ _ _ hbl hr1' hr2'
    rw[← hwl]
    clear hwl fz0 fz1 fc0 fc1
    obtain⟨Hr1,Hr2,HFl,Hr1',Hr2',Hpl,Hbl,Hrd⟩:=hzRecipeJoins8 hr1 hr2 hFl hr1' hr2' pl hbl hrd;clear hr1 hr2 hFl hr1' hr2' pl hbl hrd
    refine hK.out _ _ (by exact Hcells.out _ Hbl.out) (fun hHeld=>?_)
    clear hK K
    try simp only[Act.put,lA,lB,lC]
    refine wpAnyH_done (by kernel_rfl) ?_ _
    go_simp
    have hbwl:=Hbw6.out.trans (Hbl.out.mono Hbw6.out.size)
    have Hbwl:=zal hbwl;clear hbwl
    go_wp2_with fail
    refine (HF.out _ Hbwl.out).mono ?_
    rintro e w7 ⟨rfl,hb7⟩
    have hb67:=Hbl.out.trans (hb7.mono Hbl.out.size)
    have hbw7:=Hbwl.out.trans (hb7.mono Hbwl.out.size)
    have hSm7:=HSame.out w7 _ _ _ _ _ _ hb67 (Hrd.out.below hb7)
    obtain⟨-,-,-,-,i0,i1⟩:=Hcells.out w7 hb67
    obtain⟨j0,j1,-⟩:=zar (za0 hb7 Hpl.out)
    obtain⟨Hb7,Hb67,Hbw7,HSm7⟩:=hzRecipeJoins4 hb7 hb67 hbw7 hSm7;clear hb7 hb67 hbw7 hSm7
    go_wp2_with fail
    refine HSm7.out.mono ?_
    rintro e w8 ⟨rfl,hb8⟩
    have hbw8:=Hbw7.out.trans (hb8.mono Hbw7.out.size)
    clear i0 i1 j0 j1
    obtain⟨Hb8,Hbw8⟩:=hzRecipeJoins2 hb8 hbw8;clear hb8 hbw8
    go_wp2_with fail
    go_ret
    exact⟨rfl,Hbw8.out⟩
   go_simp
   obtain⟨W0213,hW0213⟩ : ∃ z,z=W021.alloc (.cells #[.slice none 0 0,.slice none 0 0] 73):=⟨_,rfl⟩
   obtain⟨gl,hgl⟩ : ∃ z,z=W021.heap.size:=⟨_,rfl⟩
   have hb0213:Below w6.heap.size w6 W0213:=by rw[hW0213];exact Hb021.out.trans ((za1 _ _).mono Hb021.out.size)
   have pl0213:zbi gl (.slice none 0 0) (.slice none 0 0) W0213:=by rw[hW0213,hgl];exact heap_alloc_new _ _
   have hge:w6.heap.size≤gl:=by rw[hgl];exact Hb021.out.size
   have hr10213:=za6 Hr1021.out (za1 W021 (.cells #[.slice none 0 0,.slice none 0 0] 73))
   have hr20213:=za6 Hr2021.out (za1 W021 (.cells #[.slice none 0 0,.slice none 0 0] 73))
   rw[← hW0213,← hgl]
   rw[← hW0213] at hr10213 hr20213
   clear hW0213 hgl
   obtain⟨Hb0213,Hpl0213,Hge,Hr10213,Hr20213⟩:=hzRecipeJoins5 hb0213 pl0213 hge hr10213 hr20213;clear hb0213 pl0213 hge hr10213 hr20213
   refine hK.out _ _ (by exact Hcells.out _ Hb0213.out) (fun hHeld=>?_)
   clear hK K
   try simp only[Act.put,lA,lB,lC]
   refine wpAnyH_ready (rs:=[3]) (by kernel_rfl) (by simp) ?_
   refine AllReadyH.cons rfl (fun K hK=>?_) AllReadyH.nil
   refine za4 zav (.tmp 80) (.tmp 82) rfl w6.heap.size (.slice (some ⟨W02.heap.size,0,none⟩) 0 0) 0 [] rfl Hr10213.out xa n1 c1 css.flatten rfl Hl1x.out (Hc1x.out _ Hb0213.out) H11x.out Hbn1x.out Hbm1x.out Hb0213.out.size ?_
   intro v02131 W02131 hr102131 hg02131 _
   have hb02131:Below w6.heap.size w6 W02131:=zai Hb0213.out Hr10213.out (Nat.le_refl _) hg02131 Hb0213.out.size
   have hr102131:W02131.ownsRow w6.heap.size 123 8 v02131 (0+n1) css.flatten:=hr102131
   have hr202131:=zae Hr10213.out Hr20213.out (by decide) hg02131
   have pl02131:=zaf Hpl0213.out (za7 hg02131) (za3 Hr10213.out Hpl0213.out (by decide))
   obtain⟨Hb02131,Hr102131,Hg02131,Hr202131,Hpl02131⟩:=hzRecipeJoins5 hb02131 hr102131 hg02131 hr202131 pl02131;clear hb02131 hr102131 hg02131 hr202131 pl02131
   refine hK.out _ _ (by exact Hcells.out _ Hb02131.out) (fun hHeld=>?_)
   clear hK K
   try simp only[Act.put,lA,lB,lC]
   refine wpAnyH_ready (rs:=[6]) (by kernel_rfl) (by simp) ?_
   refine AllReadyH.cons rfl (fun K hK=>?_) AllReadyH.nil
   refine za4 zav (.tmp 83) (.tmp 85) rfl w6.heap.size v02131 (0+n1) css.flatten rfl Hr102131.out ya m1 e1 dss.flatten rfl Hl1y.out (Hc1y.out _ Hb02131.out) H11y.out Hbn1y.out Hbm1y.out Hb02131.out.size ?_
   intro v021311 W021311 hr1021311 hg021311 _
   have hb021311:Below w6.heap.size w6 W021311:=zai Hb02131.out Hr102131.out (Nat.le_refl _) hg021311 Hb02131.out.size
   have hr2021311:=zae Hr102131.out Hr202131.out (by decide) hg021311
   have pl021311:=zaf Hpl02131.out (za7 hg021311) (za3 Hr102131.out Hpl02131.out (by decide))
   obtain⟨Hb021311,Hr1021311,Hg021311,Hr2021311,Hpl021311⟩:=hzRecipeJoins5 hb021311 hr1021311 hg021311 hr2021311 pl021311;clear hb021311 hr1021311 hg021311 hr2021311 pl021311
   refine hK.out _ _ (by exact Hcells.out _ Hb021311.out) (fun hHeld=>?_)
   clear hK K
   try simp only[Act.put,lA,lB,lC]
   refine wpAnyH_ready (rs:=[10]) (by kernel_rfl) (by simp) ?_
   refine AllReadyH.cons rfl (fun K hK=>?_) AllReadyH.nil
   refine za4 zak (.tmp 87) (.tmp 89) rfl w6.heap.size (.slice (some ⟨W0.heap.size,0,none⟩) 0 0) 0 [] rfl Hr2021311.out xb n2 c2 cst.flatten rfl Hl2x.out (Hc2x.out _ Hb021311.out) H12x.out Hbn2x.out Hbm2x.out Hb021311.out.size ?_
   intro v0213112 W0213112 hr20213112 hg0213112 _
   have hb0213112:Below w6.heap.size w6 W0213112:=zai Hb021311.out Hr2021311.out (Nat.le_refl _) hg0213112 Hb021311.out.size
   have hr20213112:W0213112.ownsRow w6.heap.size 125 3 v0213112 (0+n2) cst.flatten:=hr20213112
   have hr10213112:=zae Hr2021311.out Hr1021311.out (by decide) hg0213112
   have pl0213112:=zaf Hpl021311.out (za7 hg0213112) (za3 Hr2021311.out Hpl021311.out (by decide))
   obtain⟨Hb0213112,Hr20213112,Hg0213112,Hr10213112,Hpl0213112⟩:=hzRecipeJoins5 hb0213112 hr20213112 hg0213112 hr10213112 pl0213112;clear hb0213112 hr20213112 hg0213112 hr10213112 pl0213112
   refine hK.out _ _ (by exact Hcells.out _ Hb0213112.out) (fun hHeld=>?_)
   clear hK K
   try simp only[Act.put,lA,lB,lC]
   refine wpAnyH_ready (rs:=[13]) (by kernel_rfl) (by simp) ?_
   refine AllReadyH.cons rfl (fun K hK=>?_) AllReadyH.nil
   refine za4 zak (.tmp 90) (.tmp 92) rfl w6.heap.size v0213112 (0+n2) cst.flatten rfl Hr20213112.out yb m2 e2 dst.flatten rfl Hl2y.out (Hc2y.out _ Hb0213112.out) H12y.out Hbn2y.out Hbm2y.out Hb0213112.out.size ?_
   intro v02131122 W02131122 hr202131122 hg02131122 _
   have hb02131122:Below w6.heap.size w6 W02131122:=zai Hb0213112.out Hr20213112.out (Nat.le_refl _) hg02131122 Hb0213112.out.size
   have hr102131122:=zae Hr20213112.out Hr10213112.out (by decide) hg02131122
   have pl02131122:=zaf Hpl0213112.out (za7 hg02131122) (za3 Hr20213112.out Hpl0213112.out (by decide))
   obtain⟨Hb02131122,Hr202131122,Hg02131122,Hr102131122,Hpl02131122⟩:=hzRecipeJoins5 hb02131122 hr202131122 hg02131122 hr102131122 pl02131122;clear hb02131122 hr202131122 hg02131122 hr102131122 pl02131122
   refine hK.out _ _ (by exact Hcells.out _ Hb02131122.out) (fun hHeld=>?_)
   clear hK K
   try simp only[Act.put,lA,lB,lC]
   have hr1:=Hr102131122.out
   have hr2:=Hr202131122.out
   rw[← HN1.out] at hr1
   rw[← HN2.out] at hr2
   obtain⟨a9,c9,rfl⟩:=za9 hr1
   obtain⟨a8,c8,rfl⟩:=za9 hr2
   clear hr1 hr2
   have hSd:=Hcells.out W02131122 Hb02131122.out
   refine wpAnyH_take (i:=14) (v:=?_) rfl (by kernel_rfl) (by kernel_rfl) (by kernel_rfl) (fun _ _ _ h=>h) (Or.inl ⟨by kernel_rfl,?_⟩) (by assumption) ?_
   rotate_left
   ·(intro w hSw;(try dsimp only at hSw);(try obtain⟨o0,o1,o2,o3,o4,o5⟩:=hSw);go_simp;try with_reducible rfl)
   try simp only[Act.put,lA,lB,lC]
   have hr1:=Hr102131122.out
   have hr2:=Hr202131122.out
   rw[← HN1.out] at hr1
   rw[← HN2.out] at hr2
   refine wpAnyH_ready (rs:=[16]) (by kernel_rfl) (by simp) ?_
   refine AllReadyH.cons rfl (fun K hK=>?_) AllReadyH.nil
   have fz0:=za5 Hpl02131122.out 0
   have fz1:=za5 Hpl02131122.out 1
   have fc0:=za2 Hpl02131122.out 0
   have fc1:=za2 Hpl02131122.out 1
   simp only[List.getElem?_toArray,List.getElem?_cons_zero,List.getElem?_cons_succ] at fc0 fc1
   go_simp
   obtain⟨wl,hwl⟩ : ∃ W,W=(W02131122.setCell ⟨gl,0,none⟩ (.slice a9 N1 c9)).setCell ⟨gl,1,none⟩ (.slice a8 N2 c8):=⟨_,rfl⟩
   have hFl:Frm (fun k=>k=gl) W02131122 wl:=by rw[hwl];exact zad (zad (Frm.refl _ _) 0 _) 1 _
   have pl:zbi gl (.slice a9 N1 c9) (.slice a8 N2 c8) wl:=by rw[hwl];exact heap_setCell_same _ gl 1 _ _ _ (heap_setCell_same _ gl 0 _ _ _ Hpl02131122.out)
   have hbl:Below w6.heap.size w6 wl:=Hb02131122.out.trans (hFl.below Hb02131122.out.size (fun k hk=>by rw[hk];exact Hge.out))
   have hr1':=hFl.owns hr1 (fun k hk e=>za3 hr1 Hpl02131122.out (by decide) (by rw[hk,e]))
   have hr2':=hFl.owns hr2 (fun k hk e=>za3 hr2 Hpl02131122.out (by decide) (by rw[hk,e]))
   have hrd:=HSm.out wl _ _ _ _ hbl hr1' hr2'
   rw[← hwl]
   clear hwl fz0 fz1 fc0 fc1
   obtain⟨Hr1,Hr2,HFl,Hr1',Hr2',Hpl,Hbl,Hrd⟩:=hzRecipeJoins8 hr1 hr2 hFl hr1' hr2' pl hbl hrd;clear hr1 hr2 hFl hr1' hr2' pl hbl hrd
   refine hK.out _ _ (by exact Hcells.out _ Hbl.out) (fun hHeld=>?_)
   clear hK K
   try simp only[Act.put,lA,lB,lC]
   refine wpAnyH_done (by kernel_rfl) ?_ _
   go_simp
   have hbwl:=Hbw6.out.trans (Hbl.out.mono Hbw6.out.size)
   have Hbwl:=zal hbwl;clear hbwl
   go_wp2_with fail
   refine (HF.out _ Hbwl.out).mono ?_
   rintro e w7 ⟨rfl,hb7⟩
   have hb67:=Hbl.out.trans (hb7.mono Hbl.out.size)
   have hbw7:=Hbwl.out.trans (hb7.mono Hbwl.out.size)
   have hSm7:=HSame.out w7 _ _ _ _ _ _ hb67 (Hrd.out.below hb7)
   obtain⟨-,-,-,-,i0,i1⟩:=Hcells.out w7 hb67
   obtain⟨j0,j1,-⟩:=zar (za0 hb7 Hpl.out)
   obtain⟨Hb7,Hb67,Hbw7,HSm7⟩:=hzRecipeJoins4 hb7 hb67 hbw7 hSm7;clear hb7 hb67 hbw7 hSm7
   go_wp2_with fail
   refine HSm7.out.mono ?_
   rintro e w8 ⟨rfl,hb8⟩
   have hbw8:=Hbw7.out.trans (hb8.mono Hbw7.out.size)
   clear i0 i1 j0 j1
   obtain⟨Hb8,Hbw8⟩:=hzRecipeJoins2 hb8 hbw8;clear hb8 hbw8
   go_wp2_with fail
   go_ret
   exact⟨rfl,Hbw8.out⟩
  go_simp
  obtain⟨W023,hW023⟩ : ∃ z,z=W02.alloc (.cells #[.slice none 0 0,.slice none 0 0] 73):=⟨_,rfl⟩
  obtain⟨gl,hgl⟩ : ∃ z,z=W02.heap.size:=⟨_,rfl⟩
  have hb023:Below w6.heap.size w6 W023:=by rw[hW023];exact Hb02.out.trans ((za1 _ _).mono Hb02.out.size)
  have pl023:zbi gl (.slice none 0 0) (.slice none 0 0) W023:=by rw[hW023,hgl];exact heap_alloc_new _ _
  have hge:w6.heap.size≤gl:=by rw[hgl];exact Hb02.out.size
  have hr2023:=za6 Hr202.out (za1 W02 (.cells #[.slice none 0 0,.slice none 0 0] 73))
  rw[← hW023,← hgl]
  rw[← hW023] at hr2023
  clear hW023 hgl
  obtain⟨Hb023,Hpl023,Hge,Hr2023⟩:=hzRecipeJoins4 hb023 pl023 hge hr2023;clear hb023 pl023 hge hr2023
  refine hK.out _ _ (by exact Hcells.out _ Hb023.out) (fun hHeld=>?_)
  clear hK K
  try simp only[Act.put,lA,lB,lC]
  refine wpAnyH_ready (rs:=[0]) (by kernel_rfl) (by simp) ?_
  refine AllReadyH.cons rfl (fun K hK=>?_) AllReadyH.nil
  go_simp
  obtain⟨W0231,hW0231⟩ : ∃ z,z=W023.alloc (.cells #[] 123):=⟨_,rfl⟩
  have hb0231:Below w6.heap.size w6 W0231:=by rw[hW0231];exact Hb023.out.trans ((za1 _ _).mono Hb023.out.size)
  have hr10231:W0231.ownsRow w6.heap.size 123 8 (.slice (some ⟨W023.heap.size,0,none⟩) 0 0) 0 []:=by rw[hW0231];exact Hlit1.out W023 Hb023.out.size
  have hr20231:=za6 Hr2023.out (za1 W023 (.cells #[] 123))
  have pl0231:=za0 (za1 W023 (.cells #[] 123)) Hpl023.out
  rw[← hW0231]
  rw[← hW0231] at hr20231 pl0231
  clear hW0231
  obtain⟨Hb0231,Hr10231,Hr20231,Hpl0231⟩:=hzRecipeJoins4 hb0231 hr10231 hr20231 pl0231;clear hb0231 hr10231 hr20231 pl0231
  refine hK.out _ _ (by exact Hcells.out _ Hb0231.out) (fun hHeld=>?_)
  clear hK K
  try simp only[Act.put,lA,lB,lC]
  refine wpAnyH_ready (rs:=[3]) (by kernel_rfl) (by simp) ?_
  refine AllReadyH.cons rfl (fun K hK=>?_) AllReadyH.nil
  refine za4 zav (.tmp 80) (.tmp 82) rfl w6.heap.size (.slice (some ⟨W023.heap.size,0,none⟩) 0 0) 0 [] rfl Hr10231.out xa n1 c1 css.flatten rfl Hl1x.out (Hc1x.out _ Hb0231.out) H11x.out Hbn1x.out Hbm1x.out Hb0231.out.size ?_
  intro v02311 W02311 hr102311 hg02311 _
  have hb02311:Below w6.heap.size w6 W02311:=zai Hb0231.out Hr10231.out (Nat.le_refl _) hg02311 Hb0231.out.size
  have hr102311:W02311.ownsRow w6.heap.size 123 8 v02311 (0+n1) css.flatten:=hr102311
  have hr202311:=zae Hr10231.out Hr20231.out (by decide) hg02311
  have pl02311:=zaf Hpl0231.out (za7 hg02311) (za3 Hr10231.out Hpl0231.out (by decide))
  obtain⟨Hb02311,Hr102311,Hg02311,Hr202311,Hpl02311⟩:=hzRecipeJoins5 hb02311 hr102311 hg02311 hr202311 pl02311;clear hb02311 hr102311 hg02311 hr202311 pl02311
  refine hK.out _ _ (by exact Hcells.out _ Hb02311.out) (fun hHeld=>?_)
  clear hK K
  try simp only[Act.put,lA,lB,lC]
  refine wpAnyH_ready (rs:=[6]) (by kernel_rfl) (by simp) ?_
  refine AllReadyH.cons rfl (fun K hK=>?_) AllReadyH.nil
  refine za4 zav (.tmp 83) (.tmp 85) rfl w6.heap.size v02311 (0+n1) css.flatten rfl Hr102311.out ya m1 e1 dss.flatten rfl Hl1y.out (Hc1y.out _ Hb02311.out) H11y.out Hbn1y.out Hbm1y.out Hb02311.out.size ?_
  intro v023111 W023111 hr1023111 hg023111 _
  have hb023111:Below w6.heap.size w6 W023111:=zai Hb02311.out Hr102311.out (Nat.le_refl _) hg023111 Hb02311.out.size
  have hr2023111:=zae Hr102311.out Hr202311.out (by decide) hg023111
  have pl023111:=zaf Hpl02311.out (za7 hg023111) (za3 Hr102311.out Hpl02311.out (by decide))
  obtain⟨Hb023111,Hr1023111,Hg023111,Hr2023111,Hpl023111⟩:=hzRecipeJoins5 hb023111 hr1023111 hg023111 hr2023111 pl023111;clear hb023111 hr1023111 hg023111 hr2023111 pl023111
  refine hK.out _ _ (by exact Hcells.out _ Hb023111.out) (fun hHeld=>?_)
  clear hK K
  try simp only[Act.put,lA,lB,lC]
  refine wpAnyH_ready (rs:=[10]) (by kernel_rfl) (by simp) ?_
  refine AllReadyH.cons rfl (fun K hK=>?_) AllReadyH.nil
  refine za4 zak (.tmp 87) (.tmp 89) rfl w6.heap.size (.slice (some ⟨W0.heap.size,0,none⟩) 0 0) 0 [] rfl Hr2023111.out xb n2 c2 cst.flatten rfl Hl2x.out (Hc2x.out _ Hb023111.out) H12x.out Hbn2x.out Hbm2x.out Hb023111.out.size ?_
  intro v0231112 W0231112 hr20231112 hg0231112 _
  have hb0231112:Below w6.heap.size w6 W0231112:=zai Hb023111.out Hr2023111.out (Nat.le_refl _) hg0231112 Hb023111.out.size
  have hr20231112:W0231112.ownsRow w6.heap.size 125 3 v0231112 (0+n2) cst.flatten:=hr20231112
  have hr10231112:=zae Hr2023111.out Hr1023111.out (by decide) hg0231112
  have pl0231112:=zaf Hpl023111.out (za7 hg0231112) (za3 Hr2023111.out Hpl023111.out (by decide))
  obtain⟨Hb0231112,Hr20231112,Hg0231112,Hr10231112,Hpl0231112⟩:=hzRecipeJoins5 hb0231112 hr20231112 hg0231112 hr10231112 pl0231112;clear hb0231112 hr20231112 hg0231112 hr10231112 pl0231112
  refine hK.out _ _ (by exact Hcells.out _ Hb0231112.out) (fun hHeld=>?_)
  clear hK K
  try simp only[Act.put,lA,lB,lC]
  refine wpAnyH_ready (rs:=[13]) (by kernel_rfl) (by simp) ?_
  refine AllReadyH.cons rfl (fun K hK=>?_) AllReadyH.nil
  refine za4 zak (.tmp 90) (.tmp 92) rfl w6.heap.size v0231112 (0+n2) cst.flatten rfl Hr20231112.out yb m2 e2 dst.flatten rfl Hl2y.out (Hc2y.out _ Hb0231112.out) H12y.out Hbn2y.out Hbm2y.out Hb0231112.out.size ?_
  intro v02311122 W02311122 hr202311122 hg02311122 _
  have hb02311122:Below w6.heap.size w6 W02311122:=zai Hb0231112.out Hr20231112.out (Nat.le_refl _) hg02311122 Hb0231112.out.size
  have hr102311122:=zae Hr20231112.out Hr10231112.out (by decide) hg02311122
  have pl02311122:=zaf Hpl0231112.out (za7 hg02311122) (za3 Hr20231112.out Hpl0231112.out (by decide))
  obtain⟨Hb02311122,Hr202311122,Hg02311122,Hr102311122,Hpl02311122⟩:=hzRecipeJoins5 hb02311122 hr202311122 hg02311122 hr102311122 pl02311122;clear hb02311122 hr202311122 hg02311122 hr102311122 pl02311122
  refine hK.out _ _ (by exact Hcells.out _ Hb02311122.out) (fun hHeld=>?_)
  clear hK K
  try simp only[Act.put,lA,lB,lC]
  have hr1:=Hr102311122.out
  have hr2:=Hr202311122.out
  rw[← HN1.out] at hr1
  rw[← HN2.out] at hr2
  obtain⟨a9,c9,rfl⟩:=za9 hr1
  obtain⟨a8,c8,rfl⟩:=za9 hr2
  clear hr1 hr2
  have hSd:=Hcells.out W02311122 Hb02311122.out
  refine wpAnyH_take (i:=14) (v:=?_) rfl (by kernel_rfl) (by kernel_rfl) (by kernel_rfl) (fun _ _ _ h=>h) (Or.inl ⟨by kernel_rfl,?_⟩) (by assumption) ?_
  rotate_left
  ·(intro w hSw;(try dsimp only at hSw);(try obtain⟨o0,o1,o2,o3,o4,o5⟩:=hSw);go_simp;try with_reducible rfl)
  try simp only[Act.put,lA,lB,lC]
  have hr1:=Hr102311122.out
  have hr2:=Hr202311122.out
  rw[← HN1.out] at hr1
  rw[← HN2.out] at hr2
  refine wpAnyH_ready (rs:=[16]) (by kernel_rfl) (by simp) ?_
  refine AllReadyH.cons rfl (fun K hK=>?_) AllReadyH.nil
  have fz0:=za5 Hpl02311122.out 0
  have fz1:=za5 Hpl02311122.out 1
  have fc0:=za2 Hpl02311122.out 0
  have fc1:=za2 Hpl02311122.out 1
  simp only[List.getElem?_toArray,List.getElem?_cons_zero,List.getElem?_cons_succ] at fc0 fc1
  go_simp
  obtain⟨wl,hwl⟩ : ∃ W,W=(W02311122.setCell ⟨gl,0,none⟩ (.slice a9 N1 c9)).setCell ⟨gl,1,none⟩ (.slice a8 N2 c8):=⟨_,rfl⟩
  have hFl:Frm (fun k=>k=gl) W02311122 wl:=by rw[hwl];exact zad (zad (Frm.refl _ _) 0 _) 1 _
  have pl:zbi gl (.slice a9 N1 c9) (.slice a8 N2 c8) wl:=by rw[hwl];exact heap_setCell_same _ gl 1 _ _ _ (heap_setCell_same _ gl 0 _ _ _ Hpl02311122.out)
  have hbl:Below w6.heap.size w6 wl:=Hb02311122.out.trans (hFl.below Hb02311122.out.size (fun k hk=>by rw[hk];exact Hge.out))
  have hr1':=hFl.owns hr1 (fun k hk e=>za3 hr1 Hpl02311122.out (by decide) (by rw[hk,e]))
  have hr2':=hFl.owns hr2 (fun k hk e=>za3 hr2 Hpl02311122.out (by decide) (by rw[hk,e]))
  have hrd:=HSm.out wl _ _ _ _ hbl hr1' hr2'
  rw[← hwl]
  clear hwl fz0 fz1 fc0 fc1
  obtain⟨Hr1,Hr2,HFl,Hr1',Hr2',Hpl,Hbl,Hrd⟩:=hzRecipeJoins8 hr1 hr2 hFl hr1' hr2' pl hbl hrd;clear hr1 hr2 hFl hr1' hr2' pl hbl hrd
  refine hK.out _ _ (by exact Hcells.out _ Hbl.out) (fun hHeld=>?_)
  clear hK K
  try simp only[Act.put,lA,lB,lC]
  refine wpAnyH_done (by kernel_rfl) ?_ _
  go_simp
  have hbwl:=Hbw6.out.trans (Hbl.out.mono Hbw6.out.size)
  have Hbwl:=zal hbwl;clear hbwl
  go_wp2_with fail
  refine (HF.out _ Hbwl.out).mono ?_
  rintro e w7 ⟨rfl,hb7⟩
  have hb67:=Hbl.out.trans (hb7.mono Hbl.out.size)
  have hbw7:=Hbwl.out.trans (hb7.mono Hbwl.out.size)
  have hSm7:=HSame.out w7 _ _ _ _ _ _ hb67 (Hrd.out.below hb7)
  obtain⟨-,-,-,-,i0,i1⟩:=Hcells.out w7 hb67
  obtain⟨j0,j1,-⟩:=zar (za0 hb7 Hpl.out)
  obtain⟨Hb7,Hb67,Hbw7,HSm7⟩:=hzRecipeJoins4 hb7 hb67 hbw7 hSm7;clear hb7 hb67 hbw7 hSm7
  go_wp2_with fail
  refine HSm7.out.mono ?_
  rintro e w8 ⟨rfl,hb8⟩
  have hbw8:=Hbw7.out.trans (hb8.mono Hbw7.out.size)
  clear i0 i1 j0 j1
  obtain⟨Hb8,Hbw8⟩:=hzRecipeJoins2 hb8 hbw8;clear hb8 hbw8
  go_wp2_with fail
  go_ret
  exact⟨rfl,Hbw8.out⟩
 go_simp
 obtain⟨W03,hW03⟩ : ∃ z,z=W0.alloc (.cells #[.slice none 0 0,.slice none 0 0] 73):=⟨_,rfl⟩
 obtain⟨gl,hgl⟩ : ∃ z,z=W0.heap.size:=⟨_,rfl⟩
 have hb03:Below w6.heap.size w6 W03:=by rw[hW03];exact Hb0.out.trans ((za1 _ _).mono Hb0.out.size)
 have pl03:zbi gl (.slice none 0 0) (.slice none 0 0) W03:=by rw[hW03,hgl];exact heap_alloc_new _ _
 have hge:w6.heap.size≤gl:=by rw[hgl];exact Hb0.out.size
 rw[← hW03,← hgl]
 clear hW03 hgl
 obtain⟨Hb03,Hpl03,Hge⟩:=hzRecipeJoins3 hb03 pl03 hge;clear hb03 pl03 hge
 refine hK.out _ _ (by exact Hcells.out _ Hb03.out) (fun hHeld=>?_)
 clear hK K
 try simp only[Act.put,lA,lB,lC]
 refine wpAnyH_ready (rs:=[0,7]) (by kernel_rfl) (by simp) ?_
 refine AllReadyH.cons rfl (fun K hK=>?_) (AllReadyH.cons rfl (fun K hK=>?_) AllReadyH.nil)
 ·go_simp
  obtain⟨W031,hW031⟩ : ∃ z,z=W03.alloc (.cells #[] 123):=⟨_,rfl⟩
  have hb031:Below w6.heap.size w6 W031:=by rw[hW031];exact Hb03.out.trans ((za1 _ _).mono Hb03.out.size)
  have hr1031:W031.ownsRow w6.heap.size 123 8 (.slice (some ⟨W03.heap.size,0,none⟩) 0 0) 0 []:=by rw[hW031];exact Hlit1.out W03 Hb03.out.size
  have pl031:=za0 (za1 W03 (.cells #[] 123)) Hpl03.out
  rw[← hW031]
  rw[← hW031] at pl031
  clear hW031
  obtain⟨Hb031,Hr1031,Hpl031⟩:=hzRecipeJoins3 hb031 hr1031 pl031;clear hb031 hr1031 pl031
  refine hK.out _ _ (by exact Hcells.out _ Hb031.out) (fun hHeld=>?_)
  clear hK K
  try simp only[Act.put,lA,lB,lC]
  refine wpAnyH_ready (rs:=[3,7]) (by kernel_rfl) (by simp) ?_
  refine AllReadyH.cons rfl (fun K hK=>?_) (AllReadyH.cons rfl (fun K hK=>?_) AllReadyH.nil)
  ·refine za4 zav (.tmp 80) (.tmp 82) rfl w6.heap.size (.slice (some ⟨W03.heap.size,0,none⟩) 0 0) 0 [] rfl Hr1031.out xa n1 c1 css.flatten rfl Hl1x.out (Hc1x.out _ Hb031.out) H11x.out Hbn1x.out Hbm1x.out Hb031.out.size ?_
   intro v0311 W0311 hr10311 hg0311 _
   have hb0311:Below w6.heap.size w6 W0311:=zai Hb031.out Hr1031.out (Nat.le_refl _) hg0311 Hb031.out.size
   have hr10311:W0311.ownsRow w6.heap.size 123 8 v0311 (0+n1) css.flatten:=hr10311
   have pl0311:=zaf Hpl031.out (za7 hg0311) (za3 Hr1031.out Hpl031.out (by decide))
   obtain⟨Hb0311,Hr10311,Hg0311,Hpl0311⟩:=hzRecipeJoins4 hb0311 hr10311 hg0311 pl0311;clear hb0311 hr10311 hg0311 pl0311
   refine hK.out _ _ (by exact Hcells.out _ Hb0311.out) (fun hHeld=>?_)
   clear hK K
   try simp only[Act.put,lA,lB,lC]
   refine wpAnyH_ready (rs:=[6,7]) (by kernel_rfl) (by simp) ?_
   refine AllReadyH.cons rfl (fun K hK=>?_) (AllReadyH.cons rfl (fun K hK=>?_) AllReadyH.nil)
   ·refine za4 zav (.tmp 83) (.tmp 85) rfl w6.heap.size v0311 (0+n1) css.flatten rfl Hr10311.out ya m1 e1 dss.flatten rfl Hl1y.out (Hc1y.out _ Hb0311.out) H11y.out Hbn1y.out Hbm1y.out Hb0311.out.size ?_
    intro v03111 W03111 hr103111 hg03111 _
    have hb03111:Below w6.heap.size w6 W03111:=zai Hb0311.out Hr10311.out (Nat.le_refl _) hg03111 Hb0311.out.size
    have pl03111:=zaf Hpl0311.out (za7 hg03111) (za3 Hr10311.out Hpl0311.out (by decide))
    obtain⟨Hb03111,Hr103111,Hg03111,Hpl03111⟩:=hzRecipeJoins4 hb03111 hr103111 hg03111 pl03111;clear hb03111 hr103111 hg03111 pl03111
    refine hK.out _ _ (by exact Hcells.out _ Hb03111.out) (fun hHeld=>?_)
    clear hK K
    try simp only[Act.put,lA,lB,lC]
    refine wpAnyH_ready (rs:=[7]) (by kernel_rfl) (by simp) ?_
    refine AllReadyH.cons rfl (fun K hK=>?_) AllReadyH.nil
    go_simp
    obtain⟨W031112,hW031112⟩ : ∃ z,z=W03111.alloc (.cells #[] 125):=⟨_,rfl⟩
    have hb031112:Below w6.heap.size w6 W031112:=by rw[hW031112];exact Hb03111.out.trans ((za1 _ _).mono Hb03111.out.size)
    have hr2031112:W031112.ownsRow w6.heap.size 125 3 (.slice (some ⟨W03111.heap.size,0,none⟩) 0 0) 0 []:=by rw[hW031112];exact Hlit2.out W03111 Hb03111.out.size
    have hr1031112:=za6 Hr103111.out (za1 W03111 (.cells #[] 125))
    have pl031112:=za0 (za1 W03111 (.cells #[] 125)) Hpl03111.out
    rw[← hW031112]
    rw[← hW031112] at hr1031112 pl031112
    clear hW031112
    obtain⟨Hb031112,Hr2031112,Hr1031112,Hpl031112⟩:=hzRecipeJoins4 hb031112 hr2031112 hr1031112 pl031112;clear hb031112 hr2031112 hr1031112 pl031112
    refine hK.out _ _ (by exact Hcells.out _ Hb031112.out) (fun hHeld=>?_)
    clear hK K
    try simp only[Act.put,lA,lB,lC]
    refine wpAnyH_ready (rs:=[10]) (by kernel_rfl) (by simp) ?_
    refine AllReadyH.cons rfl (fun K hK=>?_) AllReadyH.nil
    refine za4 zak (.tmp 87) (.tmp 89) rfl w6.heap.size (.slice (some ⟨W03111.heap.size,0,none⟩) 0 0) 0 [] rfl Hr2031112.out xb n2 c2 cst.flatten rfl Hl2x.out (Hc2x.out _ Hb031112.out) H12x.out Hbn2x.out Hbm2x.out Hb031112.out.size ?_
    intro v0311122 W0311122 hr20311122 hg0311122 _
    have hb0311122:Below w6.heap.size w6 W0311122:=zai Hb031112.out Hr2031112.out (Nat.le_refl _) hg0311122 Hb031112.out.size
    have hr20311122:W0311122.ownsRow w6.heap.size 125 3 v0311122 (0+n2) cst.flatten:=hr20311122
    have hr10311122:=zae Hr2031112.out Hr1031112.out (by decide) hg0311122
    have pl0311122:=zaf Hpl031112.out (za7 hg0311122) (za3 Hr2031112.out Hpl031112.out (by decide))
    obtain⟨Hb0311122,Hr20311122,Hg0311122,Hr10311122,Hpl0311122⟩:=hzRecipeJoins5 hb0311122 hr20311122 hg0311122 hr10311122 pl0311122;clear hb0311122 hr20311122 hg0311122 hr10311122 pl0311122
    refine hK.out _ _ (by exact Hcells.out _ Hb0311122.out) (fun hHeld=>?_)
    clear hK K
    try simp only[Act.put,lA,lB,lC]
    refine wpAnyH_ready (rs:=[13]) (by kernel_rfl) (by simp) ?_
    refine AllReadyH.cons rfl (fun K hK=>?_) AllReadyH.nil
    refine za4 zak (.tmp 90) (.tmp 92) rfl w6.heap.size v0311122 (0+n2) cst.flatten rfl Hr20311122.out yb m2 e2 dst.flatten rfl Hl2y.out (Hc2y.out _ Hb0311122.out) H12y.out Hbn2y.out Hbm2y.out Hb0311122.out.size ?_
    intro v03111222 W03111222 hr203111222 hg03111222 _
    have hb03111222:Below w6.heap.size w6 W03111222:=zai Hb0311122.out Hr20311122.out (Nat.le_refl _) hg03111222 Hb0311122.out.size
    have hr103111222:=zae Hr20311122.out Hr10311122.out (by decide) hg03111222
    have pl03111222:=zaf Hpl0311122.out (za7 hg03111222) (za3 Hr20311122.out Hpl0311122.out (by decide))
    obtain⟨Hb03111222,Hr203111222,Hg03111222,Hr103111222,Hpl03111222⟩:=hzRecipeJoins5 hb03111222 hr203111222 hg03111222 hr103111222 pl03111222;clear hb03111222 hr203111222 hg03111222 hr103111222 pl03111222
    refine hK.out _ _ (by exact Hcells.out _ Hb03111222.out) (fun hHeld=>?_)
    clear hK K
    try simp only[Act.put,lA,lB,lC]
    have hr1:=Hr103111222.out
    have hr2:=Hr203111222.out
    rw[← HN1.out] at hr1
    rw[← HN2.out] at hr2
    obtain⟨a9,c9,rfl⟩:=za9 hr1
    obtain⟨a8,c8,rfl⟩:=za9 hr2
    clear hr1 hr2
    have hSd:=Hcells.out W03111222 Hb03111222.out
    refine wpAnyH_take (i:=14) (v:=?_) rfl (by kernel_rfl) (by kernel_rfl) (by kernel_rfl) (fun _ _ _ h=>h) (Or.inl ⟨by kernel_rfl,?_⟩) (by assumption) ?_
    rotate_left
    ·(intro w hSw;(try dsimp only at hSw);(try obtain⟨o0,o1,o2,o3,o4,o5⟩:=hSw);go_simp;try with_reducible rfl)
    try simp only[Act.put,lA,lB,lC]
    have hr1:=Hr103111222.out
    have hr2:=Hr203111222.out
    rw[← HN1.out] at hr1
    rw[← HN2.out] at hr2
    refine wpAnyH_ready (rs:=[16]) (by kernel_rfl) (by simp) ?_
    refine AllReadyH.cons rfl (fun K hK=>?_) AllReadyH.nil
    have fz0:=za5 Hpl03111222.out 0
    have fz1:=za5 Hpl03111222.out 1
    have fc0:=za2 Hpl03111222.out 0
    have fc1:=za2 Hpl03111222.out 1
    simp only[List.getElem?_toArray,List.getElem?_cons_zero,List.getElem?_cons_succ] at fc0 fc1
    go_simp
    obtain⟨wl,hwl⟩ : ∃ W,W=(W03111222.setCell ⟨gl,0,none⟩ (.slice a9 N1 c9)).setCell ⟨gl,1,none⟩ (.slice a8 N2 c8):=⟨_,rfl⟩
    have hFl:Frm (fun k=>k=gl) W03111222 wl:=by rw[hwl];exact zad (zad (Frm.refl _ _) 0 _) 1 _
    have pl:zbi gl (.slice a9 N1 c9) (.slice a8 N2 c8) wl:=by rw[hwl];exact heap_setCell_same _ gl 1 _ _ _ (heap_setCell_same _ gl 0 _ _ _ Hpl03111222.out)
    have hbl:Below w6.heap.size w6 wl:=Hb03111222.out.trans (hFl.below Hb03111222.out.size (fun k hk=>by rw[hk];exact Hge.out))
    have hr1':=hFl.owns hr1 (fun k hk e=>za3 hr1 Hpl03111222.out (by decide) (by rw[hk,e]))
    have hr2':=hFl.owns hr2 (fun k hk e=>za3 hr2 Hpl03111222.out (by decide) (by rw[hk,e]))
    have hrd:=HSm.out wl _ _ _ _ hbl hr1' hr2'
    rw[← hwl]
    clear hwl fz0 fz1 fc0 fc1
    obtain⟨Hr1,Hr2,HFl,Hr1',Hr2',Hpl,Hbl,Hrd⟩:=hzRecipeJoins8 hr1 hr2 hFl hr1' hr2' pl hbl hrd;clear hr1 hr2 hFl hr1' hr2' pl hbl hrd
    refine hK.out _ _ (by exact Hcells.out _ Hbl.out) (fun hHeld=>?_)
    clear hK K
    try simp only[Act.put,lA,lB,lC]
    refine wpAnyH_done (by kernel_rfl) ?_ _
    go_simp
    have hbwl:=Hbw6.out.trans (Hbl.out.mono Hbw6.out.size)
    have Hbwl:=zal hbwl;clear hbwl
    go_wp2_with fail
    refine (HF.out _ Hbwl.out).mono ?_
    rintro e w7 ⟨rfl,hb7⟩
    have hb67:=Hbl.out.trans (hb7.mono Hbl.out.size)
    have hbw7:=Hbwl.out.trans (hb7.mono Hbwl.out.size)
    have hSm7:=HSame.out w7 _ _ _ _ _ _ hb67 (Hrd.out.below hb7)
    obtain⟨-,-,-,-,i0,i1⟩:=Hcells.out w7 hb67
    obtain⟨j0,j1,-⟩:=zar (za0 hb7 Hpl.out)
    obtain⟨Hb7,Hb67,Hbw7,HSm7⟩:=hzRecipeJoins4 hb7 hb67 hbw7 hSm7;clear hb7 hb67 hbw7 hSm7
    go_wp2_with fail
    refine HSm7.out.mono ?_
    rintro e w8 ⟨rfl,hb8⟩
    have hbw8:=Hbw7.out.trans (hb8.mono Hbw7.out.size)
    clear i0 i1 j0 j1
    obtain⟨Hb8,Hbw8⟩:=hzRecipeJoins2 hb8 hbw8;clear hb8 hbw8
    go_wp2_with fail
    go_ret
    exact⟨rfl,Hbw8.out⟩
   go_simp
   obtain⟨W03112,hW03112⟩ : ∃ z,z=W0311.alloc (.cells #[] 125):=⟨_,rfl⟩
   have hb03112:Below w6.heap.size w6 W03112:=by rw[hW03112];exact Hb0311.out.trans ((za1 _ _).mono Hb0311.out.size)
   have hr203112:W03112.ownsRow w6.heap.size 125 3 (.slice (some ⟨W0311.heap.size,0,none⟩) 0 0) 0 []:=by rw[hW03112];exact Hlit2.out W0311 Hb0311.out.size
   have hr103112:=za6 Hr10311.out (za1 W0311 (.cells #[] 125))
   have pl03112:=za0 (za1 W0311 (.cells #[] 125)) Hpl0311.out
   rw[← hW03112]
   rw[← hW03112] at hr103112 pl03112
   clear hW03112
   obtain⟨Hb03112,Hr203112,Hr103112,Hpl03112⟩:=hzRecipeJoins4 hb03112 hr203112 hr103112 pl03112;clear hb03112 hr203112 hr103112 pl03112
   refine hK.out _ _ (by exact Hcells.out _ Hb03112.out) (fun hHeld=>?_)
   clear hK K
   try simp only[Act.put,lA,lB,lC]
   refine wpAnyH_ready (rs:=[6]) (by kernel_rfl) (by simp) ?_
   refine AllReadyH.cons rfl (fun K hK=>?_) AllReadyH.nil
   refine za4 zav (.tmp 83) (.tmp 85) rfl w6.heap.size v0311 (0+n1) css.flatten rfl Hr103112.out ya m1 e1 dss.flatten rfl Hl1y.out (Hc1y.out _ Hb03112.out) H11y.out Hbn1y.out Hbm1y.out Hb03112.out.size ?_
   intro v031121 W031121 hr1031121 hg031121 _
   have hb031121:Below w6.heap.size w6 W031121:=zai Hb03112.out Hr103112.out (Nat.le_refl _) hg031121 Hb03112.out.size
   have hr2031121:=zae Hr103112.out Hr203112.out (by decide) hg031121
   have pl031121:=zaf Hpl03112.out (za7 hg031121) (za3 Hr103112.out Hpl03112.out (by decide))
   obtain⟨Hb031121,Hr1031121,Hg031121,Hr2031121,Hpl031121⟩:=hzRecipeJoins5 hb031121 hr1031121 hg031121 hr2031121 pl031121;clear hb031121 hr1031121 hg031121 hr2031121 pl031121
   refine hK.out _ _ (by exact Hcells.out _ Hb031121.out) (fun hHeld=>?_)
   clear hK K
   try simp only[Act.put,lA,lB,lC]
   refine wpAnyH_ready (rs:=[10]) (by kernel_rfl) (by simp) ?_
   refine AllReadyH.cons rfl (fun K hK=>?_) AllReadyH.nil
   refine za4 zak (.tmp 87) (.tmp 89) rfl w6.heap.size (.slice (some ⟨W0311.heap.size,0,none⟩) 0 0) 0 [] rfl Hr2031121.out xb n2 c2 cst.flatten rfl Hl2x.out (Hc2x.out _ Hb031121.out) H12x.out Hbn2x.out Hbm2x.out Hb031121.out.size ?_
   intro v0311212 W0311212 hr20311212 hg0311212 _
   have hb0311212:Below w6.heap.size w6 W0311212:=zai Hb031121.out Hr2031121.out (Nat.le_refl _) hg0311212 Hb031121.out.size
   have hr20311212:W0311212.ownsRow w6.heap.size 125 3 v0311212 (0+n2) cst.flatten:=hr20311212
   have hr10311212:=zae Hr2031121.out Hr1031121.out (by decide) hg0311212
   have pl0311212:=zaf Hpl031121.out (za7 hg0311212) (za3 Hr2031121.out Hpl031121.out (by decide))
   obtain⟨Hb0311212,Hr20311212,Hg0311212,Hr10311212,Hpl0311212⟩:=hzRecipeJoins5 hb0311212 hr20311212 hg0311212 hr10311212 pl0311212;clear hb0311212 hr20311212 hg0311212 hr10311212 pl0311212
   refine hK.out _ _ (by exact Hcells.out _ Hb0311212.out) (fun hHeld=>?_)
   clear hK K
   try simp only[Act.put,lA,lB,lC]
   refine wpAnyH_ready (rs:=[13]) (by kernel_rfl) (by simp) ?_
   refine AllReadyH.cons rfl (fun K hK=>?_) AllReadyH.nil
   refine za4 zak (.tmp 90) (.tmp 92) rfl w6.heap.size v0311212 (0+n2) cst.flatten rfl Hr20311212.out yb m2 e2 dst.flatten rfl Hl2y.out (Hc2y.out _ Hb0311212.out) H12y.out Hbn2y.out Hbm2y.out Hb0311212.out.size ?_
   intro v03112122 W03112122 hr203112122 hg03112122 _
   have hb03112122:Below w6.heap.size w6 W03112122:=zai Hb0311212.out Hr20311212.out (Nat.le_refl _) hg03112122 Hb0311212.out.size
   have hr103112122:=zae Hr20311212.out Hr10311212.out (by decide) hg03112122
   have pl03112122:=zaf Hpl0311212.out (za7 hg03112122) (za3 Hr20311212.out Hpl0311212.out (by decide))
   obtain⟨Hb03112122,Hr203112122,Hg03112122,Hr103112122,Hpl03112122⟩:=hzRecipeJoins5 hb03112122 hr203112122 hg03112122 hr103112122 pl03112122;clear hb03112122 hr203112122 hg03112122 hr103112122 pl03112122
   refine hK.out _ _ (by exact Hcells.out _ Hb03112122.out) (fun hHeld=>?_)
   clear hK K
   try simp only[Act.put,lA,lB,lC]
   have hr1:=Hr103112122.out
   have hr2:=Hr203112122.out
   rw[← HN1.out] at hr1
   rw[← HN2.out] at hr2
   obtain⟨a9,c9,rfl⟩:=za9 hr1
   obtain⟨a8,c8,rfl⟩:=za9 hr2
   clear hr1 hr2
   have hSd:=Hcells.out W03112122 Hb03112122.out
   refine wpAnyH_take (i:=14) (v:=?_) rfl (by kernel_rfl) (by kernel_rfl) (by kernel_rfl) (fun _ _ _ h=>h) (Or.inl ⟨by kernel_rfl,?_⟩) (by assumption) ?_
   rotate_left
   ·(intro w hSw;(try dsimp only at hSw);(try obtain⟨o0,o1,o2,o3,o4,o5⟩:=hSw);go_simp;try with_reducible rfl)
   try simp only[Act.put,lA,lB,lC]
   have hr1:=Hr103112122.out
   have hr2:=Hr203112122.out
   rw[← HN1.out] at hr1
   rw[← HN2.out] at hr2
   refine wpAnyH_ready (rs:=[16]) (by kernel_rfl) (by simp) ?_
   refine AllReadyH.cons rfl (fun K hK=>?_) AllReadyH.nil
   have fz0:=za5 Hpl03112122.out 0
   have fz1:=za5 Hpl03112122.out 1
   have fc0:=za2 Hpl03112122.out 0
   have fc1:=za2 Hpl03112122.out 1
   simp only[List.getElem?_toArray,List.getElem?_cons_zero,List.getElem?_cons_succ] at fc0 fc1
   go_simp
   obtain⟨wl,hwl⟩ : ∃ W,W=(W03112122.setCell ⟨gl,0,none⟩ (.slice a9 N1 c9)).setCell ⟨gl,1,none⟩ (.slice a8 N2 c8):=⟨_,rfl⟩
   have hFl:Frm (fun k=>k=gl) W03112122 wl:=by rw[hwl];exact zad (zad (Frm.refl _ _) 0 _) 1 _
   have pl:zbi gl (.slice a9 N1 c9) (.slice a8 N2 c8) wl:=by rw[hwl];exact heap_setCell_same _ gl 1 _ _ _ (heap_setCell_same _ gl 0 _ _ _ Hpl03112122.out)
   have hbl:Below w6.heap.size w6 wl:=Hb03112122.out.trans (hFl.below Hb03112122.out.size (fun k hk=>by rw[hk];exact Hge.out))
   have hr1':=hFl.owns hr1 (fun k hk e=>za3 hr1 Hpl03112122.out (by decide) (by rw[hk,e]))
   have hr2':=hFl.owns hr2 (fun k hk e=>za3 hr2 Hpl03112122.out (by decide) (by rw[hk,e]))
   have hrd:=HSm.out wl _ _ _ _ hbl hr1' hr2'
   rw[← hwl]
   clear hwl fz0 fz1 fc0 fc1
   obtain⟨Hr1,Hr2,HFl,Hr1',Hr2',Hpl,Hbl,Hrd⟩:=hzRecipeJoins8 hr1 hr2 hFl hr1' hr2' pl hbl hrd;clear hr1 hr2 hFl hr1' hr2' pl hbl hrd
   refine hK.out _ _ (by exact Hcells.out _ Hbl.out) (fun hHeld=>?_)
   clear hK K
   try simp only[Act.put,lA,lB,lC]
   refine wpAnyH_done (by kernel_rfl) ?_ _
   go_simp
   have hbwl:=Hbw6.out.trans (Hbl.out.mono Hbw6.out.size)
   have Hbwl:=zal hbwl;clear hbwl
   go_wp2_with fail
   refine (HF.out _ Hbwl.out).mono ?_
   rintro e w7 ⟨rfl,hb7⟩
   have hb67:=Hbl.out.trans (hb7.mono Hbl.out.size)
   have hbw7:=Hbwl.out.trans (hb7.mono Hbwl.out.size)
   have hSm7:=HSame.out w7 _ _ _ _ _ _ hb67 (Hrd.out.below hb7)
   obtain⟨-,-,-,-,i0,i1⟩:=Hcells.out w7 hb67
   obtain⟨j0,j1,-⟩:=zar (za0 hb7 Hpl.out)
   obtain⟨Hb7,Hb67,Hbw7,HSm7⟩:=hzRecipeJoins4 hb7 hb67 hbw7 hSm7;clear hb7 hb67 hbw7 hSm7
   go_wp2_with fail
   refine HSm7.out.mono ?_
   rintro e w8 ⟨rfl,hb8⟩
   have hbw8:=Hbw7.out.trans (hb8.mono Hbw7.out.size)
   clear i0 i1 j0 j1
   obtain⟨Hb8,Hbw8⟩:=hzRecipeJoins2 hb8 hbw8;clear hb8 hbw8
   go_wp2_with fail
   go_ret
   exact⟨rfl,Hbw8.out⟩
  go_simp
  obtain⟨W0312,hW0312⟩ : ∃ z,z=W031.alloc (.cells #[] 125):=⟨_,rfl⟩
  have hb0312:Below w6.heap.size w6 W0312:=by rw[hW0312];exact Hb031.out.trans ((za1 _ _).mono Hb031.out.size)
  have hr20312:W0312.ownsRow w6.heap.size 125 3 (.slice (some ⟨W031.heap.size,0,none⟩) 0 0) 0 []:=by rw[hW0312];exact Hlit2.out W031 Hb031.out.size
  have hr10312:=za6 Hr1031.out (za1 W031 (.cells #[] 125))
  have pl0312:=za0 (za1 W031 (.cells #[] 125)) Hpl031.out
  rw[← hW0312]
  rw[← hW0312] at hr10312 pl0312
  clear hW0312
  obtain⟨Hb0312,Hr20312,Hr10312,Hpl0312⟩:=hzRecipeJoins4 hb0312 hr20312 hr10312 pl0312;clear hb0312 hr20312 hr10312 pl0312
  refine hK.out _ _ (by exact Hcells.out _ Hb0312.out) (fun hHeld=>?_)
  clear hK K
  try simp only[Act.put,lA,lB,lC]
  refine wpAnyH_ready (rs:=[3]) (by kernel_rfl) (by simp) ?_
  refine AllReadyH.cons rfl (fun K hK=>?_) AllReadyH.nil
  refine za4 zav (.tmp 80) (.tmp 82) rfl w6.heap.size (.slice (some ⟨W03.heap.size,0,none⟩) 0 0) 0 [] rfl Hr10312.out xa n1 c1 css.flatten rfl Hl1x.out (Hc1x.out _ Hb0312.out) H11x.out Hbn1x.out Hbm1x.out Hb0312.out.size ?_
  intro v03121 W03121 hr103121 hg03121 _
  have hb03121:Below w6.heap.size w6 W03121:=zai Hb0312.out Hr10312.out (Nat.le_refl _) hg03121 Hb0312.out.size
  have hr103121:W03121.ownsRow w6.heap.size 123 8 v03121 (0+n1) css.flatten:=hr103121
  have hr203121:=zae Hr10312.out Hr20312.out (by decide) hg03121
  have pl03121:=zaf Hpl0312.out (za7 hg03121) (za3 Hr10312.out Hpl0312.out (by decide))
  obtain⟨Hb03121,Hr103121,Hg03121,Hr203121,Hpl03121⟩:=hzRecipeJoins5 hb03121 hr103121 hg03121 hr203121 pl03121;clear hb03121 hr103121 hg03121 hr203121 pl03121
  refine hK.out _ _ (by exact Hcells.out _ Hb03121.out) (fun hHeld=>?_)
  clear hK K
  try simp only[Act.put,lA,lB,lC]
  refine wpAnyH_ready (rs:=[6]) (by kernel_rfl) (by simp) ?_
  refine AllReadyH.cons rfl (fun K hK=>?_) AllReadyH.nil
  refine za4 zav (.tmp 83) (.tmp 85) rfl w6.heap.size v03121 (0+n1) css.flatten rfl Hr103121.out ya m1 e1 dss.flatten rfl Hl1y.out (Hc1y.out _ Hb03121.out) H11y.out Hbn1y.out Hbm1y.out Hb03121.out.size ?_
  intro v031211 W031211 hr1031211 hg031211 _
  have hb031211:Below w6.heap.size w6 W031211:=zai Hb03121.out Hr103121.out (Nat.le_refl _) hg031211 Hb03121.out.size
  have hr2031211:=zae Hr103121.out Hr203121.out (by decide) hg031211
  have pl031211:=zaf Hpl03121.out (za7 hg031211) (za3 Hr103121.out Hpl03121.out (by decide))
  obtain⟨Hb031211,Hr1031211,Hg031211,Hr2031211,Hpl031211⟩:=hzRecipeJoins5 hb031211 hr1031211 hg031211 hr2031211 pl031211;clear hb031211 hr1031211 hg031211 hr2031211 pl031211
  refine hK.out _ _ (by exact Hcells.out _ Hb031211.out) (fun hHeld=>?_)
  clear hK K
  try simp only[Act.put,lA,lB,lC]
  refine wpAnyH_ready (rs:=[10]) (by kernel_rfl) (by simp) ?_
  refine AllReadyH.cons rfl (fun K hK=>?_) AllReadyH.nil
  refine za4 zak (.tmp 87) (.tmp 89) rfl w6.heap.size (.slice (some ⟨W031.heap.size,0,none⟩) 0 0) 0 [] rfl Hr2031211.out xb n2 c2 cst.flatten rfl Hl2x.out (Hc2x.out _ Hb031211.out) H12x.out Hbn2x.out Hbm2x.out Hb031211.out.size ?_
  intro v0312112 W0312112 hr20312112 hg0312112 _
  have hb0312112:Below w6.heap.size w6 W0312112:=zai Hb031211.out Hr2031211.out (Nat.le_refl _) hg0312112 Hb031211.out.size
  have hr20312112:W0312112.ownsRow w6.heap.size 125 3 v0312112 (0+n2) cst.flatten:=hr20312112
  have hr10312112:=zae Hr2031211.out Hr1031211.out (by decide) hg0312112
  have pl0312112:=zaf Hpl031211.out (za7 hg0312112) (za3 Hr2031211.out Hpl031211.out (by decide))
  obtain⟨Hb0312112,Hr20312112,Hg0312112,Hr10312112,Hpl0312112⟩:=hzRecipeJoins5 hb0312112 hr20312112 hg0312112 hr10312112 pl0312112;clear hb0312112 hr20312112 hg0312112 hr10312112 pl0312112
  refine hK.out _ _ (by exact Hcells.out _ Hb0312112.out) (fun hHeld=>?_)
  clear hK K
  try simp only[Act.put,lA,lB,lC]
  refine wpAnyH_ready (rs:=[13]) (by kernel_rfl) (by simp) ?_
  refine AllReadyH.cons rfl (fun K hK=>?_) AllReadyH.nil
  refine za4 zak (.tmp 90) (.tmp 92) rfl w6.heap.size v0312112 (0+n2) cst.flatten rfl Hr20312112.out yb m2 e2 dst.flatten rfl Hl2y.out (Hc2y.out _ Hb0312112.out) H12y.out Hbn2y.out Hbm2y.out Hb0312112.out.size ?_
  intro v03121122 W03121122 hr203121122 hg03121122 _
  have hb03121122:Below w6.heap.size w6 W03121122:=zai Hb0312112.out Hr20312112.out (Nat.le_refl _) hg03121122 Hb0312112.out.size
  have hr103121122:=zae Hr20312112.out Hr10312112.out (by decide) hg03121122
  have pl03121122:=zaf Hpl0312112.out (za7 hg03121122) (za3 Hr20312112.out Hpl0312112.out (by decide))
  obtain⟨Hb03121122,Hr203121122,Hg03121122,Hr103121122,Hpl03121122⟩:=hzRecipeJoins5 hb03121122 hr203121122 hg03121122 hr103121122 pl03121122;clear hb03121122 hr203121122 hg03121122 hr103121122 pl03121122
  refine hK.out _ _ (by exact Hcells.out _ Hb03121122.out) (fun hHeld=>?_)
  clear hK K
  try simp only[Act.put,lA,lB,lC]
  have hr1:=Hr103121122.out
  have hr2:=Hr203121122.out
  rw[← HN1.out] at hr1
  rw[← HN2.out] at hr2
  obtain⟨a9,c9,rfl⟩:=za9 hr1
  obtain⟨a8,c8,rfl⟩:=za9 hr2
  clear hr1 hr2
  have hSd:=Hcells.out W03121122 Hb03121122.out
  refine wpAnyH_take (i:=14) (v:=?_) rfl (by kernel_rfl) (by kernel_rfl) (by kernel_rfl) (fun _ _ _ h=>h) (Or.inl ⟨by kernel_rfl,?_⟩) (by assumption) ?_
  rotate_left
  ·(intro w hSw;(try dsimp only at hSw);(try obtain⟨o0,o1,o2,o3,o4,o5⟩:=hSw);go_simp;try with_reducible rfl)
  try simp only[Act.put,lA,lB,lC]
  have hr1:=Hr103121122.out
  have hr2:=Hr203121122.out
  rw[← HN1.out] at hr1
  rw[← HN2.out] at hr2
  refine wpAnyH_ready (rs:=[16]) (by kernel_rfl) (by simp) ?_
  refine AllReadyH.cons rfl (fun K hK=>?_) AllReadyH.nil
  have fz0:=za5 Hpl03121122.out 0
  have fz1:=za5 Hpl03121122.out 1
  have fc0:=za2 Hpl03121122.out 0
  have fc1:=za2 Hpl03121122.out 1
  simp only[List.getElem?_toArray,List.getElem?_cons_zero,List.getElem?_cons_succ] at fc0 fc1
  go_simp
  obtain⟨wl,hwl⟩ : ∃ W,W=(W03121122.setCell ⟨gl,0,none⟩ (.slice a9 N1 c9)).setCell ⟨gl,1,none⟩ (.slice a8 N2 c8):=⟨_,rfl⟩
  have hFl:Frm (fun k=>k=gl) W03121122 wl:=by rw[hwl];exact zad (zad (Frm.refl _ _) 0 _) 1 _
  have pl:zbi gl (.slice a9 N1 c9) (.slice a8 N2 c8) wl:=by rw[hwl];exact heap_setCell_same _ gl 1 _ _ _ (heap_setCell_same _ gl 0 _ _ _ Hpl03121122.out)
  have hbl:Below w6.heap.size w6 wl:=Hb03121122.out.trans (hFl.below Hb03121122.out.size (fun k hk=>by rw[hk];exact Hge.out))
  have hr1':=hFl.owns hr1 (fun k hk e=>za3 hr1 Hpl03121122.out (by decide) (by rw[hk,e]))
  have hr2':=hFl.owns hr2 (fun k hk e=>za3 hr2 Hpl03121122.out (by decide) (by rw[hk,e]))
  have hrd:=HSm.out wl _ _ _ _ hbl hr1' hr2'
  rw[← hwl]
  clear hwl fz0 fz1 fc0 fc1
  obtain⟨Hr1,Hr2,HFl,Hr1',Hr2',Hpl,Hbl,Hrd⟩:=hzRecipeJoins8 hr1 hr2 hFl hr1' hr2' pl hbl hrd;clear hr1 hr2 hFl hr1' hr2' pl hbl hrd
  refine hK.out _ _ (by exact Hcells.out _ Hbl.out) (fun hHeld=>?_)
  clear hK K
  try simp only[Act.put,lA,lB,lC]
  refine wpAnyH_done (by kernel_rfl) ?_ _
  go_simp
  have hbwl:=Hbw6.out.trans (Hbl.out.mono Hbw6.out.size)
  have Hbwl:=zal hbwl;clear hbwl
  go_wp2_with fail
  refine (HF.out _ Hbwl.out).mono ?_
  rintro e w7 ⟨rfl,hb7⟩
  have hb67:=Hbl.out.trans (hb7.mono Hbl.out.size)
  have hbw7:=Hbwl.out.trans (hb7.mono Hbwl.out.size)
  have hSm7:=HSame.out w7 _ _ _ _ _ _ hb67 (Hrd.out.below hb7)
  obtain⟨-,-,-,-,i0,i1⟩:=Hcells.out w7 hb67
  obtain⟨j0,j1,-⟩:=zar (za0 hb7 Hpl.out)
  obtain⟨Hb7,Hb67,Hbw7,HSm7⟩:=hzRecipeJoins4 hb7 hb67 hbw7 hSm7;clear hb7 hb67 hbw7 hSm7
  go_wp2_with fail
  refine HSm7.out.mono ?_
  rintro e w8 ⟨rfl,hb8⟩
  have hbw8:=Hbw7.out.trans (hb8.mono Hbw7.out.size)
  clear i0 i1 j0 j1
  obtain⟨Hb8,Hbw8⟩:=hzRecipeJoins2 hb8 hbw8;clear hb8 hbw8
  go_wp2_with fail
  go_ret
  exact⟨rfl,Hbw8.out⟩
 go_simp
 obtain⟨W032,hW032⟩ : ∃ z,z=W03.alloc (.cells #[] 125):=⟨_,rfl⟩
 have hb032:Below w6.heap.size w6 W032:=by rw[hW032];exact Hb03.out.trans ((za1 _ _).mono Hb03.out.size)
 have hr2032:W032.ownsRow w6.heap.size 125 3 (.slice (some ⟨W03.heap.size,0,none⟩) 0 0) 0 []:=by rw[hW032];exact Hlit2.out W03 Hb03.out.size
 have pl032:=za0 (za1 W03 (.cells #[] 125)) Hpl03.out
 rw[← hW032]
 rw[← hW032] at pl032
 clear hW032
 obtain⟨Hb032,Hr2032,Hpl032⟩:=hzRecipeJoins3 hb032 hr2032 pl032;clear hb032 hr2032 pl032
 refine hK.out _ _ (by exact Hcells.out _ Hb032.out) (fun hHeld=>?_)
 clear hK K
 try simp only[Act.put,lA,lB,lC]
 refine wpAnyH_ready (rs:=[0]) (by kernel_rfl) (by simp) ?_
 refine AllReadyH.cons rfl (fun K hK=>?_) AllReadyH.nil
 go_simp
 obtain⟨W0321,hW0321⟩ : ∃ z,z=W032.alloc (.cells #[] 123):=⟨_,rfl⟩
 have hb0321:Below w6.heap.size w6 W0321:=by rw[hW0321];exact Hb032.out.trans ((za1 _ _).mono Hb032.out.size)
 have hr10321:W0321.ownsRow w6.heap.size 123 8 (.slice (some ⟨W032.heap.size,0,none⟩) 0 0) 0 []:=by rw[hW0321];exact Hlit1.out W032 Hb032.out.size
 have hr20321:=za6 Hr2032.out (za1 W032 (.cells #[] 123))
 have pl0321:=za0 (za1 W032 (.cells #[] 123)) Hpl032.out
 rw[← hW0321]
 rw[← hW0321] at hr20321 pl0321
 clear hW0321
 obtain⟨Hb0321,Hr10321,Hr20321,Hpl0321⟩:=hzRecipeJoins4 hb0321 hr10321 hr20321 pl0321;clear hb0321 hr10321 hr20321 pl0321
 refine hK.out _ _ (by exact Hcells.out _ Hb0321.out) (fun hHeld=>?_)
 clear hK K
 try simp only[Act.put,lA,lB,lC]
 refine wpAnyH_ready (rs:=[3]) (by kernel_rfl) (by simp) ?_
 refine AllReadyH.cons rfl (fun K hK=>?_) AllReadyH.nil
 refine za4 zav (.tmp 80) (.tmp 82) rfl w6.heap.size (.slice (some ⟨W032.heap.size,0,none⟩) 0 0) 0 [] rfl Hr10321.out xa n1 c1 css.flatten rfl Hl1x.out (Hc1x.out _ Hb0321.out) H11x.out Hbn1x.out Hbm1x.out Hb0321.out.size ?_
 intro v03211 W03211 hr103211 hg03211 _
 have hb03211:Below w6.heap.size w6 W03211:=zai Hb0321.out Hr10321.out (Nat.le_refl _) hg03211 Hb0321.out.size
 have hr103211:W03211.ownsRow w6.heap.size 123 8 v03211 (0+n1) css.flatten:=hr103211
 have hr203211:=zae Hr10321.out Hr20321.out (by decide) hg03211
 have pl03211:=zaf Hpl0321.out (za7 hg03211) (za3 Hr10321.out Hpl0321.out (by decide))
 obtain⟨Hb03211,Hr103211,Hg03211,Hr203211,Hpl03211⟩:=hzRecipeJoins5 hb03211 hr103211 hg03211 hr203211 pl03211;clear hb03211 hr103211 hg03211 hr203211 pl03211
 refine hK.out _ _ (by exact Hcells.out _ Hb03211.out) (fun hHeld=>?_)
 clear hK K
 try simp only[Act.put,lA,lB,lC]
 refine wpAnyH_ready (rs:=[6]) (by kernel_rfl) (by simp) ?_
 refine AllReadyH.cons rfl (fun K hK=>?_) AllReadyH.nil
 refine za4 zav (.tmp 83) (.tmp 85) rfl w6.heap.size v03211 (0+n1) css.flatten rfl Hr103211.out ya m1 e1 dss.flatten rfl Hl1y.out (Hc1y.out _ Hb03211.out) H11y.out Hbn1y.out Hbm1y.out Hb03211.out.size ?_
 intro v032111 W032111 hr1032111 hg032111 _
 have hb032111:Below w6.heap.size w6 W032111:=zai Hb03211.out Hr103211.out (Nat.le_refl _) hg032111 Hb03211.out.size
 have hr2032111:=zae Hr103211.out Hr203211.out (by decide) hg032111
 have pl032111:=zaf Hpl03211.out (za7 hg032111) (za3 Hr103211.out Hpl03211.out (by decide))
 obtain⟨Hb032111,Hr1032111,Hg032111,Hr2032111,Hpl032111⟩:=hzRecipeJoins5 hb032111 hr1032111 hg032111 hr2032111 pl032111;clear hb032111 hr1032111 hg032111 hr2032111 pl032111
 refine hK.out _ _ (by exact Hcells.out _ Hb032111.out) (fun hHeld=>?_)
 clear hK K
 try simp only[Act.put,lA,lB,lC]
 refine wpAnyH_ready (rs:=[10]) (by kernel_rfl) (by simp) ?_
 refine AllReadyH.cons rfl (fun K hK=>?_) AllReadyH.nil
 refine za4 zak (.tmp 87) (.tmp 89) rfl w6.heap.size (.slice (some ⟨W03.heap.size,0,none⟩) 0 0) 0 [] rfl Hr2032111.out xb n2 c2 cst.flatten rfl Hl2x.out (Hc2x.out _ Hb032111.out) H12x.out Hbn2x.out Hbm2x.out Hb032111.out.size ?_
 intro v0321112 W0321112 hr20321112 hg0321112 _
 have hb0321112:Below w6.heap.size w6 W0321112:=zai Hb032111.out Hr2032111.out (Nat.le_refl _) hg0321112 Hb032111.out.size
 have hr20321112:W0321112.ownsRow w6.heap.size 125 3 v0321112 (0+n2) cst.flatten:=hr20321112
 have hr10321112:=zae Hr2032111.out Hr1032111.out (by decide) hg0321112
 have pl0321112:=zaf Hpl032111.out (za7 hg0321112) (za3 Hr2032111.out Hpl032111.out (by decide))
 obtain⟨Hb0321112,Hr20321112,Hg0321112,Hr10321112,Hpl0321112⟩:=hzRecipeJoins5 hb0321112 hr20321112 hg0321112 hr10321112 pl0321112;clear hb0321112 hr20321112 hg0321112 hr10321112 pl0321112
 refine hK.out _ _ (by exact Hcells.out _ Hb0321112.out) (fun hHeld=>?_)
 clear hK K
 try simp only[Act.put,lA,lB,lC]
 refine wpAnyH_ready (rs:=[13]) (by kernel_rfl) (by simp) ?_
 refine AllReadyH.cons rfl (fun K hK=>?_) AllReadyH.nil
 refine za4 zak (.tmp 90) (.tmp 92) rfl w6.heap.size v0321112 (0+n2) cst.flatten rfl Hr20321112.out yb m2 e2 dst.flatten rfl Hl2y.out (Hc2y.out _ Hb0321112.out) H12y.out Hbn2y.out Hbm2y.out Hb0321112.out.size ?_
 intro v03211122 W03211122 hr203211122 hg03211122 _
 have hb03211122:Below w6.heap.size w6 W03211122:=zai Hb0321112.out Hr20321112.out (Nat.le_refl _) hg03211122 Hb0321112.out.size
 have hr103211122:=zae Hr20321112.out Hr10321112.out (by decide) hg03211122
 have pl03211122:=zaf Hpl0321112.out (za7 hg03211122) (za3 Hr20321112.out Hpl0321112.out (by decide))
 obtain⟨Hb03211122,Hr203211122,Hg03211122,Hr103211122,Hpl03211122⟩:=hzRecipeJoins5 hb03211122 hr203211122 hg03211122 hr103211122 pl03211122;clear hb03211122 hr203211122 hg03211122 hr103211122 pl03211122
 refine hK.out _ _ (by exact Hcells.out _ Hb03211122.out) (fun hHeld=>?_)
 clear hK K
 try simp only[Act.put,lA,lB,lC]
 have hr1:=Hr103211122.out
 have hr2:=Hr203211122.out
 rw[← HN1.out] at hr1
 rw[← HN2.out] at hr2
 obtain⟨a9,c9,rfl⟩:=za9 hr1
 obtain⟨a8,c8,rfl⟩:=za9 hr2
 clear hr1 hr2
 have hSd:=Hcells.out W03211122 Hb03211122.out
 refine wpAnyH_take (i:=14) (v:=?_) rfl (by kernel_rfl) (by kernel_rfl) (by kernel_rfl) (fun _ _ _ h=>h) (Or.inl ⟨by kernel_rfl,?_⟩) (by assumption) ?_
 rotate_left
 ·(intro w hSw;(try dsimp only at hSw);(try obtain⟨o0,o1,o2,o3,o4,o5⟩:=hSw);go_simp;try with_reducible rfl)
 try simp only[Act.put,lA,lB,lC]
 have hr1:=Hr103211122.out
 have hr2:=Hr203211122.out
 rw[← HN1.out] at hr1
 rw[← HN2.out] at hr2
 refine wpAnyH_ready (rs:=[16]) (by kernel_rfl) (by simp) ?_
 refine AllReadyH.cons rfl (fun K hK=>?_) AllReadyH.nil
 have fz0:=za5 Hpl03211122.out 0
 have fz1:=za5 Hpl03211122.out 1
 have fc0:=za2 Hpl03211122.out 0
 have fc1:=za2 Hpl03211122.out 1
 simp only[List.getElem?_toArray,List.getElem?_cons_zero,List.getElem?_cons_succ] at fc0 fc1
 go_simp
 obtain⟨wl,hwl⟩ : ∃ W,W=(W03211122.setCell ⟨gl,0,none⟩ (.slice a9 N1 c9)).setCell ⟨gl,1,none⟩ (.slice a8 N2 c8):=⟨_,rfl⟩
 have hFl:Frm (fun k=>k=gl) W03211122 wl:=by rw[hwl];exact zad (zad (Frm.refl _ _) 0 _) 1 _
 have pl:zbi gl (.slice a9 N1 c9) (.slice a8 N2 c8) wl:=by rw[hwl];exact heap_setCell_same _ gl 1 _ _ _ (heap_setCell_same _ gl 0 _ _ _ Hpl03211122.out)
 have hbl:Below w6.heap.size w6 wl:=Hb03211122.out.trans (hFl.below Hb03211122.out.size (fun k hk=>by rw[hk];exact Hge.out))
 have hr1':=hFl.owns hr1 (fun k hk e=>za3 hr1 Hpl03211122.out (by decide) (by rw[hk,e]))
 have hr2':=hFl.owns hr2 (fun k hk e=>za3 hr2 Hpl03211122.out (by decide) (by rw[hk,e]))
 have hrd:=HSm.out wl _ _ _ _ hbl hr1' hr2'
 rw[← hwl]
 clear hwl fz0 fz1 fc0 fc1
 obtain⟨Hr1,Hr2,HFl,Hr1',Hr2',Hpl,Hbl,Hrd⟩:=hzRecipeJoins8 hr1 hr2 hFl hr1' hr2' pl hbl hrd;clear hr1 hr2 hFl hr1' hr2' pl hbl hrd
 refine hK.out _ _ (by exact Hcells.out _ Hbl.out) (fun hHeld=>?_)
 clear hK K
 try simp only[Act.put,lA,lB,lC]
 refine wpAnyH_done (by kernel_rfl) ?_ _
 go_simp
 have hbwl:=Hbw6.out.trans (Hbl.out.mono Hbw6.out.size)
 have Hbwl:=zal hbwl;clear hbwl
 go_wp2_with fail
 refine (HF.out _ Hbwl.out).mono ?_
 rintro e w7 ⟨rfl,hb7⟩
 have hb67:=Hbl.out.trans (hb7.mono Hbl.out.size)
 have hbw7:=Hbwl.out.trans (hb7.mono Hbwl.out.size)
 have hSm7:=HSame.out w7 _ _ _ _ _ _ hb67 (Hrd.out.below hb7)
 obtain⟨-,-,-,-,i0,i1⟩:=Hcells.out w7 hb67
 obtain⟨j0,j1,-⟩:=zar (za0 hb7 Hpl.out)
 obtain⟨Hb7,Hb67,Hbw7,HSm7⟩:=hzRecipeJoins4 hb7 hb67 hbw7 hSm7;clear hb7 hb67 hbw7 hSm7
 go_wp2_with fail
 refine HSm7.out.mono ?_
 rintro e w8 ⟨rfl,hb8⟩
 have hbw8:=Hbw7.out.trans (hb8.mono Hbw7.out.size)
 clear i0 i1 j0 j1
 obtain⟨Hb8,Hbw8⟩:=hzRecipeJoins2 hb8 hbw8;clear hb8 hbw8
 go_wp2_with fail
 go_ret
 exact⟨rfl,Hbw8.out⟩
end
end Go.Proofs.YteailgjiifdgcaaGreatDoor
