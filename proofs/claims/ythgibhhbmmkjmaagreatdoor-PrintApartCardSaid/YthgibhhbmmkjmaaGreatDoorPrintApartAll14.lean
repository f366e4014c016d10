/- Walks and plain facts. Texts merged: Sm6, Sm7, Sm8, PnO, RcO. Condition: none beyond what each says. -/
import Derived.Test.YthgibhhbmmkjmaaGreatDoorPrintApartAll13
set_option linter.unusedVariables false
set_option linter.unusedSimpArgs false
set_option maxRecDepth 10000
set_option maxHeartbeats 4000000
namespace Go.Proofs.YthgibhhbmmkjmaaGreatDoor
section
open Go.RowKit Go.Shelf Go.Lib VerN VarM
attribute [local go_sem ↓] Go.wp_at_zero Go.wp_at_succ
theorem zhu {l m l2 m2:List DepM} (h:l.map zdi≠m.map zdi):(zc3 l m && zc3 l2 m2)=false:=by unfold zc3;rw[decide_eq_false h];rfl
theorem zht {l m l2 m2:List DepM} (h:l2.map zdi≠m2.map zdi):(zc3 l m && zc3 l2 m2)=false:=by unfold zc3;rw[decide_eq_false h,Bool.and_false]
theorem zmw {w:World} {p q:PkgM} {nm nm2:ByteArray} {li li2:Int} {b2:Option Addr} {n2 c2:Nat} {d2:Option Addr} {m2 e2:Nat} {b3:Option Addr} {n3 c3:Nat} {d3:Option Addr} {m3 e3:Nat} {b4:Option Addr} {n4 c4:Nat} {d4:Option Addr} {m4 e4:Nat} {b5:Option Addr} {n5 c5:Nat} {d5:Option Addr} {m5 e5:Nat} {b6:Option Addr} {n6 c6:Nat} {d6:Option Addr} {m6 e6:Nat} {b7:Option Addr} {n7 c7:Nat} {d7:Option Addr} {m7 e7:Nat}
  (hp:RPkR w (.slice b2 n2 c2) (.slice b3 n3 c3) (.slice b4 n4 c4) (.slice b5 n5 c5) (.slice b6 n6 c6) (.slice b7 n7 c7) p) (hq:RPkR w (.slice d2 m2 e2) (.slice d3 m3 e3) (.slice d4 m4 e4) (.slice d5 m5 e5) (.slice d6 m6 e6) (.slice d7 m7 e7) q) :
  Calls Tryz.prog 54 #[.agg #[.string nm,.int .i64 li,.slice b2 n2 c2,.slice b3 n3 c3,.slice b4 n4 c4,.slice b5 n5 c5,.slice b6 n6 c6,.slice b7 n7 c7],.agg #[.string nm2,.int .i64 li2,.slice d2 m2 e2,.slice d3 m3 e3,.slice d4 m4 e4,.slice d5 m5 e5,.slice d6 m6 e6,.slice d7 m7 e7],.bool false] w fun e w'=>e = .returned (.bool (zc3 p.dep q.dep && zc3 p.conf q.conf))∧Below w.heap.size w w':=by
 obtain⟨W1,hW1⟩ : ∃ W,W=(w.alloc (.cells #[.string nm,.int .i64 li,.slice b2 n2 c2,.slice b3 n3 c3,.slice b4 n4 c4,.slice b5 n5 c5,.slice b6 n6 c6,.slice b7 n7 c7] 45)).alloc (.cells #[.string nm2,.int .i64 li2,.slice d2 m2 e2,.slice d3 m3 e3,.slice d4 m4 e4,.slice d5 m5 e5,.slice d6 m6 e6,.slice d7 m7 e7] 45):=⟨_,rfl⟩
 obtain⟨g,hg⟩ : ∃ g,g=w.heap.size:=⟨_,rfl⟩
 have hbZ:Below w.heap.size w W1:=by rw[hW1];exact (za2 _ _).alloc (by simp) _
 have p0:W1.heap[g]? = some (.cells #[.string nm,.int .i64 li,.slice b2 n2 c2,.slice b3 n3 c3,.slice b4 n4 c4,.slice b5 n5 c5,.slice b6 n6 c6,.slice b7 n7 c7] 45 (0,0)):=by rw[hW1,hg];exact za1 (za2 _ _) (za9 rfl)
 have p1:W1.heap[g+1]? = some (.cells #[.string nm2,.int .i64 li2,.slice d2 m2 e2,.slice d3 m3 e3,.slice d4 m4 e4,.slice d5 m5 e5,.slice d6 m6 e6,.slice d7 m7 e7] 45 (0,0)):=by rw[hW1,hg];exact za9 (by simp)
 obtain⟨l5,z5,g5⟩:=zgs (hp.below hbZ).2.2.2.1
 obtain⟨r5,y5,f5⟩:=zgs (hq.below hbZ).2.2.2.1
 obtain⟨l6,z6,g6⟩:=zgs (hp.below hbZ).2.2.2.2.1
 obtain⟨r6,y6,f6⟩:=zgs (hq.below hbZ).2.2.2.2.1
 obtain⟨L5,hL5⟩ : ∃ z,z=p.dep:=⟨_,rfl⟩
 obtain⟨M5,hM5⟩ : ∃ z,z=q.dep:=⟨_,rfl⟩
 obtain⟨L6,hL6⟩ : ∃ z,z=p.conf:=⟨_,rfl⟩
 obtain⟨M6,hM6⟩ : ∃ z,z=q.conf:=⟨_,rfl⟩
 rw[← hL5] at l5 g5
 rw[← hM5] at r5 f5
 rw[← hL6] at l6 g6
 rw[← hM6] at r6 f6
 rw[← hL5,← hM5,← hL6,← hM6]
 obtain⟨r,hrr⟩ : ∃ r,r=(zc3 L5 M5 && zc3 L6 M6):=⟨_,rfl⟩
 rw[← hrr]
 have x5:=za0 p0 5
 have x6:=za0 p0 6
 have y5':=za0 p1 5
 have y6':=za0 p1 6
 simp only[List.getElem?_toArray,List.getElem?_cons_zero,List.getElem?_cons_succ] at x5 x6 y5' y6'
 have hl5:=l5
 have hr5:=r5
 have hl6:=l6
 have hr6:=r6
 clear l5 r5 l6 r6 hL5 hM5 hL6 hM6
 have hg5:=g5
 have hf5:=f5
 have hg6:=g6
 have hf6:=f6
 clear g5 f5 g6 f6
 have hp0:=p0
 have hp1:=p1
 clear p0 p1
 have HbL:=Lib.hid (Below.refl W1.heap.size W1)
 by_cases h5:n5=m5
 case neg =>
  have k1:((n5:Int) != (m5:Int))=true:=by simp;omega
  have hff:r=false:=by rw[hrr];exact zhu (zn5 (by rw[← hl5,← hr5];exact h5))
  have Hff:=Lib.hid hff
  clear hff hp hq hl5 hr5 hl6 hr6 hg5 hf5 hg6 hf6 hp0 hp1 hrr h5
  have HbZ:=hd hbZ;clear hbZ
  go_enter Tryz.func54,Tryz.ntmps54
  go_upto_region 1 with (fail)
  rw[← hW1,← hg]
  clear hW1 hg
  go_wp2_with fail
  go_ret
  exact⟨by rw[Hff.out];rfl,HbZ.out⟩
 have k1:((n5:Int) != (m5:Int))=false:=by simp;omega
 by_cases h6:n6=m6
 case neg =>
  have k2:((n6:Int) != (m6:Int))=true:=by simp;omega
  have hff:r=false:=by rw[hrr];exact zht (zn5 (by rw[← hl6,← hr6];exact h6))
  have Hff:=Lib.hid hff
  clear hff hp hq hl5 hr5 hl6 hr6 hg5 hf5 hg6 hf6 hp0 hp1 hrr h5 h6
  have HbZ:=hd hbZ;clear hbZ
  go_enter Tryz.func54,Tryz.ntmps54
  go_upto_region 1 with (fail)
  rw[← hW1,← hg]
  clear hW1 hg
  go_wp2_with fail
  go_ret
  exact⟨by rw[Hff.out];rfl,HbZ.out⟩
 have k2:((n6:Int) != (m6:Int))=false:=by simp;omega
 have Hp:=Lib.hid hp
 have Hq:=Lib.hid hq
 have Hl5:=Lib.hid hl5
 have Hr5:=Lib.hid hr5
 have Hl6:=Lib.hid hl6
 have Hr6:=Lib.hid hr6
 have Hg5:=Lib.hid hg5
 have Hf5:=Lib.hid hf5
 have Hg6:=Lib.hid hg6
 have Hf6:=Lib.hid hf6
 have Hp0:=Lib.hid hp0
 have Hp1:=Lib.hid hp1
 have Hrr:=Lib.hid hrr
 have Hh5:=Lib.hid h5
 have Hh6:=Lib.hid h6
 clear hp hq hl5 hr5 hl6 hr6 hg5 hf5 hg6 hf6 hp0 hp1 hrr h5 h6
 have HbZ:=Lib.hid hbZ
 clear hbZ
 go_enter Tryz.func54,Tryz.ntmps54
 go_upto_region 1 with (fail)
 rw[← hW1,← hg]
 clear hW1 hg
 go_wp2_with fail
 clear k1 k2 x5 x6 y5' y6'
 go_loopw [32] (fun i wr=>∃ k:Nat,k≤n5∧i = .int .i64 k∧(∀ j (h1:j < L5.length) (h2:j < M5.length),j < k→zdi L5[j]=zdi M5[j])∧Below W1.heap.size W1 wr) (fun i _=>n5 - (RowKit.intOf i).toNat)
 case atStart=>exact⟨0,Nat.zero_le _,rfl,fun _ _ _ h=>by omega,HbL.out⟩
 case round =>
  obtain⟨k,hk,rfl,hno,hbr⟩:=hrel
  have px:=za0 (za1 hbr Hp0.out) 5
  have qx:=za0 (za1 hbr Hp1.out) 5
  simp only[List.getElem?_toArray,List.getElem?_cons_zero,List.getElem?_cons_succ] at px qx
  by_cases hlt:k < n5
  ·have hkl:k < L5.length:=by have:=Hl5.out;omega
   have hkm:k < M5.length:=by have:=Hr5.out;have:=Hh5.out;omega
   obtain⟨x,hx⟩ : ∃ x,x=L5[k]:=⟨_,rfl⟩
   obtain⟨y,hy⟩ : ∃ x,x=M5[k]:=⟨_,rfl⟩
   obtain⟨b,off,xa1,xc1,xa2,xc2,xa3,xc3,xa4,xc4,rfl,x0,x1,x2,x3,x4,x5,x6,⟨rx1,rx2⟩,rx3,rx4⟩:=Hg5.out k x (by rw[hx];exact List.getElem?_eq_getElem hkl)
   obtain⟨b',off',ya1,yc1,ya2,yc2,ya3,yc3,ya4,yc4,rfl,y0,y1,y2,y3,y4,y5,y6,⟨ry1,ry2⟩,ry3,ry4⟩:=Hf5.out k y (by rw[hy];exact List.getElem?_eq_getElem hkm)
   have hnx:x.1=y.1→x.2.1=y.2.1→∀ j (h1:j < L5.length) (h2:j < M5.length),j < k+1→zdi L5[j]=zdi M5[j]:=fun h h' j h1 h2 hjk=>by
    by_cases e:j=k
    ·subst e
     rw[← hx,← hy]
     unfold zdi
     rw[h,h']
    exact hno j h1 h2 (by omega)
   have hbd:¬ (x.1=y.1∧x.2.1=y.2.1)→L5.map zdi≠M5.map zdi:=fun h=>zm5 hkl hkm (by
    rw[← hx,← hy]
    unfold zdi
    intro e
    simp only[Prod.mk.injEq,and_true] at e
    exact h e)
   obtain⟨xn1,hxn1⟩ : ∃ z,z=x.1.1:=⟨_,rfl⟩
   obtain⟨xz1,hxz1⟩ : ∃ z,z=x.1.2.1.length:=⟨_,rfl⟩
   obtain⟨xz2,hxz2⟩ : ∃ z,z=x.1.2.2.length:=⟨_,rfl⟩
   obtain⟨xn2,hxn2⟩ : ∃ z,z=x.2.1.1:=⟨_,rfl⟩
   obtain⟨xz3,hxz3⟩ : ∃ z,z=x.2.1.2.1.length:=⟨_,rfl⟩
   obtain⟨xz4,hxz4⟩ : ∃ z,z=x.2.1.2.2.length:=⟨_,rfl⟩
   obtain⟨xln,hxln⟩ : ∃ z,z=x.2.2:=⟨_,rfl⟩
   rw[← hxn1] at x0
   rw[← hxz1] at x1 rx1
   rw[← hxz2] at x2 rx2
   rw[← hxn2] at x3
   rw[← hxz3] at x4 rx3
   rw[← hxz4] at x5 rx4
   rw[← hxln] at x6
   obtain⟨yn1,hyn1⟩ : ∃ z,z=y.1.1:=⟨_,rfl⟩
   obtain⟨yz1,hyz1⟩ : ∃ z,z=y.1.2.1.length:=⟨_,rfl⟩
   obtain⟨yz2,hyz2⟩ : ∃ z,z=y.1.2.2.length:=⟨_,rfl⟩
   obtain⟨yn2,hyn2⟩ : ∃ z,z=y.2.1.1:=⟨_,rfl⟩
   obtain⟨yz3,hyz3⟩ : ∃ z,z=y.2.1.2.1.length:=⟨_,rfl⟩
   obtain⟨yz4,hyz4⟩ : ∃ z,z=y.2.1.2.2.length:=⟨_,rfl⟩
   obtain⟨yln,hyln⟩ : ∃ z,z=y.2.2:=⟨_,rfl⟩
   rw[← hyn1] at y0
   rw[← hyz1] at y1 ry1
   rw[← hyz2] at y2 ry2
   rw[← hyn2] at y3
   rw[← hyz3] at y4 ry3
   rw[← hyz4] at y5 ry4
   rw[← hyln] at y6
   have x0:=cell_later hbr x0
   have x1:=cell_later hbr x1
   have x2:=cell_later hbr x2
   have x3:=cell_later hbr x3
   have x4:=cell_later hbr x4
   have x5:=cell_later hbr x5
   have x6:=cell_later hbr x6
   obtain⟨wa,hwa⟩ : ∃ W,W=wr.alloc (.cells #[.string xn1,.slice xa1 xz1 xc1,.slice xa2 xz2 xc2,.string xn2,.slice xa3 xz3 xc3,.slice xa4 xz4 xc4,.int .i64 xln] 96):=⟨_,rfl⟩
   obtain⟨ba,hba⟩ : ∃ z,z=wr.heap.size:=⟨_,rfl⟩
   have pa:wa.heap[ba]? = some (.cells #[.string xn1,.slice xa1 xz1 xc1,.slice xa2 xz2 xc2,.string xn2,.slice xa3 xz3 xc3,.slice xa4 xz4 xc4,.int .i64 xln] 96 (0,0)):=by rw[hwa,hba];exact heap_alloc_new _ _
   have hb1:Below wr.heap.size wr wa:=by rw[hwa];exact za2 _ _
   have hbr1:=hbr.trans (hb1.mono hbr.size)
   have qx1:=za0 (za1 hbr1 Hp1.out) 5
   simp only[List.getElem?_toArray,List.getElem?_cons_zero,List.getElem?_cons_succ] at qx1
   have y0:=cell_later hbr1 y0
   have y1:=cell_later hbr1 y1
   have y2:=cell_later hbr1 y2
   have y3:=cell_later hbr1 y3
   have y4:=cell_later hbr1 y4
   have y5:=cell_later hbr1 y5
   have y6:=cell_later hbr1 y6
   obtain⟨wb,hwb⟩ : ∃ W,W=wa.alloc (.cells #[.string yn1,.slice ya1 yz1 yc1,.slice ya2 yz2 yc2,.string yn2,.slice ya3 yz3 yc3,.slice ya4 yz4 yc4,.int .i64 yln] 96):=⟨_,rfl⟩
   obtain⟨bb,hbb⟩ : ∃ z,z=wa.heap.size:=⟨_,rfl⟩
   have pb:wb.heap[bb]? = some (.cells #[.string yn1,.slice ya1 yz1 yc1,.slice ya2 yz2 yc2,.string yn2,.slice ya3 yz3 yc3,.slice ya4 yz4 yc4,.int .i64 yln] 96 (0,0)):=by rw[hwb,hbb];exact heap_alloc_new _ _
   have hb2:Below wa.heap.size wa wb:=by rw[hwb];exact za2 _ _
   have hbr2:=hbr1.trans (hb2.mono hbr1.size)
   have pa2:=za1 hb2 pa
   have hC1:=zf7 (n:=xn1) (m:=yn1) (za3 zan _ _ _ _ rx1 hbr2) (za3 zao _ _ _ _ rx2 hbr2) (za3 zan _ _ _ _ ry1 hbr2) (za3 zao _ _ _ _ ry2 hbr2)
   have hC2:=fun (W:World) (k:Below W1.heap.size W1 W)=>zf7 (n:=xn2) (m:=yn2) (za3 zan _ _ _ _ rx3 k) (za3 zao _ _ _ _ rx4 k) (za3 zan _ _ _ _ ry3 k) (za3 zao _ _ _ _ ry4 k)
   rw[hxn1,hyn1] at hC1
   rw[hxn2,hyn2] at hC2
   obtain⟨s1,hs1⟩ : ∃ s,s=decide ((x.1.1,x.1.2.1,x.1.2.2)=(y.1.1,y.1.2.1,y.1.2.2)):=⟨_,rfl⟩
   obtain⟨s2,hs2⟩ : ∃ s,s=decide ((x.2.1.1,x.2.1.2.1,x.2.1.2.2)=(y.2.1.1,y.2.1.2.1,y.2.1.2.2)):=⟨_,rfl⟩
   rw[← hs1,← hxn1,← hyn1] at hC1
   rw[← hs2,← hxn2,← hyn2] at hC2
   have k5:(0:Int)≤(k:Int):=by omega
   have k6:(k:Int) < (n5:Int):=by omega
   have k7:(k:Int) < (m5:Int):=by have:=Hh5.out;omega
   have w0:=za0 pa2 0
   have w1:=za0 pa2 1
   have w2:=za0 pa2 2
   have v0:=za0 pb 0
   have v1:=za0 pb 1
   have v2:=za0 pb 2
   simp only[List.getElem?_toArray,List.getElem?_cons_zero,List.getElem?_cons_succ] at w0 w1 w2 v0 v1 v2
   obtain⟨Hno,Hnx,Hbd,Hx,Hy,Hs1,Hs2,HC1,HC2,Hpa,Hpb,Hpa2,Hb1,Hb2,Hbr,Hbr1⟩:=hd16 hno hnx hbd hx hy hs1 hs2 hC1 hC2 pa pb pa2 hb1 hb2 hbr hbr1;obtain⟨Hbr2,Hrx1,Hrx2,Hrx3,Hrx4,Hry1,Hry2,Hry3,Hry4,Hxn1,Hxz1,Hxz2,Hxn2,Hxz3,Hxz4,Hxln⟩:=hd16 hbr2 rx1 rx2 rx3 rx4 ry1 ry2 ry3 ry4 hxn1 hxz1 hxz2 hxn2 hxz3 hxz4 hxln;obtain⟨Hyn1,Hyz1,Hyz2,Hyn2,Hyz3,Hyz4,Hyln⟩:=hd7 hyn1 hyz1 hyz2 hyn2 hyz3 hyz4 hyln;clear hno hnx hbd hx hy hs1 hs2 hC1 hC2 pa pb pa2 hb1 hb2 hbr hbr1 hbr2 rx1 rx2 rx3 rx4 ry1 ry2 ry3 ry4 hxn1 hxz1 hxz2 hxn2 hxz3 hxz4 hxln hyn1 hyz1 hyz2 hyn2 hyz3 hyz4 hyln
   go_upto_region 7 with (fail)
   rw[← hwa,← hba]
   clear hwa hba x0 x1 x2 x3 x4 x5 x6 px qx
   go_upto_region 8 with (fail)
   rw[← hwb,← hbb]
   clear hwb hbb y0 y1 y2 y3 y4 y5 y6 qx1
   go_wp2_with fail
   refine HC1.out.mono ?_
   rintro e' w9 ⟨rfl,hb9⟩
   have hbw9:=Hbr2.out.trans (hb9.mono Hbr2.out.size)
   clear w0 w1 w2 v0 v1 v2
   cases s1 with
   | false =>
    have hff:r=false:=by rw[Hrr.out];exact zhu (Hbd.out fun h=>by have:=Hs1.out;rw[h.1] at this;simp at this)
    obtain⟨Hff,Hb9,Hbw9⟩:=hd3 hff hb9 hbw9;clear hff hb9 hbw9
    go_wp2_with fail
    go_ret
    exact⟨by rw[Hff.out];rfl,HbZ.out.trans (Hbw9.out.mono HbZ.out.size)⟩
   | true =>
    have u3:=za0 (za1 hb9 Hpa2.out) 3
    have u4:=za0 (za1 hb9 Hpa2.out) 4
    have u5:=za0 (za1 hb9 Hpa2.out) 5
    have t3:=za0 (za1 hb9 Hpb.out) 3
    have t4:=za0 (za1 hb9 Hpb.out) 4
    have t5:=za0 (za1 hb9 Hpb.out) 5
    simp only[List.getElem?_toArray,List.getElem?_cons_zero,List.getElem?_cons_succ] at u3 u4 u5 t3 t4 t5
    have hC3:=HC2.out _ hbw9
    obtain⟨Hb9,Hbw9,HC3⟩:=hd3 hb9 hbw9 hC3;clear hb9 hbw9 hC3
    go_wp2_with fail
    refine HC3.out.mono ?_
    rintro e' w10 ⟨rfl,hb10⟩
    have hbw10:=Hbw9.out.trans (hb10.mono Hbw9.out.size)
    clear u3 u4 u5 t3 t4 t5
    cases s2 with
    | false =>
     have hff:r=false:=by rw[Hrr.out];exact zhu (Hbd.out fun h=>by have:=Hs2.out;rw[h.2] at this;simp at this)
     obtain⟨Hff,Hb10,Hbw10⟩:=hd3 hff hb10 hbw10;clear hff hb10 hbw10
     go_wp2_with fail
     go_ret
     exact⟨by rw[Hff.out];rfl,HbZ.out.trans (Hbw10.out.mono HbZ.out.size)⟩
    | true =>
     have hq2:=Hnx.out (of_decide_eq_true Hs1.out.symm) (of_decide_eq_true Hs2.out.symm)
     obtain⟨Hq2,Hb10,Hbw10⟩:=hd3 hq2 hb10 hbw10;clear hq2 hb10 hbw10
     go_wp2_with fail
     go_roundw
     case rel=>exact⟨k+1,by omega,by go_num,Hq2.out,Hbw10.out⟩
     case measure=>simp[RowKit.intOf];omega
  obtain rfl:n5=k:=by omega
  have hs5:zc3 L5 M5=true:=decide_eq_true (zis (by rw[← Hl5.out,← Hr5.out,Hh5.out]) (fun j h1 h2=>hno j h1 h2 (by have:=Hl5.out;omega)))
  have qx6:=za0 (za1 hbr Hp0.out) 6
  simp only[List.getElem?_toArray,List.getElem?_cons_zero,List.getElem?_cons_succ] at qx6
  clear qx
  replace HbL:=Lib.hid hbr
  obtain⟨Hs5,Hno,Hbr⟩:=hd3 hs5 hno hbr;clear hs5 hno hbr
  go_wp2_with fail
  clear px qx6
  go_loopw [73] (fun i wr=>∃ k:Nat,k≤n6∧i = .int .i64 k∧(∀ j (h1:j < L6.length) (h2:j < M6.length),j < k→zdi L6[j]=zdi M6[j])∧Below W1.heap.size W1 wr) (fun i _=>n6 - (RowKit.intOf i).toNat)
  case atStart=>exact⟨0,Nat.zero_le _,rfl,fun _ _ _ h=>by omega,HbL.out⟩
  case round =>
   obtain⟨k,hk,rfl,hno,hbr⟩:=hrel
   have px:=za0 (za1 hbr Hp0.out) 6
   have qx:=za0 (za1 hbr Hp1.out) 6
   simp only[List.getElem?_toArray,List.getElem?_cons_zero,List.getElem?_cons_succ] at px qx
   by_cases hlt:k < n6
   ·have hkl:k < L6.length:=by have:=Hl6.out;omega
    have hkm:k < M6.length:=by have:=Hr6.out;have:=Hh6.out;omega
    obtain⟨x,hx⟩ : ∃ x,x=L6[k]:=⟨_,rfl⟩
    obtain⟨y,hy⟩ : ∃ x,x=M6[k]:=⟨_,rfl⟩
    obtain⟨b,off,xa1,xc1,xa2,xc2,xa3,xc3,xa4,xc4,rfl,x0,x1,x2,x3,x4,x5,x6,⟨rx1,rx2⟩,rx3,rx4⟩:=Hg6.out k x (by rw[hx];exact List.getElem?_eq_getElem hkl)
    obtain⟨b',off',ya1,yc1,ya2,yc2,ya3,yc3,ya4,yc4,rfl,y0,y1,y2,y3,y4,y5,y6,⟨ry1,ry2⟩,ry3,ry4⟩:=Hf6.out k y (by rw[hy];exact List.getElem?_eq_getElem hkm)
    have hnx:x.1=y.1→x.2.1=y.2.1→∀ j (h1:j < L6.length) (h2:j < M6.length),j < k+1→zdi L6[j]=zdi M6[j]:=fun h h' j h1 h2 hjk=>by
     by_cases e:j=k
     ·subst e
      rw[← hx,← hy]
      unfold zdi
      rw[h,h']
     exact hno j h1 h2 (by omega)
    have hbd:¬ (x.1=y.1∧x.2.1=y.2.1)→L6.map zdi≠M6.map zdi:=fun h=>zm5 hkl hkm (by
     rw[← hx,← hy]
     unfold zdi
     intro e
     simp only[Prod.mk.injEq,and_true] at e
     exact h e)
    obtain⟨xn1,hxn1⟩ : ∃ z,z=x.1.1:=⟨_,rfl⟩
    obtain⟨xz1,hxz1⟩ : ∃ z,z=x.1.2.1.length:=⟨_,rfl⟩
    obtain⟨xz2,hxz2⟩ : ∃ z,z=x.1.2.2.length:=⟨_,rfl⟩
    obtain⟨xn2,hxn2⟩ : ∃ z,z=x.2.1.1:=⟨_,rfl⟩
    obtain⟨xz3,hxz3⟩ : ∃ z,z=x.2.1.2.1.length:=⟨_,rfl⟩
    obtain⟨xz4,hxz4⟩ : ∃ z,z=x.2.1.2.2.length:=⟨_,rfl⟩
    obtain⟨xln,hxln⟩ : ∃ z,z=x.2.2:=⟨_,rfl⟩
    rw[← hxn1] at x0
    rw[← hxz1] at x1 rx1
    rw[← hxz2] at x2 rx2
    rw[← hxn2] at x3
    rw[← hxz3] at x4 rx3
    rw[← hxz4] at x5 rx4
    rw[← hxln] at x6
    obtain⟨yn1,hyn1⟩ : ∃ z,z=y.1.1:=⟨_,rfl⟩
    obtain⟨yz1,hyz1⟩ : ∃ z,z=y.1.2.1.length:=⟨_,rfl⟩
    obtain⟨yz2,hyz2⟩ : ∃ z,z=y.1.2.2.length:=⟨_,rfl⟩
    obtain⟨yn2,hyn2⟩ : ∃ z,z=y.2.1.1:=⟨_,rfl⟩
    obtain⟨yz3,hyz3⟩ : ∃ z,z=y.2.1.2.1.length:=⟨_,rfl⟩
    obtain⟨yz4,hyz4⟩ : ∃ z,z=y.2.1.2.2.length:=⟨_,rfl⟩
    obtain⟨yln,hyln⟩ : ∃ z,z=y.2.2:=⟨_,rfl⟩
    rw[← hyn1] at y0
    rw[← hyz1] at y1 ry1
    rw[← hyz2] at y2 ry2
    rw[← hyn2] at y3
    rw[← hyz3] at y4 ry3
    rw[← hyz4] at y5 ry4
    rw[← hyln] at y6
    have x0:=cell_later hbr x0
    have x1:=cell_later hbr x1
    have x2:=cell_later hbr x2
    have x3:=cell_later hbr x3
    have x4:=cell_later hbr x4
    have x5:=cell_later hbr x5
    have x6:=cell_later hbr x6
    obtain⟨wa,hwa⟩ : ∃ W,W=wr.alloc (.cells #[.string xn1,.slice xa1 xz1 xc1,.slice xa2 xz2 xc2,.string xn2,.slice xa3 xz3 xc3,.slice xa4 xz4 xc4,.int .i64 xln] 98):=⟨_,rfl⟩
    obtain⟨ba,hba⟩ : ∃ z,z=wr.heap.size:=⟨_,rfl⟩
    have pa:wa.heap[ba]? = some (.cells #[.string xn1,.slice xa1 xz1 xc1,.slice xa2 xz2 xc2,.string xn2,.slice xa3 xz3 xc3,.slice xa4 xz4 xc4,.int .i64 xln] 98 (0,0)):=by rw[hwa,hba];exact heap_alloc_new _ _
    have hb1:Below wr.heap.size wr wa:=by rw[hwa];exact za2 _ _
    have hbr1:=hbr.trans (hb1.mono hbr.size)
    have qx1:=za0 (za1 hbr1 Hp1.out) 6
    simp only[List.getElem?_toArray,List.getElem?_cons_zero,List.getElem?_cons_succ] at qx1
    have y0:=cell_later hbr1 y0
    have y1:=cell_later hbr1 y1
    have y2:=cell_later hbr1 y2
    have y3:=cell_later hbr1 y3
    have y4:=cell_later hbr1 y4
    have y5:=cell_later hbr1 y5
    have y6:=cell_later hbr1 y6
    obtain⟨wb,hwb⟩ : ∃ W,W=wa.alloc (.cells #[.string yn1,.slice ya1 yz1 yc1,.slice ya2 yz2 yc2,.string yn2,.slice ya3 yz3 yc3,.slice ya4 yz4 yc4,.int .i64 yln] 98):=⟨_,rfl⟩
    obtain⟨bb,hbb⟩ : ∃ z,z=wa.heap.size:=⟨_,rfl⟩
    have pb:wb.heap[bb]? = some (.cells #[.string yn1,.slice ya1 yz1 yc1,.slice ya2 yz2 yc2,.string yn2,.slice ya3 yz3 yc3,.slice ya4 yz4 yc4,.int .i64 yln] 98 (0,0)):=by rw[hwb,hbb];exact heap_alloc_new _ _
    have hb2:Below wa.heap.size wa wb:=by rw[hwb];exact za2 _ _
    have hbr2:=hbr1.trans (hb2.mono hbr1.size)
    have pa2:=za1 hb2 pa
    have hC1:=zf7 (n:=xn1) (m:=yn1) (za3 zan _ _ _ _ rx1 hbr2) (za3 zao _ _ _ _ rx2 hbr2) (za3 zan _ _ _ _ ry1 hbr2) (za3 zao _ _ _ _ ry2 hbr2)
    have hC2:=fun (W:World) (k:Below W1.heap.size W1 W)=>zf7 (n:=xn2) (m:=yn2) (za3 zan _ _ _ _ rx3 k) (za3 zao _ _ _ _ rx4 k) (za3 zan _ _ _ _ ry3 k) (za3 zao _ _ _ _ ry4 k)
    rw[hxn1,hyn1] at hC1
    rw[hxn2,hyn2] at hC2
    obtain⟨s1,hs1⟩ : ∃ s,s=decide ((x.1.1,x.1.2.1,x.1.2.2)=(y.1.1,y.1.2.1,y.1.2.2)):=⟨_,rfl⟩
    obtain⟨s2,hs2⟩ : ∃ s,s=decide ((x.2.1.1,x.2.1.2.1,x.2.1.2.2)=(y.2.1.1,y.2.1.2.1,y.2.1.2.2)):=⟨_,rfl⟩
    rw[← hs1,← hxn1,← hyn1] at hC1
    rw[← hs2,← hxn2,← hyn2] at hC2
    have k5:(0:Int)≤(k:Int):=by omega
    have k6:(k:Int) < (n6:Int):=by omega
    have k7:(k:Int) < (m6:Int):=by have:=Hh6.out;omega
    have w0:=za0 pa2 0
    have w1:=za0 pa2 1
    have w2:=za0 pa2 2
    have v0:=za0 pb 0
    have v1:=za0 pb 1
    have v2:=za0 pb 2
    simp only[List.getElem?_toArray,List.getElem?_cons_zero,List.getElem?_cons_succ] at w0 w1 w2 v0 v1 v2
    obtain⟨Hno,Hnx,Hbd,Hx,Hy,Hs1,Hs2,HC1,HC2,Hpa,Hpb,Hpa2,Hb1,Hb2,Hbr,Hbr1⟩:=hd16 hno hnx hbd hx hy hs1 hs2 hC1 hC2 pa pb pa2 hb1 hb2 hbr hbr1;obtain⟨Hbr2,Hrx1,Hrx2,Hrx3,Hrx4,Hry1,Hry2,Hry3,Hry4,Hxn1,Hxz1,Hxz2,Hxn2,Hxz3,Hxz4,Hxln⟩:=hd16 hbr2 rx1 rx2 rx3 rx4 ry1 ry2 ry3 ry4 hxn1 hxz1 hxz2 hxn2 hxz3 hxz4 hxln;obtain⟨Hyn1,Hyz1,Hyz2,Hyn2,Hyz3,Hyz4,Hyln⟩:=hd7 hyn1 hyz1 hyz2 hyn2 hyz3 hyz4 hyln;clear hno hnx hbd hx hy hs1 hs2 hC1 hC2 pa pb pa2 hb1 hb2 hbr hbr1 hbr2 rx1 rx2 rx3 rx4 ry1 ry2 ry3 ry4 hxn1 hxz1 hxz2 hxn2 hxz3 hxz4 hxln hyn1 hyz1 hyz2 hyn2 hyz3 hyz4 hyln
    go_upto_region 15 with (fail)
    rw[← hwa,← hba]
    clear hwa hba x0 x1 x2 x3 x4 x5 x6 px qx
    go_upto_region 16 with (fail)
    rw[← hwb,← hbb]
    clear hwb hbb y0 y1 y2 y3 y4 y5 y6 qx1
    go_wp2_with fail
    refine HC1.out.mono ?_
    rintro e' w9 ⟨rfl,hb9⟩
    have hbw9:=Hbr2.out.trans (hb9.mono Hbr2.out.size)
    clear w0 w1 w2 v0 v1 v2
    cases s1 with
    | false =>
     have hff:r=false:=by rw[Hrr.out];exact zht (Hbd.out fun h=>by have:=Hs1.out;rw[h.1] at this;simp at this)
     obtain⟨Hff,Hb9,Hbw9⟩:=hd3 hff hb9 hbw9;clear hff hb9 hbw9
     go_wp2_with fail
     go_ret
     exact⟨by rw[Hff.out];rfl,HbZ.out.trans (Hbw9.out.mono HbZ.out.size)⟩
    | true =>
     have u3:=za0 (za1 hb9 Hpa2.out) 3
     have u4:=za0 (za1 hb9 Hpa2.out) 4
     have u5:=za0 (za1 hb9 Hpa2.out) 5
     have t3:=za0 (za1 hb9 Hpb.out) 3
     have t4:=za0 (za1 hb9 Hpb.out) 4
     have t5:=za0 (za1 hb9 Hpb.out) 5
     simp only[List.getElem?_toArray,List.getElem?_cons_zero,List.getElem?_cons_succ] at u3 u4 u5 t3 t4 t5
     have hC3:=HC2.out _ hbw9
     obtain⟨Hb9,Hbw9,HC3⟩:=hd3 hb9 hbw9 hC3;clear hb9 hbw9 hC3
     go_wp2_with fail
     refine HC3.out.mono ?_
     rintro e' w10 ⟨rfl,hb10⟩
     have hbw10:=Hbw9.out.trans (hb10.mono Hbw9.out.size)
     clear u3 u4 u5 t3 t4 t5
     cases s2 with
     | false =>
      have hff:r=false:=by rw[Hrr.out];exact zht (Hbd.out fun h=>by have:=Hs2.out;rw[h.2] at this;simp at this)
      obtain⟨Hff,Hb10,Hbw10⟩:=hd3 hff hb10 hbw10;clear hff hb10 hbw10
      go_wp2_with fail
      go_ret
      exact⟨by rw[Hff.out];rfl,HbZ.out.trans (Hbw10.out.mono HbZ.out.size)⟩
     | true =>
      have hq2:=Hnx.out (of_decide_eq_true Hs1.out.symm) (of_decide_eq_true Hs2.out.symm)
      obtain⟨Hq2,Hb10,Hbw10⟩:=hd3 hq2 hb10 hbw10;clear hq2 hb10 hbw10
      go_wp2_with fail
      go_roundw
      case rel=>exact⟨k+1,by omega,by go_num,Hq2.out,Hbw10.out⟩
      case measure=>simp[RowKit.intOf];omega
   obtain rfl:n6=k:=by omega
   have hs6:zc3 L6 M6=true:=decide_eq_true (zis (by rw[← Hl6.out,← Hr6.out,Hh6.out]) (fun j h1 h2=>hno j h1 h2 (by have:=Hl6.out;omega)))
   have hff:r=true:=by rw[Hrr.out,Hs5.out,hs6];rfl
   clear px qx
   obtain⟨Hff,Hno,Hbr,Hs6⟩:=hd4 hff hno hbr hs6;clear hff hno hbr hs6
   go_wp2_with fail
   go_ret
   exact⟨by rw[Hff.out];rfl,HbZ.out.trans (Hbr.out.mono HbZ.out.size)⟩
end

section
open Go.RowKit Go.Shelf Go.Lib VerN VarM
attribute [local go_sem ↓] Go.wp_at_zero Go.wp_at_succ
theorem zk8 {w:World} {p q:PkgM} {nm nm2:ByteArray} {li li2:Int} {b2:Option Addr} {n2 c2:Nat} {d2:Option Addr} {m2 e2:Nat} {b3:Option Addr} {n3 c3:Nat} {d3:Option Addr} {m3 e3:Nat} {b4:Option Addr} {n4 c4:Nat} {d4:Option Addr} {m4 e4:Nat} {b5:Option Addr} {n5 c5:Nat} {d5:Option Addr} {m5 e5:Nat} {b6:Option Addr} {n6 c6:Nat} {d6:Option Addr} {m6 e6:Nat} {b7:Option Addr} {n7 c7:Nat} {d7:Option Addr} {m7 e7:Nat}
  (hnp:p.name=nm) (hnq:q.name=nm2) (hp:RPkR w (.slice b2 n2 c2) (.slice b3 n3 c3) (.slice b4 n4 c4) (.slice b5 n5 c5) (.slice b6 n6 c6) (.slice b7 n7 c7) p) (hq:RPkR w (.slice d2 m2 e2) (.slice d3 m3 e3) (.slice d4 m4 e4) (.slice d5 m5 e5) (.slice d6 m6 e6) (.slice d7 m7 e7) q) :
  Calls Tryz.prog 26 #[.agg #[.string nm,.int .i64 li,.slice b2 n2 c2,.slice b3 n3 c3,.slice b4 n4 c4,.slice b5 n5 c5,.slice b6 n6 c6,.slice b7 n7 c7],.agg #[.string nm2,.int .i64 li2,.slice d2 m2 e2,.slice d3 m3 e3,.slice d4 m4 e4,.slice d5 m5 e5,.slice d6 m6 e6,.slice d7 m7 e7],.bool false] w fun e w'=>e = .returned (.bool (zes p q))∧Below w.heap.size w w':=by
 obtain⟨W1,hW1⟩ : ∃ W,W=(w.alloc (.cells #[.string nm,.int .i64 li,.slice b2 n2 c2,.slice b3 n3 c3,.slice b4 n4 c4,.slice b5 n5 c5,.slice b6 n6 c6,.slice b7 n7 c7] 45)).alloc (.cells #[.string nm2,.int .i64 li2,.slice d2 m2 e2,.slice d3 m3 e3,.slice d4 m4 e4,.slice d5 m5 e5,.slice d6 m6 e6,.slice d7 m7 e7] 45):=⟨_,rfl⟩
 obtain⟨g,hg⟩ : ∃ g,g=w.heap.size:=⟨_,rfl⟩
 have hb1:Below w.heap.size w W1:=by rw[hW1];exact (za2 _ _).alloc (by simp) _
 have hp0:W1.heap[g]? = some (.cells #[.string nm,.int .i64 li,.slice b2 n2 c2,.slice b3 n3 c3,.slice b4 n4 c4,.slice b5 n5 c5,.slice b6 n6 c6,.slice b7 n7 c7] 45 (0,0)):=by rw[hW1,hg];exact za1 (za2 _ _) (za9 rfl)
 have hp1:W1.heap[g+1]? = some (.cells #[.string nm2,.int .i64 li2,.slice d2 m2 e2,.slice d3 m3 e3,.slice d4 m4 e4,.slice d5 m5 e5,.slice d6 m6 e6,.slice d7 m7 e7] 45 (0,0)):=by rw[hW1,hg];exact za9 (by simp)
 have hpp:=hp.below hb1
 have hqq:=hq.below hb1
 obtain⟨hl2,hz2,hg2⟩:=zs8 hpp.1
 obtain⟨hr2,hy2,hf2⟩:=zs8 hqq.1
 obtain⟨hl3,hz3,hg3⟩:=zjg hpp.2.1
 obtain⟨hr3,hy3,hf3⟩:=zjg hqq.2.1
 obtain⟨L2,hL2⟩ : ∃ z,z=p.rel:=⟨_,rfl⟩
 obtain⟨M2,hM2⟩ : ∃ z,z=q.rel:=⟨_,rfl⟩
 obtain⟨L3,hL3⟩ : ∃ z,z=p.vars:=⟨_,rfl⟩
 obtain⟨M3,hM3⟩ : ∃ z,z=q.vars:=⟨_,rfl⟩
 have hrr0:=zog p q
 rw[hnp,hnq,← hL2,← hM2,← hL3,← hM3] at hrr0
 rw[← hL2] at hl2 hg2
 rw[← hM2] at hr2 hf2
 rw[← hL3] at hl3 hg3
 rw[← hM3] at hr3 hf3
 obtain⟨r,hrr⟩ : ∃ r,r=zes p q:=⟨_,rfl⟩
 rw[← hrr]
 rw[← hrr] at hrr0
 obtain⟨q4,hc4⟩ : ∃ c,c=decide (p.prov=q.prov):=⟨_,rfl⟩
 obtain⟨q7,hc7⟩ : ∃ c,c=decide (p.files=q.files):=⟨_,rfl⟩
 obtain⟨q5,hc5⟩ : ∃ c,c=(zc3 p.dep q.dep && zc3 p.conf q.conf):=⟨_,rfl⟩
 rw[← hc4,← hc7,← hc5] at hrr0
 have hT4:=fun (W:World) (k:Below W1.heap.size W1 W)=>zfr (zak hpp.2.2.1 k) (zak hqq.2.2.1 k)
 have hT7:=fun (W:World) (k:Below W1.heap.size W1 W)=>zfr (zak hpp.2.2.2.2.2 k) (zak hqq.2.2.2.2.2 k)
 have hT5:=fun (W:World) (k:Below W1.heap.size W1 W)=>zmw (nm:=nm) (nm2:=nm2) (li:=li) (li2:=li2) (hpp.below k) (hqq.below k)
 rw[← hc4] at hT4
 rw[← hc7] at hT7
 rw[← hc5] at hT5
 have x0:=za0 hp0 0
 have x2:=za0 hp0 2
 have x3:=za0 hp0 3
 have y0:=za0 hp1 0
 have y2:=za0 hp1 2
 have y3:=za0 hp1 3
 simp only[List.getElem?_toArray,List.getElem?_cons_zero,List.getElem?_cons_succ] at x0 x2 x3 y0 y2 y3
 have heq:=Txt.eq_dec nm nm2
 obtain⟨bn,hbn⟩ : ∃ b,b=decide (nm=nm2):=⟨_,rfl⟩
 rw[← hbn] at heq hrr0
 clear hrr
 cases bn with
 | false =>
  obtain⟨Hb1,Hp0,Hp1,Hpp,Hqq,Hl2,Hg2,Hr2,Hf2,Hl3,Hg3,Hr3,Hf3,Hrr0,Hp,Hq⟩:=hd16 hb1 hp0 hp1 hpp hqq hl2 hg2 hr2 hf2 hl3 hg3 hr3 hf3 hrr0 hp hq;obtain⟨HL2,HM2,HL3,HM3,Hc4,Hc7,Hc5,HT4,HT7,HT5,Hbn,Hnp,Hnq⟩:=hd13 hL2 hM2 hL3 hM3 hc4 hc7 hc5 hT4 hT7 hT5 hbn hnp hnq;clear hb1 hp0 hp1 hpp hqq hl2 hg2 hr2 hf2 hl3 hg3 hr3 hf3 hrr0 hp hq hL2 hM2 hL3 hM3 hc4 hc7 hc5 hT4 hT7 hT5 hbn hnp hnq
  go_enter Tryz.func26,Tryz.ntmps26
  go_upto_region 1 with (fail)
  rw[← hW1,← hg]
  clear hW1 hg
  go_wp2_with fail
  go_ret
  exact⟨by rw[Hrr0.out];rfl,Hb1.out⟩
 | true =>
  by_cases hh2:n2=m2
  case neg =>
   have k1:((n2:Int) != (m2:Int))=true:=by simp;omega
   have hff:decide (L2=M2)=false:=decide_eq_false fun e=>hh2 (by rw[hl2,hr2,e])
   obtain⟨Hb1,Hp0,Hp1,Hpp,Hqq,Hl2,Hg2,Hr2,Hf2,Hl3,Hg3,Hr3,Hf3,Hrr0,Hp,Hq⟩:=hd16 hb1 hp0 hp1 hpp hqq hl2 hg2 hr2 hf2 hl3 hg3 hr3 hf3 hrr0 hp hq;obtain⟨HL2,HM2,HL3,HM3,Hc4,Hc7,Hc5,HT4,HT7,HT5,Hbn,Hnp,Hnq,Hff,Hh2⟩:=hd15 hL2 hM2 hL3 hM3 hc4 hc7 hc5 hT4 hT7 hT5 hbn hnp hnq hff hh2;clear hb1 hp0 hp1 hpp hqq hl2 hg2 hr2 hf2 hl3 hg3 hr3 hf3 hrr0 hp hq hL2 hM2 hL3 hM3 hc4 hc7 hc5 hT4 hT7 hT5 hbn hnp hnq hff hh2
   go_enter Tryz.func26,Tryz.ntmps26
   go_upto_region 1 with (fail)
   rw[← hW1,← hg]
   clear hW1 hg
   go_wp2_with fail
   go_ret
   exact⟨by rw[Hrr0.out,Hff.out];rfl,Hb1.out⟩
  have k1:((n2:Int) != (m2:Int))=false:=by simp;omega
  by_cases hh3:n3=m3
  case neg =>
   have k2:((n3:Int) != (m3:Int))=true:=by simp;omega
   have hff:decide (L3=M3)=false:=decide_eq_false fun e=>hh3 (by rw[hl3,hr3,e])
   have hrx:r=false:=by rw[hrr0,hff];simp
   obtain⟨Hb1,Hp0,Hp1,Hpp,Hqq,Hl2,Hg2,Hr2,Hf2,Hl3,Hg3,Hr3,Hf3,Hrr0,Hp,Hq⟩:=hd16 hb1 hp0 hp1 hpp hqq hl2 hg2 hr2 hf2 hl3 hg3 hr3 hf3 hrr0 hp hq;obtain⟨HL2,HM2,HL3,HM3,Hc4,Hc7,Hc5,HT4,HT7,HT5,Hbn,Hnp,Hnq,Hff,Hh2,Hh3⟩:=hd16 hL2 hM2 hL3 hM3 hc4 hc7 hc5 hT4 hT7 hT5 hbn hnp hnq hff hh2 hh3;have Hrx:=hd hrx;clear hb1 hp0 hp1 hpp hqq hl2 hg2 hr2 hf2 hl3 hg3 hr3 hf3 hrr0 hp hq hL2 hM2 hL3 hM3 hc4 hc7 hc5 hT4 hT7 hT5 hbn hnp hnq hff hh2 hh3 hrx
   go_enter Tryz.func26,Tryz.ntmps26
   go_upto_region 1 with (fail)
   rw[← hW1,← hg]
   clear hW1 hg
   go_wp2_with fail
   go_ret
   exact⟨by rw[Hrx.out];rfl,Hb1.out⟩
  have k2:((n3:Int) != (m3:Int))=false:=by simp;omega
  obtain⟨Hb1,Hp0,Hp1,Hpp,Hqq,Hl2,Hg2,Hr2,Hf2,Hl3,Hg3,Hr3,Hf3,Hrr0,Hp,Hq⟩:=hd16 hb1 hp0 hp1 hpp hqq hl2 hg2 hr2 hf2 hl3 hg3 hr3 hf3 hrr0 hp hq;obtain⟨HL2,HM2,HL3,HM3,Hc4,Hc7,Hc5,HT4,HT7,HT5,Hbn,Hnp,Hnq,Hh2,Hh3⟩:=hd15 hL2 hM2 hL3 hM3 hc4 hc7 hc5 hT4 hT7 hT5 hbn hnp hnq hh2 hh3;clear hb1 hp0 hp1 hpp hqq hl2 hg2 hr2 hf2 hl3 hg3 hr3 hf3 hrr0 hp hq hL2 hM2 hL3 hM3 hc4 hc7 hc5 hT4 hT7 hT5 hbn hnp hnq hh2 hh3
  go_enter Tryz.func26,Tryz.ntmps26
  go_upto_region 1 with (fail)
  rw[← hW1,← hg]
  clear hW1 hg
  go_wp2_with fail
  clear k1 k2 x0 x2 x3 y0 y2 y3 heq
  go_loopw [45] (fun i wr=>∃ k:Nat,k≤n2∧i = .int .i64 k∧(∀ j (h1:j < L2.length) (h2:j < M2.length),j < k→L2[j]=M2[j])∧Below W1.heap.size W1 wr) (fun i _=>n2 - (RowKit.intOf i).toNat)
  case atStart=>exact⟨0,Nat.zero_le _,rfl,fun _ _ _ h=>by omega,Below.refl _ _⟩
  case round =>
   obtain⟨k,hk,rfl,hno,hbr⟩:=hrel
   have px:=za0 (za1 hbr Hp0.out) 2
   have qx:=za0 (za1 hbr Hp1.out) 2
   simp only[List.getElem?_toArray,List.getElem?_cons_zero,List.getElem?_cons_succ] at px qx
   by_cases hlt:k < n2
   ·have hkl:k < L2.length:=by have:=Hl2.out;omega
    have hkm:k < M2.length:=by have:=Hr2.out;have:=Hh2.out;omega
    obtain⟨x,hx⟩ : ∃ x,x=L2[k]:=⟨_,rfl⟩
    obtain⟨y,hy⟩ : ∃ x,x=M2[k]:=⟨_,rfl⟩
    obtain⟨b,off,rfl,x0,x1⟩:=Hg2.out k x (by rw[hx];exact List.getElem?_eq_getElem hkl)
    obtain⟨b',off',rfl,y0,y1⟩:=Hf2.out k y (by rw[hy];exact List.getElem?_eq_getElem hkm)
    have x0:=cell_later hbr x0
    have x1:=cell_later hbr x1
    have y0:=cell_later hbr y0
    have y1:=cell_later hbr y1
    have hnx:x=y→∀ j (h1:j < L2.length) (h2:j < M2.length),j < k+1→L2[j]=M2[j]:=fun h j h1 h2 hjk=>by
     by_cases e:j=k
     ·subst e;rw[← hx,← hy,h]
     exact hno j h1 h2 (by omega)
    have hbd:x≠y→L2≠M2:=fun h e=>h (by rw[hx,hy];subst e;rfl)
    have q2:=fun (W:World)=>zs7 x.1 x.2 y.1 y.2 W
    have hxy:(decide (x.1=y.1) && decide (x.2=y.2))=decide (x=y):=by
     rw[Bool.eq_iff_iff]
     simp[Prod.ext_iff]
    rw[hxy] at q2
    obtain⟨s,hs⟩ : ∃ s,s=x.1:=⟨_,rfl⟩
    obtain⟨t,ht⟩ : ∃ s,s=x.2:=⟨_,rfl⟩
    obtain⟨s',hs'⟩ : ∃ s,s=y.1:=⟨_,rfl⟩
    obtain⟨t',ht'⟩ : ∃ s,s=y.2:=⟨_,rfl⟩
    rw[← hs,← ht,← hs',← ht'] at q2
    rw[← hs] at x0
    rw[← ht] at x1
    rw[← hs'] at y0
    rw[← ht'] at y1
    clear hxy
    obtain⟨c,hc⟩ : ∃ c,c=decide (x=y):=⟨_,rfl⟩
    rw[← hc] at q2
    have k5:(0:Int)≤(k:Int):=by omega
    have k6:(k:Int) < (n2:Int):=by omega
    have k7:(k:Int) < (m2:Int):=by have:=Hh2.out;omega
    cases c with
    | true =>
     have hq:=hnx (of_decide_eq_true hc.symm)
     simp only[Bool.not_true] at q2
     obtain⟨Hno,Hnx,Hbd,Hx,Hy,Hc,Hs,Ht,Hs',Ht',Hq,Hbr⟩:=hd12 hno hnx hbd hx hy hc hs ht hs' ht' hq hbr;clear hno hnx hbd hx hy hc hs ht hs' ht' hq hbr
     go_wp2_with fail
     go_region
     go_wp2_with fail
     go_roundw
     case rel=>exact⟨k+1,by omega,by go_num,Hq.out,by first | exact Below.drew Hbr.out | exact za6 Hbr.out _ | exact Hbr.out⟩
     case measure=>simp[RowKit.intOf];omega
    | false =>
     have hf:decide (L2=M2)=false:=decide_eq_false (hbd (of_decide_eq_false hc.symm))
     simp only[Bool.not_false] at q2
     obtain⟨Hno,Hnx,Hbd,Hx,Hy,Hc,Hs,Ht,Hs',Ht',Hf,Hbr⟩:=hd12 hno hnx hbd hx hy hc hs ht hs' ht' hf hbr;clear hno hnx hbd hx hy hc hs ht hs' ht' hf hbr
     go_wp2_with fail
     go_region
     go_wp2_with fail
     go_ret
     exact⟨by rw[Hrr0.out,Hf.out];rfl,Hb1.out.trans (Below.mono (by first | exact Below.drew Hbr.out | exact za6 Hbr.out _ | exact Hbr.out) Hb1.out.size)⟩
   obtain rfl:n2=k:=by omega
   have hs2:decide (L2=M2)=true:=decide_eq_true (List.ext_getElem (by rw[← Hl2.out,← Hr2.out,Hh2.out]) (fun j h1 h2=>hno j h1 h2 (by have:=Hl2.out;omega)))
   have px3:=za0 (za1 hbr Hp0.out) 3
   simp only[List.getElem?_toArray,List.getElem?_cons_zero,List.getElem?_cons_succ] at px3
   clear px qx
   obtain⟨Hs2,Hno,Hbr⟩:=hd3 hs2 hno hbr;clear hs2 hno hbr
   go_wp2_with fail
   clear px3
   go_loopw [63] (fun i wr=>∃ k:Nat,k≤n3∧i = .int .i64 k∧(∀ j (h1:j < L3.length) (h2:j < M3.length),j < k→L3[j]=M3[j])∧Below W1.heap.size W1 wr) (fun i _=>n3 - (RowKit.intOf i).toNat)
   case atStart=>exact⟨0,Nat.zero_le _,rfl,fun _ _ _ h=>by omega,Hbr.out⟩
   case round =>
    obtain⟨k,hk,rfl,hno,hbr⟩:=hrel
    by_cases hlt:k < n3
    ·have hkl:k < L3.length:=by have:=Hl3.out;omega
     have hkm:k < M3.length:=by have:=Hr3.out;have:=Hh3.out;omega
     obtain⟨x,hx⟩ : ∃ x,x=L3[k]:=⟨_,rfl⟩
     obtain⟨y,hy⟩ : ∃ x,x=M3[k]:=⟨_,rfl⟩
     obtain⟨b,off,xa1,xc1,rfl,x0,x1,rx1⟩:=Hg3.out k x (by rw[hx];exact List.getElem?_eq_getElem hkl)
     obtain⟨b',off',ya1,yc1,rfl,y0,y1,ry1⟩:=Hf3.out k y (by rw[hy];exact List.getElem?_eq_getElem hkm)
     have hnx:x.1=y.1→x.2=y.2→∀ j (h1:j < L3.length) (h2:j < M3.length),j < k+1→L3[j]=M3[j]:=fun h h' j h1 h2 hjk=>by
      by_cases e:j=k
      ·subst e;rw[← hx,← hy];exact Prod.ext h h'
      exact hno j h1 h2 (by omega)
     have hbd:¬ (x.1=y.1∧x.2=y.2)→decide (L3=M3)=false:=fun h=>decide_eq_false fun e=>h (by
      have:x=y:=by rw[hx,hy];subst e;rfl
      rw[this];exact⟨rfl,rfl⟩)
     have hC:=fun (W:World) (k:Below W1.heap.size W1 W)=>zfr (zak rx1 k) (zak ry1 k)
     obtain⟨xz1,hxz1⟩ : ∃ z,z=x.2.length:=⟨_,rfl⟩
     obtain⟨yz1,hyz1⟩ : ∃ z,z=y.2.length:=⟨_,rfl⟩
     obtain⟨s,hs⟩ : ∃ s,s=x.1:=⟨_,rfl⟩
     obtain⟨s',hs'⟩ : ∃ s,s=y.1:=⟨_,rfl⟩
     rw[← hs] at x0 hnx hbd
     rw[← hs'] at y0 hnx hbd
     rw[← hxz1] at x1 hC rx1
     rw[← hyz1] at y1 hC ry1
     obtain⟨cs,hcs⟩ : ∃ c,c=decide (x.2=y.2):=⟨_,rfl⟩
     rw[← hcs] at hC
     have hzz:=Txt.eq_dec s s'
     obtain⟨cn,hcn⟩ : ∃ c,c=decide (s=s'):=⟨_,rfl⟩
     rw[← hcn] at hzz
     have hcz:∀ W,Below W1.heap.size W1 W→W.cell? ⟨g,3,none⟩=some (.slice (some ⟨b,off,none⟩) n3 c3)∧W.cell? ⟨g+1,3,none⟩=some (.slice (some ⟨b',off',none⟩) m3 e3)∧W.cell? ⟨b,off+k * 2,none⟩=some (.string s)∧W.cell? ⟨b,off+k * 2+1,none⟩=some (.slice xa1 xz1 xc1)∧W.cell? ⟨b',off' + k * 2,none⟩=some (.string s')∧W.cell? ⟨b',off' + k * 2+1,none⟩=some (.slice ya1 yz1 yc1):=fun W hb=>by
      have px:=za0 (za1 hb Hp0.out) 3
      have qx:=za0 (za1 hb Hp1.out) 3
      simp only[List.getElem?_toArray,List.getElem?_cons_zero,List.getElem?_cons_succ] at px qx
      exact⟨px,qx,cell_later hb x0,cell_later hb x1,cell_later hb y0,cell_later hb y1⟩
     have k5:(0:Int)≤(k:Int):=by omega
     have k6:(k:Int) < (n3:Int):=by omega
     have k7:(k:Int) < (m3:Int):=by have:=Hh3.out;omega
     clear x0 x1 y0 y1
     obtain⟨Hno,Hnx,Hbd,Hx,Hy,Hcn,Hcs,Hs,Hs',Hbr,Hrx1,Hry1,HC,Hcz,Hxz1,Hyz1⟩:=hd16 hno hnx hbd hx hy hcn hcs hs hs' hbr rx1 ry1 hC hcz hxz1 hyz1;clear hno hnx hbd hx hy hcn hcs hs hs' hbr rx1 ry1 hC hcz hxz1 hyz1
     go_upto_region 12 with (fail)
     have hSd:=Hcz.out _ (Below.drew Hbr.out)
     have hbdd:=Below.drew Hbr.out
     refine wp_region_held_drew (S:=fun W=>W.cell? ⟨g,3,none⟩=some (.slice (some ⟨b,off,none⟩) n3 c3)∧W.cell? ⟨g+1,3,none⟩=some (.slice (some ⟨b',off',none⟩) m3 e3)∧W.cell? ⟨b,off+k * 2,none⟩=some (.string s)∧W.cell? ⟨b,off+k * 2+1,none⟩=some (.slice xa1 xz1 xc1)∧W.cell? ⟨b',off' + k * 2,none⟩=some (.string s')∧W.cell? ⟨b',off' + k * 2+1,none⟩=some (.slice ya1 yz1 yc1)) (by kernel_rfl) (by exact hSd) (fun hHeld=>?_)
     generalize wr.drew=wd at hSd hbdd ⊢
     have Hbdd:=hd hbdd;clear hbdd
     refine wpAnyH_take (i:=0) (v:=?_) rfl (by kernel_rfl) (by kernel_rfl) (by kernel_rfl) (fun _ _ _ h=>h) (Or.inl ⟨by kernel_rfl,?_⟩) (by assumption) ?_
     rotate_left
     ·(intro w hSw;(try dsimp only at hSw);(try obtain⟨o0,o1,o2,o3,o4,o5⟩:=hSw);go_simp;try with_reducible rfl)
     try simp only[Act.put,lA,lB,lC]
     refine wpAnyH_take (i:=1) (v:=?_) rfl (by kernel_rfl) (by kernel_rfl) (by kernel_rfl) (fun _ _ _ h=>h) (Or.inl ⟨by kernel_rfl,?_⟩) (by assumption) ?_
     rotate_left
     ·(intro w hSw;(try dsimp only at hSw);(try obtain⟨o0,o1,o2,o3,o4,o5⟩:=hSw);go_simp;try with_reducible rfl)
     try simp only[Act.put,lA,lB,lC]
     refine wpAnyH_take (i:=2) (v:=?_) rfl (by kernel_rfl) (by kernel_rfl) (by kernel_rfl) (fun _ _ _ h=>h) (Or.inl ⟨by kernel_rfl,?_⟩) (by assumption) ?_
     rotate_left
     ·(intro w hSw;(try dsimp only at hSw);(try obtain⟨o0,o1,o2,o3,o4,o5⟩:=hSw);go_simp;try with_reducible rfl)
     try simp only[Act.put,lA,lB,lC]
     refine wpAnyH_take (i:=3) (v:=?_) rfl (by kernel_rfl) (by kernel_rfl) (by kernel_rfl) (fun _ _ _ h=>h) (Or.inl ⟨by kernel_rfl,?_⟩) (by assumption) ?_
     rotate_left
     ·(intro w hSw;(try dsimp only at hSw);(try obtain⟨o0,o1,o2,o3,o4,o5⟩:=hSw);go_simp;try with_reducible rfl)
     try simp only[Act.put,lA,lB,lC]
     refine wpAnyH_take (i:=4) (v:=?_) rfl (by kernel_rfl) (by kernel_rfl) (by kernel_rfl) (fun _ _ _ h=>h) (Or.inl ⟨by kernel_rfl,?_⟩) (by assumption) ?_
     rotate_left
     ·(intro w hSw;(try dsimp only at hSw);(try obtain⟨o0,o1,o2,o3,o4,o5⟩:=hSw);go_simp;try with_reducible rfl)
     try simp only[Act.put,lA,lB,lC]
     refine wpAnyH_take (i:=5) (v:=?_) rfl (by kernel_rfl) (by kernel_rfl) (by kernel_rfl) (fun _ _ _ h=>h) (Or.inl ⟨by kernel_rfl,?_⟩) (by assumption) ?_
     rotate_left
     ·(intro w hSw;(try dsimp only at hSw);(try obtain⟨o0,o1,o2,o3,o4,o5⟩:=hSw);go_simp;try with_reducible rfl)
     try simp only[Act.put,lA,lB,lC]
     refine wpAnyH_take (i:=6) (v:=?_) rfl (by kernel_rfl) (by kernel_rfl) (by kernel_rfl) (fun _ _ _ h=>h) (Or.inl ⟨by kernel_rfl,?_⟩) (by assumption) ?_
     rotate_left
     ·(intro w hSw;(try dsimp only at hSw);(try obtain⟨o0,o1,o2,o3,o4,o5⟩:=hSw);go_simp;try with_reducible rfl)
     try simp only[Act.put,lA,lB,lC]
     refine wpAnyH_take (i:=7) (v:=?_) rfl (by kernel_rfl) (by kernel_rfl) (by kernel_rfl) (fun _ _ _ h=>h) (Or.inl ⟨by kernel_rfl,?_⟩) (by assumption) ?_
     rotate_left
     ·(intro w hSw;(try dsimp only at hSw);(try obtain⟨o0,o1,o2,o3,o4,o5⟩:=hSw);go_simp;try with_reducible rfl)
     try simp only[Act.put,lA,lB,lC]
     refine wpAnyH_take (i:=8) (v:=?_) rfl (by kernel_rfl) (by kernel_rfl) (by kernel_rfl) (fun _ _ _ h=>h) (Or.inl ⟨by kernel_rfl,?_⟩) (by assumption) ?_
     rotate_left
     ·(intro w hSw;(try dsimp only at hSw);(try obtain⟨o0,o1,o2,o3,o4,o5⟩:=hSw);go_simp;try with_reducible rfl)
     try simp only[Act.put,lA,lB,lC]
     refine wpAnyH_take (i:=9) (v:=?_) rfl (by kernel_rfl) (by kernel_rfl) (by kernel_rfl) (fun _ _ _ h=>h) (Or.inl ⟨by kernel_rfl,?_⟩) (by assumption) ?_
     rotate_left
     ·(intro w hSw;(try dsimp only at hSw);(try obtain⟨o0,o1,o2,o3,o4,o5⟩:=hSw);go_simp;try with_reducible rfl)
     try simp only[Act.put,lA,lB,lC]
     refine wpAnyH_take (i:=10) (v:=?_) rfl (by kernel_rfl) (by kernel_rfl) (by kernel_rfl) (fun _ _ _ h=>h) (Or.inl ⟨by kernel_rfl,?_⟩) (by assumption) ?_
     rotate_left
     ·(intro w hSw;(try dsimp only at hSw);(try obtain⟨o0,o1,o2,o3,o4,o5⟩:=hSw);go_simp;try with_reducible rfl)
     try simp only[Act.put,lA,lB,lC]
     refine wpAnyH_take (i:=11) (v:=?_) rfl (by kernel_rfl) (by kernel_rfl) (by kernel_rfl) (fun _ _ _ h=>h) (Or.inl ⟨by kernel_rfl,?_⟩) (by assumption) ?_
     rotate_left
     ·(intro w hSw;(try dsimp only at hSw);(try obtain⟨o0,o1,o2,o3,o4,o5⟩:=hSw);go_simp;try with_reducible rfl)
     try simp only[Act.put,lA,lB,lC]
     refine wpAnyH_take (i:=12) (v:=?_) rfl (by kernel_rfl) (by kernel_rfl) (by kernel_rfl) (fun _ _ _ h=>h) (Or.inl ⟨by kernel_rfl,?_⟩) (by assumption) ?_
     rotate_left
     ·(intro w hSw;(try dsimp only at hSw);(try obtain⟨o0,o1,o2,o3,o4,o5⟩:=hSw);go_simp;try with_reducible rfl)
     try simp only[Act.put,lA,lB,lC]
     refine wpAnyH_take (i:=13) (v:=?_) rfl (by kernel_rfl) (by kernel_rfl) (by kernel_rfl) (fun _ _ _ h=>h) (Or.inl ⟨by kernel_rfl,?_⟩) (by assumption) ?_
     rotate_left
     ·(intro w hSw;(try dsimp only at hSw);(try obtain⟨o0,o1,o2,o3,o4,o5⟩:=hSw);go_simp;try with_reducible rfl)
     try simp only[Act.put,lA,lB,lC]
     cases cn with
     | false =>
      refine wpAnyH_take (i:=14) (v:=undef) rfl (by kernel_rfl) (by kernel_rfl) (by kernel_rfl) (fun _ _ _ h=>h) (Or.inr ⟨by kernel_rfl,rfl⟩) (by assumption) ?_
      simp only[Act.put,List.getElem_toArray,List.getElem_cons_succ,List.getElem_cons_zero,lA,lB,lC]
      refine wpAnyH_take (i:=15) (v:=undef) rfl (by kernel_rfl) (by kernel_rfl) (by kernel_rfl) (fun _ _ _ h=>h) (Or.inr ⟨by kernel_rfl,rfl⟩) (by assumption) ?_
      simp only[Act.put,List.getElem_toArray,List.getElem_cons_succ,List.getElem_cons_zero,lA,lB,lC]
      refine wpAnyH_take (i:=16) (v:=undef) rfl (by kernel_rfl) (by kernel_rfl) (by kernel_rfl) (fun _ _ _ h=>h) (Or.inr ⟨by kernel_rfl,rfl⟩) (by assumption) ?_
      simp only[Act.put,List.getElem_toArray,List.getElem_cons_succ,List.getElem_cons_zero,lA,lB,lC]
      refine wpAnyH_take (i:=17) (v:=undef) rfl (by kernel_rfl) (by kernel_rfl) (by kernel_rfl) (fun _ _ _ h=>h) (Or.inr ⟨by kernel_rfl,rfl⟩) (by assumption) ?_
      simp only[Act.put,List.getElem_toArray,List.getElem_cons_succ,List.getElem_cons_zero,lA,lB,lC]
      refine wpAnyH_take (i:=18) (v:=undef) rfl (by kernel_rfl) (by kernel_rfl) (by kernel_rfl) (fun _ _ _ h=>h) (Or.inr ⟨by kernel_rfl,rfl⟩) (by assumption) ?_
      simp only[Act.put,List.getElem_toArray,List.getElem_cons_succ,List.getElem_cons_zero,lA,lB,lC]
      refine wpAnyH_take (i:=19) (v:=undef) rfl (by kernel_rfl) (by kernel_rfl) (by kernel_rfl) (fun _ _ _ h=>h) (Or.inr ⟨by kernel_rfl,rfl⟩) (by assumption) ?_
      simp only[Act.put,List.getElem_toArray,List.getElem_cons_succ,List.getElem_cons_zero,lA,lB,lC]
      refine wpAnyH_take (i:=20) (v:=undef) rfl (by kernel_rfl) (by kernel_rfl) (by kernel_rfl) (fun _ _ _ h=>h) (Or.inr ⟨by kernel_rfl,rfl⟩) (by assumption) ?_
      simp only[Act.put,List.getElem_toArray,List.getElem_cons_succ,List.getElem_cons_zero,lA,lB,lC]
      refine wpAnyH_take (i:=21) (v:=undef) rfl (by kernel_rfl) (by kernel_rfl) (by kernel_rfl) (fun _ _ _ h=>h) (Or.inr ⟨by kernel_rfl,rfl⟩) (by assumption) ?_
      simp only[Act.put,List.getElem_toArray,List.getElem_cons_succ,List.getElem_cons_zero,lA,lB,lC]
      refine wpAnyH_take (i:=22) (v:=undef) rfl (by kernel_rfl) (by kernel_rfl) (by kernel_rfl) (fun _ _ _ h=>h) (Or.inr ⟨by kernel_rfl,rfl⟩) (by assumption) ?_
      simp only[Act.put,List.getElem_toArray,List.getElem_cons_succ,List.getElem_cons_zero,lA,lB,lC]
      refine wpAnyH_take (i:=23) (v:=undef) rfl (by kernel_rfl) (by kernel_rfl) (by kernel_rfl) (fun _ _ _ h=>h) (Or.inr ⟨by kernel_rfl,rfl⟩) (by assumption) ?_
      simp only[Act.put,List.getElem_toArray,List.getElem_cons_succ,List.getElem_cons_zero,lA,lB,lC]
      refine wpAnyH_take (i:=24) (v:=undef) rfl (by kernel_rfl) (by kernel_rfl) (by kernel_rfl) (fun _ _ _ h=>h) (Or.inr ⟨by kernel_rfl,rfl⟩) (by assumption) ?_
      simp only[Act.put,List.getElem_toArray,List.getElem_cons_succ,List.getElem_cons_zero,lA,lB,lC]
      refine wpAnyH_take (i:=25) (v:=undef) rfl (by kernel_rfl) (by kernel_rfl) (by kernel_rfl) (fun _ _ _ h=>h) (Or.inr ⟨by kernel_rfl,rfl⟩) (by assumption) ?_
      simp only[Act.put,List.getElem_toArray,List.getElem_cons_succ,List.getElem_cons_zero,lA,lB,lC]
      refine wpAnyH_take (i:=26) (v:=undef) rfl (by kernel_rfl) (by kernel_rfl) (by kernel_rfl) (fun _ _ _ h=>h) (Or.inr ⟨by kernel_rfl,rfl⟩) (by assumption) ?_
      simp only[Act.put,List.getElem_toArray,List.getElem_cons_succ,List.getElem_cons_zero,lA,lB,lC]
      refine wpAnyH_take (i:=27) (v:=undef) rfl (by kernel_rfl) (by kernel_rfl) (by kernel_rfl) (fun _ _ _ h=>h) (Or.inr ⟨by kernel_rfl,rfl⟩) (by assumption) ?_
      simp only[Act.put,List.getElem_toArray,List.getElem_cons_succ,List.getElem_cons_zero,lA,lB,lC]
      refine wpAnyH_take (i:=28) (v:=?_) rfl (by kernel_rfl) (by kernel_rfl) (by kernel_rfl) (fun _ _ _ h=>h) (Or.inl ⟨by kernel_rfl,?_⟩) (by assumption) ?_
      rotate_left
      ·(intro w hSw;(try dsimp only at hSw);(try obtain⟨o0,o1,o2,o3,o4,o5⟩:=hSw);go_simp;try with_reducible rfl)
      try simp only[Act.put,lA,lB,lC]
      refine wpAnyH_done (by kernel_rfl) ?_ _
      go_simp
      have hff:=Hbd.out fun h=>by have:=Hcn.out;rw[h.1] at this;simp at this
      have Hff:=hd hff;clear hff
      go_wp2_with fail
      go_ret
      exact⟨by rw[Hrr0.out,Hs2.out,Hff.out];rfl,Hb1.out.trans (Hbdd.out.mono Hb1.out.size)⟩
     | true =>
      refine wpAnyH_take (i:=14) (v:=?_) rfl (by kernel_rfl) (by kernel_rfl) (by kernel_rfl) (fun _ _ _ h=>h) (Or.inl ⟨by kernel_rfl,?_⟩) (by assumption) ?_
      rotate_left
      ·(intro w hSw;(try dsimp only at hSw);(try obtain⟨o0,o1,o2,o3,o4,o5⟩:=hSw);go_simp;try with_reducible rfl)
      try simp only[Act.put,lA,lB,lC]
      refine wpAnyH_take (i:=15) (v:=?_) rfl (by kernel_rfl) (by kernel_rfl) (by kernel_rfl) (fun _ _ _ h=>h) (Or.inl ⟨by kernel_rfl,?_⟩) (by assumption) ?_
      rotate_left
      ·(intro w hSw;(try dsimp only at hSw);(try obtain⟨o0,o1,o2,o3,o4,o5⟩:=hSw);go_simp;try with_reducible rfl)
      try simp only[Act.put,lA,lB,lC]
      refine wpAnyH_take (i:=16) (v:=?_) rfl (by kernel_rfl) (by kernel_rfl) (by kernel_rfl) (fun _ _ _ h=>h) (Or.inl ⟨by kernel_rfl,?_⟩) (by assumption) ?_
      rotate_left
      ·(intro w hSw;(try dsimp only at hSw);(try obtain⟨o0,o1,o2,o3,o4,o5⟩:=hSw);go_simp;try with_reducible rfl)
      try simp only[Act.put,lA,lB,lC]
      refine wpAnyH_take (i:=17) (v:=?_) rfl (by kernel_rfl) (by kernel_rfl) (by kernel_rfl) (fun _ _ _ h=>h) (Or.inl ⟨by kernel_rfl,?_⟩) (by assumption) ?_
      rotate_left
      ·(intro w hSw;(try dsimp only at hSw);(try obtain⟨o0,o1,o2,o3,o4,o5⟩:=hSw);go_simp;try with_reducible rfl)
      try simp only[Act.put,lA,lB,lC]
      refine wpAnyH_take (i:=18) (v:=?_) rfl (by kernel_rfl) (by kernel_rfl) (by kernel_rfl) (fun _ _ _ h=>h) (Or.inl ⟨by kernel_rfl,?_⟩) (by assumption) ?_
      rotate_left
      ·(intro w hSw;(try dsimp only at hSw);(try obtain⟨o0,o1,o2,o3,o4,o5⟩:=hSw);go_simp;try with_reducible rfl)
      try simp only[Act.put,lA,lB,lC]
      refine wpAnyH_take (i:=19) (v:=?_) rfl (by kernel_rfl) (by kernel_rfl) (by kernel_rfl) (fun _ _ _ h=>h) (Or.inl ⟨by kernel_rfl,?_⟩) (by assumption) ?_
      rotate_left
      ·(intro w hSw;(try dsimp only at hSw);(try obtain⟨o0,o1,o2,o3,o4,o5⟩:=hSw);go_simp;try with_reducible rfl)
      try simp only[Act.put,lA,lB,lC]
      refine wpAnyH_take (i:=20) (v:=?_) rfl (by kernel_rfl) (by kernel_rfl) (by kernel_rfl) (fun _ _ _ h=>h) (Or.inl ⟨by kernel_rfl,?_⟩) (by assumption) ?_
      rotate_left
      ·(intro w hSw;(try dsimp only at hSw);(try obtain⟨o0,o1,o2,o3,o4,o5⟩:=hSw);go_simp;try with_reducible rfl)
      try simp only[Act.put,lA,lB,lC]
      refine wpAnyH_take (i:=21) (v:=?_) rfl (by kernel_rfl) (by kernel_rfl) (by kernel_rfl) (fun _ _ _ h=>h) (Or.inl ⟨by kernel_rfl,?_⟩) (by assumption) ?_
      rotate_left
      ·(intro w hSw;(try dsimp only at hSw);(try obtain⟨o0,o1,o2,o3,o4,o5⟩:=hSw);go_simp;try with_reducible rfl)
      try simp only[Act.put,lA,lB,lC]
      refine wpAnyH_take (i:=22) (v:=?_) rfl (by kernel_rfl) (by kernel_rfl) (by kernel_rfl) (fun _ _ _ h=>h) (Or.inl ⟨by kernel_rfl,?_⟩) (by assumption) ?_
      rotate_left
      ·(intro w hSw;(try dsimp only at hSw);(try obtain⟨o0,o1,o2,o3,o4,o5⟩:=hSw);go_simp;try with_reducible rfl)
      try simp only[Act.put,lA,lB,lC]
      refine wpAnyH_take (i:=23) (v:=?_) rfl (by kernel_rfl) (by kernel_rfl) (by kernel_rfl) (fun _ _ _ h=>h) (Or.inl ⟨by kernel_rfl,?_⟩) (by assumption) ?_
      rotate_left
      ·(intro w hSw;(try dsimp only at hSw);(try obtain⟨o0,o1,o2,o3,o4,o5⟩:=hSw);go_simp;try with_reducible rfl)
      try simp only[Act.put,lA,lB,lC]
      refine wpAnyH_take (i:=24) (v:=?_) rfl (by kernel_rfl) (by kernel_rfl) (by kernel_rfl) (fun _ _ _ h=>h) (Or.inl ⟨by kernel_rfl,?_⟩) (by assumption) ?_
      rotate_left
      ·(intro w hSw;(try dsimp only at hSw);(try obtain⟨o0,o1,o2,o3,o4,o5⟩:=hSw);go_simp;try with_reducible rfl)
      try simp only[Act.put,lA,lB,lC]
      refine wpAnyH_take (i:=25) (v:=?_) rfl (by kernel_rfl) (by kernel_rfl) (by kernel_rfl) (fun _ _ _ h=>h) (Or.inl ⟨by kernel_rfl,?_⟩) (by assumption) ?_
      rotate_left
      ·(intro w hSw;(try dsimp only at hSw);(try obtain⟨o0,o1,o2,o3,o4,o5⟩:=hSw);go_simp;try with_reducible rfl)
      try simp only[Act.put,lA,lB,lC]
      refine wpAnyH_ready (rs:=[26]) (by kernel_rfl) (by simp) ?_
      refine AllReadyH.cons rfl (fun K hK=>?_) AllReadyH.nil
      go_simp
      refine (HC.out _ Hbdd.out).mono ?_
      rintro e wy ⟨rfl,qn,rfl⟩
      have hby:=za6 Hbdd.out qn
      have hSy:=Hcz.out _ hby
      generalize wd.drewN qn=wy at hby hSy ⊢
      have Hby:=hd hby;clear hby
      go_wp2_with fail
      refine hK.out _ _ (by exact hSy) (fun hHeld=>?_)
      clear hK K
      try simp only[Act.put,lA,lB,lC]
      cases cs with
      | false =>
       refine wpAnyH_take (i:=27) (v:=?_) rfl (by kernel_rfl) (by kernel_rfl) (by kernel_rfl) (fun _ _ _ h=>h) (Or.inl ⟨by kernel_rfl,?_⟩) (by assumption) ?_
       rotate_left
       ·(intro w hSw;(try dsimp only at hSw);(try obtain⟨o0,o1,o2,o3,o4,o5⟩:=hSw);go_simp;try with_reducible rfl)
       try simp only[Act.put,lA,lB,lC]
       refine wpAnyH_take (i:=28) (v:=?_) rfl (by kernel_rfl) (by kernel_rfl) (by kernel_rfl) (fun _ _ _ h=>h) (Or.inl ⟨by kernel_rfl,?_⟩) (by assumption) ?_
       rotate_left
       ·(intro w hSw;(try dsimp only at hSw);(try obtain⟨o0,o1,o2,o3,o4,o5⟩:=hSw);go_simp;try with_reducible rfl)
       try simp only[Act.put,lA,lB,lC]
       refine wpAnyH_done (by kernel_rfl) ?_ _
       go_simp
       have hff:=Hbd.out fun h=>by have:=Hcs.out;rw[h.2] at this;simp at this
       have Hff:=hd hff;clear hff
       go_wp2_with fail
       go_ret
       exact⟨by rw[Hrr0.out,Hs2.out,Hff.out];rfl,Hb1.out.trans (Hby.out.mono Hb1.out.size)⟩
      | true =>
       refine wpAnyH_take (i:=27) (v:=?_) rfl (by kernel_rfl) (by kernel_rfl) (by kernel_rfl) (fun _ _ _ h=>h) (Or.inl ⟨by kernel_rfl,?_⟩) (by assumption) ?_
       rotate_left
       ·(intro w hSw;(try dsimp only at hSw);(try obtain⟨o0,o1,o2,o3,o4,o5⟩:=hSw);go_simp;try with_reducible rfl)
       try simp only[Act.put,lA,lB,lC]
       refine wpAnyH_take (i:=28) (v:=?_) rfl (by kernel_rfl) (by kernel_rfl) (by kernel_rfl) (fun _ _ _ h=>h) (Or.inl ⟨by kernel_rfl,?_⟩) (by assumption) ?_
       rotate_left
       ·(intro w hSw;(try dsimp only at hSw);(try obtain⟨o0,o1,o2,o3,o4,o5⟩:=hSw);go_simp;try with_reducible rfl)
       try simp only[Act.put,lA,lB,lC]
       refine wpAnyH_done (by kernel_rfl) ?_ _
       go_simp
       have hq:=Hnx.out (of_decide_eq_true Hcn.out.symm) (of_decide_eq_true Hcs.out.symm)
       have Hq:=hd hq;clear hq
       go_wp2_with fail
       go_roundw
       case rel=>exact⟨k+1,by omega,by go_num,Hq.out,Hby.out⟩
       case measure=>simp[RowKit.intOf];omega
    obtain rfl:n3=k:=by omega
    have hs3:decide (L3=M3)=true:=decide_eq_true (List.ext_getElem (by rw[← Hl3.out,← Hr3.out,Hh3.out]) (fun j h1 h2=>hno j h1 h2 (by have:=Hl3.out;omega)))
    have i4:=za0 (za1 hbr Hp0.out) 4
    have j4:=za0 (za1 hbr Hp1.out) 4
    simp only[List.getElem?_toArray,List.getElem?_cons_zero,List.getElem?_cons_succ] at i4 j4
    have hC4:=HT4.out _ hbr
    obtain⟨Hs3,Hno,Hbr,HC4⟩:=hd4 hs3 hno hbr hC4;clear hs3 hno hbr hC4
    go_wp2_with fail
    refine HC4.out.mono ?_
    rintro e wy ⟨rfl,qn,rfl⟩
    have hby:=za6 Hbr.out qn
    generalize wr.drewN qn=wy at hby ⊢
    clear i4 j4
    cases q4 with
    | false =>
     have Hby:=hd hby;clear hby
     go_wp2_with fail
     go_ret
     exact⟨by rw[Hrr0.out,Hs2.out,Hs3.out];rfl,Hb1.out.trans (Hby.out.mono Hb1.out.size)⟩
    | true =>
     have i7:=za0 (za1 hby Hp0.out) 7
     have j7:=za0 (za1 hby Hp1.out) 7
     simp only[List.getElem?_toArray,List.getElem?_cons_zero,List.getElem?_cons_succ] at i7 j7
     have hC7:=HT7.out _ hby
     obtain⟨Hby,HC7⟩:=hd2 hby hC7;clear hby hC7
     go_wp2_with fail
     refine HC7.out.mono ?_
     rintro e wz ⟨rfl,qn,rfl⟩
     have hbz:=za6 Hby.out qn
     generalize wy.drewN qn=wz at hbz ⊢
     clear i7 j7
     cases q7 with
     | false =>
      have Hbz:=hd hbz;clear hbz
      go_wp2_with fail
      go_ret
      exact⟨by rw[Hrr0.out,Hs2.out,Hs3.out];rfl,Hb1.out.trans (Hbz.out.mono Hb1.out.size)⟩
     | true =>
      have i0:=za0 (za1 hbz Hp0.out) 0
      have j0:=za0 (za1 hbz Hp1.out) 0
      have i1:=za0 (za1 hbz Hp0.out) 1
      have j1:=za0 (za1 hbz Hp1.out) 1
      have i2:=za0 (za1 hbz Hp0.out) 2
      have j2:=za0 (za1 hbz Hp1.out) 2
      have i3:=za0 (za1 hbz Hp0.out) 3
      have j3:=za0 (za1 hbz Hp1.out) 3
      have i4:=za0 (za1 hbz Hp0.out) 4
      have j4:=za0 (za1 hbz Hp1.out) 4
      have i5:=za0 (za1 hbz Hp0.out) 5
      have j5:=za0 (za1 hbz Hp1.out) 5
      have i6:=za0 (za1 hbz Hp0.out) 6
      have j6:=za0 (za1 hbz Hp1.out) 6
      have i7:=za0 (za1 hbz Hp0.out) 7
      have j7:=za0 (za1 hbz Hp1.out) 7
      simp only[List.getElem?_toArray,List.getElem?_cons_zero,List.getElem?_cons_succ] at i0 j0 i1 j1 i2 j2 i3 j3 i4 j4 i5 j5 i6 j6 i7 j7
      have hC5:=HT5.out _ hbz
      obtain⟨Hbz,HC5⟩:=hd2 hbz hC5;clear hbz hC5
      go_wp2_with fail
      refine HC5.out.mono ?_
      rintro e wv ⟨rfl,hbv⟩
      have hbw:=Hbz.out.trans (hbv.mono Hbz.out.size)
      clear i0 i1 i2 i3 i4 i5 i6 i7 j0 j1 j2 j3 j4 j5 j6 j7
      have hre:r=q5:=by rw[Hrr0.out,Hs2.out,Hs3.out];rfl
      obtain⟨Hbv,Hbw,Hre⟩:=hd3 hbv hbw hre;clear hbv hbw hre
      go_wp2_with fail
      go_ret
      exact⟨by rw[Hre.out];rfl,Hb1.out.trans (Hbw.out.mono Hb1.out.size)⟩
end

section
open Go.RowKit Go.Shelf Go.Lib VerN VarM
attribute [local go_sem ↓] Go.wp_at_zero Go.wp_at_succ
theorem ztl {l m:List PkgM} {k:Nat} (h1:k < l.length) (h2:k < m.length) (h:zes l[k] m[k]=false):zgg l m=false:=decide_eq_false (zm5 h1 h2 (of_decide_eq_false h))
theorem zqa {l m:List PkgM} (hl:l.length=m.length) (h:∀ j (h1:j < l.length) (h2:j < m.length),zes l[j] m[j]=true):zgg l m=true:=decide_eq_true (zis hl fun j h1 h2=>of_decide_eq_true (h j h1 h2))
theorem zqb {l m:List PkgM} (h:l.length≠m.length):zgg l m=false:=decide_eq_false (zn5 h)
theorem ztm {l m:List PrfM} (h:l.length≠m.length):zgh l m=false:=decide_eq_false (zn5 h)
theorem zq9 {w:World} {x y:RcpM} {a1 a2 d1 d2:Option Addr} {n1 n2 c1 c2 m1 m2 e1 e2:Nat} (hp:zi1 w (.slice a1 n1 c1) (.slice a2 n2 c2) x) (hq:zi1 w (.slice d1 m1 e1) (.slice d2 m2 e2) y) :
  Calls Tryz.prog 11 #[.agg #[.slice a1 n1 c1,.slice a2 n2 c2],.agg #[.slice d1 m1 e1,.slice d2 m2 e2],.bool false] w fun e w'=>e = .returned (.bool (zfs x y))∧Below w.heap.size w w':=by
 obtain⟨W1,hW1⟩ : ∃ W,W=(w.alloc (.cells #[.slice a1 n1 c1,.slice a2 n2 c2] 25)).alloc (.cells #[.slice d1 m1 e1,.slice d2 m2 e2] 25):=⟨_,rfl⟩
 obtain⟨g,hg⟩ : ∃ g,g=w.heap.size:=⟨_,rfl⟩
 have hb1:Below w.heap.size w W1:=by rw[hW1];exact (za2 _ _).alloc (by simp) _
 have hp0:W1.heap[g]? = some (.cells #[.slice a1 n1 c1,.slice a2 n2 c2] 25 (0,0)):=by rw[hW1,hg];exact za1 (za2 _ _) (za9 rfl)
 have hp1:W1.heap[g+1]? = some (.cells #[.slice d1 m1 e1,.slice d2 m2 e2] 25 (0,0)):=by rw[hW1,hg];exact za9 (by simp)
 have hpp:=hp.below hb1
 have hqq:=hq.below hb1
 obtain⟨hl1,hz1,hg1⟩:=pks_at hpp.1
 obtain⟨hr1,hy1,hf1⟩:=pks_at hqq.1
 obtain⟨hl2,hz2,hg2⟩:=pfs_at hpp.2
 obtain⟨hr2,hy2,hf2⟩:=pfs_at hqq.2
 obtain⟨r,hrr⟩ : ∃ r,r=zfs x y:=⟨_,rfl⟩
 rw[← hrr]
 unfold zfs at hrr
 obtain⟨L1,hL1⟩ : ∃ z,z=x.pk:=⟨_,rfl⟩
 obtain⟨M1,hM1⟩ : ∃ z,z=y.pk:=⟨_,rfl⟩
 obtain⟨L2,hL2⟩ : ∃ z,z=x.pf:=⟨_,rfl⟩
 obtain⟨M2,hM2⟩ : ∃ z,z=y.pf:=⟨_,rfl⟩
 rw[← hL1,← hM1,← hL2,← hM2] at hrr
 rw[← hL1] at hl1 hg1
 rw[← hM1] at hr1 hf1
 rw[← hL2] at hl2 hg2
 rw[← hM2] at hr2 hf2
 have x0:=za0 hp0 0
 have x1:=za0 hp0 1
 have y0:=za0 hp1 0
 have y1:=za0 hp1 1
 simp only[List.getElem?_toArray,List.getElem?_cons_zero,List.getElem?_cons_succ] at x0 x1 y0 y1
 by_cases hh1:n1=m1
 case neg =>
  have k1:((n1:Int) != (m1:Int))=true:=by simp;omega
  have hff:zgg L1 M1=false:=zqb (by rw[← hl1,← hr1];exact hh1)
  obtain⟨Hb1,Hp0,Hp1,Hpp,Hqq,Hl1,Hg1,Hr1,Hf1,Hl2,Hg2,Hr2,Hf2,Hrr,Hp,Hq⟩:=hd16 hb1 hp0 hp1 hpp hqq hl1 hg1 hr1 hf1 hl2 hg2 hr2 hf2 hrr hp hq;obtain⟨HL1,HM1,HL2,HM2,Hff,Hh1⟩:=hd6 hL1 hM1 hL2 hM2 hff hh1;clear hb1 hp0 hp1 hpp hqq hl1 hg1 hr1 hf1 hl2 hg2 hr2 hf2 hrr hp hq hL1 hM1 hL2 hM2 hff hh1
  go_enter Tryz.func11,Tryz.ntmps11
  go_upto_region 1 with (fail)
  rw[← hW1,← hg]
  clear hW1 hg
  go_wp2_with fail
  go_ret
  exact⟨by rw[Hrr.out,Hff.out];rfl,Hb1.out⟩
 have k1:((n1:Int) != (m1:Int))=false:=by simp;omega
 by_cases hh2:n2=m2
 case neg =>
  have k2:((n2:Int) != (m2:Int))=true:=by simp;omega
  have hff:zgh L2 M2=false:=ztm (by rw[← hl2,← hr2];exact hh2)
  obtain⟨Hb1,Hp0,Hp1,Hpp,Hqq,Hl1,Hg1,Hr1,Hf1,Hl2,Hg2,Hr2,Hf2,Hrr,Hp,Hq⟩:=hd16 hb1 hp0 hp1 hpp hqq hl1 hg1 hr1 hf1 hl2 hg2 hr2 hf2 hrr hp hq;obtain⟨HL1,HM1,HL2,HM2,Hff,Hh1,Hh2⟩:=hd7 hL1 hM1 hL2 hM2 hff hh1 hh2;clear hb1 hp0 hp1 hpp hqq hl1 hg1 hr1 hf1 hl2 hg2 hr2 hf2 hrr hp hq hL1 hM1 hL2 hM2 hff hh1 hh2
  go_enter Tryz.func11,Tryz.ntmps11
  go_upto_region 1 with (fail)
  rw[← hW1,← hg]
  clear hW1 hg
  go_wp2_with fail
  go_ret
  exact⟨by rw[Hrr.out,Hff.out,Bool.and_false];rfl,Hb1.out⟩
 have k2:((n2:Int) != (m2:Int))=false:=by simp;omega
 obtain⟨Hb1,Hp0,Hp1,Hpp,Hqq,Hl1,Hg1,Hr1,Hf1,Hl2,Hg2,Hr2,Hf2,Hrr,Hp,Hq⟩:=hd16 hb1 hp0 hp1 hpp hqq hl1 hg1 hr1 hf1 hl2 hg2 hr2 hf2 hrr hp hq;obtain⟨HL1,HM1,HL2,HM2,Hh1,Hh2⟩:=hd6 hL1 hM1 hL2 hM2 hh1 hh2;clear hb1 hp0 hp1 hpp hqq hl1 hg1 hr1 hf1 hl2 hg2 hr2 hf2 hrr hp hq hL1 hM1 hL2 hM2 hh1 hh2
 go_enter Tryz.func11,Tryz.ntmps11
 go_upto_region 1 with (fail)
 rw[← hW1,← hg]
 clear hW1 hg
 go_wp2_with fail
 clear k1 k2 x0 x1 y0 y1
 go_loopw [30] (fun i wr=>∃ k:Nat,k≤n1∧i = .int .i64 k∧(∀ j (h1:j < L1.length) (h2:j < M1.length),j < k→zes L1[j] M1[j]=true)∧Below W1.heap.size W1 wr) (fun i _=>n1 - (RowKit.intOf i).toNat)
 case atStart=>exact⟨0,Nat.zero_le _,rfl,fun _ _ _ h=>by omega,Below.refl _ _⟩
 case round =>
  obtain⟨k,hk,rfl,hno,hbr⟩:=hrel
  by_cases hlt:k < n1
  ·have hkl:k < L1.length:=by have:=Hl1.out;omega
   have hkm:k < M1.length:=by have:=Hr1.out;have:=Hh1.out;omega
   obtain⟨p,hx⟩ : ∃ x,x=L1[k]:=⟨_,rfl⟩
   obtain⟨q,hy⟩ : ∃ x,x=M1[k]:=⟨_,rfl⟩
   obtain⟨b,off,xb2,xc2,xb3,xc3,xb4,xc4,xb5,xc5,xb6,xc6,xb7,xc7,rfl,x0,x1,x2,x3,x4,x5,x6,x7,rx⟩:=Hg1.out k p (by rw[hx];exact List.getElem?_eq_getElem hkl)
   obtain⟨b',off',yb2,yc2,yb3,yc3,yb4,yc4,yb5,yc5,yb6,yc6,yb7,yc7,rfl,y0,y1,y2,y3,y4,y5,y6,y7,ry⟩:=Hf1.out k q (by rw[hy];exact List.getElem?_eq_getElem hkm)
   have hnx:zes p q=true→∀ j (h1:j < L1.length) (h2:j < M1.length),j < k+1→zes L1[j] M1[j]=true:=fun h j h1 h2 hjk=>by
    by_cases e:j=k
    ·subst e;rw[← hx,← hy];exact h
    exact hno j h1 h2 (by omega)
   have hbd:zes p q=false→zgg L1 M1=false:=fun h=>ztl hkl hkm (by rw[← hx,← hy];exact h)
   have hC:=fun (W:World) (k:Below W1.heap.size W1 W) (nm nm2:ByteArray) (li li2:Int) (e1:p.name=nm) (e2:q.name=nm2)=>zk8 (li:=li) (li2:=li2) e1 e2 (rx.below k) (ry.below k)
   obtain⟨nm,hnm⟩ : ∃ z,z=p.name:=⟨_,rfl⟩
   obtain⟨nm2,hnm2⟩ : ∃ z,z=q.name:=⟨_,rfl⟩
   obtain⟨li,hli⟩ : ∃ z,z=p.line:=⟨_,rfl⟩
   obtain⟨li2,hli2⟩ : ∃ z,z=q.line:=⟨_,rfl⟩
   obtain⟨xz2,hxz2⟩ : ∃ z,z=p.rel.length:=⟨_,rfl⟩
   obtain⟨xz3,hxz3⟩ : ∃ z,z=p.vars.length:=⟨_,rfl⟩
   obtain⟨xz4,hxz4⟩ : ∃ z,z=p.prov.length:=⟨_,rfl⟩
   obtain⟨xz5,hxz5⟩ : ∃ z,z=p.dep.length:=⟨_,rfl⟩
   obtain⟨xz6,hxz6⟩ : ∃ z,z=p.conf.length:=⟨_,rfl⟩
   obtain⟨xz7,hxz7⟩ : ∃ z,z=p.files.length:=⟨_,rfl⟩
   rw[← hxz2,← hxz3,← hxz4,← hxz5,← hxz6,← hxz7] at rx
   simp only[← hxz2,← hxz3,← hxz4,← hxz5,← hxz6,← hxz7] at hC
   rw[← hxz2] at x2
   rw[← hxz3] at x3
   rw[← hxz4] at x4
   rw[← hxz5] at x5
   rw[← hxz6] at x6
   rw[← hxz7] at x7
   obtain⟨yz2,hyz2⟩ : ∃ z,z=q.rel.length:=⟨_,rfl⟩
   obtain⟨yz3,hyz3⟩ : ∃ z,z=q.vars.length:=⟨_,rfl⟩
   obtain⟨yz4,hyz4⟩ : ∃ z,z=q.prov.length:=⟨_,rfl⟩
   obtain⟨yz5,hyz5⟩ : ∃ z,z=q.dep.length:=⟨_,rfl⟩
   obtain⟨yz6,hyz6⟩ : ∃ z,z=q.conf.length:=⟨_,rfl⟩
   obtain⟨yz7,hyz7⟩ : ∃ z,z=q.files.length:=⟨_,rfl⟩
   rw[← hyz2,← hyz3,← hyz4,← hyz5,← hyz6,← hyz7] at ry
   simp only[← hyz2,← hyz3,← hyz4,← hyz5,← hyz6,← hyz7] at hC
   rw[← hyz2] at y2
   rw[← hyz3] at y3
   rw[← hyz4] at y4
   rw[← hyz5] at y5
   rw[← hyz6] at y6
   rw[← hyz7] at y7
   rw[← hnm] at x0
   rw[← hli] at x1
   rw[← hnm2] at y0
   rw[← hli2] at y1
   have hC:=fun (W:World) (k:Below W1.heap.size W1 W)=>hC W k nm nm2 li li2 hnm.symm hnm2.symm
   obtain⟨cs,hcs⟩ : ∃ c,c=zes p q:=⟨_,rfl⟩
   rw[← hcs] at hC hnx hbd
   have hcz:∀ W,Below W1.heap.size W1 W→W.cell? ⟨g,0,none⟩=some (.slice (some ⟨b,off,none⟩) n1 c1)∧W.cell? ⟨g+1,0,none⟩=some (.slice (some ⟨b',off',none⟩) m1 e1)∧W.cell? ⟨b,off+k * 8,none⟩=some (.string nm)∧W.cell? ⟨b,off+k * 8+1,none⟩=some (.int .i64 li)∧W.cell? ⟨b,off+k * 8+2,none⟩=some (.slice xb2 xz2 xc2)∧W.cell? ⟨b,off+k * 8+3,none⟩=some (.slice xb3 xz3 xc3)∧W.cell? ⟨b,off+k * 8+4,none⟩=some (.slice xb4 xz4 xc4)∧W.cell? ⟨b,off+k * 8+5,none⟩=some (.slice xb5 xz5 xc5)∧W.cell? ⟨b,off+k * 8+6,none⟩=some (.slice xb6 xz6 xc6)∧W.cell? ⟨b,off+k * 8+7,none⟩=some (.slice xb7 xz7 xc7)∧W.cell? ⟨b',off' + k * 8,none⟩=some (.string nm2)∧W.cell? ⟨b',off' + k * 8+1,none⟩=some (.int .i64 li2)∧W.cell? ⟨b',off' + k * 8+2,none⟩=some (.slice yb2 yz2 yc2)∧W.cell? ⟨b',off' + k * 8+3,none⟩=some (.slice yb3 yz3 yc3)∧W.cell? ⟨b',off' + k * 8+4,none⟩=some (.slice yb4 yz4 yc4)∧W.cell? ⟨b',off' + k * 8+5,none⟩=some (.slice yb5 yz5 yc5)∧W.cell? ⟨b',off' + k * 8+6,none⟩=some (.slice yb6 yz6 yc6)∧W.cell? ⟨b',off' + k * 8+7,none⟩=some (.slice yb7 yz7 yc7):=fun W hb=>by
    have px:=za0 (za1 hb Hp0.out) 0
    have qx:=za0 (za1 hb Hp1.out) 0
    simp only[List.getElem?_toArray,List.getElem?_cons_zero,List.getElem?_cons_succ] at px qx
    exact⟨px,qx,cell_later hb x0,cell_later hb x1,cell_later hb x2,cell_later hb x3,cell_later hb x4,cell_later hb x5,cell_later hb x6,cell_later hb x7,cell_later hb y0,cell_later hb y1,cell_later hb y2,cell_later hb y3,cell_later hb y4,cell_later hb y5,cell_later hb y6,cell_later hb y7⟩
   have k5:(0:Int)≤(k:Int):=by omega
   have k6:(k:Int) < (n1:Int):=by omega
   have k7:(k:Int) < (m1:Int):=by have:=Hh1.out;omega
   clear x0 y0 x1 y1 x2 y2 x3 y3 x4 y4 x5 y5 x6 y6 x7 y7
   obtain⟨Hno,Hnx,Hbd,Hx,Hy,Hcs,Hbr,Hrx,Hry,HC,Hcz,Hnm,Hnm2,Hli,Hli2,Hxz2⟩:=hd16 hno hnx hbd hx hy hcs hbr rx ry hC hcz hnm hnm2 hli hli2 hxz2;obtain⟨Hyz2,Hxz3,Hyz3,Hxz4,Hyz4,Hxz5,Hyz5,Hxz6,Hyz6,Hxz7,Hyz7⟩:=hd11 hyz2 hxz3 hyz3 hxz4 hyz4 hxz5 hyz5 hxz6 hyz6 hxz7 hyz7;clear hno hnx hbd hx hy hcs hbr rx ry hC hcz hnm hnm2 hli hli2 hxz2 hyz2 hxz3 hyz3 hxz4 hyz4 hxz5 hyz5 hxz6 hyz6 hxz7 hyz7
   go_upto_region 6 with (fail)
   have hSd:=Hcz.out _ (Below.drew Hbr.out)
   have hbdd:=Below.drew Hbr.out
   refine wp_region_held_drew (S:=fun W=>W.cell? ⟨g,0,none⟩=some (.slice (some ⟨b,off,none⟩) n1 c1)∧W.cell? ⟨g+1,0,none⟩=some (.slice (some ⟨b',off',none⟩) m1 e1)∧W.cell? ⟨b,off+k * 8,none⟩=some (.string nm)∧W.cell? ⟨b,off+k * 8+1,none⟩=some (.int .i64 li)∧W.cell? ⟨b,off+k * 8+2,none⟩=some (.slice xb2 xz2 xc2)∧W.cell? ⟨b,off+k * 8+3,none⟩=some (.slice xb3 xz3 xc3)∧W.cell? ⟨b,off+k * 8+4,none⟩=some (.slice xb4 xz4 xc4)∧W.cell? ⟨b,off+k * 8+5,none⟩=some (.slice xb5 xz5 xc5)∧W.cell? ⟨b,off+k * 8+6,none⟩=some (.slice xb6 xz6 xc6)∧W.cell? ⟨b,off+k * 8+7,none⟩=some (.slice xb7 xz7 xc7)∧W.cell? ⟨b',off' + k * 8,none⟩=some (.string nm2)∧W.cell? ⟨b',off' + k * 8+1,none⟩=some (.int .i64 li2)∧W.cell? ⟨b',off' + k * 8+2,none⟩=some (.slice yb2 yz2 yc2)∧W.cell? ⟨b',off' + k * 8+3,none⟩=some (.slice yb3 yz3 yc3)∧W.cell? ⟨b',off' + k * 8+4,none⟩=some (.slice yb4 yz4 yc4)∧W.cell? ⟨b',off' + k * 8+5,none⟩=some (.slice yb5 yz5 yc5)∧W.cell? ⟨b',off' + k * 8+6,none⟩=some (.slice yb6 yz6 yc6)∧W.cell? ⟨b',off' + k * 8+7,none⟩=some (.slice yb7 yz7 yc7)) (by kernel_rfl) (by exact hSd) (fun hHeld=>?_)
   generalize wr.drew=wd at hSd hbdd ⊢
   have Hbdd:=hd hbdd;clear hbdd
   refine wpAnyH_take (i:=0) (v:=?_) rfl (by kernel_rfl) (by kernel_rfl) (by kernel_rfl) (fun _ _ _ h=>h) (Or.inl ⟨by kernel_rfl,?_⟩) (by assumption) ?_
   rotate_left
   ·(intro w hSw;(try dsimp only at hSw);(try obtain⟨o0,o1,o2,o3,o4,o5,o6,o7,o8,o9,o10,o11,o12,o13,o14,o15,o16,o17⟩:=hSw);go_simp;try with_reducible rfl)
   try simp only[Act.put,lA,lB,lC]
   refine wpAnyH_take (i:=1) (v:=?_) rfl (by kernel_rfl) (by kernel_rfl) (by kernel_rfl) (fun _ _ _ h=>h) (Or.inl ⟨by kernel_rfl,?_⟩) (by assumption) ?_
   rotate_left
   ·(intro w hSw;(try dsimp only at hSw);(try obtain⟨o0,o1,o2,o3,o4,o5,o6,o7,o8,o9,o10,o11,o12,o13,o14,o15,o16,o17⟩:=hSw);go_simp;try with_reducible rfl)
   try simp only[Act.put,lA,lB,lC]
   refine wpAnyH_take (i:=2) (v:=?_) rfl (by kernel_rfl) (by kernel_rfl) (by kernel_rfl) (fun _ _ _ h=>h) (Or.inl ⟨by kernel_rfl,?_⟩) (by assumption) ?_
   rotate_left
   ·(intro w hSw;(try dsimp only at hSw);(try obtain⟨o0,o1,o2,o3,o4,o5,o6,o7,o8,o9,o10,o11,o12,o13,o14,o15,o16,o17⟩:=hSw);go_simp;try with_reducible rfl)
   try simp only[Act.put,lA,lB,lC]
   refine wpAnyH_take (i:=3) (v:=?_) rfl (by kernel_rfl) (by kernel_rfl) (by kernel_rfl) (fun _ _ _ h=>h) (Or.inl ⟨by kernel_rfl,?_⟩) (by assumption) ?_
   rotate_left
   ·(intro w hSw;(try dsimp only at hSw);(try obtain⟨o0,o1,o2,o3,o4,o5,o6,o7,o8,o9,o10,o11,o12,o13,o14,o15,o16,o17⟩:=hSw);go_simp;try with_reducible rfl)
   try simp only[Act.put,lA,lB,lC]
   refine wpAnyH_take (i:=4) (v:=?_) rfl (by kernel_rfl) (by kernel_rfl) (by kernel_rfl) (fun _ _ _ h=>h) (Or.inl ⟨by kernel_rfl,?_⟩) (by assumption) ?_
   rotate_left
   ·(intro w hSw;(try dsimp only at hSw);(try obtain⟨o0,o1,o2,o3,o4,o5,o6,o7,o8,o9,o10,o11,o12,o13,o14,o15,o16,o17⟩:=hSw);go_simp;try with_reducible rfl)
   try simp only[Act.put,lA,lB,lC]
   refine wpAnyH_take (i:=5) (v:=?_) rfl (by kernel_rfl) (by kernel_rfl) (by kernel_rfl) (fun _ _ _ h=>h) (Or.inl ⟨by kernel_rfl,?_⟩) (by assumption) ?_
   rotate_left
   ·(intro w hSw;(try dsimp only at hSw);(try obtain⟨o0,o1,o2,o3,o4,o5,o6,o7,o8,o9,o10,o11,o12,o13,o14,o15,o16,o17⟩:=hSw);go_simp;try with_reducible rfl)
   try simp only[Act.put,lA,lB,lC]
   refine wpAnyH_take (i:=6) (v:=?_) rfl (by kernel_rfl) (by kernel_rfl) (by kernel_rfl) (fun _ _ _ h=>h) (Or.inl ⟨by kernel_rfl,?_⟩) (by assumption) ?_
   rotate_left
   ·(intro w hSw;(try dsimp only at hSw);(try obtain⟨o0,o1,o2,o3,o4,o5,o6,o7,o8,o9,o10,o11,o12,o13,o14,o15,o16,o17⟩:=hSw);go_simp;try with_reducible rfl)
   try simp only[Act.put,lA,lB,lC]
   refine wpAnyH_take (i:=7) (v:=?_) rfl (by kernel_rfl) (by kernel_rfl) (by kernel_rfl) (fun _ _ _ h=>h) (Or.inl ⟨by kernel_rfl,?_⟩) (by assumption) ?_
   rotate_left
   ·(intro w hSw;(try dsimp only at hSw);(try obtain⟨o0,o1,o2,o3,o4,o5,o6,o7,o8,o9,o10,o11,o12,o13,o14,o15,o16,o17⟩:=hSw);go_simp;try with_reducible rfl)
   try simp only[Act.put,lA,lB,lC]
   refine wpAnyH_take (i:=8) (v:=?_) rfl (by kernel_rfl) (by kernel_rfl) (by kernel_rfl) (fun _ _ _ h=>h) (Or.inl ⟨by kernel_rfl,?_⟩) (by assumption) ?_
   rotate_left
   ·(intro w hSw;(try dsimp only at hSw);(try obtain⟨o0,o1,o2,o3,o4,o5,o6,o7,o8,o9,o10,o11,o12,o13,o14,o15,o16,o17⟩:=hSw);go_simp;try with_reducible rfl)
   try simp only[Act.put,lA,lB,lC]
   refine wpAnyH_take (i:=9) (v:=?_) rfl (by kernel_rfl) (by kernel_rfl) (by kernel_rfl) (fun _ _ _ h=>h) (Or.inl ⟨by kernel_rfl,?_⟩) (by assumption) ?_
   rotate_left
   ·(intro w hSw;(try dsimp only at hSw);(try obtain⟨o0,o1,o2,o3,o4,o5,o6,o7,o8,o9,o10,o11,o12,o13,o14,o15,o16,o17⟩:=hSw);go_simp;try with_reducible rfl)
   try simp only[Act.put,lA,lB,lC]
   refine wpAnyH_take (i:=10) (v:=?_) rfl (by kernel_rfl) (by kernel_rfl) (by kernel_rfl) (fun _ _ _ h=>h) (Or.inl ⟨by kernel_rfl,?_⟩) (by assumption) ?_
   rotate_left
   ·(intro w hSw;(try dsimp only at hSw);(try obtain⟨o0,o1,o2,o3,o4,o5,o6,o7,o8,o9,o10,o11,o12,o13,o14,o15,o16,o17⟩:=hSw);go_simp;try with_reducible rfl)
   try simp only[Act.put,lA,lB,lC]
   refine wpAnyH_ready (rs:=[11]) (by kernel_rfl) (by simp) ?_
   refine AllReadyH.cons rfl (fun K hK=>?_) AllReadyH.nil
   go_simp
   refine (HC.out _ Hbdd.out).mono ?_
   rintro e wy ⟨rfl,hbyy⟩
   have hby:=Hbdd.out.trans (hbyy.mono Hbdd.out.size)
   have hSy:=Hcz.out _ hby
   obtain⟨Hby,Hbyy⟩:=hd2 hby hbyy;clear hby hbyy
   go_wp2_with fail
   refine hK.out _ _ (by exact hSy) (fun hHeld=>?_)
   clear hK K
   try simp only[Act.put,lA,lB,lC]
   cases cs with
   | false =>
    refine wpAnyH_take (i:=12) (v:=?_) rfl (by kernel_rfl) (by kernel_rfl) (by kernel_rfl) (fun _ _ _ h=>h) (Or.inl ⟨by kernel_rfl,?_⟩) (by assumption) ?_
    rotate_left
    ·(intro w hSw;(try dsimp only at hSw);(try obtain⟨o0,o1,o2,o3,o4,o5,o6,o7,o8,o9,o10,o11,o12,o13,o14,o15,o16,o17⟩:=hSw);go_simp;try with_reducible rfl)
    try simp only[Act.put,lA,lB,lC]
    refine wpAnyH_done (by kernel_rfl) ?_ _
    go_simp
    have hff:=Hbd.out rfl
    have Hff:=hd hff;clear hff
    go_wp2_with fail
    go_ret
    exact⟨by rw[Hrr.out,Hff.out];rfl,Hb1.out.trans (Hby.out.mono Hb1.out.size)⟩
   | true =>
    refine wpAnyH_take (i:=12) (v:=?_) rfl (by kernel_rfl) (by kernel_rfl) (by kernel_rfl) (fun _ _ _ h=>h) (Or.inl ⟨by kernel_rfl,?_⟩) (by assumption) ?_
    rotate_left
    ·(intro w hSw;(try dsimp only at hSw);(try obtain⟨o0,o1,o2,o3,o4,o5,o6,o7,o8,o9,o10,o11,o12,o13,o14,o15,o16,o17⟩:=hSw);go_simp;try with_reducible rfl)
    try simp only[Act.put,lA,lB,lC]
    refine wpAnyH_done (by kernel_rfl) ?_ _
    go_simp
    have hq:=Hnx.out rfl
    have Hq:=hd hq;clear hq
    go_wp2_with fail
    go_roundw
    case rel=>exact⟨k+1,by omega,by go_num,Hq.out,Hby.out⟩
    case measure=>simp[RowKit.intOf];omega
  obtain rfl:n1=k:=by omega
  have hs1:zgg L1 M1=true:=zqa (by rw[← Hl1.out,← Hr1.out,Hh1.out]) (fun j h1 h2=>hno j h1 h2 (by have:=Hl1.out;omega))
  have px:=za0 (za1 hbr Hp0.out) 1
  simp only[List.getElem?_toArray,List.getElem?_cons_zero,List.getElem?_cons_succ] at px
  obtain⟨Hs1,Hno,Hbr⟩:=hd3 hs1 hno hbr;clear hs1 hno hbr
  go_wp2_with fail
  clear px
  go_loopw [50] (fun i wr=>∃ k:Nat,k≤n2∧i = .int .i64 k∧(∀ j (h1:j < L2.length) (h2:j < M2.length),j < k→ziv L2[j]=ziv M2[j])∧Below W1.heap.size W1 wr) (fun i _=>n2 - (RowKit.intOf i).toNat)
  case atStart=>exact⟨0,Nat.zero_le _,rfl,fun _ _ _ h=>by omega,Hbr.out⟩
  case round =>
   obtain⟨k,hk,rfl,hno,hbr⟩:=hrel
   have px:=za0 (za1 hbr Hp0.out) 1
   simp only[List.getElem?_toArray,List.getElem?_cons_zero,List.getElem?_cons_succ] at px
   by_cases hlt:k < n2
   ·have hkl:k < L2.length:=by have:=Hl2.out;omega
    have hkm:k < M2.length:=by have:=Hr2.out;have:=Hh2.out;omega
    obtain⟨x,hx⟩ : ∃ x,x=L2[k]:=⟨_,rfl⟩
    obtain⟨y,hy⟩ : ∃ x,x=M2[k]:=⟨_,rfl⟩
    obtain⟨b,off,xa1,xc1,rfl,x0,x1,x2,rx1⟩:=Hg2.out k x (by rw[hx];exact List.getElem?_eq_getElem hkl)
    obtain⟨b',off',ya1,yc1,rfl,y0,y1,y2,ry1⟩:=Hf2.out k y (by rw[hy];exact List.getElem?_eq_getElem hkm)
    have hnx:x.1=y.1→x.2.1=y.2.1→∀ j (h1:j < L2.length) (h2:j < M2.length),j < k+1→ziv L2[j]=ziv M2[j]:=fun h h' j h1 h2 hjk=>by
     by_cases e:j=k
     ·subst e
      rw[← hx,← hy]
      unfold ziv
      rw[h,h']
     exact hno j h1 h2 (by omega)
    have hbd:¬ (x.1=y.1∧x.2.1=y.2.1)→zgh L2 M2=false:=fun h=>decide_eq_false (zm5 hkl hkm (by
     rw[← hx,← hy]
     unfold ziv
     intro e
     simp only[Prod.mk.injEq,and_true] at e
     exact h e))
    have hC:=fun (W:World) (k:Below W1.heap.size W1 W)=>zfr (zak rx1 k) (zak ry1 k)
    obtain⟨xn1,hxn1⟩ : ∃ z,z=x.1:=⟨_,rfl⟩
    obtain⟨xz1,hxz1⟩ : ∃ z,z=x.2.1.length:=⟨_,rfl⟩
    obtain⟨xln,hxln⟩ : ∃ z,z=x.2.2:=⟨_,rfl⟩
    rw[← hxn1] at x0 hnx hbd
    rw[← hxz1] at x1 hC rx1
    rw[← hxln] at x2
    obtain⟨yn1,hyn1⟩ : ∃ z,z=y.1:=⟨_,rfl⟩
    obtain⟨yz1,hyz1⟩ : ∃ z,z=y.2.1.length:=⟨_,rfl⟩
    obtain⟨yln,hyln⟩ : ∃ z,z=y.2.2:=⟨_,rfl⟩
    rw[← hyn1] at y0 hnx hbd
    rw[← hyz1] at y1 hC ry1
    rw[← hyln] at y2
    obtain⟨cs,hcs⟩ : ∃ c,c=decide (x.2.1=y.2.1):=⟨_,rfl⟩
    rw[← hcs] at hC
    have hzz:=Txt.eq_dec xn1 yn1
    obtain⟨cn,hcn⟩ : ∃ c,c=decide (xn1=yn1):=⟨_,rfl⟩
    rw[← hcn] at hzz
    have x0:=cell_later hbr x0
    have x1:=cell_later hbr x1
    have x2:=cell_later hbr x2
    obtain⟨wa,hwa⟩ : ∃ W,W=wr.alloc (.cells #[.string xn1,.slice xa1 xz1 xc1,.int .i64 xln] 47):=⟨_,rfl⟩
    obtain⟨ba,hba⟩ : ∃ z,z=wr.heap.size:=⟨_,rfl⟩
    have pa:wa.heap[ba]? = some (.cells #[.string xn1,.slice xa1 xz1 xc1,.int .i64 xln] 47 (0,0)):=by rw[hwa,hba];exact heap_alloc_new _ _
    have hb1':Below wr.heap.size wr wa:=by rw[hwa];exact za2 _ _
    have hbr1:=hbr.trans (hb1'.mono hbr.size)
    have qx1:=za0 (za1 hbr1 Hp1.out) 1
    simp only[List.getElem?_toArray,List.getElem?_cons_zero,List.getElem?_cons_succ] at qx1
    have y0:=cell_later hbr1 y0
    have y1:=cell_later hbr1 y1
    have y2:=cell_later hbr1 y2
    obtain⟨wb,hwb⟩ : ∃ W,W=wa.alloc (.cells #[.string yn1,.slice ya1 yz1 yc1,.int .i64 yln] 47):=⟨_,rfl⟩
    obtain⟨bb,hbb⟩ : ∃ z,z=wa.heap.size:=⟨_,rfl⟩
    have pb:wb.heap[bb]? = some (.cells #[.string yn1,.slice ya1 yz1 yc1,.int .i64 yln] 47 (0,0)):=by rw[hwb,hbb];exact heap_alloc_new _ _
    have hb2:Below wa.heap.size wa wb:=by rw[hwb];exact za2 _ _
    have hbr2:=hbr1.trans (hb2.mono hbr1.size)
    have pa2:=za1 hb2 pa
    have hC1:=hC _ hbr2
    have k5:(0:Int)≤(k:Int):=by omega
    have k6:(k:Int) < (n2:Int):=by omega
    have k7:(k:Int) < (m2:Int):=by have:=Hh2.out;omega
    have w0:=za0 pa2 0
    have w1:=za0 pa2 1
    have v0:=za0 pb 0
    have v1:=za0 pb 1
    simp only[List.getElem?_toArray,List.getElem?_cons_zero,List.getElem?_cons_succ] at w0 w1 v0 v1
    obtain⟨Hno,Hnx,Hbd,Hx,Hy,Hcs,Hcn,HC,HC1,Hpa,Hpb,Hpa2,Hb1',Hb2,Hbr,Hbr1⟩:=hd16 hno hnx hbd hx hy hcs hcn hC hC1 pa pb pa2 hb1' hb2 hbr hbr1;obtain⟨Hbr2,Hrx1,Hry1,Hxn1,Hxz1,Hxln,Hyn1,Hyz1,Hyln⟩:=hd9 hbr2 rx1 ry1 hxn1 hxz1 hxln hyn1 hyz1 hyln;clear hno hnx hbd hx hy hcs hcn hC hC1 pa pb pa2 hb1' hb2 hbr hbr1 hbr2 rx1 ry1 hxn1 hxz1 hxln hyn1 hyz1 hyln
    go_upto_region 13 with (fail)
    rw[← hwa,← hba]
    clear hwa hba x0 x1 x2 px
    go_upto_region 14 with (fail)
    rw[← hwb,← hbb]
    clear hwb hbb y0 y1 y2 qx1
    cases cn with
    | false =>
     have hff:zgh L2 M2=false:=Hbd.out fun h=>by have:=Hcn.out;rw[h.1] at this;simp at this
     have Hff:=hd hff;clear hff
     go_wp2_with fail
     go_ret
     exact⟨by rw[Hrr.out,Hff.out,Bool.and_false];rfl,Hb1.out.trans (Hbr2.out.mono Hb1.out.size)⟩
    | true =>
     go_wp2_with fail
     refine HC1.out.mono ?_
     rintro e' wy ⟨rfl,qn,rfl⟩
     have hby:=za6 Hbr2.out qn
     generalize wb.drewN qn=wy at hby ⊢
     clear w0 w1 v0 v1
     cases cs with
     | false =>
      have hff:zgh L2 M2=false:=Hbd.out fun h=>by have:=Hcs.out;rw[h.2] at this;simp at this
      obtain⟨Hff,Hby⟩:=hd2 hff hby;clear hff hby
      go_wp2_with fail
      go_ret
      exact⟨by rw[Hrr.out,Hff.out,Bool.and_false];rfl,Hb1.out.trans (Hby.out.mono Hb1.out.size)⟩
     | true =>
      have hq:=Hnx.out (of_decide_eq_true Hcn.out.symm) (of_decide_eq_true Hcs.out.symm)
      obtain⟨Hq,Hby⟩:=hd2 hq hby;clear hq hby
      go_wp2_with fail
      go_roundw
      case rel=>exact⟨k+1,by omega,by go_num,Hq.out,Hby.out⟩
      case measure=>simp[RowKit.intOf];omega
   obtain rfl:n2=k:=by omega
   have hs2:zgh L2 M2=true:=decide_eq_true (zis (by rw[← Hl2.out,← Hr2.out,Hh2.out]) (fun j h1 h2=>hno j h1 h2 (by have:=Hl2.out;omega)))
   clear px
   obtain⟨Hs2,Hno,Hbr⟩:=hd3 hs2 hno hbr;clear hs2 hno hbr
   go_wp2_with fail
   go_ret
   exact⟨by rw[Hrr.out,Hs1.out,Hs2.out];rfl,Hb1.out.trans (Hbr.out.mono Hb1.out.size)⟩
end

section
open Go.RowKit Go.Shelf VerN VarM
theorem zg2:Tryz.prog.cellsOf 9=1:=by kernel_rfl
theorem zfh {α β:Type} {P:Program} {t:TypeId} {R:Rd α} {S:Rd β} (hS:zd9 P t R) (hm:∀ w cs a,R w cs a→∃ b,S w cs b):zd9 P t S:=by
 intro H enc w base spare held fuel cs x hx
 obtain⟨y,hy⟩:=hS enc w base spare held fuel cs x hx
 exact hm w cs y hy
abbrev RTwo:Rd (ByteArray × ByteArray × Unit):=zec 1 RStr (zec 1 RStr RNil)
theorem zny {w:World} {cs:List Value} {x:ByteArray × ByteArray × Unit} (h:RTwo w cs x):cs = [.string x.1,.string x.2.1]∧x.1.size≤maxLen∧x.2.1.size≤maxLen:=by
 obtain⟨a0,t0,rfl,l0,⟨rfl,z0⟩,a1,t1,rfl,l1,⟨rfl,z1⟩,h2⟩:=h
 obtain rfl:t1 = []:=h2
 exact⟨rfl,z0,z1⟩
theorem zqo:zd9 Tryz.prog 51 RTwo:=by
 refine zbs Tryz.underlying51 ?_
 have hN:Tryz.prog.cellsOf 51=0+1+1:=by kernel_rfl
 rw[hN]
 exact zah rfl zg2 (zd5 Tryz.underlying9) (zah rfl zg2 (zd5 Tryz.underlying9) zcn)
theorem zln:zd9 Tryz.prog 137 RTwo:=by
 refine zbs Tryz.underlying137 ?_
 have hN:Tryz.prog.cellsOf 137=0+1+1:=by kernel_rfl
 rw[hN]
 exact zah rfl zg2 (zd5 Tryz.underlying9) (zah rfl zg2 (zd5 Tryz.underlying9) zcn)
theorem ztw:zd9 Tryz.prog 51 RSpn:=zfh (R:=RTwo) (S:=RSpn) zqo fun _ _ x h=>⟨(x.1,x.2.1),zny h⟩
theorem zmz:zd9 Tryz.prog 137 RSet:=zfh (R:=RTwo) (S:=RSet) zln fun _ _ x h=>⟨(x.1,x.2.1),zny h⟩
theorem opens_sps:zd9 Tryz.prog 52 RSps:=zcg Tryz.underlying52 (by kernel_rfl) (by decide) ztw
theorem ztx:zd9 Tryz.prog 53 zcj:=zcg Tryz.underlying53 (by kernel_rfl) (by decide) zmz
def RSpq:Rd Spc3:=fun w cs s=>∃ v1 v2,cs = [.string s.1,v1,v2]∧s.1.size≤maxLen∧RSps w [v1] s.2.1∧zcj w [v2] s.2.2
abbrev RSpq3:Rd (ByteArray × List BSp × List Setg × Unit):=zec 1 RStr (zec 1 RSps (zec 1 zcj RNil))
theorem zqn:zd9 Tryz.prog 55 RSpq3:=by
 refine zbs Tryz.underlying55 ?_
 have hN:Tryz.prog.cellsOf 55=0+1+1+1:=by kernel_rfl
 rw[hN]
 exact zah rfl zg2 (zd5 Tryz.underlying9) (zah rfl (by kernel_rfl) opens_sps (zah rfl (by kernel_rfl) ztx zcn))
theorem spq_of {w:World} {cs:List Value} {x:ByteArray × List BSp × List Setg × Unit} (h:RSpq3 w cs x):RSpq w cs (x.1,x.2.1,x.2.2.1):=by
 obtain⟨a0,t0,rfl,l0,⟨rfl,z0⟩,a1,t1,rfl,l1,h1,a2,t2,rfl,l2,h2,h3⟩:=h
 obtain rfl:t2 = []:=h3
 match a1,l1,a2,l2 with
 | [v1],_,[v2],_=>exact⟨v1,v2,rfl,z0,h1,h2⟩
theorem zh5:zd9 Tryz.prog 55 RSpq:=zfh (R:=RSpq3) (S:=RSpq) zqn fun _ _ x h=>⟨_,spq_of h⟩
end

section
open Go.RowKit Go.Shelf VerN VarM
theorem zfv:zd9 Tryz.prog 41 RTs:=zcg Tryz.underlying41 (by kernel_rfl) (by decide) (zd5 Tryz.underlying9)
abbrev RRls2:Rd (ByteArray × Bool × Unit):=zec 1 RStr (zec 1 RBool RNil)
theorem zty:zd9 Tryz.prog 66 zgw:=zfh (R:=RRls2) (S:=zgw) (by
 refine zbs Tryz.underlying66 ?_
 have hN:Tryz.prog.cellsOf 66=0+1+1:=by kernel_rfl
 rw[hN]
 exact zah rfl zg2 (zd5 Tryz.underlying9) (zah rfl (by kernel_rfl) (zu3 Tryz.underlying4) zcn)) fun w cs x h=>by
 obtain⟨a0,t0,rfl,l0,⟨rfl,z0⟩,a1,t1,rfl,l1,h1,h2⟩:=h
 obtain rfl:t1 = []:=h2
 obtain rfl:a1 = [.bool x.2.1]:=h1
 exact⟨(x.1,x.2.1),rfl⟩
abbrev RVar2:Rd (ByteArray × List ByteArray × Unit):=zec 1 RStr (zec 1 RTs RNil)
theorem ztv:zd9 Tryz.prog 68 zg6:=zfh (R:=RVar2) (S:=zg6) (by
 refine zbs Tryz.underlying68 ?_
 have hN:Tryz.prog.cellsOf 68=0+1+1:=by kernel_rfl
 rw[hN]
 exact zah rfl zg2 (zd5 Tryz.underlying9) (zah rfl (by kernel_rfl) zfv zcn)) fun w cs x h=>by
 obtain⟨a0,t0,rfl,l0,⟨rfl,z0⟩,a1,t1,rfl,l1,h1,h2⟩:=h
 obtain rfl:t1 = []:=h2
 match a1,l1 with
 | [v],_=>exact⟨(x.1,x.2.1),v,rfl,h1⟩
abbrev RDep3:Rd (Spc3 × Spc3 × Int × Unit):=zec 3 RSpq (zec 3 RSpq (zec 1 (RInt .i64) RNil))
theorem dep_of3 {w:World} {cs:List Value} {x:Spc3 × Spc3 × Int × Unit} (h:RDep3 w cs x):zd2 w cs (x.1,x.2.1,x.2.2.1):=by
 obtain⟨a0,t0,rfl,l0,⟨v1,v2,rfl,z0,h1,h2⟩,a1,t1,rfl,l1,⟨v3,v4,rfl,z1,h3,h4⟩,a2,t2,rfl,l2,⟨rfl,_⟩,h5⟩:=h
 obtain rfl:t2 = []:=h5
 exact⟨_,_,_,_,_,_,rfl,⟨rfl,h1,h2⟩,rfl,h3,h4⟩
theorem zu2:zd9 Tryz.prog 96 zd2:=zfh (R:=RDep3) (S:=zd2) (by
 refine zbs Tryz.underlying96 ?_
 have hN:Tryz.prog.cellsOf 96=0+3+3+1:=by kernel_rfl
 rw[hN]
 exact zah rfl (by kernel_rfl) zh5 (zah rfl (by kernel_rfl) zh5 (zah rfl (by kernel_rfl) (zi8 Tryz.underlying3) zcn))) fun w cs x h=>⟨_,dep_of3 h⟩
theorem zqr:zd9 Tryz.prog 98 zd2:=zfh (R:=RDep3) (S:=zd2) (by
 refine zbs Tryz.underlying98 ?_
 have hN:Tryz.prog.cellsOf 98=0+3+3+1:=by kernel_rfl
 rw[hN]
 exact zah rfl (by kernel_rfl) zh5 (zah rfl (by kernel_rfl) zh5 (zah rfl (by kernel_rfl) (zi8 Tryz.underlying3) zcn))) fun w cs x h=>⟨_,dep_of3 h⟩
abbrev RPf3:Rd (ByteArray × List ByteArray × Int × Unit):=zec 1 RStr (zec 1 RTs (zec 1 (RInt .i64) RNil))
theorem opens_pfM:zd9 Tryz.prog 47 RPfM:=zfh (R:=RPf3) (S:=RPfM) (by
 refine zbs Tryz.underlying47 ?_
 have hN:Tryz.prog.cellsOf 47=0+1+1+1:=by kernel_rfl
 rw[hN]
 exact zah rfl zg2 (zd5 Tryz.underlying9) (zah rfl (by kernel_rfl) zfv (zah rfl (by kernel_rfl) (zi8 Tryz.underlying3) zcn))) fun w cs x h=>by
 obtain⟨a0,t0,rfl,l0,⟨rfl,z0⟩,a1,t1,rfl,l1,h1,a2,t2,rfl,l2,⟨rfl,_⟩,h2⟩:=h
 obtain rfl:t2 = []:=h2
 match a1,l1 with
 | [v],_=>exact⟨(x.1,x.2.1,x.2.2.1),v,rfl,h1⟩
theorem zqp:zd9 Tryz.prog 39 (zal 2 zgw):=zcg Tryz.underlying39 (by kernel_rfl) (by decide) zty
theorem zqm:zd9 Tryz.prog 40 (zal 2 zg6):=zcg Tryz.underlying40 (by kernel_rfl) (by decide) ztv
theorem zqq:zd9 Tryz.prog 42 (zal 7 zd2):=zcg Tryz.underlying42 (by kernel_rfl) (by decide) zu2
theorem zop:zd9 Tryz.prog 43 (zal 7 zd2):=zcg Tryz.underlying43 (by kernel_rfl) (by decide) zqr
theorem zu1:zd9 Tryz.prog 23 (zal 3 RPfM):=zcg Tryz.underlying23 (by kernel_rfl) (by decide) opens_pfM
abbrev RPk8:Rd (ByteArray × Int × List RlsM × List zix × List ByteArray × List DepM × List DepM × List ByteArray × Unit) :=
 zec 1 RStr (zec 1 (RInt .i64) (zec 1 (zal 2 zgw) (zec 1 (zal 2 zg6) (zec 1 RTs (zec 1 (zal 7 zd2) (zec 1 (zal 7 zd2) (zec 1 RTs RNil)))))))
theorem opens_pkM:zd9 Tryz.prog 45 RPkM:=zfh (R:=RPk8) (S:=RPkM) (by
 refine zbs Tryz.underlying45 ?_
 have hN:Tryz.prog.cellsOf 45=0+1+1+1+1+1+1+1+1:=by kernel_rfl
 rw[hN]
 exact zah rfl zg2 (zd5 Tryz.underlying9) (zah rfl (by kernel_rfl) (zi8 Tryz.underlying3) (zah rfl (by kernel_rfl) zqp (zah rfl (by kernel_rfl) zqm
  (zah rfl (by kernel_rfl) zfv (zah rfl (by kernel_rfl) zqq (zah rfl (by kernel_rfl) zop (zah rfl (by kernel_rfl) zfv zcn)))))))) fun w cs x h=>by
 obtain⟨a0,t0,rfl,l0,⟨rfl,z0⟩,a1,t1,rfl,l1,⟨rfl,_⟩,a2,t2,rfl,l2,h2,a3,t3,rfl,l3,h3,a4,t4,rfl,l4,h4,a5,t5,rfl,l5,h5,a6,t6,rfl,l6,h6,a7,t7,rfl,l7,h7,h8⟩:=h
 obtain rfl:t7 = []:=h8
 match a2,l2,a3,l3,a4,l4,a5,l5,a6,l6,a7,l7 with
 | [v2],_,[v3],_,[v4],_,[v5],_,[v6],_,[v7],_=>exact⟨⟨x.1,x.2.1,x.2.2.1,x.2.2.2.1,x.2.2.2.2.1,x.2.2.2.2.2.1,x.2.2.2.2.2.2.1,x.2.2.2.2.2.2.2.1⟩,v2,v3,v4,v5,v6,v7,rfl,h2,h3,h4,h5,h6,h7⟩
theorem zu0:zd9 Tryz.prog 22 (zal 8 RPkM):=zcg Tryz.underlying22 (by kernel_rfl) (by decide) opens_pkM
abbrev RRc2:Rd (List PkgM × List PrfM × Unit):=zec 1 (zal 8 RPkM) (zec 1 (zal 3 RPfM) RNil)
def RRcpC:Rd RcpM:=fun w cs x=>∃ v u,cs = [v,u]∧zi1 w v u x
theorem ztz:zd9 Tryz.prog 25 RRcpC:=zfh (R:=RRc2) (S:=RRcpC) (by
 refine zbs Tryz.underlying25 ?_
 have hN:Tryz.prog.cellsOf 25=0+1+1:=by kernel_rfl
 rw[hN]
 exact zah rfl (by kernel_rfl) zu0 (zah rfl (by kernel_rfl) zu1 zcn)) fun w cs x h=>by
 obtain⟨a0,t0,rfl,l0,h0,a1,t1,rfl,l1,h1,h2⟩:=h
 obtain rfl:t1 = []:=h2
 match a0,l0,a1,l1 with
 | [v],_,[u],_=>exact⟨⟨x.1,x.2.1⟩,v,u,rfl,h0,h1⟩
theorem zkh:OpensZ Tryz.prog 25 RRcpC:=opensZ_of ztz
theorem zsd {w:World} {cs:Array Value} {x:RcpM} (h:RRcpC w cs.toList x):∃ v u,cs=#[v,u]∧zi1 w v u x:=by
 obtain⟨v,u,hc,h1⟩:=h
 exact⟨v,u,by rw[← Array.toArray_toList (xs:=cs),hc],h1⟩
end
end Go.Proofs.YthgibhhbmmkjmaaGreatDoor
