/- Walks and plain facts. Texts merged: EqfPkg, PnP, RcL, RcU, RpC, RsV, RsP. Condition: none beyond what each says. -/
import Derived.Deep.RegionLaw
import Derived.Test.YthgibhhbmmkjmaaGreatDoorPrintApartAll9
set_option linter.unusedVariables false
set_option linter.unusedSimpArgs false
set_option maxRecDepth 10000
set_option maxHeartbeats 4000000
namespace Go.Proofs.YthgibhhbmmkjmaaGreatDoor
section
open Go.RowKit Go.Shelf Go.Lib VerN
attribute [local go_sem ↓] Go.wp_at_zero Go.wp_at_succ
def zt5 (cs:List Value):Prop:=∃ (p0:ByteArray) (p1:Int) (p2:Option Addr) (pn2:Nat) (pc2:Nat) (p3:Option Addr) (pn3:Nat) (pc3:Nat) (p4:Option Addr) (pn4:Nat) (pc4:Nat) (p5:Option Addr) (pn5:Nat) (pc5:Nat) (p6:Option Addr) (pn6:Nat) (pc6:Nat) (p7:Option Addr) (pn7:Nat) (pc7:Nat),cs = [.string p0,.int .i64 p1,.slice p2 pn2 pc2,.slice p3 pn3 pc3,.slice p4 pn4 pc4,.slice p5 pn5 pc5,.slice p6 pn6 pc6,.slice p7 pn7 pc7]
theorem zum {α:Type} {R:Rd α} (hR:zfi R) (hsh:∀ W cs x,R W cs x→zt5 cs) {w:World} {v u:Value} {l m:List α} (h:zal 8 R w [v] l) (hm:zal 8 R w [u] m)
  {f:FuncId} (eg:∀ args w,(callFunc f args).run Tryz.prog w = .ok (.enter f args) w) {g:α→α→Bool}
  (hf:∀ W cs ds x y,Below w.heap.size w W→R W cs x→R W ds y→x∈l→y∈m→Calls Tryz.prog f #[.agg cs.toArray,.agg ds.toArray] W fun e w'=>e = .returned (.bool (g x y))∧Below W.heap.size W w') :
  Calls Tryz.prog 28 #[v,u,.func (.func f) #[] #[]] w fun e w'=>e = .returned (.bool (zen g l m))∧Below w.heap.size w w':=by
 obtain⟨a,cap,rfl⟩:=zb4 h
 obtain⟨a2,cap2,rfl⟩:=zb4 hm
 obtain⟨-,hz,g1⟩:=ze1 h
 obtain⟨-,hz2,g2⟩:=ze1 hm
 obtain⟨n,hn⟩ : ∃ n,n=l.length:=⟨_,rfl⟩
 obtain⟨n2,hn2⟩ : ∃ n,n=m.length:=⟨_,rfl⟩
 obtain⟨r,hr⟩ : ∃ r,r=zen g l m:=⟨_,rfl⟩
 rw[← hr]
 rw[← hn] at hz h ⊢
 rw[← hn2] at hz2 hm ⊢
 obtain⟨Hh,Hm,Hg1,Hg2,Hn,Hn2,Hr,Hf,HR,Hsh⟩:=hd10 h hm g1 g2 hn hn2 hr hf hR hsh;clear h hm g1 g2 hn hn2 hr hf hR hsh
 go_enter Tryz.func28,Tryz.ntmps28
 by_cases hne:n=n2
 case neg =>
  have k1:((n:Int) != (n2:Int))=true:=by simp;omega
  have hff:r=false:=by rw[Hr.out];exact zgq (by rw[← Hn.out,← Hn2.out];exact hne)
  obtain⟨Hff,Hne⟩:=hd2 hff hne;clear hff hne
  go_wp2_with fail
  go_ret
  exact⟨by rw[Hff.out];rfl,Below.refl _ _⟩
 have k1:((n:Int) != (n2:Int))=false:=by simp;omega
 have Hne:=hd hne;clear hne
 go_wp2_with fail
 clear k1
 go_loopw [17] (fun i wr=>∃ k:Nat,k≤n∧i = .int .i64 k∧(∀ j (h1:j < l.length) (h2:j < m.length),j < k→g l[j] m[j]=true)∧Below w.heap.size w wr) (fun i _=>n - (RowKit.intOf i).toNat)
 case atStart=>exact⟨0,Nat.zero_le _,rfl,fun _ _ _ h=>by omega,Below.refl _ _⟩
 case round =>
  obtain⟨k,hk,rfl,hno,hbr⟩:=hrel
  by_cases hlt:k < n
  ·have hkl:k < l.length:=by have:=Hn.out;omega
   have hkm:k < m.length:=by have:=Hn2.out;have:=Hne.out;omega
   obtain⟨b,off,ecs,rfl,-,hpc,hp⟩:=Hg1.out k _ (List.getElem?_eq_getElem hkl)
   obtain⟨b2,off2,ecs2,rfl,-,hqc,hq⟩:=Hg2.out k _ (List.getElem?_eq_getElem hkm)
   obtain⟨p0,p1,p2,pn2,pc2,p3,pn3,pc3,p4,pn4,pc4,p5,pn5,pc5,p6,pn6,pc6,p7,pn7,pc7,rfl⟩:=Hsh.out _ _ _ hp
   obtain⟨q0,q1,q2,qn2,qc2,q3,qn3,qc3,q4,qn4,qc4,q5,qn5,qc5,q6,qn6,qc6,q7,qn7,qc7,rfl⟩:=Hsh.out _ _ _ hq
   have px0:=cell_later hbr (hpc 0 _ rfl)
   have px1:=cell_later hbr (hpc 1 _ rfl)
   have px2:=cell_later hbr (hpc 2 _ rfl)
   have px3:=cell_later hbr (hpc 3 _ rfl)
   have px4:=cell_later hbr (hpc 4 _ rfl)
   have px5:=cell_later hbr (hpc 5 _ rfl)
   have px6:=cell_later hbr (hpc 6 _ rfl)
   have px7:=cell_later hbr (hpc 7 _ rfl)
   rw[Nat.add_zero] at px0
   obtain⟨wa,hwa⟩ : ∃ W,W=wr.alloc (.cells #[.string p0,.int .i64 p1,.slice p2 pn2 pc2,.slice p3 pn3 pc3,.slice p4 pn4 pc4,.slice p5 pn5 pc5,.slice p6 pn6 pc6,.slice p7 pn7 pc7] 45):=⟨_,rfl⟩
   obtain⟨ba,hba⟩ : ∃ z,z=wr.heap.size:=⟨_,rfl⟩
   have pa:wa.heap[ba]? = some (.cells #[.string p0,.int .i64 p1,.slice p2 pn2 pc2,.slice p3 pn3 pc3,.slice p4 pn4 pc4,.slice p5 pn5 pc5,.slice p6 pn6 pc6,.slice p7 pn7 pc7] 45 (0,0)):=by rw[hwa,hba];exact heap_alloc_new _ _
   have hb1:Below wr.heap.size wr wa:=by rw[hwa];exact za2 _ _
   have hbr1:=hbr.trans (hb1.mono hbr.size)
   have qx0:=cell_later hbr1 (hqc 0 _ rfl)
   have qx1:=cell_later hbr1 (hqc 1 _ rfl)
   have qx2:=cell_later hbr1 (hqc 2 _ rfl)
   have qx3:=cell_later hbr1 (hqc 3 _ rfl)
   have qx4:=cell_later hbr1 (hqc 4 _ rfl)
   have qx5:=cell_later hbr1 (hqc 5 _ rfl)
   have qx6:=cell_later hbr1 (hqc 6 _ rfl)
   have qx7:=cell_later hbr1 (hqc 7 _ rfl)
   rw[Nat.add_zero] at qx0
   obtain⟨wb,hwb⟩ : ∃ W,W=wa.alloc (.cells #[.string q0,.int .i64 q1,.slice q2 qn2 qc2,.slice q3 qn3 qc3,.slice q4 qn4 qc4,.slice q5 qn5 qc5,.slice q6 qn6 qc6,.slice q7 qn7 qc7] 45):=⟨_,rfl⟩
   obtain⟨bb,hbb⟩ : ∃ z,z=wa.heap.size:=⟨_,rfl⟩
   have pb:wb.heap[bb]? = some (.cells #[.string q0,.int .i64 q1,.slice q2 qn2 qc2,.slice q3 qn3 qc3,.slice q4 qn4 qc4,.slice q5 qn5 qc5,.slice q6 qn6 qc6,.slice q7 qn7 qc7] 45 (0,0)):=by rw[hwb,hbb];exact heap_alloc_new _ _
   have hb2:Below wa.heap.size wa wb:=by rw[hwb];exact za2 _ _
   have hbr2:=hbr1.trans (hb2.mono hbr1.size)
   have pa2:=za1 hb2 pa
   have y0:=za0 pa2 0
   have z0:=za0 pb 0
   have y1:=za0 pa2 1
   have z1:=za0 pb 1
   have y2:=za0 pa2 2
   have z2:=za0 pb 2
   have y3:=za0 pa2 3
   have z3:=za0 pb 3
   have y4:=za0 pa2 4
   have z4:=za0 pb 4
   have y5:=za0 pa2 5
   have z5:=za0 pb 5
   have y6:=za0 pa2 6
   have z6:=za0 pb 6
   have y7:=za0 pa2 7
   have z7:=za0 pb 7
   simp only[List.getElem?_toArray,List.getElem?_cons_zero,List.getElem?_cons_succ] at y0 z0 y1 z1 y2 z2 y3 z3 y4 z4 y5 z5 y6 z6 y7 z7
   have hC:=Hf.out wb _ _ _ _ hbr2 (HR.out _ _ _ _ hp hbr2) (HR.out _ _ _ _ hq hbr2) (List.getElem_mem hkl) (List.getElem_mem hkm)
   have hnx:g l[k] m[k]=true→∀ j (h1:j < l.length) (h2:j < m.length),j < k+1→g l[j] m[j]=true:=fun h j h1 h2 hjk=>by
    by_cases e:j=k
    ·subst e;exact h
    exact hno j h1 h2 (by omega)
   have hbd:g l[k] m[k]=false→zen g l m=false:=fun h=>zid hkl hkm h
   obtain⟨e,he⟩ : ∃ e,e=g l[k] m[k]:=⟨_,rfl⟩
   rw[← he] at hC hnx hbd
   have k5:(0:Int)≤(k:Int):=by omega
   have k6:(k:Int) < (n:Int):=by omega
   have k7:(k:Int) < (n2:Int):=by have:=Hne.out;omega
   clear hpc hqc
   obtain⟨Hno,Hnx,Hbd,He,HC,Hpa,Hpb,Hpa2,Hb1,Hb2,Hbr,Hbr1,Hbr2,Hp,Hq⟩:=hd15 hno hnx hbd he hC pa pb pa2 hb1 hb2 hbr hbr1 hbr2 hp hq;clear hno hnx hbd he hC pa pb pa2 hb1 hb2 hbr hbr1 hbr2 hp hq
   go_upto_region 6 with (fail)
   rw[← hwa,← hba]
   clear hwa hba px0 px1 px2 px3 px4 px5 px6 px7
   go_upto_region 7 with (fail)
   rw[← hwb,← hbb]
   clear hwb hbb qx0 qx1 qx2 qx3 qx4 qx5 qx6 qx7
   go_wp2_with fail
   refine HC.out.mono ?_
   rintro e' w9 ⟨rfl,hb9⟩
   have hbw9:=Hbr2.out.trans (hb9.mono Hbr2.out.size)
   clear y0 z0 y1 z1 y2 z2 y3 z3 y4 z4 y5 z5 y6 z6 y7 z7
   obtain⟨Hb9,Hbw9⟩:=hd2 hb9 hbw9;clear hb9 hbw9
   cases e with
   | true =>
    have hq2:=Hnx.out rfl
    have Hq2:=hd hq2;clear hq2
    go_wp2_with fail
    go_roundw
    case rel=>exact⟨k+1,by omega,by go_num,Hq2.out,Hbw9.out⟩
    case measure=>simp[RowKit.intOf];omega
   | false =>
    have hff:r=false:=by rw[Hr.out];exact Hbd.out rfl
    have Hff:=hd hff;clear hff
    go_wp2_with fail
    go_ret
    exact⟨by rw[Hff.out];rfl,Hbw9.out⟩
  obtain rfl:n=k:=by omega
  have hff:r=true:=by
   rw[Hr.out]
   exact zfn (by rw[← Hn.out,← Hn2.out,Hne.out]) (fun j h1 h2=>hno j h1 h2 (by have:=Hn.out;omega))
  obtain⟨Hno,Hff,Hbr⟩:=hd3 hno hff hbr;clear hno hff hbr
  go_wp2_with fail
  go_ret
  exact⟨by rw[Hff.out];rfl,Hbr.out⟩
end

section
open Go.Shelf Go.RowKit Go.Lib VerN VarM
attribute [local go_sem ↓] Go.wp_at_zero Go.wp_at_succ
theorem zl2 {f:FuncId} {args:Array Value} {W:World} {b:Bool} (h:Calls Tryz.prog f args W fun e w'=>e = .returned (.bool b)∧∃ q,w'=W.drewN q):Calls Tryz.prog f args W fun e w'=>e = .returned (.bool b)∧Below W.heap.size W w' :=
 h.mono fun e w' ⟨h1,q,h2⟩=>⟨h1,by rw[h2];exact za6 (Below.refl _ _) q⟩
theorem zgr {α β:Type} [DecidableEq β] {f:α→α→Bool} {g:α→β} (hf:∀ x y,f x y=true↔g x=g y) (l m:List α):zen f l m=decide (l.map g=m.map g):=by
 rw[Bool.eq_iff_iff,decide_eq_true_eq]
 exact eqAll_map fun x _ y _=>hf x y
theorem zti (W:World) (cs:List Value) (x:zix) (h:zg6 W cs x):zt4 cs:=by
 obtain⟨v,rfl,h1⟩:=h
 obtain⟨a1,c1,rfl,-⟩:=zba h1
 exact⟨_,_,_,_,rfl⟩
theorem ztj (W:World) (cs:List Value) (x:DepM) (h:zd2 W cs x):zt6 cs:=by
 obtain⟨a1,a2,a3,b1,b2,b3,rfl,h1,h2⟩:=h
 obtain⟨b1,c1,b2,c2,rfl,rfl,rfl,k1,k2⟩:=zc1 h1
 obtain⟨b3,c3,b4,c4,rfl,rfl,rfl,k3,k4⟩:=zc1 h2
 exact⟨_,_,_,_,_,_,_,_,_,_,_,_,_,_,_,rfl⟩
theorem zq5 (W:World) (cs:List Value) (x:DepM) (h:zd2 W cs x):zpt cs:=by
 obtain⟨a1,a2,a3,b1,b2,b3,rfl,h1,h2⟩:=h
 obtain⟨b1,c1,b2,c2,rfl,rfl,rfl,k1,k2⟩:=zc1 h1
 obtain⟨b3,c3,b4,c4,rfl,rfl,rfl,k3,k4⟩:=zc1 h2
 exact⟨_,_,_,_,_,_,_,_,_,_,_,_,_,_,_,rfl⟩
theorem shape_pfM (W:World) (cs:List Value) (x:PrfM) (h:RPfM W cs x):zps cs:=by
 obtain⟨v,rfl,h1⟩:=h
 obtain⟨a1,c1,rfl,-⟩:=zba h1
 exact⟨_,_,_,_,_,rfl⟩
theorem shape_pkM (W:World) (cs:List Value) (x:PkgM) (h:RPkM W cs x):zt5 cs:=by
 obtain⟨v2,v3,v4,v5,v6,v7,rfl,h⟩:=h
 obtain⟨b2,c2,b3,c3,b4,c4,b5,c5,b6,c6,b7,c7,rfl,rfl,rfl,rfl,rfl,rfl⟩:=RPkR.shape h
 exact⟨_,_,_,_,_,_,_,_,_,_,_,_,_,_,_,_,_,_,_,_,rfl⟩
theorem zuo {w:World} {v u:Value} {l m:List zix} (h:zal 2 zg6 w [v] l) (hm:zal 2 zg6 w [u] m) :
  Calls Tryz.prog 56 #[v,u,.func (.func 57) #[] #[]] w fun e w'=>e = .returned (.bool (decide (l=m)))∧Below w.heap.size w w':=by
 have h1:=zul zfj zti h hm (enters_of Tryz.func57 (by kernel_rfl) rfl) (g:=fun x y=>decide (x.1=y.1) && decide (x.2=y.2)) fun W cs ds x y _ hx hy _ _=>by
  obtain⟨v,rfl,h1⟩:=hx
  obtain⟨u,rfl,h2⟩:=hy
  obtain⟨a1,c1,rfl,-⟩:=zba h1
  obtain⟨a2,c2,rfl,-⟩:=zba h2
  exact zr9 h1 h2
 rw[zgr (g:=fun x=>x) (fun x y=>by simp[Prod.ext_iff])] at h1
 simpa using h1
theorem zuq {w:World} {v u:Value} {l m:List DepM} (h:zal 7 zd2 w [v] l) (hm:zal 7 zd2 w [u] m) :
  Calls Tryz.prog 58 #[v,u,.func (.func 59) #[] #[]] w fun e w'=>e = .returned (.bool (zc3 l m))∧Below w.heap.size w w':=by
 have h1:=zun zcl ztj h hm (enters_of Tryz.func59 (by kernel_rfl) rfl) (g:=fun x y=>decide (x.1=y.1) && decide (x.2.1=y.2.1)) fun W cs ds x y _ hx hy _ _=>by
  obtain⟨a1,a2,a3,b1,b2,b3,rfl,h1,h2⟩:=hx
  obtain⟨b1,c1,b2,c2,rfl,rfl,rfl,k1,k2⟩:=zc1 h1
  obtain⟨b3,c3,b4,c4,rfl,rfl,rfl,k3,k4⟩:=zc1 h2
  obtain⟨a1',a2',a3',b1',b2',b3',rfl,h1',h2'⟩:=hy
  obtain⟨d1,e1,d2,e2,rfl,rfl,rfl,j1,j2⟩:=zc1 h1'
  obtain⟨d3,e3,d4,e4,rfl,rfl,rfl,j3,j4⟩:=zc1 h2'
  exact zra k1 k2 k3 k4 j1 j2 j3 j4
 rw[zgr (g:=zdi) (fun x y=>by unfold zdi;simp)] at h1
 exact h1
theorem zrb {w:World} {v u:Value} {l m:List DepM} (h:zal 7 zd2 w [v] l) (hm:zal 7 zd2 w [u] m) :
  Calls Tryz.prog 61 #[v,u,.func (.func 62) #[] #[]] w fun e w'=>e = .returned (.bool (zc3 l m))∧Below w.heap.size w w':=by
 have h1:=zr8 zcl zq5 h hm (enters_of Tryz.func62 (by kernel_rfl) rfl) (g:=fun x y=>decide (x.1=y.1) && decide (x.2.1=y.2.1)) fun W cs ds x y _ hx hy _ _=>by
  obtain⟨a1,a2,a3,b1,b2,b3,rfl,h1,h2⟩:=hx
  obtain⟨b1,c1,b2,c2,rfl,rfl,rfl,k1,k2⟩:=zc1 h1
  obtain⟨b3,c3,b4,c4,rfl,rfl,rfl,k3,k4⟩:=zc1 h2
  obtain⟨a1',a2',a3',b1',b2',b3',rfl,h1',h2'⟩:=hy
  obtain⟨d1,e1,d2,e2,rfl,rfl,rfl,j1,j2⟩:=zc1 h1'
  obtain⟨d3,e3,d4,e4,rfl,rfl,rfl,j3,j4⟩:=zc1 h2'
  exact zpc k1 k2 k3 k4 j1 j2 j3 j4
 rw[zgr (g:=zdi) (fun x y=>by unfold zdi;simp)] at h1
 exact h1
theorem eqPfs_any {w:World} {v u:Value} {l m:List PrfM} (h:zal 3 RPfM w [v] l) (hm:zal 3 RPfM w [u] m) :
  Calls Tryz.prog 30 #[v,u,.func (.func 31) #[] #[]] w fun e w'=>e = .returned (.bool (zgh l m))∧Below w.heap.size w w':=by
 have h1:=zr7 zeq shape_pfM h hm (enters_of Tryz.func31 (by kernel_rfl) rfl) (g:=fun x y=>decide (x.1=y.1) && decide (x.2.1=y.2.1)) fun W cs ds x y _ hx hy _ _=>by
  obtain⟨v,rfl,h1⟩:=hx
  obtain⟨u,rfl,h2⟩:=hy
  obtain⟨a1,c1,rfl,-⟩:=zba h1
  obtain⟨a2,c2,rfl,-⟩:=zba h2
  exact zup h1 h2
 rw[zgr (g:=ziv) (fun x y=>by unfold ziv;simp)] at h1
 exact h1
theorem zkb {w:World} {p q:PkgM} {nm nm2:ByteArray} {li li2:Int} {b2:Option Addr} {n2 c2:Nat} {d2:Option Addr} {m2 e2:Nat} {b3:Option Addr} {n3 c3:Nat} {d3:Option Addr} {m3 e3:Nat} {b4:Option Addr} {n4 c4:Nat} {d4:Option Addr} {m4 e4:Nat} {b5:Option Addr} {n5 c5:Nat} {d5:Option Addr} {m5 e5:Nat} {b6:Option Addr} {n6 c6:Nat} {d6:Option Addr} {m6 e6:Nat} {b7:Option Addr} {n7 c7:Nat} {d7:Option Addr} {m7 e7:Nat}
  (hnp:p.name=nm) (hnq:q.name=nm2) (hp:RPkR w (.slice b2 n2 c2) (.slice b3 n3 c3) (.slice b4 n4 c4) (.slice b5 n5 c5) (.slice b6 n6 c6) (.slice b7 n7 c7) p) (hq:RPkR w (.slice d2 m2 e2) (.slice d3 m3 e3) (.slice d4 m4 e4) (.slice d5 m5 e5) (.slice d6 m6 e6) (.slice d7 m7 e7) q) :
  Calls Tryz.prog 29 #[.agg #[.string nm,.int .i64 li,.slice b2 n2 c2,.slice b3 n3 c3,.slice b4 n4 c4,.slice b5 n5 c5,.slice b6 n6 c6,.slice b7 n7 c7],.agg #[.string nm2,.int .i64 li2,.slice d2 m2 e2,.slice d3 m3 e3,.slice d4 m4 e4,.slice d5 m5 e5,.slice d6 m6 e6,.slice d7 m7 e7]] w fun e w'=>e = .returned (.bool (zes p q))∧Below w.heap.size w w':=by
 obtain⟨W1,hW1⟩ : ∃ W,W=(w.alloc (.cells #[.string nm,.int .i64 li,.slice b2 n2 c2,.slice b3 n3 c3,.slice b4 n4 c4,.slice b5 n5 c5,.slice b6 n6 c6,.slice b7 n7 c7] 45)).alloc (.cells #[.string nm2,.int .i64 li2,.slice d2 m2 e2,.slice d3 m3 e3,.slice d4 m4 e4,.slice d5 m5 e5,.slice d6 m6 e6,.slice d7 m7 e7] 45):=⟨_,rfl⟩
 obtain⟨g,hg⟩ : ∃ g,g=w.heap.size:=⟨_,rfl⟩
 have hb1:Below w.heap.size w W1:=by rw[hW1];exact (za2 _ _).alloc (by simp) _
 have hp0:W1.heap[g]? = some (.cells #[.string nm,.int .i64 li,.slice b2 n2 c2,.slice b3 n3 c3,.slice b4 n4 c4,.slice b5 n5 c5,.slice b6 n6 c6,.slice b7 n7 c7] 45 (0,0)):=by rw[hW1,hg];exact za1 (za2 _ _) (za9 rfl)
 have hp1:W1.heap[g+1]? = some (.cells #[.string nm2,.int .i64 li2,.slice d2 m2 e2,.slice d3 m3 e3,.slice d4 m4 e4,.slice d5 m5 e5,.slice d6 m6 e6,.slice d7 m7 e7] 45 (0,0)):=by rw[hW1,hg];exact za9 (by simp)
 have hpp:=hp.below hb1
 have hqq:=hq.below hb1
 have hrr0:=zog p q
 rw[hnp,hnq] at hrr0
 obtain⟨r,hrr⟩ : ∃ r,r=zes p q:=⟨_,rfl⟩
 rw[← hrr]
 rw[← hrr] at hrr0
 have heq:=Txt.eq_dec nm nm2
 obtain⟨bn,hbn⟩ : ∃ b,b=decide (nm=nm2):=⟨_,rfl⟩
 rw[← hbn] at heq hrr0
 have hC2:=fun (W:World) (k:Below W1.heap.size W1 W)=>zl2 (zpb (za3 zh2 _ _ _ _ hpp.1 k) (za3 zh2 _ _ _ _ hqq.1 k))
 obtain⟨c2,hc2⟩ : ∃ c,c=decide (p.rel=q.rel):=⟨_,rfl⟩
 rw[← hc2] at hrr0
 simp only[← hc2] at hC2
 have hC3:=fun (W:World) (k:Below W1.heap.size W1 W)=>zuo (za3 zfj _ _ _ _ hpp.2.1 k) (za3 zfj _ _ _ _ hqq.2.1 k)
 obtain⟨c3,hc3⟩ : ∃ c,c=decide (p.vars=q.vars):=⟨_,rfl⟩
 rw[← hc3] at hrr0
 simp only[← hc3] at hC3
 have hC4:=fun (W:World) (k:Below W1.heap.size W1 W)=>zl2 (zfd (zak hpp.2.2.1 k) (zak hqq.2.2.1 k))
 obtain⟨c4,hc4⟩ : ∃ c,c=decide (p.prov=q.prov):=⟨_,rfl⟩
 rw[← hc4] at hrr0
 simp only[← hc4] at hC4
 have hC7:=fun (W:World) (k:Below W1.heap.size W1 W)=>zl2 (zfd (zak hpp.2.2.2.2.2 k) (zak hqq.2.2.2.2.2 k))
 obtain⟨c7,hc7⟩ : ∃ c,c=decide (p.files=q.files):=⟨_,rfl⟩
 rw[← hc7] at hrr0
 simp only[← hc7] at hC7
 have hC5:=fun (W:World) (k:Below W1.heap.size W1 W)=>zuq (za3 zcl _ _ _ _ hpp.2.2.2.1 k) (za3 zcl _ _ _ _ hqq.2.2.2.1 k)
 obtain⟨c5,hc5⟩ : ∃ c,c=zc3 p.dep q.dep:=⟨_,rfl⟩
 rw[← hc5] at hrr0
 simp only[← hc5] at hC5
 have hC6:=fun (W:World) (k:Below W1.heap.size W1 W)=>zrb (za3 zcl _ _ _ _ hpp.2.2.2.2.1 k) (za3 zcl _ _ _ _ hqq.2.2.2.2.1 k)
 obtain⟨c6,hc6⟩ : ∃ c,c=zc3 p.conf q.conf:=⟨_,rfl⟩
 rw[← hc6] at hrr0
 simp only[← hc6] at hC6
 clear hrr
 have x0:=za0 hp0 0
 have y0:=za0 hp1 0
 simp only[List.getElem?_toArray,List.getElem?_cons_zero,List.getElem?_cons_succ] at x0 y0
 obtain⟨Hb1,Hp0,Hp1,Hpp,Hqq,Hrr0,Hp,Hq,Hnp,Hnq,Hbn,HC2,Hc2,HC3,Hc3,HC4⟩:=hd16 hb1 hp0 hp1 hpp hqq hrr0 hp hq hnp hnq hbn hC2 hc2 hC3 hc3 hC4;obtain⟨Hc4,HC7,Hc7,HC5,Hc5,HC6,Hc6⟩:=hd7 hc4 hC7 hc7 hC5 hc5 hC6 hc6;clear hb1 hp0 hp1 hpp hqq hrr0 hp hq hnp hnq hbn hC2 hc2 hC3 hc3 hC4 hc4 hC7 hc7 hC5 hc5 hC6 hc6
 go_enter Tryz.func29,Tryz.ntmps29
 go_upto_region 1 with (fail)
 rw[← hW1,← hg]
 clear hW1 hg
 cases bn with
 | false =>
  go_wp2_with fail
  go_ret
  exact⟨by rw[Hrr0.out];rfl,Hb1.out⟩
 | true =>
  have x2:=za0 (za1 (Below.refl W1.heap.size W1) Hp0.out) 2
  have y2:=za0 (za1 (Below.refl W1.heap.size W1) Hp1.out) 2
  simp only[List.getElem?_toArray,List.getElem?_cons_zero,List.getElem?_cons_succ] at x2 y2
  have hD2:=HC2.out _ (Below.refl W1.heap.size W1)
  have HD2:=hd hD2;clear hD2
  go_wp2_with fail
  refine HD2.out.mono ?_
  rintro e w2 ⟨rfl,hbb2⟩
  have hb2:=((Below.refl W1.heap.size W1)).trans (hbb2.mono ((Below.refl W1.heap.size W1)).size)
  clear x2 y2
  clear x0 y0 heq
  cases c2 with
  | false =>
   obtain⟨Hb2,Hbb2⟩:=hd2 hb2 hbb2;clear hb2 hbb2
   go_wp2_with fail
   go_ret
   exact⟨by rw[Hrr0.out];first | rfl | simp,Hb1.out.trans (Hb2.out.mono Hb1.out.size)⟩
  | true =>
   have x3:=za0 (za1 hb2 Hp0.out) 3
   have y3:=za0 (za1 hb2 Hp1.out) 3
   simp only[List.getElem?_toArray,List.getElem?_cons_zero,List.getElem?_cons_succ] at x3 y3
   have hD3:=HC3.out _ hb2
   have HD3:=hd hD3;clear hD3
   go_wp2_with fail
   refine HD3.out.mono ?_
   rintro e w3 ⟨rfl,hbb3⟩
   have hb3:=(hb2).trans (hbb3.mono (hb2).size)
   clear x3 y3
   cases c3 with
   | false =>
    obtain⟨Hb3,Hbb3⟩:=hd2 hb3 hbb3;clear hb3 hbb3
    go_wp2_with fail
    go_ret
    exact⟨by rw[Hrr0.out];first | rfl | simp,Hb1.out.trans (Hb3.out.mono Hb1.out.size)⟩
   | true =>
    have x4:=za0 (za1 hb3 Hp0.out) 4
    have y4:=za0 (za1 hb3 Hp1.out) 4
    simp only[List.getElem?_toArray,List.getElem?_cons_zero,List.getElem?_cons_succ] at x4 y4
    have hD4:=HC4.out _ hb3
    have HD4:=hd hD4;clear hD4
    go_wp2_with fail
    refine HD4.out.mono ?_
    rintro e w4 ⟨rfl,hbb4⟩
    have hb4:=(hb3).trans (hbb4.mono (hb3).size)
    clear x4 y4
    cases c4 with
    | false =>
     obtain⟨Hb4,Hbb4⟩:=hd2 hb4 hbb4;clear hb4 hbb4
     go_wp2_with fail
     go_ret
     exact⟨by rw[Hrr0.out];first | rfl | simp,Hb1.out.trans (Hb4.out.mono Hb1.out.size)⟩
    | true =>
     have x7:=za0 (za1 hb4 Hp0.out) 7
     have y7:=za0 (za1 hb4 Hp1.out) 7
     simp only[List.getElem?_toArray,List.getElem?_cons_zero,List.getElem?_cons_succ] at x7 y7
     have hD7:=HC7.out _ hb4
     have HD7:=hd hD7;clear hD7
     go_wp2_with fail
     refine HD7.out.mono ?_
     rintro e w7 ⟨rfl,hbb7⟩
     have hb7:=(hb4).trans (hbb7.mono (hb4).size)
     clear x7 y7
     cases c7 with
     | false =>
      obtain⟨Hb7,Hbb7⟩:=hd2 hb7 hbb7;clear hb7 hbb7
      go_wp2_with fail
      go_ret
      exact⟨by rw[Hrr0.out];first | rfl | simp,Hb1.out.trans (Hb7.out.mono Hb1.out.size)⟩
     | true =>
      have x5:=za0 (za1 hb7 Hp0.out) 5
      have y5:=za0 (za1 hb7 Hp1.out) 5
      simp only[List.getElem?_toArray,List.getElem?_cons_zero,List.getElem?_cons_succ] at x5 y5
      have hD5:=HC5.out _ hb7
      have HD5:=hd hD5;clear hD5
      go_wp2_with fail
      refine HD5.out.mono ?_
      rintro e w5 ⟨rfl,hbb5⟩
      have hb5:=(hb7).trans (hbb5.mono (hb7).size)
      clear x5 y5
      cases c5 with
      | false =>
       obtain⟨Hb5,Hbb5⟩:=hd2 hb5 hbb5;clear hb5 hbb5
       go_wp2_with fail
       go_ret
       exact⟨by rw[Hrr0.out];first | rfl | simp,Hb1.out.trans (Hb5.out.mono Hb1.out.size)⟩
      | true =>
       have x6:=za0 (za1 hb5 Hp0.out) 6
       have y6:=za0 (za1 hb5 Hp1.out) 6
       simp only[List.getElem?_toArray,List.getElem?_cons_zero,List.getElem?_cons_succ] at x6 y6
       have hD6:=HC6.out _ hb5
       have HD6:=hd hD6;clear hD6
       go_wp2_with fail
       refine HD6.out.mono ?_
       rintro e w6 ⟨rfl,hbb6⟩
       have hb6:=(hb5).trans (hbb6.mono (hb5).size)
       clear x6 y6
       obtain⟨Hb6,Hbb6⟩:=hd2 hb6 hbb6;clear hb6 hbb6
       go_wp2_with fail
       go_ret
       exact⟨by rw[Hrr0.out];first | rfl | simp,Hb1.out.trans (Hb6.out.mono Hb1.out.size)⟩
theorem zll {w:World} {x y:RcpM} {a1 a2 d1 d2:Option Addr} {n1 n2 c1 c2 m1 m2 e1 e2:Nat} (hp:zi1 w (.slice a1 n1 c1) (.slice a2 n2 c2) x) (hq:zi1 w (.slice d1 m1 e1) (.slice d2 m2 e2) y) :
  Calls Tryz.prog 12 #[.agg #[.slice a1 n1 c1,.slice a2 n2 c2],.agg #[.slice d1 m1 e1,.slice d2 m2 e2]] w fun e w'=>e = .returned (.bool (zfs x y))∧Below w.heap.size w w':=by
 obtain⟨W1,hW1⟩ : ∃ W,W=(w.alloc (.cells #[.slice a1 n1 c1,.slice a2 n2 c2] 25)).alloc (.cells #[.slice d1 m1 e1,.slice d2 m2 e2] 25):=⟨_,rfl⟩
 obtain⟨g,hg⟩ : ∃ g,g=w.heap.size:=⟨_,rfl⟩
 have hb1:Below w.heap.size w W1:=by rw[hW1];exact (za2 _ _).alloc (by simp) _
 have hp0:W1.heap[g]? = some (.cells #[.slice a1 n1 c1,.slice a2 n2 c2] 25 (0,0)):=by rw[hW1,hg];exact za1 (za2 _ _) (za9 rfl)
 have hp1:W1.heap[g+1]? = some (.cells #[.slice d1 m1 e1,.slice d2 m2 e2] 25 (0,0)):=by rw[hW1,hg];exact za9 (by simp)
 have hpp:=hp.below hb1
 have hqq:=hq.below hb1
 have hC1:=zum zgb shape_pkM hpp.1 hqq.1 (enters_of Tryz.func29 (by kernel_rfl) rfl) (g:=zes) fun W cs ds x y _ hx hy _ _=>by
  obtain⟨v2,v3,v4,v5,v6,v7,rfl,h⟩:=hx
  obtain⟨b2,c2,b3,c3,b4,c4,b5,c5,b6,c6,b7,c7,rfl,rfl,rfl,rfl,rfl,rfl⟩:=RPkR.shape h
  obtain⟨u2,u3,u4,u5,u6,u7,rfl,k⟩:=hy
  obtain⟨d2,e2,d3,e3,d4,e4,d5,e5,d6,e6,d7,e7,rfl,rfl,rfl,rfl,rfl,rfl⟩:=RPkR.shape k
  exact zkb rfl rfl h k
 rw[zgr (g:=tupP) (fun x y=>by unfold zes;simp)] at hC1
 have hC2:=fun (W:World) (k:Below W1.heap.size W1 W)=>eqPfs_any (za3 zeq _ _ _ _ hpp.2 k) (za3 zeq _ _ _ _ hqq.2 k)
 have x0:=za0 hp0 0
 have y0:=za0 hp1 0
 simp only[List.getElem?_toArray,List.getElem?_cons_zero,List.getElem?_cons_succ] at x0 y0
 have hrr:zfs x y=(decide (x.pk.map tupP=y.pk.map tupP) && zgh x.pf y.pf):=rfl
 rw[hrr]
 obtain⟨c1',hc1⟩ : ∃ c,c=decide (x.pk.map tupP=y.pk.map tupP):=⟨_,rfl⟩
 obtain⟨c2',hc2⟩ : ∃ c,c=zgh x.pf y.pf:=⟨_,rfl⟩
 rw[← hc1] at hC1
 simp only[← hc2] at hC2
 rw[← hc1,← hc2]
 clear hrr
 obtain⟨Hb1,Hp0,Hp1,Hpp,Hqq,Hp,Hq,HC1,HC2,Hc1,Hc2⟩:=hd11 hb1 hp0 hp1 hpp hqq hp hq hC1 hC2 hc1 hc2;clear hb1 hp0 hp1 hpp hqq hp hq hC1 hC2 hc1 hc2
 go_enter Tryz.func12,Tryz.ntmps12
 go_upto_region 1 with (fail)
 rw[← hW1,← hg]
 clear hW1 hg
 go_wp2_with fail
 refine HC1.out.mono ?_
 rintro e w2 ⟨rfl,hb2⟩
 have hbw:=Hb1.out.trans (hb2.mono Hb1.out.size)
 clear x0 y0
 cases c1' with
 | false =>
  obtain⟨Hb2,Hbw⟩:=hd2 hb2 hbw;clear hb2 hbw
  go_wp2_with fail
  go_ret
  exact⟨rfl,Hbw.out⟩
 | true =>
  have x1:=za0 (za1 hb2 Hp0.out) 1
  have y1:=za0 (za1 hb2 Hp1.out) 1
  simp only[List.getElem?_toArray,List.getElem?_cons_zero,List.getElem?_cons_succ] at x1 y1
  have hD:=HC2.out _ hb2
  obtain⟨Hb2,Hbw,HD⟩:=hd3 hb2 hbw hD;clear hb2 hbw hD
  go_wp2_with fail
  refine HD.out.mono ?_
  rintro e w3 ⟨rfl,hb3⟩
  have hbz:=Hbw.out.trans (hb3.mono Hbw.out.size)
  obtain⟨Hb3,Hbz⟩:=hd2 hb3 hbz;clear hb3 hbz
  go_wp2_with fail
  go_ret
  exact⟨by first | rfl | (rw[Bool.true_and]),Hbz.out⟩
end

section
open Go.RowKit Go.Shelf VerN VarM
open LexM (Wd)
theorem zsr:Elem Tryz.prog 39 66 (.agg #[.string ⟨#[]⟩,.bool false]) 2 24:=⟨Tryz.underlying39,by kernel_rfl,rfl,by decide⟩
theorem zng:Elem Tryz.prog 40 68 (.agg #[.string ⟨#[]⟩,.slice none 0 0]) 2 40:=⟨Tryz.underlying40,by kernel_rfl,rfl,by decide⟩
theorem zss:Elem Tryz.prog 42 96 (.agg #[.string ⟨#[]⟩,.slice none 0 0,.slice none 0 0,.string ⟨#[]⟩,.slice none 0 0,.slice none 0 0,.int .i64 0]) 7 136:=⟨Tryz.underlying42,by kernel_rfl,rfl,by decide⟩
theorem zpe:Elem Tryz.prog 43 98 (.agg #[.string ⟨#[]⟩,.slice none 0 0,.slice none 0 0,.string ⟨#[]⟩,.slice none 0 0,.slice none 0 0,.int .i64 0]) 7 136:=⟨Tryz.underlying43,by kernel_rfl,rfl,by decide⟩
theorem zni:Elem Tryz.prog 22 45 (.agg #[.string ⟨#[]⟩,.int .i64 0,.slice none 0 0,.slice none 0 0,.slice none 0 0,.slice none 0 0,.slice none 0 0,.slice none 0 0]) 8 168:=⟨Tryz.underlying22,by kernel_rfl,rfl,by decide⟩
theorem zie:Elem Tryz.prog 23 47 (.agg #[.string ⟨#[]⟩,.slice none 0 0,.int .i64 0]) 3 48:=⟨Tryz.underlying23,by kernel_rfl,rfl,by decide⟩
def FewP (p:PkgM):Prop:=p.rel.length≤70000∧p.vars.length≤70000∧p.prov.length≤70000∧p.dep.length≤70000∧p.conf.length≤70000∧p.files.length≤70000
section
variable {W : World} {t : Nat → Nat} {B pb cap : Nat} {ps : List PkgM} {p : PkgM} {dss : List (List Value)} {v2 v3 v4 v5 v6 v7 : Value}
theorem zcc.cells (L:zcc W t B (.slice (some ⟨pb,0,none⟩) (ps.length+1) cap) ps p dss v2 v3 v4 v5 v6 v7) :
  (∃ cur,W.heap[pb]? = some (.cells cur 45 (0,0)))∧W.cell? ⟨pb,ps.length * 8+2,none⟩=some v2∧W.cell? ⟨pb,ps.length * 8+3,none⟩=some v3∧W.cell? ⟨pb,ps.length * 8+4,none⟩=some v4∧W.cell? ⟨pb,ps.length * 8+5,none⟩=some v5∧W.cell? ⟨pb,ps.length * 8+6,none⟩=some v6∧W.cell? ⟨pb,ps.length * 8+7,none⟩=some v7:=by
 obtain⟨g,cap',hv,_,_,_,_,hc⟩:=zcs L.row (by omega)
 simp only[Value.slice.injEq,Option.some.injEq,Addr.mk.injEq,and_true,true_and] at hv
 obtain⟨rfl,_⟩:=hv
 have hl:=zfz L.row
 have go:∀ j u,([.string p.name,.int .i64 p.line,v2,v3,v4,v5,v6,v7] : List Value)[j]? = some u→W.cell? ⟨pb,ps.length * 8+j,none⟩=some u:=fun j u hu=>hc _ u (by
  rw[List.getElem?_append_right (by omega),hl,Nat.add_sub_cancel_left]
  exact hu)
 exact⟨zcf L.row pb rfl,go 2 _ rfl,go 3 _ rfl,go 4 _ rfl,go 5 _ rfl,go 6 _ rfl,go 7 _ rfl⟩
end
def ze4 (r:Nat) (a:Option Addr) (n c:Nat) (fin:Int) (ws:List Wd) (i:Nat) (t:Nat→Nat) (B xb:Nat) (vp vf:Value) (x:RcpM) (ps:List PkgM) (p:PkgM) (line:Int) (first:ByteArray) (w:World) (e:Ending) (w':World):Prop :=
 ((∃ q j t',e = .returned (.tuple #[])∧RcSt w' t' B xb vp vf ⟨ps ++ [q],x.pf⟩∧(j=ws.length→zb5 first line p (zam ws i)=some q)∧(j < ws.length→zb5 first line p (zam ws i)=none)∧j≤ws.length∧RBox r (.slice a n c) j fin w'∧∀ k,k < w.heap.size→t' k=t k) ∨
  (zb5 first line p (zam ws i)=none∧∃ j,e=zee (ze0 ws fin j)))∧Frm (fun k=>k=r∨t k≤9) w w'
theorem zb9 {r:Nat} {a:Option Addr} {n c:Nat} {fin:Int} {ws:List Wd} {i:Nat} {t:Nat→Nat} {B xb:Nat} {vp vf:Value} {x:RcpM} {ps:List PkgM} {p:PkgM} {line:Int} {first:ByteArray} {w w':World} {e:Ending} (h:zb5 first line p (zam ws i)=none) {j:Nat} (he:e=zee (ze0 ws fin j)) (hF:Frm (fun k=>k=r) w w'):ze4 r a n c fin ws i t B xb vp vf x ps p line first w e w' :=
 ⟨.inr ⟨h,j,he⟩,hF.mono fun _ _ h=>.inl h⟩
theorem zb0 {r:Nat} {a:Option Addr} {n c:Nat} {fin:Int} {ws:List Wd} {i j:Nat} {t t1 t':Nat→Nat} {B xb pb cap off:Nat} {vf v v9:Value} {x:RcpM} {ps:List PkgM} {p q:PkgM} {line:Int} {first:ByteArray} {w W w9:World} {e:Ending} {dss:List (List Value)} {u2 u3 u4 u5 u6 u7:Value}
  (h:RcSt W t1 B xb (.slice (some ⟨pb,0,none⟩) (ps.length+1) cap) vf x) (L':zcc (w9.setCell ⟨pb,off,none⟩ v9) t' B (.slice (some ⟨pb,0,none⟩) (ps.length+1) cap) ps q dss u2 u3 u4 u5 u6 u7)
  (hF:Frm (fun k=>k=r) w W) (hg:W.grownBy w9 v.ownBlock) (ht1:∀ k,k < w.heap.size→t1 k=t k) (ht':∀ k,k < W.heap.size→t' k=t1 k)
  (hv:∀ k,v.ownBlock=some k→Live (t1 k)∧¬ Ty W k) (hpb:t1 pb=1) (hpt:¬ Ty W pb) (hbx:RBox r (.slice a n c) j fin W) (hr:t1 r=10)
  (hj1:j=ws.length→zb5 first line p (zam ws i)=some q) (hj2:j < ws.length→zb5 first line p (zam ws i)=none) (hj3:j≤ws.length) (he:e = .returned (.tuple #[])) :
  ze4 r a n c fin ws i t B xb (.slice (some ⟨pb,0,none⟩) (ps.length+1) cap) vf x ps p line first w e (w9.setCell ⟨pb,off,none⟩ v9):=by
 have hF1:=zap hg
 have hF2:Frm (fun k=>k=pb) w9 (w9.setCell ⟨pb,off,none⟩ v9):=zae (Frm.refl _ _) _ _
 have hF3:Frm (fun k=>v.ownBlock=some k∨k=pb) W (w9.setCell ⟨pb,off,none⟩ v9):=(hF1.mono fun _ _ h=>.inl h).trans hF2 fun _ _ h=>.inr h
 have hT:∀ k,k < W.heap.size→(v.ownBlock=some k∨k=pb)→(Live (t1 k)∨t1 k=1)∧¬ Ty W k:=fun k _ hk=>by
  rcases hk with hk | rfl
  ·exact⟨.inl (hv k hk).1,(hv k hk).2⟩
  exact⟨.inr hpb,hpt⟩
 have hst:=h.step (p:=p) L' hF3 hT ht'
 refine⟨.inl ⟨q,j,t',he,hst,hj1,hj2,hj3,zav hbx hF3 fun hk=>?_,fun k hk=>(ht' k (Nat.lt_of_lt_of_le hk hF.size)).trans (ht1 k hk)⟩,?_⟩
 ·have hrW:=(Array.getElem?_eq_some_iff.1 hbx).1
  have:=(hT r hrW hk).1
  unfold Live at this
  omega
 refine (hF.mono fun _ _ h=>.inl h).trans hF3 fun k hk hk2=>.inr ?_
 have:=(hT k (Nat.lt_of_lt_of_le hk hF.size) hk2).1
 rw[ht1 k hk] at this
 unfold Live at this
 omega
end

section
open Go.RowKit Go.Shelf VerN VarM
open LexM (Wd)
section
variable {W W' w9 : World} {t t' : Nat → Nat} {B xb : Nat} {vp vf v9 : Value} {x : RcpM} {pks : List PkgM} {T : Nat → Prop}
theorem PkRow.open (h:PkRow W t B vp pks):∃ dss:List (List Value),W.ownsRow B 45 8 vp pks.length dss.flatten∧dss.length=pks.length∧Ft W (fun k=>Fx W t k∨Live (t k)) (fun W'=>∀ (i:Nat) cs y,dss[i]? = some cs→pks[i]? = some y→RPkM W' cs y)∧∀ k,vp.ownBlock=some k→t k=1:=by
 rcases h with⟨h1,h2⟩ | ⟨ps,p,dss,v2,v3,v4,v5,v6,v7,h1,L⟩
 ·rw[h1,h2]
  exact⟨[],World.ownsRow_nil _ _ _ _,rfl,fun _ _ _ i cs y h=>by simp at h,fun k h=>by simp[Value.ownBlock] at h⟩
 rw[h1]
 refine⟨dss ++ [[.string p.name,.int .i64 p.line,v2,v3,v4,v5,v6,v7]],by rw[List.length_append,List.flatten_append];simpa using L.row,by simp[L.len],?_,L.tag⟩
 refine ((L.fix.mono fun k _ hk=>.inl hk).and L.last.ft).imp fun V hV i cs y e1 e2=>?_
 by_cases hi:i < dss.length
 ·rw[List.getElem?_append_left hi] at e1
  rw[List.getElem?_append_left (by rw[← L.len];exact hi)] at e2
  exact hV.1 i cs y e1 e2
 have hlt:=(List.getElem?_eq_some_iff.1 e1).1
 have e:i=dss.length:=by simp at hlt;omega
 rw[List.getElem?_append_right (by omega),e,Nat.sub_self] at e1
 rw[List.getElem?_append_right (by rw[← L.len];omega),e,L.len,Nat.sub_self] at e2
 simp at e1 e2
 subst e1 e2
 exact hV.2
def zq1 (t:Nat→Nat) (n:Nat):Nat→Nat:=fun k=>if k < n then (if 4≤t k∧t k≤9 then 3 else t k) else 1
theorem ztd {n k:Nat} (h:k < n) (hl:Live (t k)):zq1 t n k=3:=(if_pos h).trans (if_pos hl)
theorem ze6 {n k:Nat} (h:k < n) (hl:¬ Live (t k)):zq1 t n k=t k:=(if_pos h).trans (if_neg hl)
theorem tagPk_new {n k:Nat} (h:n≤k):zq1 t n k=1:=if_neg (by omega)
theorem RcSt.pkg {s:ByteArray} {line:Int} {dss:List (List Value)} (h:RcSt W t B xb vp vf x) (hrow:W.ownsRow B 45 8 vp x.pk.length dss.flatten) (hlen:dss.length=x.pk.length)
  (hfx:Ft W (fun k=>Fx W t k∨Live (t k)) (fun W'=>∀ (i:Nat) cs y,dss[i]? = some cs→x.pk[i]? = some y→RPkM W' cs y)) (htag:∀ k,vp.ownBlock=some k→t k=1)
  (ho:w9.ownsRow B 45 8 v9 (x.pk.length+1) (dss.flatten ++ [.string s,.int .i64 line,.slice none 0 0,.slice none 0 0,.slice none 0 0,.slice none 0 0,.slice none 0 0,.slice none 0 0])) (hg:W.grownBy w9 vp.ownBlock) (hm:zgy W vp v9) :
  RcSt (w9.setCell ⟨xb,0,none⟩ v9) (zq1 t W.heap.size) B xb v9 vf ⟨x.pk ++ [zkc s line],x.pf⟩:=by
 have hF1:=zap hg
 have hxb:=(Array.getElem?_eq_some_iff.1 h.box).1
 have hF2:Frm (fun k=>k=xb) w9 (w9.setCell ⟨xb,0,none⟩ v9):=zae (Frm.refl _ _) _ _
 have hF:Frm (fun k=>vp.ownBlock=some k∨k=xb) W (w9.setCell ⟨xb,0,none⟩ v9):=(hF1.mono fun _ _ h=>.inl h).trans hF2 fun _ _ h=>.inr h
 have hbox9:w9.heap[xb]? = some (.cells #[vp,vf] 25 (0,0)):=zav h.box hF1 fun hk=>by
  have e:=htag xb hk
  have e2:=h.tbox
  omega
 have hT:∀ k,k < W.heap.size→(vp.ownBlock=some k∨k=xb)→(t k=0∨t k=1)∧¬ Ty W k:=fun k _ hk=>by
  rcases hk with hk | rfl
  ·obtain⟨cs,hc⟩:=zcf hrow k hk
   exact⟨.inr (htag k hk),zb3 hc (by decide)⟩
  exact⟨.inl h.tbox,zb3 h.box (by decide)⟩
 obtain⟨pcs,hpf⟩:=h.pf
 refine⟨heap_setCell_same _ xb 0 _ _ v9 hbox9,by rw[ze6 hxb (by rw[h.tbox];unfold Live;omega),h.tbox],⟨pcs,hpf.to hF (fun k k1 k2=>?_) (fun k k1 k2=>?_) (fun k k1 k2=>?_)⟩,.inr ⟨x.pk,zkc s line,dss,.slice none 0 0,.slice none 0 0,.slice none 0 0,.slice none 0 0,.slice none 0 0,.slice none 0 0,rfl,?_⟩⟩
 ·have:=hT k k1 k2
  exact⟨by omega,by omega,this.2⟩
 ·rw[ze6 k1 (by rw[k2];unfold Live;omega),k2]
 ·rw[ze6 k1 (by rw[k2];unfold Live;omega),k2]
 refine⟨?_,hlen,?_,fun k hk=>?_,⟨⟨[],RowL.nil⟩,⟨[],RowL.nil⟩,⟨[],RowL.nil⟩,⟨[],RowL.nil⟩,⟨[],RowL.nil⟩,⟨[],RowL.nil⟩⟩⟩
 ·refine hF2.owns ho fun k hk kT=>?_
  subst kT
  rcases hm k hk with hk | hk
  ·have:=htag k hk
   have e2:=h.tbox
   omega
  omega
 ·refine hfx.frm hF (fun k k1 k2 kT=>?_) fun k k1 k2=>?_
  ·have h1:=hT k k1 kT
   rcases k2 with (k2 | k2) | k2
   ·omega
   ·exact h1.2 k2
   unfold Live at k2
   omega
  rcases k2 with (k2 | k2) | k2
  ·exact .inl (by rw[ze6 k1 (by rw[k2];unfold Live;omega),k2])
  ·by_cases kT:vp.ownBlock=some k∨k=xb
   ·exact absurd k2 (hT k k1 kT).2
   exact .inr (k2.keep hF kT)
  exact .inl (ztd k1 k2)
 rcases hm k hk with hk | hk
 ·rw[ze6 (hrow.lt k hk).2 (by rw[htag k hk];unfold Live;omega)]
  exact htag k hk
 exact tagPk_new hk
theorem RcSt.pref {y:PrfM} {cs:List Value} {css:List (List Value)} (h:RcSt W t B xb vp vf x) (hp:RowL W t 2 B 47 3 RPfM vf x.pf css) (hx:Ft W (Fx W t) fun W'=>RPfM W' cs y)
  (ho:w9.ownsRow B 47 3 v9 (x.pf.length+1) (css.flatten ++ cs)) (hg:W.grownBy w9 vf.ownBlock) (hm:zgy W vf v9) :
  RcSt (w9.setCell ⟨xb,1,none⟩ v9) (zac t W.heap.size 2) B xb vp v9 ⟨x.pk,x.pf ++ [y]⟩:=by
 have hF1:=zap hg
 have hxb:=(Array.getElem?_eq_some_iff.1 h.box).1
 have hF2:Frm (fun k=>k=xb) w9 (w9.setCell ⟨xb,1,none⟩ v9):=zae (Frm.refl _ _) _ _
 have hF:Frm (fun k=>vf.ownBlock=some k∨k=xb) W (w9.setCell ⟨xb,1,none⟩ v9):=(hF1.mono fun _ _ h=>.inl h).trans hF2 fun _ _ h=>.inr h
 have hbox9:w9.heap[xb]? = some (.cells #[vp,vf] 25 (0,0)):=zav h.box hF1 fun hk=>by
  have e:=hp.tag xb hk
  have e2:=h.tbox
  omega
 have hT:∀ k,k < W.heap.size→(vf.ownBlock=some k∨k=xb)→(t k=0∨t k=2)∧¬ Ty W k:=fun k _ hk=>by
  rcases hk with hk | rfl
  ·exact⟨.inr (hp.tag k hk),zar hp (by decide) hk⟩
  exact⟨.inl h.tbox,zb3 h.box (by decide)⟩
 refine⟨heap_setCell_same _ xb 1 _ _ v9 hbox9,by rw[za4 hxb,h.tbox],⟨css ++ [cs],(hp.push (by decide) (by omega) hx rfl ho hg hm).to hF2 (fun k _ kT=>?_) (fun _ _ h=>h) (fun _ _ h=>h)⟩,h.pk.to hF (fun k k1 k2=>?_) fun k k1 k2=>za4 k1⟩
 ·subst kT
  exact⟨by rw[za4 hxb,h.tbox];omega,by rw[za4 hxb,h.tbox];omega,zb3 hbox9 (by decide)⟩
 have:=hT k k1 k2
 unfold Live
 exact⟨by omega,by omega,by omega,this.2⟩
end
theorem zpy {w w':World} {a:Option Addr} {n c:Nat} {ws:List Wd} {T:Nat→Prop} (h:RWds w [.slice a n c] ws) (hF:Frm T w w') (hT:∀ p,a=some p→¬ T p.block):RWds w' [.slice a n c] ws:=by
 obtain⟨a',cap,hv,h1,h2,hel⟩:=h
 have hv':=hv
 simp only[List.cons.injEq,and_true,Value.slice.injEq] at hv'
 refine⟨a',cap,hv,h1,h2,fun i x hi=>?_⟩
 obtain⟨b,off,ecs,e1,e2,e3,e4⟩:=hel i x hi
 refine⟨b,off,ecs,e1,e2,fun j u hu=>?_,e4⟩
 have k:=e3 j u hu
 exact (hF.cell (World.block_lt_of_cell? w _ k) (hT ⟨b,off,none⟩ (hv'.1.trans e1))).trans k
def zeb (r:Nat) (fin:Int) (ws:List Wd) (i:Nat) (t:Nat→Nat) (B xb:Nat) (x:RcpM) (line:Int) (w:World) (e:Ending) (w':World):Prop :=
 ((∃ y t' vp vf,e = .returned (.tuple #[])∧zc4 line (zam ws i) x=some y∧RcSt w' t' B xb vp vf y∧∀ k,k < w.heap.size→9 < t k→t' k=t k) ∨
  (zc4 line (zam ws i) x=none∧∃ j,e=zee (ze0 ws fin j)))∧Frm (fun k=>k=r∨t k≤9) w w'
section
variable {r : Nat} {fin : Int} {ws : List Wd} {i : Nat} {t t' : Nat → Nat} {B xb : Nat} {x y : RcpM} {line : Int} {w W W' : World} {e : Ending} {vp vf : Value}
theorem zbq (hl:zc4 line (zam ws i) x=some y) (hst:RcSt W t' B xb vp vf y) (hF:Frm (fun k=>k=r∨t k≤9) w W) (ht:∀ k,k < w.heap.size→9 < t k→t' k=t k) (hb:Below W.heap.size W W') (he:e = .returned (.tuple #[])) :
  zeb r fin ws i t B xb x line w e W':=⟨.inl ⟨y,t',vp,vf,he,hl,hst.below hb,ht⟩,zb1 hF hb⟩
theorem zat (hl:zc4 line (zam ws i) x=none) (hF:Frm (fun k=>k=r∨t k≤9) w W) (hb:Below W.heap.size W W') {j:Nat} (he:e=zee (ze0 ws fin j)) :
  zeb r fin ws i t B xb x line w e W':=⟨.inr ⟨hl,j,he⟩,zb1 hF hb⟩
end
theorem zh7 {f:ByteArray} {l:List ByteArray} {n:Int} {x:RcpM} (h:f=zbh):zc4 n (f :: l) x=(oneL zef l).map fun s=>{ x with pk:=x.pk ++ [zkc s n] }:=by
 show (if f=zbh then _ else _)=_
 rw[if_pos h]
theorem zfc {f:ByteArray} {l:List ByteArray} {n:Int} {x:RcpM} (h:f=zco):zc4 n (f :: l) x=(prefL n l).map fun q=>{ x with pf:=x.pf ++ [q] }:=by
 show (if f=zbh then _ else if f=zco then _ else _)=_
 rw[if_neg (by rw[h];decide),if_pos h]
theorem zfx {f:ByteArray} {l:List ByteArray} {n:Int} {x:RcpM} {ps:List PkgM} {p:PkgM} (h1:f≠zbh) (h2:f≠zco) (h:x.pk=ps ++ [p]):zc4 n (f :: l) x=(zb5 f n p l).map fun q=>{ x with pk:=ps ++ [q] }:=by
 show (if f=zbh then _ else if f=zco then _ else _)=_
 rw[if_neg h1,if_neg h2,h,List.getLast?_concat,List.dropLast_concat]
theorem lineL_nil {f:ByteArray} {l:List ByteArray} {n:Int} {x:RcpM} (h1:f≠zbh) (h2:f≠zco) (h:x.pk = []):zc4 n (f :: l) x=none:=by
 show (if f=zbh then _ else if f=zco then _ else _)=_
 rw[if_neg h1,if_neg h2,h]
 rfl
end

section
open Go.Shelf Go.RowKit Go.Lib VerN VarM
open LexM (Wd)
attribute [local go_sem ↓] Go.wp_at_zero Go.wp_at_succ
def CondPost (r:Nat) (a:Option Addr) (n c:Nat) (fin:Int) (ws:List Wd) (i:Nat) (w:World) (e:Ending) (w':World):Prop :=
 ((∃ s j v1 v2,zbx ws i=(some s,j)∧e = .returned (.agg #[.string s.1,v1,v2])∧zgv w' v1 s.2.1∧zez w' v2 s.2.2∧RBox r (.slice a n c) j fin w')∨(∃ j,zbx ws i=(none,j)∧e=zee (ze0 ws fin j)))∧Frm (fun k=>k=r) w w'
theorem zme {ws:List Wd} {i:Nat} (h:zag ws i=ze7):zbx ws i=(some (noT,allV,[]),i+1):=by unfold zbx;rw[if_pos h]
theorem condW_bad {ws:List Wd} {i:Nat} (h:zag ws i≠ze7) (h1:zgu (zag ws i)=true) (h2:zfl (zin (zag ws i))=false):zbx ws i=(none,i):=by unfold zbx;rw[if_neg h,if_pos h1,if_neg (by rw[h2];simp)]
theorem condW_at {ws:List Wd} {i:Nat} (h:zag ws i≠ze7) (h1:zgu (zag ws i)=true) (h2:zfl (zin (zag ws i))=true):zbx ws i=((zb8 ws (i+1) []).1.map fun l=>(noT,rdV (zin (zag ws i)),l),(zb8 ws (i+1) []).2):=by unfold zbx;rw[if_neg h,if_pos h1,if_pos h2]
theorem zux {ws:List Wd} {i:Nat} (h:zag ws i≠ze7) (h1:zgu (zag ws i)=false):(∀ l j,zb8 ws i []=(some l,j)→j≠i→zbx ws i=(some (noT,allV,l),j))∧(∀ l j,zb8 ws i []=(some l,j)→j=i→zbx ws i=(none,j))∧(∀ j,zb8 ws i []=(none,j)→zbx ws i=(none,j)):=by
 unfold zbx
 rw[if_neg h,if_neg (by rw[h1];simp)]
 cases hb:hasB 61 (zag ws i) with
 | false =>
  rw[zm1 hb]
  refine⟨fun l j e hj=>?_,fun l j e hj=>?_,fun j e=>?_⟩
  ·cases e;exact absurd rfl hj
  ·cases e;rfl
  cases e
 | true =>
  rw[if_pos rfl]
  refine⟨fun l j e _=>by rw[e];rfl,fun l j e hj=>?_,fun j e=>by rw[e];rfl⟩
  subst hj
  cases hw:zep ([] ++ [zgf (zag ws j)]) with
  | false=>rw[zk7 hb hw] at e;cases e
  | true =>
   rw[zk6 hb hw] at e
   have:=zfk ws (j+1) ([] ++ [zgf (zag ws j)])
   rw[e] at this
   simp only at this
   omega
theorem zoo (s:ByteArray):Lib.hasPrefix s.data.toList [64]=zgu s:=by
 unfold Lib.hasPrefix zgu
 cases h:s.data.toList with
 | nil=>rfl
 | cons c l =>
  by_cases e:c=64
  ·subst e;rfl
  simp[List.isPrefixOf,Ne.symm e,e]
theorem zqh {s:ByteArray} (h:zgu s=true):(⟨(Lib.trimPrefix s.data.toList [64]).toArray⟩ : ByteArray)=zin s:=by
 unfold Lib.trimPrefix
 rw[zoo,if_pos h]
 rfl
theorem ztc (s:ByteArray):(zin s).size≤s.size:=by
 have e:∀ l:List UInt8,(⟨l.toArray⟩ : ByteArray).size=l.length:=fun l=>rfl
 unfold zin
 rw[e,List.length_drop,Txt.len]
 omega
theorem znm {w0 w:World} {r:Nat} {a:Option Addr} {n c:Nat} {fin:Int} {ws:List Wd} {i:Nat} (C:RdC w0 r a n c fin ws) (S:RdS w0 r a n c fin i w) (hi:i≤1000):Calls Tryz.prog 66 #[rp r] w (CondPost r a n c fin ws i w):=by
 have hrw:r < w.heap.size:=(Array.getElem?_eq_some_iff.1 S.box).1
 have hn1:=C.n1000
 obtain⟨s,hs⟩ : ∃ s,s=zag ws i:=⟨_,rfl⟩
 have hsz:s.size≤70000:=by rw[hs];exact C.peek_size _
 obtain⟨g,hg⟩ : ∃ k,k=w.heap.size:=⟨_,rfl⟩
 obtain⟨g1,hg1⟩ : ∃ k,k=g+1+1:=⟨_,rfl⟩
 obtain⟨va,hva⟩ : ∃ k:Option Addr,k=some ⟨g+1,0,none⟩:=⟨_,rfl⟩
 obtain⟨w4,hw4⟩ : ∃ W,W=((w.alloc (.cells #[.string ⟨#[]⟩,.slice none 0 0,.slice none 0 0] 55)).alloc (.cells #[.string ⟨#[]⟩,.string ⟨#[]⟩] 51)).alloc (.cells #[.string ⟨#[]⟩,.slice va 1 1,.slice none 0 0] 55):=⟨_,rfl⟩
 have hb4:Below w.heap.size w w4:=by rw[hw4];exact ((za2 _ _).alloc (by simp) _).alloc (by simp;omega) _
 have hJ:WsJ w0 r a n c fin i w g g1 ⟨#[]⟩ va 1 1 allV w4:=by
  refine⟨S.to hb4,Frm.of_below hb4,?_,?_,?_⟩
  ·rw[hw4,hg];exact za1 (za2 _ _) (za1 (za2 _ _) (za9 rfl))
  ·rw[hw4,hg1,hg];exact za9 (by simp)
  rw[hw4,hva,hg]
  have:=zih (w.alloc (.cells #[.string ⟨#[]⟩,.slice none 0 0,.slice none 0 0] 55))
  simp only[World.size_alloc] at this
  exact zdz this (za2 _ _)
 have hrg:r < g:=by rw[hg];exact hrw
 have hgg:g < g1:=by rw[hg1];omega
 have hwg:w.heap.size≤g:=Nat.le_of_eq hg.symm
 have hP:=C.peek hJ.st
 rw[← hs] at hP
 have heq:=Txt.eq_dec s ⟨#[42]⟩
 rw[Lib.toList_data (⟨#[42]⟩ : ByteArray)] at heq
 obtain⟨HC,HS,HP,Hs,Hb4,HJ⟩:=hd6 C S hP hs hb4 hJ;clear C S hP hs hb4 hJ
 go_enter Tryz.func66,Tryz.ntmps66
 go_upto_region 2 with (fail)
 rw[← hg,← hva,← hw4,← hg1]
 clear hva hw4 hg hg1
 go_wp2_with fail
 refine HP.out.mono ?_
 rintro e w1 ⟨rfl,q1,rfl⟩
 have hJ1:WsJ w0 r a n c fin i w g g1 ⟨#[]⟩ va 1 1 allV (w4.drewN q1):=⟨HJ.out.st.drewN q1,HJ.out.frm.drewN q1,HJ.out.g0,HJ.out.g1,zdz HJ.out.rd (za6 (Below.refl _ _) q1)⟩
 generalize w4.drewN q1=w5 at hJ1 ⊢
 have HJ1:=hd hJ1;clear hJ1
 by_cases hst:s=ze7
 ·have k1:(s.toList == [42])=true:=by rw[heq];exact decide_eq_true hst
  clear heq
  obtain⟨_,c1',_,c3'⟩:=zb6 HJ1.out.st.box
  obtain⟨w6,hw6⟩ : ∃ W,W=w5.setCell ⟨r,1,none⟩ (.int .i64 ((i:Int)+1)):=⟨_,rfl⟩
  have hk0:zbb g (.string ⟨#[]⟩) (.slice none 0 0) (.slice none 0 0) w6:=by rw[hw6];exact za5 HJ1.out.g0 (by omega)
  have hk1:zbb g1 (.string ⟨#[]⟩) (.slice va 1 1) (.slice none 0 0) w6:=by rw[hw6];exact za5 HJ1.out.g1 (by omega)
  have hon:=HJ1.out.st.on HC.out.low
  rw[← hw6] at hon
  have hf6:Frm (fun k=>k=r) w w6:=by rw[hw6];exact zae HJ1.out.frm 1 _
  have hT6:Frm (fun k=>k=r∨k=g∨k=g1) w5 w6:=by rw[hw6];exact (Frm.refl _ w5).setCell (p:=⟨r,1,none⟩) (.inr (.inl rfl)) _
  have hvv:=zbv HJ1.out.rd hT6 (zda HJ1.out.st.box HJ1.out.g0 HJ1.out.g1)
  obtain⟨_,_,_,f00,f01,f02⟩:=zaq hk0
  obtain⟨x10,x11,x12,_,_,_⟩:=zaq hk1
  obtain⟨Hst,Hk0,Hk1,Hon,Hf6,HT6,Hvv⟩:=hd7 hst hk0 hk1 hon hf6 hT6 hvv;clear hst hk0 hk1 hon hf6 hT6 hvv
  go_upto_region 4 with (fail)
  rw[← hw6]
  clear hw6
  go_wp2_with fail
  obtain⟨W9,hW9⟩ : ∃ W,W=((w6.setCell ⟨g,0,none⟩ (.string ⟨#[]⟩)).setCell ⟨g,1,none⟩ (.slice va 1 1)).setCell ⟨g,2,none⟩ (.slice none 0 0):=⟨_,rfl⟩
  rw[← hW9]
  have k0:=heap_setCell_same _ g 0 _ _ (.string ⟨#[]⟩) Hk0.out
  have k1:=heap_setCell_same _ g 1 _ _ (.slice va 1 1) k0
  have k2:=heap_setCell_same _ g 2 _ _ (.slice none 0 0) k1
  have hF9:Frm (fun k=>k=r) w W9:=by rw[hW9];exact ((Hf6.out.setCell (p:=⟨g,0,none⟩) (.inl hwg) _).setCell (p:=⟨g,1,none⟩) (.inl hwg) _).setCell (p:=⟨g,2,none⟩) (.inl hwg) _
  have hT9:Frm (fun k=>k=r∨k=g∨k=g1) w6 W9:=by
   rw[hW9]
   exact (((Frm.refl _ w6).setCell (p:=⟨g,0,none⟩) (.inr (.inr (.inl rfl))) _).setCell (p:=⟨g,1,none⟩) (.inr (.inr (.inl rfl))) _).setCell (p:=⟨g,2,none⟩) (.inr (.inr (.inl rfl))) _
  have hb9:RBox r (.slice a n c) (i+1) fin W9:=by rw[hW9];exact za5 (za5 (za5 Hon.out.box (by omega)) (by omega)) (by omega)
  rw[← hW9] at k2
  refine bodyPost_ret (results_cell_row rfl _ _ _ _ _ _ _ rfl k2 Tryz.underlying55 rfl (by kernel_rfl)) rfl ?_
  exact⟨.inl ⟨(noT,allV,[]),i+1,.slice va 1 1,.slice none 0 0,zme (by rw[← Hs.out];exact Hst.out),rfl,zbv Hvv.out hT9 (zda Hon.out.box Hk0.out Hk1.out),setsT_nil ⟨none,0,rfl,Nat.le_refl _,Nat.zero_le _,fun i x hi=>by simp at hi⟩,hb9⟩,hF9⟩
 have k1:(s.toList == [42])=false:=by rw[heq];exact decide_eq_false hst
 clear heq
 have hst':zag ws i≠ze7:=by rw[← Hs.out];exact hst
 obtain⟨_,c1',_,c3'⟩:=zb6 HJ1.out.st.box
 have hP2:=HC.out.peek HJ1.out.st
 rw[← Hs.out] at hP2
 have hPre:=fun (W:World)=>Tryz.strings_CutPrefix s ⟨#[64]⟩ W
 simp only[zoo] at hPre
 obtain⟨tx,htx⟩ : ∃ t:ByteArray,t=⟨(Lib.trimPrefix s.data.toList [64]).toArray⟩:=⟨_,rfl⟩
 simp only[← htx] at hPre
 obtain⟨fl,hfl⟩ : ∃ b,b=zgu s:=⟨_,rfl⟩
 simp only[← hfl] at hPre
 obtain⟨Hst,Hst',HP2,Hfl,HPre,Htx⟩:=hd6 hst hst' hP2 hfl hPre htx;clear hst hst' hP2 hfl hPre htx
 go_wp2_with fail
 refine HP2.out.mono ?_
 rintro e w1 ⟨rfl,q2,rfl⟩
 have hJ2:WsJ w0 r a n c fin i w g g1 ⟨#[]⟩ va 1 1 allV (w5.drewN q2):=⟨HJ1.out.st.drewN q2,HJ1.out.frm.drewN q2,HJ1.out.g0,HJ1.out.g1,zdz HJ1.out.rd (za6 (Below.refl _ _) q2)⟩
 generalize w5.drewN q2=w6 at hJ2 ⊢
 have HJ2:=hd hJ2;clear hJ2
 clear c1' c3'
 go_wp2_with fail
 refine (HPre.out _).mono ?_
 rintro e wp ⟨rfl,hwp⟩
 subst hwp
 cases fl with
 | false =>
  have hCw:=zux (ws:=ws) (i:=i) Hst'.out (by rw[← Hs.out];exact Hfl.out.symm)
  have hYes:=hCw.1
  have hNil:=hCw.2.1
  have hNo:=hCw.2.2
  have HI:=HJ2
  clear hCw
  obtain⟨HYes,HNil,HNo⟩:=hd3 hYes hNil hNo;clear hYes hNil hNo
  have hSt:=zf6 HC.out HI.out.st
  have HSt:=hd hSt;clear hSt
  go_wp2_with fail
  refine HSt.out.mono ?_
  rintro e w7 ⟨⟨l,j,v,hse,rfl,hv,hbx⟩ | ⟨j,hse,rfl⟩,hfr⟩
  ·obtain⟨a3,c3,rfl⟩:=zcm hv.1
   have hfw:=HI.out.frm.trans hfr (fun _ _ h=>h)
   obtain⟨z,hz⟩ : ∃ n,n=l.length:=⟨_,rfl⟩
   rw[← hz] at hv ⊢
   have hk0:zbb g (.string ⟨#[]⟩) (.slice none 0 0) (.slice none 0 0) w7:=zbd hfr HI.out.g0 (by omega)
   have hk1:zbb g1 (.string ⟨#[]⟩) (.slice va 1 1) (.slice none 0 0) w7:=zbd hfr HI.out.g1 (by omega)
   have hst7:RdS w0 r a n c fin j w7:=⟨hbx,HI.out.st.bel.trans (hfr.below (by have:=HI.out.st.bel.size;exact HI.out.st.bel.size) (by rintro k rfl;exact HC.out.low))⟩
   obtain⟨_,_,_,_,_,f12⟩:=zaq hk1
   have hvv:=HI.out.rd
   have hge:=zfk ws i []
   rw[hse] at hge
   simp only at hge
   obtain⟨w8,hw8⟩ : ∃ W,W=w7.setCell ⟨g1,2,none⟩ (.slice a3 z c3):=⟨_,rfl⟩
   have hst8:RdS w0 r a n c fin j w8:=by rw[hw8];exact⟨za5 hst7.box (by omega),hst7.bel.setCell (p:=⟨g1,2,none⟩) (by have:=HC.out.low;show w0.heap.size≤g1;omega) _⟩
   have hk08:zbb g (.string ⟨#[]⟩) (.slice none 0 0) (.slice none 0 0) w8:=by rw[hw8];exact za5 hk0 (by omega)
   have hk18:zbb g1 (.string ⟨#[]⟩) (.slice va 1 1) (.slice a3 z c3) w8:=by rw[hw8];exact heap_setCell_same _ g1 2 _ _ _ hk1
   have hf8:Frm (fun k=>k=r) w w8:=by rw[hw8];exact hfw.setCell (p:=⟨g1,2,none⟩) (.inl (show w.heap.size≤g1 by omega)) _
   have hT8:Frm (fun k=>k=r∨k=g∨k=g1) w7 w8:=by rw[hw8];exact (Frm.refl _ w7).setCell (p:=⟨g1,2,none⟩) (.inr (.inr (.inr rfl))) _
   have hno7:=zda hbx hk0 hk1
   have hv8:=zcv hv hT8 hno7
   have hvv8:=zbv (zbv hvv (Frm.mono (T:=fun k=>k=r∨k=g∨k=g1) hfr (fun _ _ h=>.inl h)) (zda HI.out.st.box HI.out.g0 HI.out.g1)) hT8 hno7
   obtain⟨_,q1,_,_⟩:=zb6 hst8.box
   obtain⟨Hse,Hv,Hbx,Hfr,Hfw,Hk0,Hk1,Hst7,Hvv,Hz,Hge,Hst8,Hk08,Hk18,Hf8,HT8⟩:=hd16 hse hv hbx hfr hfw hk0 hk1 hst7 hvv hz hge hst8 hk08 hk18 hf8 hT8;obtain⟨Hno7,Hv8,Hvv8⟩:=hd3 hno7 hv8 hvv8;clear hse hv hbx hfr hfw hk0 hk1 hst7 hvv hz hge hst8 hk08 hk18 hf8 hT8 hno7 hv8 hvv8
   go_upto_region 13 with (fail)
   rw[← hw8]
   clear hw8
   by_cases hji:j=i
   ·have kgt:decide (i < j)=false:=decide_eq_false (by omega)
    have hWn:=HC.out.want Hst8.out
    have HWn:=hd hWn;clear hWn
    go_wp2_with fail
    refine HWn.out.mono ?_
    rintro e w9 ⟨rfl,q5,rfl⟩
    go_wp2_with fail
    exact⟨rfl,.inr ⟨j,HNil.out _ _ Hse.out hji,by rw[hji]⟩,Hf8.out.drewN q5⟩
   obtain⟨x10,x11,x12,_,_,_⟩:=zaq Hk18.out
   obtain⟨_,_,_,f00,f01,f02⟩:=zaq Hk08.out
   have kgt:decide (i < j)=true:=decide_eq_true (by have:=Hge.out.1;omega)
   go_wp2_with fail
   refine (zc0 _ r).mono ?_
   rintro e w9 ⟨rfl,hw9⟩
   subst hw9
   go_wp2_with fail
   obtain⟨W9,hW9⟩ : ∃ W,W=((w9.setCell ⟨g,0,none⟩ (.string ⟨#[]⟩)).setCell ⟨g,1,none⟩ (.slice va 1 1)).setCell ⟨g,2,none⟩ (.slice a3 z c3):=⟨_,rfl⟩
   rw[← hW9]
   have k0:=heap_setCell_same _ g 0 _ _ (.string ⟨#[]⟩) Hk08.out
   have k1:=heap_setCell_same _ g 1 _ _ (.slice va 1 1) k0
   have k2:=heap_setCell_same _ g 2 _ _ (.slice a3 z c3) k1
   have hF9:Frm (fun k=>k=r) w W9:=by rw[hW9];exact ((Hf8.out.setCell (p:=⟨g,0,none⟩) (.inl hwg) _).setCell (p:=⟨g,1,none⟩) (.inl hwg) _).setCell (p:=⟨g,2,none⟩) (.inl hwg) _
   have hT9:Frm (fun k=>k=r∨k=g∨k=g1) w9 W9:=by
    rw[hW9]
    exact (((Frm.refl _ w9).setCell (p:=⟨g,0,none⟩) (.inr (.inr (.inl rfl))) _).setCell (p:=⟨g,1,none⟩) (.inr (.inr (.inl rfl))) _).setCell (p:=⟨g,2,none⟩) (.inr (.inr (.inl rfl))) _
   have hb9:RBox r (.slice a n c) j fin W9:=by rw[hW9];exact za5 (za5 (za5 Hst8.out.box (by omega)) (by omega)) (by omega)
   rw[← hW9] at k2
   have hno8:=zda Hst8.out.box Hk08.out Hk18.out
   refine bodyPost_ret (results_cell_row rfl _ _ _ _ _ _ _ rfl k2 Tryz.underlying55 rfl (by kernel_rfl)) rfl ?_
   exact⟨.inl ⟨(noT,allV,l),j,.slice va 1 1,.slice a3 z c3,HYes.out _ _ Hse.out (by have:=Hge.out.1;omega),rfl,zbv Hvv8.out hT9 hno8,zcv Hv8.out hT9 hno8,hb9⟩,hF9⟩
  have hfw:=HI.out.frm.trans hfr (fun _ _ h=>h)
  obtain⟨Hse,Hfr,Hfw⟩:=hd3 hse hfr hfw;clear hse hfr hfw
  go_wp2_with fail
  exact⟨rfl,.inr ⟨j,HNo.out _ Hse.out,rfl⟩,Hfw.out⟩
 | true =>
  obtain⟨tl,htl⟩ : ∃ t,t=zin s:=⟨_,rfl⟩
  obtain rfl:tx=tl:=by rw[Htx.out,htl];exact zqh Hfl.out.symm
  have hSet:=set_any tx (by have:=ztc s;rw[← htl] at this;omega) (HC.out.dr HJ2.out.st)
  obtain⟨ok,hok⟩ : ∃ b,b=zfl tx:=⟨_,rfl⟩
  unfold zri at hSet
  rw[← hok] at hSet
  obtain⟨HSet,Hok,Htl⟩:=hd3 hSet hok htl;clear hSet hok htl
  go_wp2_with fail
  refine HSet.out.mono ?_
  rintro e w8 ⟨a2,n2,c2,rfl,hrd,hb8⟩
  have hg15:=za1 hb8 HJ2.out.g1
  have hg05:=za1 hb8 HJ2.out.g0
  have hst8:=HJ2.out.st.to hb8
  have hfr8:=HJ2.out.frm.trans (Frm.of_below (S:=fun _=>False) hb8) (fun _ _ h=>h.elim)
  obtain⟨Hrd,Hb8,Hg15,Hg05,Hst8,Hfr8⟩:=hd6 hrd hb8 hg15 hg05 hst8 hfr8;clear hrd hb8 hg15 hg05 hst8 hfr8
  cases ok with
  | false =>
   have hBad:=condW_bad (ws:=ws) (i:=i) Hst'.out (by rw[← Hs.out];exact Hfl.out.symm) (by rw[← Hs.out,← Htl.out];exact Hok.out.symm)
   have hWn:=HC.out.want Hst8.out
   obtain⟨HBad,HWn⟩:=hd2 hBad hWn;clear hBad hWn
   go_wp2_with fail
   refine HWn.out.mono ?_
   rintro e w9 ⟨rfl,q5,rfl⟩
   go_wp2_with fail
   exact⟨rfl,.inr ⟨i,HBad.out,rfl⟩,Hfr8.out.drewN q5⟩
  | true =>
   have hAt:=condW_at (ws:=ws) (i:=i) Hst'.out (by rw[← Hs.out];exact Hfl.out.symm) (by rw[← Hs.out,← Htl.out];exact Hok.out.symm)
   rw[← Hs.out,← Htl.out] at hAt
   have hYes:∀ l j,zb8 ws (i+1) []=(some l,j)→j≠i→zbx ws i=(some (noT,rdV tx,l),j):=fun l j e _=>by rw[hAt,e];rfl
   have hNo:∀ j,zb8 ws (i+1) []=(none,j)→zbx ws i=(none,j):=fun j e=>by rw[hAt,e];rfl
   obtain⟨_,_,_,_,fz1,_⟩:=zaq Hg15.out
   obtain⟨_,c1',_,c3'⟩:=zb6 Hst8.out.box
   obtain⟨w6,hw6⟩ : ∃ W,W=(w8.setCell ⟨g1,1,none⟩ (.slice a2 n2 c2)).setCell ⟨r,1,none⟩ (.int .i64 ((i:Int)+1)):=⟨_,rfl⟩
   have HI:Go.RowKit.Hid (WsJ w0 r a n c fin (i+1) w g g1 ⟨#[]⟩ a2 n2 c2 (rdV tx) w6):=by
    refine⟨?_,?_,?_,?_,?_⟩
    ·rw[hw6]
     exact RdS.on ⟨za5 Hst8.out.box (by omega),Hst8.out.bel.setCell (p:=⟨g1,1,none⟩) (by have:=HC.out.low;show w0.heap.size≤g1;omega) _⟩ HC.out.low
    ·rw[hw6];exact zae (Hfr8.out.setCell (p:=⟨g1,1,none⟩) (.inl (by show w.heap.size≤g1;omega)) _) 1 _
    ·rw[hw6];exact za5 (za5 Hg05.out (by omega)) (by omega)
    ·rw[hw6];exact za5 (heap_setCell_same _ g1 1 _ _ _ Hg15.out) (by omega)
    rw[hw6]
    refine zbv (T:=fun k=>k=g1∨k=r) (Hrd.out rfl) ?_ ?_
    ·exact ((Frm.refl _ w8).setCell (p:=⟨g1,1,none⟩) (.inr (.inl rfl)) _).setCell (p:=⟨r,1,none⟩) (.inr (.inr rfl)) _
    rintro k (rfl | rfl)
    ·exact zgm Hg15.out (by decide) (by decide)
    exact zgm Hst8.out.box (by decide) (by decide)
   clear hAt
   obtain⟨HYes,HNo⟩:=hd2 hYes hNo;clear hYes hNo
   go_wp2_with fail
   refine (zc0 _ r).mono ?_
   rintro e w9 ⟨rfl,hw9⟩
   subst hw9
   go_upto_region 12 with (fail)
   rw[← hw6]
   clear hw6
   have hSt:=zf6 HC.out HI.out.st
   have HSt:=hd hSt;clear hSt
   go_wp2_with fail
   refine HSt.out.mono ?_
   rintro e w7 ⟨⟨l,j,v,hse,rfl,hv,hbx⟩ | ⟨j,hse,rfl⟩,hfr⟩
   ·obtain⟨a3,c3,rfl⟩:=zcm hv.1
    have hfw:=HI.out.frm.trans hfr (fun _ _ h=>h)
    obtain⟨z,hz⟩ : ∃ n,n=l.length:=⟨_,rfl⟩
    rw[← hz] at hv ⊢
    have hk0:zbb g (.string ⟨#[]⟩) (.slice none 0 0) (.slice none 0 0) w7:=zbd hfr HI.out.g0 (by omega)
    have hk1:zbb g1 (.string ⟨#[]⟩) (.slice a2 n2 c2) (.slice none 0 0) w7:=zbd hfr HI.out.g1 (by omega)
    have hst7:RdS w0 r a n c fin j w7:=⟨hbx,HI.out.st.bel.trans (hfr.below (by have:=HI.out.st.bel.size;exact HI.out.st.bel.size) (by rintro k rfl;exact HC.out.low))⟩
    obtain⟨_,_,_,_,_,f12⟩:=zaq hk1
    have hvv:=HI.out.rd
    have hge:=zfk ws (i+1) []
    rw[hse] at hge
    simp only at hge
    obtain⟨w8,hw8⟩ : ∃ W,W=w7.setCell ⟨g1,2,none⟩ (.slice a3 z c3):=⟨_,rfl⟩
    have hst8:RdS w0 r a n c fin j w8:=by rw[hw8];exact⟨za5 hst7.box (by omega),hst7.bel.setCell (p:=⟨g1,2,none⟩) (by have:=HC.out.low;show w0.heap.size≤g1;omega) _⟩
    have hk08:zbb g (.string ⟨#[]⟩) (.slice none 0 0) (.slice none 0 0) w8:=by rw[hw8];exact za5 hk0 (by omega)
    have hk18:zbb g1 (.string ⟨#[]⟩) (.slice a2 n2 c2) (.slice a3 z c3) w8:=by rw[hw8];exact heap_setCell_same _ g1 2 _ _ _ hk1
    have hf8:Frm (fun k=>k=r) w w8:=by rw[hw8];exact hfw.setCell (p:=⟨g1,2,none⟩) (.inl (show w.heap.size≤g1 by omega)) _
    have hT8:Frm (fun k=>k=r∨k=g∨k=g1) w7 w8:=by rw[hw8];exact (Frm.refl _ w7).setCell (p:=⟨g1,2,none⟩) (.inr (.inr (.inr rfl))) _
    have hno7:=zda hbx hk0 hk1
    have hv8:=zcv hv hT8 hno7
    have hvv8:=zbv (zbv hvv (Frm.mono (T:=fun k=>k=r∨k=g∨k=g1) hfr (fun _ _ h=>.inl h)) (zda HI.out.st.box HI.out.g0 HI.out.g1)) hT8 hno7
    obtain⟨_,q1,_,_⟩:=zb6 hst8.box
    obtain⟨Hse,Hv,Hbx,Hfr,Hfw,Hk0,Hk1,Hst7,Hvv,Hz,Hge,Hst8,Hk08,Hk18,Hf8,HT8⟩:=hd16 hse hv hbx hfr hfw hk0 hk1 hst7 hvv hz hge hst8 hk08 hk18 hf8 hT8;obtain⟨Hno7,Hv8,Hvv8⟩:=hd3 hno7 hv8 hvv8;clear hse hv hbx hfr hfw hk0 hk1 hst7 hvv hz hge hst8 hk08 hk18 hf8 hT8 hno7 hv8 hvv8
    go_upto_region 13 with (fail)
    rw[← hw8]
    clear hw8
    obtain⟨x10,x11,x12,_,_,_⟩:=zaq Hk18.out
    obtain⟨_,_,_,f00,f01,f02⟩:=zaq Hk08.out
    have kgt:decide (i < j)=true:=decide_eq_true (by have:=Hge.out.1;omega)
    go_wp2_with fail
    refine (zc0 _ r).mono ?_
    rintro e w9 ⟨rfl,hw9⟩
    subst hw9
    go_wp2_with fail
    obtain⟨W9,hW9⟩ : ∃ W,W=((w9.setCell ⟨g,0,none⟩ (.string ⟨#[]⟩)).setCell ⟨g,1,none⟩ (.slice a2 n2 c2)).setCell ⟨g,2,none⟩ (.slice a3 z c3):=⟨_,rfl⟩
    rw[← hW9]
    have k0:=heap_setCell_same _ g 0 _ _ (.string ⟨#[]⟩) Hk08.out
    have k1:=heap_setCell_same _ g 1 _ _ (.slice a2 n2 c2) k0
    have k2:=heap_setCell_same _ g 2 _ _ (.slice a3 z c3) k1
    have hF9:Frm (fun k=>k=r) w W9:=by rw[hW9];exact ((Hf8.out.setCell (p:=⟨g,0,none⟩) (.inl hwg) _).setCell (p:=⟨g,1,none⟩) (.inl hwg) _).setCell (p:=⟨g,2,none⟩) (.inl hwg) _
    have hT9:Frm (fun k=>k=r∨k=g∨k=g1) w9 W9:=by
     rw[hW9]
     exact (((Frm.refl _ w9).setCell (p:=⟨g,0,none⟩) (.inr (.inr (.inl rfl))) _).setCell (p:=⟨g,1,none⟩) (.inr (.inr (.inl rfl))) _).setCell (p:=⟨g,2,none⟩) (.inr (.inr (.inl rfl))) _
    have hb9:RBox r (.slice a n c) j fin W9:=by rw[hW9];exact za5 (za5 (za5 Hst8.out.box (by omega)) (by omega)) (by omega)
    rw[← hW9] at k2
    have hno8:=zda Hst8.out.box Hk08.out Hk18.out
    refine bodyPost_ret (results_cell_row rfl _ _ _ _ _ _ _ rfl k2 Tryz.underlying55 rfl (by kernel_rfl)) rfl ?_
    exact⟨.inl ⟨(noT,(rdV tx),l),j,.slice a2 n2 c2,.slice a3 z c3,HYes.out _ _ Hse.out (by have:=Hge.out.1;omega),rfl,zbv Hvv8.out hT9 hno8,zcv Hv8.out hT9 hno8,hb9⟩,hF9⟩
   have hfw:=HI.out.frm.trans hfr (fun _ _ h=>h)
   obtain⟨Hse,Hfr,Hfw⟩:=hd3 hse hfr hfw;clear hse hfr hfw
   go_wp2_with fail
   exact⟨rfl,.inr ⟨j,HNo.out _ Hse.out,rfl⟩,Hfw.out⟩
end

section
open Go.Shelf Go.RowKit Go.Lib VerN VarM
open LexM (Wd)
attribute [local go_sem ↓] Go.wp_at_zero Go.wp_at_succ
theorem zqd {w0 w:World} {r:Nat} {a:Option Addr} {n c:Nat} {fin:Int} {ws:List Wd} {i:Nat} {t:Nat→Nat} {B xb pb cap:Nat} {vf:Value} {x:RcpM} {ps:List PkgM} {p:PkgM} {line:Int} {first:ByteArray} (C:RdC w0 r a n c fin ws) (S:RdS w0 r a n c fin i w) (hi1:i≤990)
  (H:RcSt w t B xb (.slice (some ⟨pb,0,none⟩) (ps.length+1) cap) vf x) (hx:x.pk=ps ++ [p]) (tr:t r=10) (hBw:B≤w.heap.size) (hp:FewP p) (hps:ps.length≤70000) (hf:first=zcp) :
  Calls Tryz.prog 50 #[rp r,.string first,.int .i64 line,.pointer (some ⟨pb,ps.length * 8,none⟩)] w (ze4 r a n c fin ws i t B xb (.slice (some ⟨pb,0,none⟩) (ps.length+1) cap) vf x ps p line first w):=by
 have k0:(first.toList == [118,101,114,115,105,111,110])=true:=by rw[zau first [118,101,114,115,105,111,110] zcp rfl,hf];decide
 have hrw:r < w.heap.size:=(Array.getElem?_eq_some_iff.1 S.box).1
 have hn:=C.len
 have hn1:=C.n1000
 have hlow:=C.low
 obtain⟨dss,v2,v3,v4,v5,v6,v7,L⟩ : ∃ dss v2 v3 v4 v5 v6 v7,zcc w t B (.slice (some ⟨pb,0,none⟩) (ps.length+1) cap) ps p dss v2 v3 v4 v5 v6 v7:=by
  rcases H.pk with⟨h1,_⟩ | ⟨ps',p',dss,v2,v3,v4,v5,v6,v7,h1,L⟩
  ·rw[hx] at h1
   simp at h1
  rw[hx] at h1
  have e1:=List.append_inj_left' h1 rfl
  have e2:=List.append_inj_right' h1 rfl
  obtain rfl:p=p':=by simpa using e2
  subst e1
  exact⟨dss,v2,v3,v4,v5,v6,v7,L⟩
 have hrt:=zb3 S.box (by decide)
 -- the recipe as it is at a later world,ahead of the store
 have hto:∀ W,Frm (fun k=>k=r) w W→RcSt W (zac t w.heap.size 3) B xb (.slice (some ⟨pb,0,none⟩) (ps.length+1) cap) vf x∧zcc W (zac t w.heap.size 3) B (.slice (some ⟨pb,0,none⟩) (ps.length+1) cap) ps p dss v2 v3 v4 v5 v6 v7:=fun W hF =>
  ⟨H.to hF (fun k _ hk=>by subst hk;exact⟨by omega,hrt⟩) (fun k hk _=>za4 hk),L.to hF (fun k _ hk=>by subst hk;unfold Live;exact⟨by omega,by omega,by omega,hrt⟩) (fun k hk _=>za4 hk)⟩
 have ht1:∀ k,k < w.heap.size→zac t w.heap.size 3 k=t k:=fun k hk=>za4 hk
 have hr1:zac t w.heap.size 3 r=10:=by rw[za4 hrw,tr]
 have hpb1:zac t w.heap.size 3 pb=1:=by rw[za4 (L.row.lt pb rfl).2,L.tag pb rfl]
 have hT:=zf4 C S (by omega) (enters_of Tryz.func86 (by kernel_rfl) rfl) (ok:=zor) (fun s W hs k=>verOk_any s hs ((C.doors.below S.bel).below k))
 obtain⟨s,hs⟩ : ∃ s,s=zag ws i:=⟨_,rfl⟩
 unfold zbw at hT
 rw[← hs] at hT
 obtain⟨HC,HS,HH,HL,Hx,Hp,Hf,HT,Hs,Hn,Hto,Ht1,Hr1,Hpb1,Hrt,Htr⟩:=hd16 C S H L hx hp hf hT hs hn hto ht1 hr1 hpb1 hrt tr;clear C S H L hx hp hf hT hs hn hto ht1 hr1 hpb1 hrt tr
 go_enter Tryz.func50,Tryz.ntmps50
 go_wp2_with fail
 refine HT.out.mono ?_
 rintro e w1 ⟨⟨hi2,hok,rfl,hbx⟩ | ⟨hno,j,rfl⟩,hfr⟩
 ·obtain⟨w2,hw2⟩ : ∃ W,W=w1.alloc (.cells #[.string s,.bool false] 66):=⟨_,rfl⟩
  obtain⟨b8,hb8⟩ : ∃ z,z=w1.heap.size:=⟨_,rfl⟩
  have hb12:Below w1.heap.size w1 w2:=by rw[hw2];exact za2 _ _
  have p8:w2.heap[b8]? = some (.cells #[.string s,.bool false] 66 (0,0)):=by rw[hw2,hb8];exact heap_alloc_new _ _
  have hfr2:=zb1 hfr hb12
  have hbx2:=za1 hb12 hbx
  have hst2:RdS w0 r a n c fin (i+1) w2:=zet HS.out hlow hfr2 hbx2
  have hM:=HC.out.more hst2
  have h8:w.heap.size≤b8:=by rw[hb8];exact hfr.size
  by_cases hlt:i+1 < n
  ·rw[decide_eq_true hlt] at hM
   obtain⟨Hi2,Hok,Hbx,Hfr,Hb12,Hp8,Hfr2,Hbx2,Hst2,HM⟩:=hd10 hi2 hok hbx hfr hb12 p8 hfr2 hbx2 hst2 hM;clear hi2 hok hbx hfr hb12 p8 hfr2 hbx2 hst2 hM
   go_upto_region 3 with (fail)
   rw[← hw2,← hb8]
   clear hw2 hb8
   go_wp2_with fail
   refine HM.out.mono ?_
   rintro e w3 ⟨rfl,q3,rfl⟩
   have hb3:Below w2.heap.size w2 (w2.drewN q3):=za6 (Below.refl _ _) q3
   generalize w2.drewN q3=w3 at hb3 ⊢
   have hIs:=znb ⟨#[111,108,100]⟩ w3
   obtain⟨Hb3,HIs⟩:=hd2 hb3 hIs;clear hb3 hIs
   go_wp2_with fail
   refine HIs.out.mono ?_
   rintro e w4 ⟨rfl,hw4⟩
   obtain⟨bo,hbo⟩ : ∃ z,z=w3.heap.size:=⟨_,rfl⟩
   have hb34:Below w3.heap.size w3 w4:=by rw[hw4];exact za2 _ _
   have po:w4.heap[bo]? = some (.cells #[.string ⟨#[111,108,100]⟩] 9 (0,0)):=by rw[hw4,hbo];exact heap_alloc_new _ _
   have hb24:=Hb3.out.trans (hb34.mono Hb3.out.size)
   have hst4:=Hst2.out.to hb24
   have hT4:=zju HC.out hst4 (by omega) (enters_of Tryz.func114 (by kernel_rfl) rfl) (ok:=fun s=>decide (s=wOld)) (cp:=.pointer (some ⟨bo,0,none⟩)) (fun s W _ k=>zr2 s wOld (za1 k po))
   have p84:=za1 hb24 Hp8.out
   have hfr4:=zb1 Hfr2.out hb24
   rw[← hbo]
   clear hbo
   unfold zbw at hT4
   obtain⟨Hb34,Hpo,Hb24,Hst4,HT4,Hp84,Hfr4,Hw4⟩:=hd8 hb34 po hb24 hst4 hT4 p84 hfr4 hw4;clear hb34 po hb24 hst4 hT4 p84 hfr4 hw4
   go_wp2_with fail
   refine HT4.out.mono ?_
   rintro e w5 ⟨⟨hi5,hok5,rfl,hbx5⟩ | ⟨hno,j,rfl⟩,hfr5⟩
   ·have hold:zag ws (i+1)=wOld:=of_decide_eq_true hok5
    have h5:b8 < w4.heap.size:=(Array.getElem?_eq_some_iff.1 Hp84.out).1
    have p85:=zbd hfr5 Hp84.out (by omega)
    have hfrw5:Frm (fun k=>k=r) w w5:=Hfr4.out.trans hfr5 (fun _ _ h=>h)
    obtain⟨w6,hw6⟩ : ∃ W,W=w5.setCell ⟨b8,1,none⟩ (.bool true):=⟨_,rfl⟩
    have p86:w6.heap[b8]? = some (.cells #[.string s,.bool true] 66 (0,0)):=by rw[hw6];exact heap_setCell_same _ b8 1 _ _ _ p85
    have hfr6:Frm (fun k=>k=r) w w6:=by
     rw[hw6]
     exact hfrw5.trans (T:=fun k=>k=b8) (zae (Frm.refl _ _) _ _) (fun k hk e=>by omega)
    have hbx6:RBox r (.slice a n c) (i+1+1) fin w6:=by rw[hw6];exact za5 hbx5 (by omega)
    have y1:=za8 p85 1
    have y2:=za0 p85 1
    simp only[List.getElem?_toArray,List.getElem?_cons_zero,List.getElem?_cons_succ] at y2
    obtain⟨Hi5,Hok5,Hbx5,Hfr5,Hold,Hp85,Hfrw5,Hp86,Hfr6,Hbx6⟩:=hd10 hi5 hok5 hbx5 hfr5 hold p85 hfrw5 p86 hfr6 hbx6;clear hi5 hok5 hbx5 hfr5 hold p85 hfrw5 p86 hfr6 hbx6
    go_upto_region 6 with (fail)
    rw[← hw6]
    clear hw6 y1 y2
    obtain⟨H1,L1⟩:=Hto.out _ Hfr6.out
    obtain⟨⟨cur,hcur⟩,z2,z3,z4,z5,z6,z7⟩:=L1.cells
    obtain⟨css,hr⟩:=L1.last.rel
    obtain⟨ra,rc,hrv⟩:=zaa hr.row
    rw[hrv] at z2
    have zf:=za8 hcur (ps.length * 8+2)
    have hne:v2.ownBlock≠some pb:=fun e=>by
     have e1:=hr.tag pb e
     have e2:=Hpb1.out
     omega
    have hvl:∀ k,v2.ownBlock=some k→Live (zac t w.heap.size 3 k)∧¬ Ty w6 k:=fun k hk=>⟨by have:=hr.tag k hk;unfold Live;omega,zar hr (by decide) hk⟩
    have hpt:¬ Ty w6 pb:=zb3 hcur (by decide)
    have hB:B≤w6.heap.size:=Nat.le_trans hBw Hfr6.out.size
    have hrow:=hr.row
    obtain⟨m,hm⟩ : ∃ m,m=p.rel.length:=⟨_,rfl⟩
    rw[← hm] at hrow hrv z2
    have hm7:m≤70000:=by rw[hm];exact Hp.out.1
    rw[hrv] at hrow
    obtain⟨N,hN⟩ : ∃ N,N=css.flatten:=⟨_,rfl⟩
    rw[← hN] at hrow
    have hels:Ft w6 (Fx w6 (zac t w.heap.size 3)) (fun W'=>zgw W' [.string s,.bool true] (s,true)):=fun V _ _=>rfl
    have y0:=za0 Hp86.out 0
    have y1:=za0 Hp86.out 1
    simp only[List.getElem?_toArray,List.getElem?_cons_zero,List.getElem?_cons_succ] at y0 y1
    have za:∀ ob:Obj,(w6.alloc ob).cell? ⟨pb,ps.length * 8+2,none⟩=some (.slice ra m rc):=fun ob=>((Frm.refl (fun _=>False) w6).alloc ob).keep z2
    have hrowd:(w6.drew).ownsRow B 66 2 (.slice ra m rc) m N:=hrow
    have hBd:B≤w6.drew.heap.size:=hB
    clear z3 z4 z5 z6 z7 zf hrow
    have Hne:=Lib.hid hne
    have Hcur:=Lib.hid hcur
    obtain⟨HH1,HL1,Hr,Hrv,Hvl,Hpt,Hm,HN,Hels,Hrowd⟩:=hd10 H1 L1 hr hrv hvl hpt hm hN hels hrowd;clear H1 L1 hr hrv hvl hpt hm hN hels hrowd
    clear hne hcur
    go_region_law (refine zb2 zsr (w:=w6.drew) rfl (.tmp 28) (.tmp 30) rfl B (.slice ra m rc) m N rfl Hrowd.out 1 (by decide) #[.string s,.bool true] rfl rfl (by simp[Value.oneCell']) (by omega) (by unfold maxLen;omega) hBd ?_;intro g9 c9 w9 hown9 hg9 hm9;have hc9:=zav Hcur.out ((Frm.drew (Frm.refl _ w6)).grown hg9 (S:=fun k=>(Value.slice ra m rc).ownBlock=some k) (fun k hk=>.inr hk)) (by rw[← Hrv.out];exact Hne.out);have d2:=za8 hc9 (ps.length * 8+2);have d1:=(World.cell?_of_block (w:=w6) (w':=w9) (a:=⟨pb,ps.length * 8+2,none⟩) (hc9.trans Hcur.out.symm)).trans z2)
    all_goals
     have hL9:=HL1.out.rel_push Hr.out Hels.out (v9:=.slice (some ⟨g9,0,none⟩) (m+1) c9) (by rw[← Hm.out,← HN.out];exact hown9) (by rw[Hrv.out];exact zbp hg9) (by rw[Hrv.out];exact hm9)
     have hg9':w6.grownBy w9 v2.ownBlock:=by rw[Hrv.out];exact zbp hg9
     obtain⟨Hown9,Hg9,Hm9,Hc9,HL9,Hg9'⟩:=hd6 hown9 hg9 hm9 hc9 hL9 hg9';clear hown9 hg9 hm9 hc9 hL9 hg9'
     clear za
     go_wp2_with fail
     go_end0
     refine zb0 (v:=v2) (j:=i+1+1) HH1.out HL9.out Hfr6.out Hg9'.out Ht1.out (fun k hk=>za4 hk) Hvl.out Hpb1.out Hpt.out Hbx6.out Hr1.out ?_ ?_ ?_ rfl
     ·intro hj
      rw[Hf.out]
      unfold zb5
      rw[if_pos rfl,verL_two (by omega) (by rw[← Hs.out];exact Hok.out) Hold.out,← Hs.out]
      rfl
     ·intro hj
      rw[Hf.out]
      unfold zb5
      rw[if_pos rfl,zrs (by omega) (.inr (by omega))]
      rfl
     have:=Hn.out
     omega
   have hnone:zb5 first line p (zam ws i)=none:=by
    rw[Hf.out]
    unfold zb5
    rw[if_pos rfl,zrs (by have:=Hn.out;omega) (.inl (by
     rcases hno with h | h
     ·have:=Hn.out;omega
     exact of_decide_eq_false h))]
    rfl
   have hfrw5:Frm (fun k=>k=r) w w5:=Hfr4.out.trans hfr5 (fun _ _ h=>h)
   obtain⟨Hno,Hfr5,Hnone,Hfrw5⟩:=hd4 hno hfr5 hnone hfrw5;clear hno hfr5 hnone hfrw5
   go_wp2_with fail
   exact⟨rfl,zb9 Hnone.out rfl Hfrw5.out⟩
  rw[decide_eq_false hlt] at hM
  obtain⟨Hi2,Hok,Hbx,Hfr,Hb12,Hp8,Hfr2,Hbx2,Hst2,HM⟩:=hd10 hi2 hok hbx hfr hb12 p8 hfr2 hbx2 hst2 hM;clear hi2 hok hbx hfr hb12 p8 hfr2 hbx2 hst2 hM
  go_upto_region 3 with (fail)
  rw[← hw2,← hb8]
  clear hw2 hb8
  go_wp2_with fail
  refine HM.out.mono ?_
  rintro e w3 ⟨rfl,q3,rfl⟩
  have hb3:Below w2.heap.size w2 (w2.drewN q3):=za6 (Below.refl _ _) q3
  generalize w2.drewN q3=w3 at hb3 ⊢
  have p83:=za1 hb3 Hp8.out
  have hfr3:=zb1 Hfr2.out hb3
  have hbx3:=za1 hb3 Hbx2.out
  obtain⟨Hb3,Hp83,Hfr3,Hbx3⟩:=hd4 hb3 p83 hfr3 hbx3;clear hb3 p83 hfr3 hbx3
  go_upto_region 6 with (fail)
  obtain⟨H1,L1⟩:=Hto.out _ Hfr3.out
  obtain⟨⟨cur,hcur⟩,z2,z3,z4,z5,z6,z7⟩:=L1.cells
  obtain⟨css,hr⟩:=L1.last.rel
  obtain⟨ra,rc,hrv⟩:=zaa hr.row
  rw[hrv] at z2
  have zf:=za8 hcur (ps.length * 8+2)
  have hne:v2.ownBlock≠some pb:=fun e=>by
   have e1:=hr.tag pb e
   have e2:=Hpb1.out
   omega
  have hvl:∀ k,v2.ownBlock=some k→Live (zac t w.heap.size 3 k)∧¬ Ty w3 k:=fun k hk=>⟨by have:=hr.tag k hk;unfold Live;omega,zar hr (by decide) hk⟩
  have hpt:¬ Ty w3 pb:=zb3 hcur (by decide)
  have hB:B≤w3.heap.size:=Nat.le_trans hBw Hfr3.out.size
  have hrow:=hr.row
  obtain⟨m,hm⟩ : ∃ m,m=p.rel.length:=⟨_,rfl⟩
  rw[← hm] at hrow hrv z2
  have hm7:m≤70000:=by rw[hm];exact Hp.out.1
  rw[hrv] at hrow
  obtain⟨N,hN⟩ : ∃ N,N=css.flatten:=⟨_,rfl⟩
  rw[← hN] at hrow
  have hels:Ft w3 (Fx w3 (zac t w.heap.size 3)) (fun W'=>zgw W' [.string s,.bool false] (s,false)):=fun V _ _=>rfl
  have y0:=za0 Hp83.out 0
  have y1:=za0 Hp83.out 1
  simp only[List.getElem?_toArray,List.getElem?_cons_zero,List.getElem?_cons_succ] at y0 y1
  have za:∀ ob:Obj,(w3.alloc ob).cell? ⟨pb,ps.length * 8+2,none⟩=some (.slice ra m rc):=fun ob=>((Frm.refl (fun _=>False) w3).alloc ob).keep z2
  have hrowd:(w3.drew).ownsRow B 66 2 (.slice ra m rc) m N:=hrow
  have hBd:B≤w3.drew.heap.size:=hB
  clear z3 z4 z5 z6 z7 zf hrow
  have Hne:=Lib.hid hne
  have Hcur:=Lib.hid hcur
  obtain⟨HH1,HL1,Hr,Hrv,Hvl,Hpt,Hm,HN,Hels,Hrowd⟩:=hd10 H1 L1 hr hrv hvl hpt hm hN hels hrowd;clear H1 L1 hr hrv hvl hpt hm hN hels hrowd
  clear hne hcur
  go_region_law (refine zb2 zsr (w:=w3.drew) rfl (.tmp 28) (.tmp 30) rfl B (.slice ra m rc) m N rfl Hrowd.out 1 (by decide) #[.string s,.bool false] rfl rfl (by simp[Value.oneCell']) (by omega) (by unfold maxLen;omega) hBd ?_;intro g9 c9 w9 hown9 hg9 hm9;have hc9:=zav Hcur.out ((Frm.drew (Frm.refl _ w3)).grown hg9 (S:=fun k=>(Value.slice ra m rc).ownBlock=some k) (fun k hk=>.inr hk)) (by rw[← Hrv.out];exact Hne.out);have d2:=za8 hc9 (ps.length * 8+2);have d1:=(World.cell?_of_block (w:=w3) (w':=w9) (a:=⟨pb,ps.length * 8+2,none⟩) (hc9.trans Hcur.out.symm)).trans z2)
  all_goals
   have hL9:=HL1.out.rel_push Hr.out Hels.out (v9:=.slice (some ⟨g9,0,none⟩) (m+1) c9) (by rw[← Hm.out,← HN.out];exact hown9) (by rw[Hrv.out];exact zbp hg9) (by rw[Hrv.out];exact hm9)
   have hg9':w3.grownBy w9 v2.ownBlock:=by rw[Hrv.out];exact zbp hg9
   obtain⟨Hown9,Hg9,Hm9,Hc9,HL9,Hg9'⟩:=hd6 hown9 hg9 hm9 hc9 hL9 hg9';clear hown9 hg9 hm9 hc9 hL9 hg9'
   clear za
   go_wp2_with fail
   go_end0
   refine zb0 (v:=v2) (j:=i+1) HH1.out HL9.out Hfr3.out Hg9'.out Ht1.out (fun k hk=>za4 hk) Hvl.out Hpb1.out Hpt.out Hbx3.out Hr1.out ?_ ?_ ?_ rfl
   ·intro hj
    rw[Hf.out]
    unfold zb5
    rw[if_pos rfl,verL_one (by omega) (by rw[← Hs.out];exact Hok.out),← Hs.out]
    rfl
   ·intro hj
    have:=Hn.out
    omega
   have:=Hi2.out
   omega
 have hnone:zb5 first line p (zam ws i)=none:=by
  rw[Hf.out]
  unfold zb5
  rw[if_pos rfl,verL_none (by rw[← Hs.out];exact hno)]
  rfl
 obtain⟨Hno,Hfr,Hnone⟩:=hd3 hno hfr hnone;clear hno hfr hnone
 go_wp2_with fail
 exact⟨rfl,zb9 Hnone.out rfl Hfr.out⟩
end

section
open Go.Shelf Go.RowKit Go.Lib VerN VarM
open LexM (Wd)
attribute [local go_sem ↓] Go.wp_at_zero Go.wp_at_succ
theorem zoi {w0 w:World} {r:Nat} {a:Option Addr} {n c:Nat} {fin:Int} {ws:List Wd} {i:Nat} {t:Nat→Nat} {B xb pb cap:Nat} {vf:Value} {x:RcpM} {ps:List PkgM} {p:PkgM} {line:Int} {first:ByteArray} (C:RdC w0 r a n c fin ws) (S:RdS w0 r a n c fin i w) (hi1:i≤990)
  (H:RcSt w t B xb (.slice (some ⟨pb,0,none⟩) (ps.length+1) cap) vf x) (hx:x.pk=ps ++ [p]) (tr:t r=10) (hBw:B≤w.heap.size) (hp:FewP p) (hps:ps.length≤70000) (hf:first=zc7) :
  Calls Tryz.prog 50 #[rp r,.string first,.int .i64 line,.pointer (some ⟨pb,ps.length * 8,none⟩)] w (ze4 r a n c fin ws i t B xb (.slice (some ⟨pb,0,none⟩) (ps.length+1) cap) vf x ps p line first w):=by
 have k0:(first.toList == [118,101,114,115,105,111,110])=false:=by rw[zau first [118,101,114,115,105,111,110] zcp rfl,hf];decide
 have k1:(first.toList == [118,97,114,105,97,110,116])=false:=by rw[zau first [118,97,114,105,97,110,116] zdb rfl,hf];decide
 have k2:(first.toList == [112,114,111,118,105,100,101,115])=true:=by rw[zau first [112,114,111,118,105,100,101,115] zc7 rfl,hf];decide
 have hrw:r < w.heap.size:=(Array.getElem?_eq_some_iff.1 S.box).1
 have hn:=C.len
 have hn1:=C.n1000
 have hlow:=C.low
 obtain⟨dss,v2,v3,v4,v5,v6,v7,L⟩ : ∃ dss v2 v3 v4 v5 v6 v7,zcc w t B (.slice (some ⟨pb,0,none⟩) (ps.length+1) cap) ps p dss v2 v3 v4 v5 v6 v7:=by
  rcases H.pk with⟨h1,_⟩ | ⟨ps',p',dss,v2,v3,v4,v5,v6,v7,h1,L⟩
  ·rw[hx] at h1
   simp at h1
  rw[hx] at h1
  have e1:=List.append_inj_left' h1 rfl
  have e2:=List.append_inj_right' h1 rfl
  obtain rfl:p=p':=by simpa using e2
  subst e1
  exact⟨dss,v2,v3,v4,v5,v6,v7,L⟩
 have hrt:=zb3 S.box (by decide)
 -- the recipe as it is at a later world,ahead of the store
 have hto:∀ W,Frm (fun k=>k=r) w W→RcSt W (zac t w.heap.size 3) B xb (.slice (some ⟨pb,0,none⟩) (ps.length+1) cap) vf x∧zcc W (zac t w.heap.size 3) B (.slice (some ⟨pb,0,none⟩) (ps.length+1) cap) ps p dss v2 v3 v4 v5 v6 v7:=fun W hF =>
  ⟨H.to hF (fun k _ hk=>by subst hk;exact⟨by omega,hrt⟩) (fun k hk _=>za4 hk),L.to hF (fun k _ hk=>by subst hk;unfold Live;exact⟨by omega,by omega,by omega,hrt⟩) (fun k hk _=>za4 hk)⟩
 have ht1:∀ k,k < w.heap.size→zac t w.heap.size 3 k=t k:=fun k hk=>za4 hk
 have hr1:zac t w.heap.size 3 r=10:=by rw[za4 hrw,tr]
 have hpb1:zac t w.heap.size 3 pb=1:=by rw[za4 (L.row.lt pb rfl).2,L.tag pb rfl]
 have hT:=fun (W:World) (k:Below w.heap.size w W)=>zf4 C (S.to k) (by omega) (enters_of Tryz.func47 (by kernel_rfl) rfl) (ok:=zef) (fun s W hs _=>zfm s hs W)
 obtain⟨s,hs⟩ : ∃ s,s=zag ws i:=⟨_,rfl⟩
 unfold zbw at hT
 simp only[← hs] at hT
 obtain⟨⟨cur0,hcur0⟩,-,-,g4,-,-,g7⟩:=L.cells
 obtain⟨css0,hr0⟩:=L.last.prov
 obtain⟨ra,rc,hrv0⟩:=zaa hr0.row
 rw[hrv0] at g4
 obtain⟨m,hm⟩ : ∃ m,m=p.prov.length:=⟨_,rfl⟩
 rw[← hm] at g4 hrv0
 have hkeep:∀ W,Frm (fun k=>k=r) w W→W.cell? ⟨pb,ps.length * 8+4,none⟩=some (.slice ra m rc):=fun W hF=>(hF.cell (p:=⟨pb,ps.length * 8+4,none⟩) (Array.getElem?_eq_some_iff.1 hcur0).1 (fun e=>by
  have h1:pb=r:=e
  have h2:=L.tag pb rfl
  rw[h1,tr] at h2
  cases h2)).trans g4
 clear g7
 have Hkeep:=Lib.hid hkeep
 clear hkeep
 obtain⟨HC,HS,HH,HL,Hx,Hp,Hf,HT,Hs,Hn,Hto,Ht1,Hr1,Hpb1,Hrt,Htr⟩:=hd16 C S H L hx hp hf hT hs hn hto ht1 hr1 hpb1 hrt tr;obtain⟨Hcur0,Hr0,Hrv0,Hm⟩:=hd4 hcur0 hr0 hrv0 hm;clear C S H L hx hp hf hT hs hn hto ht1 hr1 hpb1 hrt tr hcur0 hr0 hrv0 hm
 go_enter Tryz.func50,Tryz.ntmps50
 go_upto_region 11 with (fail)
 have hbd:=Below.drew (Below.refl w.heap.size w)
 have hT1:=HT.out _ hbd
 have hSd:w.drew.cell? ⟨pb,ps.length * 8+4,none⟩=some (.slice ra m rc):=g4
 have hTr:True:=trivial
 refine wp_region_held_drew (S:=fun _=>True) (by kernel_rfl) trivial (fun hHeld=>?_)
 have hfd:Frm (fun k=>k=r) w w.drew:=Frm.drew (Frm.refl _ w)
 generalize w.drew=wd at hbd hT1 hfd hSd ⊢
 clear g4
 obtain⟨Hbd,HT1,Hfd⟩:=hd3 hbd hT1 hfd;clear hbd hT1 hfd
 refine wpAnyH_take (i:=0) (v:=?_) rfl (by kernel_rfl) (by kernel_rfl) (by kernel_rfl) (fun _ _ _ h=>h) (Or.inl ⟨by kernel_rfl,?_⟩) (by assumption) ?_
 rotate_left
 ·(intro w hSw;(try dsimp only at hSw);(try obtain⟨⟩:=hSw);go_simp;try with_reducible rfl)
 try simp only[Act.put,lA,lB,lC]
 refine wpAnyH_take (i:=1) (v:=?_) rfl (by kernel_rfl) (by kernel_rfl) (by kernel_rfl) (fun _ _ _ h=>h) (Or.inl ⟨by kernel_rfl,?_⟩) (by assumption) ?_
 rotate_left
 ·(intro w hSw;(try dsimp only at hSw);(try obtain⟨⟩:=hSw);go_simp;try with_reducible rfl)
 try simp only[Act.put,lA,lB,lC]
 refine wpAnyH_take (i:=2) (v:=?_) rfl (by kernel_rfl) (by kernel_rfl) (by kernel_rfl) (fun _ _ _ h=>h) (Or.inl ⟨by kernel_rfl,?_⟩) (by assumption) ?_
 rotate_left
 ·(intro w hSw;(try dsimp only at hSw);(try obtain⟨⟩:=hSw);go_simp;try with_reducible rfl)
 try simp only[Act.put,lA,lB,lC]
 refine wpAnyH_take (i:=3) (v:=?_) rfl (by kernel_rfl) (by kernel_rfl) (by kernel_rfl) (fun _ _ _ h=>h) (Or.inl ⟨by kernel_rfl,?_⟩) (by assumption) ?_
 rotate_left
 ·(intro w hSw;(try dsimp only at hSw);(try obtain⟨⟩:=hSw);go_simp;try with_reducible rfl)
 try simp only[Act.put,lA,lB,lC]
 refine wpAnyH_take (i:=5) (v:=?_) rfl (by kernel_rfl) (by kernel_rfl) (by kernel_rfl) (fun _ _ _ h=>h) (Or.inl ⟨by kernel_rfl,?_⟩) (by assumption) ?_
 rotate_left
 ·(intro w hSw;(try dsimp only at hSw);(try obtain⟨⟩:=hSw);go_simp;try with_reducible rfl)
 try simp only[Act.put,lA,lB,lC]
 refine wpAnyH_ready (rs:=[4,6]) (by kernel_rfl) (by simp) ?_
 refine AllReadyH.cons rfl (fun K hK=>?_) (AllReadyH.cons rfl (fun K hK=>?_) AllReadyH.nil)
 ·go_simp
  refine hK.out _ _ trivial (fun hHeld=>?_)
  clear hK K
  try simp only[Act.put,lA,lB,lC]
  refine wpAnyH_ready (rs:=[6]) (by kernel_rfl) (by simp) ?_
  refine AllReadyH.cons rfl (fun K hK=>?_) AllReadyH.nil
  go_simp
  refine HT1.out.mono ?_
  rintro e w1 ⟨⟨hi2,hok,rfl,hbx⟩ | ⟨hno,j,rfl⟩,hfr⟩
  ·have hfr1:Frm (fun k=>k=r) w w1:=Hfd.out.trans hfr (fun _ _ h=>h)
   have hS1:=Hkeep.out _ hfr1
   obtain⟨Hi2,Hok,Hbx,Hfr,Hfr1⟩:=hd5 hi2 hok hbx hfr hfr1;clear hi2 hok hbx hfr hfr1
   go_wp2_with fail
   refine hK.out _ _ trivial (fun hHeld=>?_)
   clear hK K
   try simp only[Act.put,lA,lB,lC]
   obtain⟨H1,L1⟩:=Hto.out _ Hfr1.out
   obtain⟨⟨cur,hcur⟩,-⟩:=L1.cells
   obtain⟨css,hr⟩:=L1.last.prov
   have hne:v4.ownBlock≠some pb:=fun e=>by
    have e1:=hr.tag pb e
    have e2:=Hpb1.out
    omega
   have hvl:∀ k,v4.ownBlock=some k→Live (zac t w.heap.size 3 k)∧¬ Ty w1 k:=fun k hk=>⟨by have:=hr.tag k hk;unfold Live;omega,zar hr (by decide) hk⟩
   have hpt:¬ Ty w1 pb:=zb3 hcur (by decide)
   have hB:B≤w1.heap.size:=Nat.le_trans hBw Hfr1.out.size
   have hrow:=hr.row
   rw[← Hm.out,Hrv0.out] at hrow
   have hm7:m≤70000:=by rw[Hm.out];exact Hp.out.2.2.1
   obtain⟨N,hN⟩ : ∃ N,N=css.flatten:=⟨_,rfl⟩
   rw[← hN] at hrow
   have hsz:s.size≤maxLen:=by have:=HC.out.peek_size i;rw[← Hs.out] at this;unfold maxLen;omega
   have hels:Ft w1 (Fx w1 (zac t w.heap.size 3)) (fun W'=>RStr W' [.string s] s):=fun V _ _=>⟨rfl,hsz⟩
   have Hne:=Lib.hid hne
   have Hcur:=Lib.hid hcur
   clear hne hcur
   obtain⟨HH1,HL1,Hr,Hvl,Hpt,HN,Hels,Hrow⟩:=hd8 H1 L1 hr hvl hpt hN hels hrow;clear H1 L1 hr hvl hpt hN hels hrow
   refine wpAnyH_ready (rs:=[7]) (by kernel_rfl) (by simp) ?_
   refine AllReadyH.cons rfl (fun K hK=>?_) AllReadyH.nil
   go_simp
   refine hK.out _ _ trivial (fun hHeld=>?_)
   clear hK K
   try simp only[Act.put,lA,lB,lC]
   refine wpAnyH_ready (rs:=[8]) (by kernel_rfl) (by simp) ?_
   refine AllReadyH.cons rfl (fun K hK=>?_) AllReadyH.nil
   refine zas zcb (.tmp 57) (.tmp 60) rfl B (.slice ra m rc) m N rfl Hrow.out 1 #[.string s] rfl rfl (by simp[Value.oneCell']) (by omega) (by unfold maxLen;omega) hB (fun v' w9 hown9 hg9 hm9=>?_)
   obtain⟨a9,c9,rfl⟩:=zaa hown9
   have hc9:w9.heap[pb]? = some (.cells cur 45 (0,0)):=(hg9.block pb (Array.getElem?_eq_some_iff.1 Hcur.out).1 (fun e=>Hne.out (by rw[Hrv0.out];exact e.symm))).trans Hcur.out
   have d2:=za8 hc9 (ps.length * 8+4)
   have d1:=(World.cell?_of_block (w:=w1) (w':=w9) (a:=⟨pb,ps.length * 8+4,none⟩) (hc9.trans Hcur.out.symm)).trans hS1
   have hL9:=HL1.out.prov_push Hr.out Hels.out (v9:=.slice a9 (m+1) c9) (by rw[← Hm.out,← HN.out];exact hown9) (by rw[Hrv0.out];exact hg9) (by rw[Hrv0.out];exact hm9)
   have hg9':w1.grownBy w9 v4.ownBlock:=by rw[Hrv0.out];exact hg9
   obtain⟨Hown9,Hg9,Hm9,Hc9,HL9,Hg9'⟩:=hd6 hown9 hg9 hm9 hc9 hL9 hg9';clear hown9 hg9 hm9 hc9 hL9 hg9'
   refine hK.out _ _ trivial (fun hHeld=>?_)
   clear hK K
   try simp only[Act.put,lA,lB,lC]
   refine wpAnyH_take (i:=9) (v:=?_) rfl (by kernel_rfl) (by kernel_rfl) (by kernel_rfl) (fun _ _ _ h=>h) (Or.inl ⟨by kernel_rfl,?_⟩) (by assumption) ?_
   rotate_left
   ·(intro w hSw;(try dsimp only at hSw);(try obtain⟨⟩:=hSw);go_simp;try with_reducible rfl)
   try simp only[Act.put,lA,lB,lC]
   refine wpAnyH_take (i:=10) (v:=?_) rfl (by kernel_rfl) (by kernel_rfl) (by kernel_rfl) (fun _ _ _ h=>h) (Or.inl ⟨by kernel_rfl,?_⟩) (by assumption) ?_
   rotate_left
   ·(intro w hSw;(try dsimp only at hSw);(try obtain⟨⟩:=hSw);go_simp;try with_reducible rfl)
   try simp only[Act.put,lA,lB,lC]
   refine wpAnyH_ready (rs:=[11]) (by kernel_rfl) (by simp) ?_
   refine AllReadyH.cons rfl (fun K hK=>?_) AllReadyH.nil
   go_simp
   refine hK.out _ _ trivial (fun hHeld=>?_)
   clear hK K
   try simp only[Act.put,lA,lB,lC]
   refine wpAnyH_done (by kernel_rfl) ?_ _
   go_simp
   go_wp2_with fail
   go_end0
   refine zb0 (v:=v4) (j:=i+1) HH1.out HL9.out Hfr1.out Hg9'.out Ht1.out (fun k hk=>za4 hk) Hvl.out Hpb1.out Hpt.out Hbx.out Hr1.out ?_ ?_ ?_ rfl
   ·intro hj
    rw[Hf.out]
    unfold zb5
    rw[if_neg (by decide),if_neg (by decide),if_pos rfl,zfb (by omega) (by rw[← Hs.out];exact Hok.out),← Hs.out]
    rfl
   ·intro hj
    rw[Hf.out]
    unfold zb5
    rw[if_neg (by decide),if_neg (by decide),if_pos rfl,zdn (.inr (.inr (by omega)))]
    rfl
   have:=Hi2.out
   omega
  have hnone:zb5 first line p (zam ws i)=none:=by
   rw[Hf.out]
   unfold zb5
   rw[if_neg (by decide),if_neg (by decide),if_pos rfl,zdn (by rw[← Hs.out];exact hno.elim .inl fun h=>.inr (.inl h))]
   rfl
  have hfrw:Frm (fun k=>k=r) w w1:=Hfd.out.trans hfr (fun _ _ h=>h)
  obtain⟨Hno,Hfr,Hnone,Hfrw⟩:=hd4 hno hfr hnone hfrw;clear hno hfr hnone hfrw
  go_wp2_with fail
  exact⟨rfl,zb9 Hnone.out rfl Hfrw.out⟩
 go_simp
 refine HT1.out.mono ?_
 rintro e w1 ⟨⟨hi2,hok,rfl,hbx⟩ | ⟨hno,j,rfl⟩,hfr⟩
 ·have hfr1:Frm (fun k=>k=r) w w1:=Hfd.out.trans hfr (fun _ _ h=>h)
  have hS1:=Hkeep.out _ hfr1
  obtain⟨Hi2,Hok,Hbx,Hfr,Hfr1⟩:=hd5 hi2 hok hbx hfr hfr1;clear hi2 hok hbx hfr hfr1
  go_wp2_with fail
  refine hK.out _ _ trivial (fun hHeld=>?_)
  clear hK K
  try simp only[Act.put,lA,lB,lC]
  refine wpAnyH_ready (rs:=[4,7]) (by kernel_rfl) (by simp) ?_
  refine AllReadyH.cons rfl (fun K hK=>?_) (AllReadyH.cons rfl (fun K hK=>?_) AllReadyH.nil)
  ·go_simp
   refine hK.out _ _ trivial (fun hHeld=>?_)
   clear hK K
   try simp only[Act.put,lA,lB,lC]
   obtain⟨H1,L1⟩:=Hto.out _ Hfr1.out
   obtain⟨⟨cur,hcur⟩,-⟩:=L1.cells
   obtain⟨css,hr⟩:=L1.last.prov
   have hne:v4.ownBlock≠some pb:=fun e=>by
    have e1:=hr.tag pb e
    have e2:=Hpb1.out
    omega
   have hvl:∀ k,v4.ownBlock=some k→Live (zac t w.heap.size 3 k)∧¬ Ty w1 k:=fun k hk=>⟨by have:=hr.tag k hk;unfold Live;omega,zar hr (by decide) hk⟩
   have hpt:¬ Ty w1 pb:=zb3 hcur (by decide)
   have hB:B≤w1.heap.size:=Nat.le_trans hBw Hfr1.out.size
   have hrow:=hr.row
   rw[← Hm.out,Hrv0.out] at hrow
   have hm7:m≤70000:=by rw[Hm.out];exact Hp.out.2.2.1
   obtain⟨N,hN⟩ : ∃ N,N=css.flatten:=⟨_,rfl⟩
   rw[← hN] at hrow
   have hsz:s.size≤maxLen:=by have:=HC.out.peek_size i;rw[← Hs.out] at this;unfold maxLen;omega
   have hels:Ft w1 (Fx w1 (zac t w.heap.size 3)) (fun W'=>RStr W' [.string s] s):=fun V _ _=>⟨rfl,hsz⟩
   have Hne:=Lib.hid hne
   have Hcur:=Lib.hid hcur
   clear hne hcur
   obtain⟨HH1,HL1,Hr,Hvl,Hpt,HN,Hels,Hrow⟩:=hd8 H1 L1 hr hvl hpt hN hels hrow;clear H1 L1 hr hvl hpt hN hels hrow
   refine wpAnyH_ready (rs:=[7]) (by kernel_rfl) (by simp) ?_
   refine AllReadyH.cons rfl (fun K hK=>?_) AllReadyH.nil
   go_simp
   refine hK.out _ _ trivial (fun hHeld=>?_)
   clear hK K
   try simp only[Act.put,lA,lB,lC]
   refine wpAnyH_ready (rs:=[8]) (by kernel_rfl) (by simp) ?_
   refine AllReadyH.cons rfl (fun K hK=>?_) AllReadyH.nil
   refine zas zcb (.tmp 57) (.tmp 60) rfl B (.slice ra m rc) m N rfl Hrow.out 1 #[.string s] rfl rfl (by simp[Value.oneCell']) (by omega) (by unfold maxLen;omega) hB (fun v' w9 hown9 hg9 hm9=>?_)
   obtain⟨a9,c9,rfl⟩:=zaa hown9
   have hc9:w9.heap[pb]? = some (.cells cur 45 (0,0)):=(hg9.block pb (Array.getElem?_eq_some_iff.1 Hcur.out).1 (fun e=>Hne.out (by rw[Hrv0.out];exact e.symm))).trans Hcur.out
   have d2:=za8 hc9 (ps.length * 8+4)
   have d1:=(World.cell?_of_block (w:=w1) (w':=w9) (a:=⟨pb,ps.length * 8+4,none⟩) (hc9.trans Hcur.out.symm)).trans hS1
   have hL9:=HL1.out.prov_push Hr.out Hels.out (v9:=.slice a9 (m+1) c9) (by rw[← Hm.out,← HN.out];exact hown9) (by rw[Hrv0.out];exact hg9) (by rw[Hrv0.out];exact hm9)
   have hg9':w1.grownBy w9 v4.ownBlock:=by rw[Hrv0.out];exact hg9
   obtain⟨Hown9,Hg9,Hm9,Hc9,HL9,Hg9'⟩:=hd6 hown9 hg9 hm9 hc9 hL9 hg9';clear hown9 hg9 hm9 hc9 hL9 hg9'
   refine hK.out _ _ trivial (fun hHeld=>?_)
   clear hK K
   try simp only[Act.put,lA,lB,lC]
   refine wpAnyH_take (i:=9) (v:=?_) rfl (by kernel_rfl) (by kernel_rfl) (by kernel_rfl) (fun _ _ _ h=>h) (Or.inl ⟨by kernel_rfl,?_⟩) (by assumption) ?_
   rotate_left
   ·(intro w hSw;(try dsimp only at hSw);(try obtain⟨⟩:=hSw);go_simp;try with_reducible rfl)
   try simp only[Act.put,lA,lB,lC]
   refine wpAnyH_take (i:=10) (v:=?_) rfl (by kernel_rfl) (by kernel_rfl) (by kernel_rfl) (fun _ _ _ h=>h) (Or.inl ⟨by kernel_rfl,?_⟩) (by assumption) ?_
   rotate_left
   ·(intro w hSw;(try dsimp only at hSw);(try obtain⟨⟩:=hSw);go_simp;try with_reducible rfl)
   try simp only[Act.put,lA,lB,lC]
   refine wpAnyH_ready (rs:=[11]) (by kernel_rfl) (by simp) ?_
   refine AllReadyH.cons rfl (fun K hK=>?_) AllReadyH.nil
   go_simp
   refine hK.out _ _ trivial (fun hHeld=>?_)
   clear hK K
   try simp only[Act.put,lA,lB,lC]
   refine wpAnyH_done (by kernel_rfl) ?_ _
   go_simp
   go_wp2_with fail
   go_end0
   refine zb0 (v:=v4) (j:=i+1) HH1.out HL9.out Hfr1.out Hg9'.out Ht1.out (fun k hk=>za4 hk) Hvl.out Hpb1.out Hpt.out Hbx.out Hr1.out ?_ ?_ ?_ rfl
   ·intro hj
    rw[Hf.out]
    unfold zb5
    rw[if_neg (by decide),if_neg (by decide),if_pos rfl,zfb (by omega) (by rw[← Hs.out];exact Hok.out),← Hs.out]
    rfl
   ·intro hj
    rw[Hf.out]
    unfold zb5
    rw[if_neg (by decide),if_neg (by decide),if_pos rfl,zdn (.inr (.inr (by omega)))]
    rfl
   have:=Hi2.out
   omega
  obtain⟨H1,L1⟩:=Hto.out _ Hfr1.out
  obtain⟨⟨cur,hcur⟩,-⟩:=L1.cells
  obtain⟨css,hr⟩:=L1.last.prov
  have hne:v4.ownBlock≠some pb:=fun e=>by
   have e1:=hr.tag pb e
   have e2:=Hpb1.out
   omega
  have hvl:∀ k,v4.ownBlock=some k→Live (zac t w.heap.size 3 k)∧¬ Ty w1 k:=fun k hk=>⟨by have:=hr.tag k hk;unfold Live;omega,zar hr (by decide) hk⟩
  have hpt:¬ Ty w1 pb:=zb3 hcur (by decide)
  have hB:B≤w1.heap.size:=Nat.le_trans hBw Hfr1.out.size
  have hrow:=hr.row
  rw[← Hm.out,Hrv0.out] at hrow
  have hm7:m≤70000:=by rw[Hm.out];exact Hp.out.2.2.1
  obtain⟨N,hN⟩ : ∃ N,N=css.flatten:=⟨_,rfl⟩
  rw[← hN] at hrow
  have hsz:s.size≤maxLen:=by have:=HC.out.peek_size i;rw[← Hs.out] at this;unfold maxLen;omega
  have hels:Ft w1 (Fx w1 (zac t w.heap.size 3)) (fun W'=>RStr W' [.string s] s):=fun V _ _=>⟨rfl,hsz⟩
  have Hne:=Lib.hid hne
  have Hcur:=Lib.hid hcur
  clear hne hcur
  obtain⟨HH1,HL1,Hr,Hvl,Hpt,HN,Hels,Hrow⟩:=hd8 H1 L1 hr hvl hpt hN hels hrow;clear H1 L1 hr hvl hpt hN hels hrow
  go_simp
  refine hK.out _ _ trivial (fun hHeld=>?_)
  clear hK K
  try simp only[Act.put,lA,lB,lC]
  have hS2:=Hkeep.out _ (Hfr1.out.alloc (.cells #[.string s] 9))
  refine wpAnyH_ready (rs:=[4]) (by kernel_rfl) (by simp) ?_
  refine AllReadyH.cons rfl (fun K hK=>?_) AllReadyH.nil
  go_simp
  refine hK.out _ _ trivial (fun hHeld=>?_)
  clear hK K
  try simp only[Act.put,lA,lB,lC]
  clear hS2
  refine wpAnyH_ready (rs:=[8]) (by kernel_rfl) (by simp) ?_
  refine AllReadyH.cons rfl (fun K hK=>?_) AllReadyH.nil
  refine zas zcb (.tmp 57) (.tmp 60) rfl B (.slice ra m rc) m N rfl Hrow.out 1 #[.string s] rfl rfl (by simp[Value.oneCell']) (by omega) (by unfold maxLen;omega) hB (fun v' w9 hown9 hg9 hm9=>?_)
  obtain⟨a9,c9,rfl⟩:=zaa hown9
  have hc9:w9.heap[pb]? = some (.cells cur 45 (0,0)):=(hg9.block pb (Array.getElem?_eq_some_iff.1 Hcur.out).1 (fun e=>Hne.out (by rw[Hrv0.out];exact e.symm))).trans Hcur.out
  have d2:=za8 hc9 (ps.length * 8+4)
  have d1:=(World.cell?_of_block (w:=w1) (w':=w9) (a:=⟨pb,ps.length * 8+4,none⟩) (hc9.trans Hcur.out.symm)).trans hS1
  have hL9:=HL1.out.prov_push Hr.out Hels.out (v9:=.slice a9 (m+1) c9) (by rw[← Hm.out,← HN.out];exact hown9) (by rw[Hrv0.out];exact hg9) (by rw[Hrv0.out];exact hm9)
  have hg9':w1.grownBy w9 v4.ownBlock:=by rw[Hrv0.out];exact hg9
  obtain⟨Hown9,Hg9,Hm9,Hc9,HL9,Hg9'⟩:=hd6 hown9 hg9 hm9 hc9 hL9 hg9';clear hown9 hg9 hm9 hc9 hL9 hg9'
  refine hK.out _ _ trivial (fun hHeld=>?_)
  clear hK K
  try simp only[Act.put,lA,lB,lC]
  refine wpAnyH_take (i:=9) (v:=?_) rfl (by kernel_rfl) (by kernel_rfl) (by kernel_rfl) (fun _ _ _ h=>h) (Or.inl ⟨by kernel_rfl,?_⟩) (by assumption) ?_
  rotate_left
  ·(intro w hSw;(try dsimp only at hSw);(try obtain⟨⟩:=hSw);go_simp;try with_reducible rfl)
  try simp only[Act.put,lA,lB,lC]
  refine wpAnyH_take (i:=10) (v:=?_) rfl (by kernel_rfl) (by kernel_rfl) (by kernel_rfl) (fun _ _ _ h=>h) (Or.inl ⟨by kernel_rfl,?_⟩) (by assumption) ?_
  rotate_left
  ·(intro w hSw;(try dsimp only at hSw);(try obtain⟨⟩:=hSw);go_simp;try with_reducible rfl)
  try simp only[Act.put,lA,lB,lC]
  refine wpAnyH_ready (rs:=[11]) (by kernel_rfl) (by simp) ?_
  refine AllReadyH.cons rfl (fun K hK=>?_) AllReadyH.nil
  go_simp
  refine hK.out _ _ trivial (fun hHeld=>?_)
  clear hK K
  try simp only[Act.put,lA,lB,lC]
  refine wpAnyH_done (by kernel_rfl) ?_ _
  go_simp
  go_wp2_with fail
  go_end0
  refine zb0 (v:=v4) (j:=i+1) HH1.out HL9.out Hfr1.out Hg9'.out Ht1.out (fun k hk=>za4 hk) Hvl.out Hpb1.out Hpt.out Hbx.out Hr1.out ?_ ?_ ?_ rfl
  ·intro hj
   rw[Hf.out]
   unfold zb5
   rw[if_neg (by decide),if_neg (by decide),if_pos rfl,zfb (by omega) (by rw[← Hs.out];exact Hok.out),← Hs.out]
   rfl
  ·intro hj
   rw[Hf.out]
   unfold zb5
   rw[if_neg (by decide),if_neg (by decide),if_pos rfl,zdn (.inr (.inr (by omega)))]
   rfl
  have:=Hi2.out
  omega
 have hnone:zb5 first line p (zam ws i)=none:=by
  rw[Hf.out]
  unfold zb5
  rw[if_neg (by decide),if_neg (by decide),if_pos rfl,zdn (by rw[← Hs.out];exact hno.elim .inl fun h=>.inr (.inl h))]
  rfl
 have hfrw:Frm (fun k=>k=r) w w1:=Hfd.out.trans hfr (fun _ _ h=>h)
 obtain⟨Hno,Hfr,Hnone,Hfrw⟩:=hd4 hno hfr hnone hfrw;clear hno hfr hnone hfrw
 go_wp2_with fail
 exact⟨rfl,zb9 Hnone.out rfl Hfrw.out⟩
theorem zoj {w0 w:World} {r:Nat} {a:Option Addr} {n c:Nat} {fin:Int} {ws:List Wd} {i:Nat} {t:Nat→Nat} {B xb pb cap:Nat} {vf:Value} {x:RcpM} {ps:List PkgM} {p:PkgM} {line:Int} {first:ByteArray} (C:RdC w0 r a n c fin ws) (S:RdS w0 r a n c fin i w) (hi1:i≤990)
  (H:RcSt w t B xb (.slice (some ⟨pb,0,none⟩) (ps.length+1) cap) vf x) (hx:x.pk=ps ++ [p]) (tr:t r=10) (hBw:B≤w.heap.size) (hp:FewP p) (hps:ps.length≤70000) (hf:first=zlf) :
  Calls Tryz.prog 50 #[rp r,.string first,.int .i64 line,.pointer (some ⟨pb,ps.length * 8,none⟩)] w (ze4 r a n c fin ws i t B xb (.slice (some ⟨pb,0,none⟩) (ps.length+1) cap) vf x ps p line first w):=by
 have k0:(first.toList == [118,101,114,115,105,111,110])=false:=by rw[zau first [118,101,114,115,105,111,110] zcp rfl,hf];decide
 have k1:(first.toList == [118,97,114,105,97,110,116])=false:=by rw[zau first [118,97,114,105,97,110,116] zdb rfl,hf];decide
 have k2:(first.toList == [112,114,111,118,105,100,101,115])=false:=by rw[zau first [112,114,111,118,105,100,101,115] zc7 rfl,hf];decide
 have k3:(first.toList == [100,101,112,101,110,100,115])=false:=by rw[zau first [100,101,112,101,110,100,115] zdc rfl,hf];decide
 have k4:(first.toList == [99,111,110,102,108,105,99,116,115])=false:=by rw[zau first [99,111,110,102,108,105,99,116,115] zbz rfl,hf];decide
 have k5:(first.toList == [102,105,108,101])=true:=by rw[zau first [102,105,108,101] zlf rfl,hf];decide
 have hrw:r < w.heap.size:=(Array.getElem?_eq_some_iff.1 S.box).1
 have hn:=C.len
 have hn1:=C.n1000
 have hlow:=C.low
 obtain⟨dss,v2,v3,v4,v5,v6,v7,L⟩ : ∃ dss v2 v3 v4 v5 v6 v7,zcc w t B (.slice (some ⟨pb,0,none⟩) (ps.length+1) cap) ps p dss v2 v3 v4 v5 v6 v7:=by
  rcases H.pk with⟨h1,_⟩ | ⟨ps',p',dss,v2,v3,v4,v5,v6,v7,h1,L⟩
  ·rw[hx] at h1
   simp at h1
  rw[hx] at h1
  have e1:=List.append_inj_left' h1 rfl
  have e2:=List.append_inj_right' h1 rfl
  obtain rfl:p=p':=by simpa using e2
  subst e1
  exact⟨dss,v2,v3,v4,v5,v6,v7,L⟩
 have hrt:=zb3 S.box (by decide)
 -- the recipe as it is at a later world,ahead of the store
 have hto:∀ W,Frm (fun k=>k=r) w W→RcSt W (zac t w.heap.size 3) B xb (.slice (some ⟨pb,0,none⟩) (ps.length+1) cap) vf x∧zcc W (zac t w.heap.size 3) B (.slice (some ⟨pb,0,none⟩) (ps.length+1) cap) ps p dss v2 v3 v4 v5 v6 v7:=fun W hF =>
  ⟨H.to hF (fun k _ hk=>by subst hk;exact⟨by omega,hrt⟩) (fun k hk _=>za4 hk),L.to hF (fun k _ hk=>by subst hk;unfold Live;exact⟨by omega,by omega,by omega,hrt⟩) (fun k hk _=>za4 hk)⟩
 have ht1:∀ k,k < w.heap.size→zac t w.heap.size 3 k=t k:=fun k hk=>za4 hk
 have hr1:zac t w.heap.size 3 r=10:=by rw[za4 hrw,tr]
 have hpb1:zac t w.heap.size 3 pb=1:=by rw[za4 (L.row.lt pb rfl).2,L.tag pb rfl]
 have hT:=fun (W:World) (k:Below w.heap.size w W)=>zf4 C (S.to k) (by omega) (enters_of Tryz.func90 (by kernel_rfl) rfl) (ok:=zos) (fun s W hs _=>path_any s hs W)
 obtain⟨s,hs⟩ : ∃ s,s=zag ws i:=⟨_,rfl⟩
 unfold zbw at hT
 simp only[← hs] at hT
 obtain⟨⟨cur0,hcur0⟩,-,-,g4,-,-,g7⟩:=L.cells
 obtain⟨css0,hr0⟩:=L.last.files
 obtain⟨ra,rc,hrv0⟩:=zaa hr0.row
 rw[hrv0] at g7
 obtain⟨m,hm⟩ : ∃ m,m=p.files.length:=⟨_,rfl⟩
 rw[← hm] at g7 hrv0
 have hkeep:∀ W,Frm (fun k=>k=r) w W→W.cell? ⟨pb,ps.length * 8+7,none⟩=some (.slice ra m rc):=fun W hF=>(hF.cell (p:=⟨pb,ps.length * 8+7,none⟩) (Array.getElem?_eq_some_iff.1 hcur0).1 (fun e=>by
  have h1:pb=r:=e
  have h2:=L.tag pb rfl
  rw[h1,tr] at h2
  cases h2)).trans g7
 clear g4
 have Hkeep:=Lib.hid hkeep
 clear hkeep
 obtain⟨HC,HS,HH,HL,Hx,Hp,Hf,HT,Hs,Hn,Hto,Ht1,Hr1,Hpb1,Hrt,Htr⟩:=hd16 C S H L hx hp hf hT hs hn hto ht1 hr1 hpb1 hrt tr;obtain⟨Hcur0,Hr0,Hrv0,Hm⟩:=hd4 hcur0 hr0 hrv0 hm;clear C S H L hx hp hf hT hs hn hto ht1 hr1 hpb1 hrt tr hcur0 hr0 hrv0 hm
 go_enter Tryz.func50,Tryz.ntmps50
 go_upto_region 25 with (fail)
 have hbd:=Below.drew (Below.refl w.heap.size w)
 have hT1:=HT.out _ hbd
 have hSd:w.drew.cell? ⟨pb,ps.length * 8+7,none⟩=some (.slice ra m rc):=g7
 have hTr:True:=trivial
 refine wp_region_held_drew (S:=fun _=>True) (by kernel_rfl) trivial (fun hHeld=>?_)
 have hfd:Frm (fun k=>k=r) w w.drew:=Frm.drew (Frm.refl _ w)
 generalize w.drew=wd at hbd hT1 hfd hSd ⊢
 clear g7
 obtain⟨Hbd,HT1,Hfd⟩:=hd3 hbd hT1 hfd;clear hbd hT1 hfd
 refine wpAnyH_take (i:=0) (v:=?_) rfl (by kernel_rfl) (by kernel_rfl) (by kernel_rfl) (fun _ _ _ h=>h) (Or.inl ⟨by kernel_rfl,?_⟩) (by assumption) ?_
 rotate_left
 ·(intro w hSw;(try dsimp only at hSw);(try obtain⟨⟩:=hSw);go_simp;try with_reducible rfl)
 try simp only[Act.put,lA,lB,lC]
 refine wpAnyH_take (i:=1) (v:=?_) rfl (by kernel_rfl) (by kernel_rfl) (by kernel_rfl) (fun _ _ _ h=>h) (Or.inl ⟨by kernel_rfl,?_⟩) (by assumption) ?_
 rotate_left
 ·(intro w hSw;(try dsimp only at hSw);(try obtain⟨⟩:=hSw);go_simp;try with_reducible rfl)
 try simp only[Act.put,lA,lB,lC]
 refine wpAnyH_take (i:=2) (v:=?_) rfl (by kernel_rfl) (by kernel_rfl) (by kernel_rfl) (fun _ _ _ h=>h) (Or.inl ⟨by kernel_rfl,?_⟩) (by assumption) ?_
 rotate_left
 ·(intro w hSw;(try dsimp only at hSw);(try obtain⟨⟩:=hSw);go_simp;try with_reducible rfl)
 try simp only[Act.put,lA,lB,lC]
 refine wpAnyH_take (i:=3) (v:=?_) rfl (by kernel_rfl) (by kernel_rfl) (by kernel_rfl) (fun _ _ _ h=>h) (Or.inl ⟨by kernel_rfl,?_⟩) (by assumption) ?_
 rotate_left
 ·(intro w hSw;(try dsimp only at hSw);(try obtain⟨⟩:=hSw);go_simp;try with_reducible rfl)
 try simp only[Act.put,lA,lB,lC]
 refine wpAnyH_take (i:=5) (v:=?_) rfl (by kernel_rfl) (by kernel_rfl) (by kernel_rfl) (fun _ _ _ h=>h) (Or.inl ⟨by kernel_rfl,?_⟩) (by assumption) ?_
 rotate_left
 ·(intro w hSw;(try dsimp only at hSw);(try obtain⟨⟩:=hSw);go_simp;try with_reducible rfl)
 try simp only[Act.put,lA,lB,lC]
 refine wpAnyH_ready (rs:=[4,6]) (by kernel_rfl) (by simp) ?_
 refine AllReadyH.cons rfl (fun K hK=>?_) (AllReadyH.cons rfl (fun K hK=>?_) AllReadyH.nil)
 ·go_simp
  refine hK.out _ _ trivial (fun hHeld=>?_)
  clear hK K
  try simp only[Act.put,lA,lB,lC]
  refine wpAnyH_ready (rs:=[6]) (by kernel_rfl) (by simp) ?_
  refine AllReadyH.cons rfl (fun K hK=>?_) AllReadyH.nil
  go_simp
  refine HT1.out.mono ?_
  rintro e w1 ⟨⟨hi2,hok,rfl,hbx⟩ | ⟨hno,j,rfl⟩,hfr⟩
  ·have hfr1:Frm (fun k=>k=r) w w1:=Hfd.out.trans hfr (fun _ _ h=>h)
   have hS1:=Hkeep.out _ hfr1
   obtain⟨Hi2,Hok,Hbx,Hfr,Hfr1⟩:=hd5 hi2 hok hbx hfr hfr1;clear hi2 hok hbx hfr hfr1
   go_wp2_with fail
   refine hK.out _ _ trivial (fun hHeld=>?_)
   clear hK K
   try simp only[Act.put,lA,lB,lC]
   obtain⟨H1,L1⟩:=Hto.out _ Hfr1.out
   obtain⟨⟨cur,hcur⟩,-⟩:=L1.cells
   obtain⟨css,hr⟩:=L1.last.files
   have hne:v7.ownBlock≠some pb:=fun e=>by
    have e1:=hr.tag pb e
    have e2:=Hpb1.out
    omega
   have hvl:∀ k,v7.ownBlock=some k→Live (zac t w.heap.size 3 k)∧¬ Ty w1 k:=fun k hk=>⟨by have:=hr.tag k hk;unfold Live;omega,zar hr (by decide) hk⟩
   have hpt:¬ Ty w1 pb:=zb3 hcur (by decide)
   have hB:B≤w1.heap.size:=Nat.le_trans hBw Hfr1.out.size
   have hrow:=hr.row
   rw[← Hm.out,Hrv0.out] at hrow
   have hm7:m≤70000:=by rw[Hm.out];exact Hp.out.2.2.2.2.2
   obtain⟨N,hN⟩ : ∃ N,N=css.flatten:=⟨_,rfl⟩
   rw[← hN] at hrow
   have hsz:s.size≤maxLen:=by have:=HC.out.peek_size i;rw[← Hs.out] at this;unfold maxLen;omega
   have hels:Ft w1 (Fx w1 (zac t w.heap.size 3)) (fun W'=>RStr W' [.string s] s):=fun V _ _=>⟨rfl,hsz⟩
   have Hne:=Lib.hid hne
   have Hcur:=Lib.hid hcur
   clear hne hcur
   obtain⟨HH1,HL1,Hr,Hvl,Hpt,HN,Hels,Hrow⟩:=hd8 H1 L1 hr hvl hpt hN hels hrow;clear H1 L1 hr hvl hpt hN hels hrow
   refine wpAnyH_ready (rs:=[7]) (by kernel_rfl) (by simp) ?_
   refine AllReadyH.cons rfl (fun K hK=>?_) AllReadyH.nil
   go_simp
   refine hK.out _ _ trivial (fun hHeld=>?_)
   clear hK K
   try simp only[Act.put,lA,lB,lC]
   refine wpAnyH_ready (rs:=[8]) (by kernel_rfl) (by simp) ?_
   refine AllReadyH.cons rfl (fun K hK=>?_) AllReadyH.nil
   refine zas zcb (.tmp 121) (.tmp 124) rfl B (.slice ra m rc) m N rfl Hrow.out 1 #[.string s] rfl rfl (by simp[Value.oneCell']) (by omega) (by unfold maxLen;omega) hB (fun v' w9 hown9 hg9 hm9=>?_)
   obtain⟨a9,c9,rfl⟩:=zaa hown9
   have hc9:w9.heap[pb]? = some (.cells cur 45 (0,0)):=(hg9.block pb (Array.getElem?_eq_some_iff.1 Hcur.out).1 (fun e=>Hne.out (by rw[Hrv0.out];exact e.symm))).trans Hcur.out
   have d2:=za8 hc9 (ps.length * 8+7)
   have d1:=(World.cell?_of_block (w:=w1) (w':=w9) (a:=⟨pb,ps.length * 8+7,none⟩) (hc9.trans Hcur.out.symm)).trans hS1
   have hL9:=HL1.out.files_push Hr.out Hels.out (v9:=.slice a9 (m+1) c9) (by rw[← Hm.out,← HN.out];exact hown9) (by rw[Hrv0.out];exact hg9) (by rw[Hrv0.out];exact hm9)
   have hg9':w1.grownBy w9 v7.ownBlock:=by rw[Hrv0.out];exact hg9
   obtain⟨Hown9,Hg9,Hm9,Hc9,HL9,Hg9'⟩:=hd6 hown9 hg9 hm9 hc9 hL9 hg9';clear hown9 hg9 hm9 hc9 hL9 hg9'
   refine hK.out _ _ trivial (fun hHeld=>?_)
   clear hK K
   try simp only[Act.put,lA,lB,lC]
   refine wpAnyH_take (i:=9) (v:=?_) rfl (by kernel_rfl) (by kernel_rfl) (by kernel_rfl) (fun _ _ _ h=>h) (Or.inl ⟨by kernel_rfl,?_⟩) (by assumption) ?_
   rotate_left
   ·(intro w hSw;(try dsimp only at hSw);(try obtain⟨⟩:=hSw);go_simp;try with_reducible rfl)
   try simp only[Act.put,lA,lB,lC]
   refine wpAnyH_take (i:=10) (v:=?_) rfl (by kernel_rfl) (by kernel_rfl) (by kernel_rfl) (fun _ _ _ h=>h) (Or.inl ⟨by kernel_rfl,?_⟩) (by assumption) ?_
   rotate_left
   ·(intro w hSw;(try dsimp only at hSw);(try obtain⟨⟩:=hSw);go_simp;try with_reducible rfl)
   try simp only[Act.put,lA,lB,lC]
   refine wpAnyH_ready (rs:=[11]) (by kernel_rfl) (by simp) ?_
   refine AllReadyH.cons rfl (fun K hK=>?_) AllReadyH.nil
   go_simp
   refine hK.out _ _ trivial (fun hHeld=>?_)
   clear hK K
   try simp only[Act.put,lA,lB,lC]
   refine wpAnyH_done (by kernel_rfl) ?_ _
   go_simp
   go_wp2_with fail
   go_end0
   refine zb0 (v:=v7) (j:=i+1) HH1.out HL9.out Hfr1.out Hg9'.out Ht1.out (fun k hk=>za4 hk) Hvl.out Hpb1.out Hpt.out Hbx.out Hr1.out ?_ ?_ ?_ rfl
   ·intro hj
    rw[Hf.out]
    unfold zb5
    rw[if_neg (by decide),if_neg (by decide),if_neg (by decide),if_neg (by decide),if_neg (by decide),if_pos rfl,zfb (by omega) (by rw[← Hs.out];exact Hok.out),← Hs.out]
    rfl
   ·intro hj
    rw[Hf.out]
    unfold zb5
    rw[if_neg (by decide),if_neg (by decide),if_neg (by decide),if_neg (by decide),if_neg (by decide),if_pos rfl,zdn (.inr (.inr (by omega)))]
    rfl
   have:=Hi2.out
   omega
  have hnone:zb5 first line p (zam ws i)=none:=by
   rw[Hf.out]
   unfold zb5
   rw[if_neg (by decide),if_neg (by decide),if_neg (by decide),if_neg (by decide),if_neg (by decide),if_pos rfl,zdn (by rw[← Hs.out];exact hno.elim .inl fun h=>.inr (.inl h))]
   rfl
  have hfrw:Frm (fun k=>k=r) w w1:=Hfd.out.trans hfr (fun _ _ h=>h)
  obtain⟨Hno,Hfr,Hnone,Hfrw⟩:=hd4 hno hfr hnone hfrw;clear hno hfr hnone hfrw
  go_wp2_with fail
  exact⟨rfl,zb9 Hnone.out rfl Hfrw.out⟩
 go_simp
 refine HT1.out.mono ?_
 rintro e w1 ⟨⟨hi2,hok,rfl,hbx⟩ | ⟨hno,j,rfl⟩,hfr⟩
 ·have hfr1:Frm (fun k=>k=r) w w1:=Hfd.out.trans hfr (fun _ _ h=>h)
  have hS1:=Hkeep.out _ hfr1
  obtain⟨Hi2,Hok,Hbx,Hfr,Hfr1⟩:=hd5 hi2 hok hbx hfr hfr1;clear hi2 hok hbx hfr hfr1
  go_wp2_with fail
  refine hK.out _ _ trivial (fun hHeld=>?_)
  clear hK K
  try simp only[Act.put,lA,lB,lC]
  refine wpAnyH_ready (rs:=[4,7]) (by kernel_rfl) (by simp) ?_
  refine AllReadyH.cons rfl (fun K hK=>?_) (AllReadyH.cons rfl (fun K hK=>?_) AllReadyH.nil)
  ·go_simp
   refine hK.out _ _ trivial (fun hHeld=>?_)
   clear hK K
   try simp only[Act.put,lA,lB,lC]
   obtain⟨H1,L1⟩:=Hto.out _ Hfr1.out
   obtain⟨⟨cur,hcur⟩,-⟩:=L1.cells
   obtain⟨css,hr⟩:=L1.last.files
   have hne:v7.ownBlock≠some pb:=fun e=>by
    have e1:=hr.tag pb e
    have e2:=Hpb1.out
    omega
   have hvl:∀ k,v7.ownBlock=some k→Live (zac t w.heap.size 3 k)∧¬ Ty w1 k:=fun k hk=>⟨by have:=hr.tag k hk;unfold Live;omega,zar hr (by decide) hk⟩
   have hpt:¬ Ty w1 pb:=zb3 hcur (by decide)
   have hB:B≤w1.heap.size:=Nat.le_trans hBw Hfr1.out.size
   have hrow:=hr.row
   rw[← Hm.out,Hrv0.out] at hrow
   have hm7:m≤70000:=by rw[Hm.out];exact Hp.out.2.2.2.2.2
   obtain⟨N,hN⟩ : ∃ N,N=css.flatten:=⟨_,rfl⟩
   rw[← hN] at hrow
   have hsz:s.size≤maxLen:=by have:=HC.out.peek_size i;rw[← Hs.out] at this;unfold maxLen;omega
   have hels:Ft w1 (Fx w1 (zac t w.heap.size 3)) (fun W'=>RStr W' [.string s] s):=fun V _ _=>⟨rfl,hsz⟩
   have Hne:=Lib.hid hne
   have Hcur:=Lib.hid hcur
   clear hne hcur
   obtain⟨HH1,HL1,Hr,Hvl,Hpt,HN,Hels,Hrow⟩:=hd8 H1 L1 hr hvl hpt hN hels hrow;clear H1 L1 hr hvl hpt hN hels hrow
   refine wpAnyH_ready (rs:=[7]) (by kernel_rfl) (by simp) ?_
   refine AllReadyH.cons rfl (fun K hK=>?_) AllReadyH.nil
   go_simp
   refine hK.out _ _ trivial (fun hHeld=>?_)
   clear hK K
   try simp only[Act.put,lA,lB,lC]
   refine wpAnyH_ready (rs:=[8]) (by kernel_rfl) (by simp) ?_
   refine AllReadyH.cons rfl (fun K hK=>?_) AllReadyH.nil
   refine zas zcb (.tmp 121) (.tmp 124) rfl B (.slice ra m rc) m N rfl Hrow.out 1 #[.string s] rfl rfl (by simp[Value.oneCell']) (by omega) (by unfold maxLen;omega) hB (fun v' w9 hown9 hg9 hm9=>?_)
   obtain⟨a9,c9,rfl⟩:=zaa hown9
   have hc9:w9.heap[pb]? = some (.cells cur 45 (0,0)):=(hg9.block pb (Array.getElem?_eq_some_iff.1 Hcur.out).1 (fun e=>Hne.out (by rw[Hrv0.out];exact e.symm))).trans Hcur.out
   have d2:=za8 hc9 (ps.length * 8+7)
   have d1:=(World.cell?_of_block (w:=w1) (w':=w9) (a:=⟨pb,ps.length * 8+7,none⟩) (hc9.trans Hcur.out.symm)).trans hS1
   have hL9:=HL1.out.files_push Hr.out Hels.out (v9:=.slice a9 (m+1) c9) (by rw[← Hm.out,← HN.out];exact hown9) (by rw[Hrv0.out];exact hg9) (by rw[Hrv0.out];exact hm9)
   have hg9':w1.grownBy w9 v7.ownBlock:=by rw[Hrv0.out];exact hg9
   obtain⟨Hown9,Hg9,Hm9,Hc9,HL9,Hg9'⟩:=hd6 hown9 hg9 hm9 hc9 hL9 hg9';clear hown9 hg9 hm9 hc9 hL9 hg9'
   refine hK.out _ _ trivial (fun hHeld=>?_)
   clear hK K
   try simp only[Act.put,lA,lB,lC]
   refine wpAnyH_take (i:=9) (v:=?_) rfl (by kernel_rfl) (by kernel_rfl) (by kernel_rfl) (fun _ _ _ h=>h) (Or.inl ⟨by kernel_rfl,?_⟩) (by assumption) ?_
   rotate_left
   ·(intro w hSw;(try dsimp only at hSw);(try obtain⟨⟩:=hSw);go_simp;try with_reducible rfl)
   try simp only[Act.put,lA,lB,lC]
   refine wpAnyH_take (i:=10) (v:=?_) rfl (by kernel_rfl) (by kernel_rfl) (by kernel_rfl) (fun _ _ _ h=>h) (Or.inl ⟨by kernel_rfl,?_⟩) (by assumption) ?_
   rotate_left
   ·(intro w hSw;(try dsimp only at hSw);(try obtain⟨⟩:=hSw);go_simp;try with_reducible rfl)
   try simp only[Act.put,lA,lB,lC]
   refine wpAnyH_ready (rs:=[11]) (by kernel_rfl) (by simp) ?_
   refine AllReadyH.cons rfl (fun K hK=>?_) AllReadyH.nil
   go_simp
   refine hK.out _ _ trivial (fun hHeld=>?_)
   clear hK K
   try simp only[Act.put,lA,lB,lC]
   refine wpAnyH_done (by kernel_rfl) ?_ _
   go_simp
   go_wp2_with fail
   go_end0
   refine zb0 (v:=v7) (j:=i+1) HH1.out HL9.out Hfr1.out Hg9'.out Ht1.out (fun k hk=>za4 hk) Hvl.out Hpb1.out Hpt.out Hbx.out Hr1.out ?_ ?_ ?_ rfl
   ·intro hj
    rw[Hf.out]
    unfold zb5
    rw[if_neg (by decide),if_neg (by decide),if_neg (by decide),if_neg (by decide),if_neg (by decide),if_pos rfl,zfb (by omega) (by rw[← Hs.out];exact Hok.out),← Hs.out]
    rfl
   ·intro hj
    rw[Hf.out]
    unfold zb5
    rw[if_neg (by decide),if_neg (by decide),if_neg (by decide),if_neg (by decide),if_neg (by decide),if_pos rfl,zdn (.inr (.inr (by omega)))]
    rfl
   have:=Hi2.out
   omega
  obtain⟨H1,L1⟩:=Hto.out _ Hfr1.out
  obtain⟨⟨cur,hcur⟩,-⟩:=L1.cells
  obtain⟨css,hr⟩:=L1.last.files
  have hne:v7.ownBlock≠some pb:=fun e=>by
   have e1:=hr.tag pb e
   have e2:=Hpb1.out
   omega
  have hvl:∀ k,v7.ownBlock=some k→Live (zac t w.heap.size 3 k)∧¬ Ty w1 k:=fun k hk=>⟨by have:=hr.tag k hk;unfold Live;omega,zar hr (by decide) hk⟩
  have hpt:¬ Ty w1 pb:=zb3 hcur (by decide)
  have hB:B≤w1.heap.size:=Nat.le_trans hBw Hfr1.out.size
  have hrow:=hr.row
  rw[← Hm.out,Hrv0.out] at hrow
  have hm7:m≤70000:=by rw[Hm.out];exact Hp.out.2.2.2.2.2
  obtain⟨N,hN⟩ : ∃ N,N=css.flatten:=⟨_,rfl⟩
  rw[← hN] at hrow
  have hsz:s.size≤maxLen:=by have:=HC.out.peek_size i;rw[← Hs.out] at this;unfold maxLen;omega
  have hels:Ft w1 (Fx w1 (zac t w.heap.size 3)) (fun W'=>RStr W' [.string s] s):=fun V _ _=>⟨rfl,hsz⟩
  have Hne:=Lib.hid hne
  have Hcur:=Lib.hid hcur
  clear hne hcur
  obtain⟨HH1,HL1,Hr,Hvl,Hpt,HN,Hels,Hrow⟩:=hd8 H1 L1 hr hvl hpt hN hels hrow;clear H1 L1 hr hvl hpt hN hels hrow
  go_simp
  refine hK.out _ _ trivial (fun hHeld=>?_)
  clear hK K
  try simp only[Act.put,lA,lB,lC]
  have hS2:=Hkeep.out _ (Hfr1.out.alloc (.cells #[.string s] 9))
  refine wpAnyH_ready (rs:=[4]) (by kernel_rfl) (by simp) ?_
  refine AllReadyH.cons rfl (fun K hK=>?_) AllReadyH.nil
  go_simp
  refine hK.out _ _ trivial (fun hHeld=>?_)
  clear hK K
  try simp only[Act.put,lA,lB,lC]
  clear hS2
  refine wpAnyH_ready (rs:=[8]) (by kernel_rfl) (by simp) ?_
  refine AllReadyH.cons rfl (fun K hK=>?_) AllReadyH.nil
  refine zas zcb (.tmp 121) (.tmp 124) rfl B (.slice ra m rc) m N rfl Hrow.out 1 #[.string s] rfl rfl (by simp[Value.oneCell']) (by omega) (by unfold maxLen;omega) hB (fun v' w9 hown9 hg9 hm9=>?_)
  obtain⟨a9,c9,rfl⟩:=zaa hown9
  have hc9:w9.heap[pb]? = some (.cells cur 45 (0,0)):=(hg9.block pb (Array.getElem?_eq_some_iff.1 Hcur.out).1 (fun e=>Hne.out (by rw[Hrv0.out];exact e.symm))).trans Hcur.out
  have d2:=za8 hc9 (ps.length * 8+7)
  have d1:=(World.cell?_of_block (w:=w1) (w':=w9) (a:=⟨pb,ps.length * 8+7,none⟩) (hc9.trans Hcur.out.symm)).trans hS1
  have hL9:=HL1.out.files_push Hr.out Hels.out (v9:=.slice a9 (m+1) c9) (by rw[← Hm.out,← HN.out];exact hown9) (by rw[Hrv0.out];exact hg9) (by rw[Hrv0.out];exact hm9)
  have hg9':w1.grownBy w9 v7.ownBlock:=by rw[Hrv0.out];exact hg9
  obtain⟨Hown9,Hg9,Hm9,Hc9,HL9,Hg9'⟩:=hd6 hown9 hg9 hm9 hc9 hL9 hg9';clear hown9 hg9 hm9 hc9 hL9 hg9'
  refine hK.out _ _ trivial (fun hHeld=>?_)
  clear hK K
  try simp only[Act.put,lA,lB,lC]
  refine wpAnyH_take (i:=9) (v:=?_) rfl (by kernel_rfl) (by kernel_rfl) (by kernel_rfl) (fun _ _ _ h=>h) (Or.inl ⟨by kernel_rfl,?_⟩) (by assumption) ?_
  rotate_left
  ·(intro w hSw;(try dsimp only at hSw);(try obtain⟨⟩:=hSw);go_simp;try with_reducible rfl)
  try simp only[Act.put,lA,lB,lC]
  refine wpAnyH_take (i:=10) (v:=?_) rfl (by kernel_rfl) (by kernel_rfl) (by kernel_rfl) (fun _ _ _ h=>h) (Or.inl ⟨by kernel_rfl,?_⟩) (by assumption) ?_
  rotate_left
  ·(intro w hSw;(try dsimp only at hSw);(try obtain⟨⟩:=hSw);go_simp;try with_reducible rfl)
  try simp only[Act.put,lA,lB,lC]
  refine wpAnyH_ready (rs:=[11]) (by kernel_rfl) (by simp) ?_
  refine AllReadyH.cons rfl (fun K hK=>?_) AllReadyH.nil
  go_simp
  refine hK.out _ _ trivial (fun hHeld=>?_)
  clear hK K
  try simp only[Act.put,lA,lB,lC]
  refine wpAnyH_done (by kernel_rfl) ?_ _
  go_simp
  go_wp2_with fail
  go_end0
  refine zb0 (v:=v7) (j:=i+1) HH1.out HL9.out Hfr1.out Hg9'.out Ht1.out (fun k hk=>za4 hk) Hvl.out Hpb1.out Hpt.out Hbx.out Hr1.out ?_ ?_ ?_ rfl
  ·intro hj
   rw[Hf.out]
   unfold zb5
   rw[if_neg (by decide),if_neg (by decide),if_neg (by decide),if_neg (by decide),if_neg (by decide),if_pos rfl,zfb (by omega) (by rw[← Hs.out];exact Hok.out),← Hs.out]
   rfl
  ·intro hj
   rw[Hf.out]
   unfold zb5
   rw[if_neg (by decide),if_neg (by decide),if_neg (by decide),if_neg (by decide),if_neg (by decide),if_pos rfl,zdn (.inr (.inr (by omega)))]
   rfl
  have:=Hi2.out
  omega
 have hnone:zb5 first line p (zam ws i)=none:=by
  rw[Hf.out]
  unfold zb5
  rw[if_neg (by decide),if_neg (by decide),if_neg (by decide),if_neg (by decide),if_neg (by decide),if_pos rfl,zdn (by rw[← Hs.out];exact hno.elim .inl fun h=>.inr (.inl h))]
  rfl
 have hfrw:Frm (fun k=>k=r) w w1:=Hfd.out.trans hfr (fun _ _ h=>h)
 obtain⟨Hno,Hfr,Hnone,Hfrw⟩:=hd4 hno hfr hnone hfrw;clear hno hfr hnone hfrw
 go_wp2_with fail
 exact⟨rfl,zb9 Hnone.out rfl Hfrw.out⟩
end
end Go.Proofs.YthgibhhbmmkjmaaGreatDoor
