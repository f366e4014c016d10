/- Walks and plain facts. Texts merged: EqfPkg, PnP, Sm6, Sm7, Sm8, RpG. Condition: none beyond what each says. -/
import Derived.Deep.RegionLaw
import Derived.Test.YteailgjiifdgcaaGreatDoorPrintSameAll7
set_option linter.unusedVariables false
set_option linter.unusedSimpArgs false
set_option maxRecDepth 10000
set_option maxHeartbeats 4000000
namespace Go.Proofs.YteailgjiifdgcaaGreatDoor
section
open Go.RowKit Go.Shelf Go.Lib VerN
attribute [local go_sem ↓] Go.wp_at_zero Go.wp_at_succ
def zoq (cs:List Value):Prop:=∃ (p0:ByteArray) (p1:Int) (p2:Option Addr) (pn2:Nat) (pc2:Nat) (p3:Option Addr) (pn3:Nat) (pc3:Nat) (p4:Option Addr) (pn4:Nat) (pc4:Nat) (p5:Option Addr) (pn5:Nat) (pc5:Nat) (p6:Option Addr) (pn6:Nat) (pc6:Nat) (p7:Option Addr) (pn7:Nat) (pc7:Nat),cs = [.string p0,.int .i64 p1,.slice p2 pn2 pc2,.slice p3 pn3 pc3,.slice p4 pn4 pc4,.slice p5 pn5 pc5,.slice p6 pn6 pc6,.slice p7 pn7 pc7]
theorem zq1 {α:Type} {R:Rd α} (hR:zdh R) (hsh:∀ W cs x,R W cs x→zoq cs) {w:World} {v u:Value} {l m:List α} (h:zad 8 R w [v] l) (hm:zad 8 R w [u] m)
  {f:FuncId} (eg:∀ args w,(callFunc f args).run Tryz.prog w = .ok (.enter f args) w) {g:α→α→Bool}
  (hf:∀ W cs ds x y,Below w.heap.size w W→R W cs x→R W ds y→x∈l→y∈m→Calls Tryz.prog f #[.agg cs.toArray,.agg ds.toArray] W fun e w'=>e = .returned (.bool (g x y))∧Below W.heap.size W w') :
  Calls Tryz.prog 84 #[v,u,.func (.func f) #[] #[]] w fun e w'=>e = .returned (.bool (zcu g l m))∧Below w.heap.size w w':=by
 obtain⟨a,cap,rfl⟩:=zao h
 obtain⟨a2,cap2,rfl⟩:=zao hm
 obtain⟨-,hz,g1⟩:=zcj h
 obtain⟨-,hz2,g2⟩:=zcj hm
 obtain⟨n,hn⟩ : ∃ n,n=l.length:=⟨_,rfl⟩
 obtain⟨n2,hn2⟩ : ∃ n,n=m.length:=⟨_,rfl⟩
 obtain⟨r,hr⟩ : ∃ r,r=zcu g l m:=⟨_,rfl⟩
 rw[← hr]
 rw[← hn] at hz h ⊢
 rw[← hn2] at hz2 hm ⊢
 obtain⟨Hh,Hm,Hg1,Hg2,Hn,Hn2,Hr,Hf,HR,Hsh⟩:=hd10 h hm g1 g2 hn hn2 hr hf hR hsh;clear h hm g1 g2 hn hn2 hr hf hR hsh
 go_enter Tryz.func84,Tryz.ntmps84
 by_cases hne:n=n2
 case neg =>
  have k1:((n:Int) != (n2:Int))=true:=by simp;omega
  have hff:r=false:=by rw[Hr.out];exact zej (by rw[← Hn.out,← Hn2.out];exact hne)
  obtain⟨Hff,Hne⟩:=hd2 hff hne;clear hff hne
  go_wp2_with fail
  go_ret
  exact⟨by rw[Hff.out];rfl,Below.refl _ _⟩
 have k1:((n:Int) != (n2:Int))=false:=by simp;omega
 have Hne:=hd hne;clear hne
 go_wp2_with fail
 clear k1
 go_loopw [17] (fun i wr=>∃ k:Nat,k≤n∧i = .int .i64 k∧(∀ j (h1:j < l.length) (h2:j < m.length),j < k→g l[j] m[j]=true)∧Below w.heap.size w wr) (fun i _=>n - (RowKit.intOf i).toNat)
 case atStart=>exact⟨0,Nat.zero_le _,rfl,fun _ _ _ h=>by omega,Below.refl _ _⟩
 case round =>
  obtain⟨k,hk,rfl,hno,hbr⟩:=hrel
  by_cases hlt:k < n
  ·have hkl:k < l.length:=by have:=Hn.out;omega
   have hkm:k < m.length:=by have:=Hn2.out;have:=Hne.out;omega
   obtain⟨b,off,ecs,rfl,-,hpc,hp⟩:=Hg1.out k _ (List.getElem?_eq_getElem hkl)
   obtain⟨b2,off2,ecs2,rfl,-,hqc,hq⟩:=Hg2.out k _ (List.getElem?_eq_getElem hkm)
   obtain⟨p0,p1,p2,pn2,pc2,p3,pn3,pc3,p4,pn4,pc4,p5,pn5,pc5,p6,pn6,pc6,p7,pn7,pc7,rfl⟩:=Hsh.out _ _ _ hp
   obtain⟨q0,q1,q2,qn2,qc2,q3,qn3,qc3,q4,qn4,qc4,q5,qn5,qc5,q6,qn6,qc6,q7,qn7,qc7,rfl⟩:=Hsh.out _ _ _ hq
   have px0:=cell_later hbr (hpc 0 _ rfl)
   have px1:=cell_later hbr (hpc 1 _ rfl)
   have px2:=cell_later hbr (hpc 2 _ rfl)
   have px3:=cell_later hbr (hpc 3 _ rfl)
   have px4:=cell_later hbr (hpc 4 _ rfl)
   have px5:=cell_later hbr (hpc 5 _ rfl)
   have px6:=cell_later hbr (hpc 6 _ rfl)
   have px7:=cell_later hbr (hpc 7 _ rfl)
   rw[Nat.add_zero] at px0
   obtain⟨wa,hwa⟩ : ∃ W,W=wr.alloc (.cells #[.string p0,.int .i64 p1,.slice p2 pn2 pc2,.slice p3 pn3 pc3,.slice p4 pn4 pc4,.slice p5 pn5 pc5,.slice p6 pn6 pc6,.slice p7 pn7 pc7] 123):=⟨_,rfl⟩
   obtain⟨ba,hba⟩ : ∃ z,z=wr.heap.size:=⟨_,rfl⟩
   have pa:wa.heap[ba]? = some (.cells #[.string p0,.int .i64 p1,.slice p2 pn2 pc2,.slice p3 pn3 pc3,.slice p4 pn4 pc4,.slice p5 pn5 pc5,.slice p6 pn6 pc6,.slice p7 pn7 pc7] 123 (0,0)):=by rw[hwa,hba];exact heap_alloc_new _ _
   have hb1:Below wr.heap.size wr wa:=by rw[hwa];exact za2 _ _
   have hbr1:=hbr.trans (hb1.mono hbr.size)
   have qx0:=cell_later hbr1 (hqc 0 _ rfl)
   have qx1:=cell_later hbr1 (hqc 1 _ rfl)
   have qx2:=cell_later hbr1 (hqc 2 _ rfl)
   have qx3:=cell_later hbr1 (hqc 3 _ rfl)
   have qx4:=cell_later hbr1 (hqc 4 _ rfl)
   have qx5:=cell_later hbr1 (hqc 5 _ rfl)
   have qx6:=cell_later hbr1 (hqc 6 _ rfl)
   have qx7:=cell_later hbr1 (hqc 7 _ rfl)
   rw[Nat.add_zero] at qx0
   obtain⟨wb,hwb⟩ : ∃ W,W=wa.alloc (.cells #[.string q0,.int .i64 q1,.slice q2 qn2 qc2,.slice q3 qn3 qc3,.slice q4 qn4 qc4,.slice q5 qn5 qc5,.slice q6 qn6 qc6,.slice q7 qn7 qc7] 123):=⟨_,rfl⟩
   obtain⟨bb,hbb⟩ : ∃ z,z=wa.heap.size:=⟨_,rfl⟩
   have pb:wb.heap[bb]? = some (.cells #[.string q0,.int .i64 q1,.slice q2 qn2 qc2,.slice q3 qn3 qc3,.slice q4 qn4 qc4,.slice q5 qn5 qc5,.slice q6 qn6 qc6,.slice q7 qn7 qc7] 123 (0,0)):=by rw[hwb,hbb];exact heap_alloc_new _ _
   have hb2:Below wa.heap.size wa wb:=by rw[hwb];exact za2 _ _
   have hbr2:=hbr1.trans (hb2.mono hbr1.size)
   have pa2:=za0 hb2 pa
   have y0:=za1 pa2 0
   have z0:=za1 pb 0
   have y1:=za1 pa2 1
   have z1:=za1 pb 1
   have y2:=za1 pa2 2
   have z2:=za1 pb 2
   have y3:=za1 pa2 3
   have z3:=za1 pb 3
   have y4:=za1 pa2 4
   have z4:=za1 pb 4
   have y5:=za1 pa2 5
   have z5:=za1 pb 5
   have y6:=za1 pa2 6
   have z6:=za1 pb 6
   have y7:=za1 pa2 7
   have z7:=za1 pb 7
   simp only[List.getElem?_toArray,List.getElem?_cons_zero,List.getElem?_cons_succ] at y0 z0 y1 z1 y2 z2 y3 z3 y4 z4 y5 z5 y6 z6 y7 z7
   have hC:=Hf.out wb _ _ _ _ hbr2 (HR.out _ _ _ _ hp hbr2) (HR.out _ _ _ _ hq hbr2) (List.getElem_mem hkl) (List.getElem_mem hkm)
   have hnx:g l[k] m[k]=true→∀ j (h1:j < l.length) (h2:j < m.length),j < k+1→g l[j] m[j]=true:=fun h j h1 h2 hjk=>by
    by_cases e:j=k
    ·subst e;exact h
    exact hno j h1 h2 (by omega)
   have hbd:g l[k] m[k]=false→zcu g l m=false:=fun h=>zfu hkl hkm h
   obtain⟨e,he⟩ : ∃ e,e=g l[k] m[k]:=⟨_,rfl⟩
   rw[← he] at hC hnx hbd
   have k5:(0:Int)≤(k:Int):=by omega
   have k6:(k:Int) < (n:Int):=by omega
   have k7:(k:Int) < (n2:Int):=by have:=Hne.out;omega
   clear hpc hqc
   obtain⟨Hno,Hnx,Hbd,He,HC,Hpa,Hpb,Hpa2,Hb1,Hb2,Hbr,Hbr1,Hbr2,Hp,Hq⟩:=hd15 hno hnx hbd he hC pa pb pa2 hb1 hb2 hbr hbr1 hbr2 hp hq;clear hno hnx hbd he hC pa pb pa2 hb1 hb2 hbr hbr1 hbr2 hp hq
   go_upto_region 6 with (fail)
   rw[← hwa,← hba]
   clear hwa hba px0 px1 px2 px3 px4 px5 px6 px7
   go_upto_region 7 with (fail)
   rw[← hwb,← hbb]
   clear hwb hbb qx0 qx1 qx2 qx3 qx4 qx5 qx6 qx7
   go_wp2_with fail
   refine HC.out.mono ?_
   rintro e' w9 ⟨rfl,hb9⟩
   have hbw9:=Hbr2.out.trans (hb9.mono Hbr2.out.size)
   clear y0 z0 y1 z1 y2 z2 y3 z3 y4 z4 y5 z5 y6 z6 y7 z7
   obtain⟨Hb9,Hbw9⟩:=hd2 hb9 hbw9;clear hb9 hbw9
   cases e with
   | true =>
    have hq2:=Hnx.out rfl
    have Hq2:=hd hq2;clear hq2
    go_wp2_with fail
    go_roundw
    case rel=>exact⟨k+1,by omega,by go_num,Hq2.out,Hbw9.out⟩
    case measure=>simp[RowKit.intOf];omega
   | false =>
    have hff:r=false:=by rw[Hr.out];exact Hbd.out rfl
    have Hff:=hd hff;clear hff
    go_wp2_with fail
    go_ret
    exact⟨by rw[Hff.out];rfl,Hbw9.out⟩
  obtain rfl:n=k:=by omega
  have hff:r=true:=by
   rw[Hr.out]
   exact zdm (by rw[← Hn.out,← Hn2.out,Hne.out]) (fun j h1 h2=>hno j h1 h2 (by have:=Hn.out;omega))
  obtain⟨Hno,Hff,Hbr⟩:=hd3 hno hff hbr;clear hno hff hbr
  go_wp2_with fail
  go_ret
  exact⟨by rw[Hff.out];rfl,Hbr.out⟩
end

section
open Go.Shelf Go.RowKit Go.Lib VerN VarM
attribute [local go_sem ↓] Go.wp_at_zero Go.wp_at_succ
theorem zi2 {f:FuncId} {args:Array Value} {W:World} {b:Bool} (h:Calls Tryz.prog f args W fun e w'=>e = .returned (.bool b)∧∃ q,w'=W.drewN q):Calls Tryz.prog f args W fun e w'=>e = .returned (.bool b)∧Below W.heap.size W w' :=
 h.mono fun e w' ⟨h1,q,h2⟩=>⟨h1,by rw[h2];exact za9 (Below.refl _ _) q⟩
theorem zek {α β:Type} [DecidableEq β] {f:α→α→Bool} {g:α→β} (hf:∀ x y,f x y=true↔g x=g y) (l m:List α):zcu f l m=decide (l.map g=m.map g):=by
 rw[Bool.eq_iff_iff,decide_eq_true_eq]
 exact eqAll_map fun x _ y _=>hf x y
theorem zp3 (W:World) (cs:List Value) (x:zik) (h:zfy W cs x):zop cs:=by
 obtain⟨v,rfl,h1⟩:=h
 obtain⟨a1,c1,rfl,-⟩:=zaw h1
 exact⟨_,_,_,_,rfl⟩
theorem zp4 (W:World) (cs:List Value) (x:DepM) (h:zcq W cs x):zor cs:=by
 obtain⟨a1,a2,a3,b1,b2,b3,rfl,h1,h2⟩:=h
 obtain⟨b1,c1,b2,c2,rfl,rfl,rfl,k1,k2⟩:=zb3 h1
 obtain⟨b3,c3,b4,c4,rfl,rfl,rfl,k3,k4⟩:=zb3 h2
 exact⟨_,_,_,_,_,_,_,_,_,_,_,_,_,_,_,rfl⟩
theorem zmc (W:World) (cs:List Value) (x:DepM) (h:zcq W cs x):zm4 cs:=by
 obtain⟨a1,a2,a3,b1,b2,b3,rfl,h1,h2⟩:=h
 obtain⟨b1,c1,b2,c2,rfl,rfl,rfl,k1,k2⟩:=zb3 h1
 obtain⟨b3,c3,b4,c4,rfl,rfl,rfl,k3,k4⟩:=zb3 h2
 exact⟨_,_,_,_,_,_,_,_,_,_,_,_,_,_,_,rfl⟩
theorem shape_pfM (W:World) (cs:List Value) (x:PrfM) (h:RPfM W cs x):zm3 cs:=by
 obtain⟨v,rfl,h1⟩:=h
 obtain⟨a1,c1,rfl,-⟩:=zaw h1
 exact⟨_,_,_,_,_,rfl⟩
theorem shape_pkM (W:World) (cs:List Value) (x:PkgM) (h:RPkM W cs x):zoq cs:=by
 obtain⟨v2,v3,v4,v5,v6,v7,rfl,h⟩:=h
 obtain⟨b2,c2,b3,c3,b4,c4,b5,c5,b6,c6,b7,c7,rfl,rfl,rfl,rfl,rfl,rfl⟩:=RPkR.shape h
 exact⟨_,_,_,_,_,_,_,_,_,_,_,_,_,_,_,_,_,_,_,_,rfl⟩
theorem zq3 {w:World} {v u:Value} {l m:List zik} (h:zad 2 zfy w [v] l) (hm:zad 2 zfy w [u] m) :
  Calls Tryz.prog 143 #[v,u,.func (.func 144) #[] #[]] w fun e w'=>e = .returned (.bool (decide (l=m)))∧Below w.heap.size w w':=by
 have h1:=zq0 zdi zp3 h hm (enters_of Tryz.func144 (by kernel_rfl) rfl) (g:=fun x y=>decide (x.1=y.1) && decide (x.2=y.2)) fun W cs ds x y _ hx hy _ _=>by
  obtain⟨v,rfl,h1⟩:=hx
  obtain⟨u,rfl,h2⟩:=hy
  obtain⟨a1,c1,rfl,-⟩:=zaw h1
  obtain⟨a2,c2,rfl,-⟩:=zaw h2
  exact zna h1 h2
 rw[zek (g:=fun x=>x) (fun x y=>by simp[Prod.ext_iff])] at h1
 simpa using h1
theorem zq5 {w:World} {v u:Value} {l m:List DepM} (h:zad 7 zcq w [v] l) (hm:zad 7 zcq w [u] m) :
  Calls Tryz.prog 145 #[v,u,.func (.func 146) #[] #[]] w fun e w'=>e = .returned (.bool (zb5 l m))∧Below w.heap.size w w':=by
 have h1:=zq2 zbk zp4 h hm (enters_of Tryz.func146 (by kernel_rfl) rfl) (g:=fun x y=>decide (x.1=y.1) && decide (x.2.1=y.2.1)) fun W cs ds x y _ hx hy _ _=>by
  obtain⟨a1,a2,a3,b1,b2,b3,rfl,h1,h2⟩:=hx
  obtain⟨b1,c1,b2,c2,rfl,rfl,rfl,k1,k2⟩:=zb3 h1
  obtain⟨b3,c3,b4,c4,rfl,rfl,rfl,k3,k4⟩:=zb3 h2
  obtain⟨a1',a2',a3',b1',b2',b3',rfl,h1',h2'⟩:=hy
  obtain⟨d1,e1,d2,e2,rfl,rfl,rfl,j1,j2⟩:=zb3 h1'
  obtain⟨d3,e3,d4,e4,rfl,rfl,rfl,j3,j4⟩:=zb3 h2'
  exact znb k1 k2 k3 k4 j1 j2 j3 j4
 rw[zek (g:=zc4) (fun x y=>by unfold zc4;simp)] at h1
 exact h1
theorem znc {w:World} {v u:Value} {l m:List DepM} (h:zad 7 zcq w [v] l) (hm:zad 7 zcq w [u] m) :
  Calls Tryz.prog 147 #[v,u,.func (.func 148) #[] #[]] w fun e w'=>e = .returned (.bool (zb5 l m))∧Below w.heap.size w w':=by
 have h1:=zn9 zbk zmc h hm (enters_of Tryz.func148 (by kernel_rfl) rfl) (g:=fun x y=>decide (x.1=y.1) && decide (x.2.1=y.2.1)) fun W cs ds x y _ hx hy _ _=>by
  obtain⟨a1,a2,a3,b1,b2,b3,rfl,h1,h2⟩:=hx
  obtain⟨b1,c1,b2,c2,rfl,rfl,rfl,k1,k2⟩:=zb3 h1
  obtain⟨b3,c3,b4,c4,rfl,rfl,rfl,k3,k4⟩:=zb3 h2
  obtain⟨a1',a2',a3',b1',b2',b3',rfl,h1',h2'⟩:=hy
  obtain⟨d1,e1,d2,e2,rfl,rfl,rfl,j1,j2⟩:=zb3 h1'
  obtain⟨d3,e3,d4,e4,rfl,rfl,rfl,j3,j4⟩:=zb3 h2'
  exact zll k1 k2 k3 k4 j1 j2 j3 j4
 rw[zek (g:=zc4) (fun x y=>by unfold zc4;simp)] at h1
 exact h1
theorem eqPfs_any {w:World} {v u:Value} {l m:List PrfM} (h:zad 3 RPfM w [v] l) (hm:zad 3 RPfM w [u] m) :
  Calls Tryz.prog 86 #[v,u,.func (.func 87) #[] #[]] w fun e w'=>e = .returned (.bool (zeb l m))∧Below w.heap.size w w':=by
 have h1:=zn8 zfm shape_pfM h hm (enters_of Tryz.func87 (by kernel_rfl) rfl) (g:=fun x y=>decide (x.1=y.1) && decide (x.2.1=y.2.1)) fun W cs ds x y _ hx hy _ _=>by
  obtain⟨v,rfl,h1⟩:=hx
  obtain⟨u,rfl,h2⟩:=hy
  obtain⟨a1,c1,rfl,-⟩:=zaw h1
  obtain⟨a2,c2,rfl,-⟩:=zaw h2
  exact zq4 h1 h2
 rw[zek (g:=zg7) (fun x y=>by unfold zg7;simp)] at h1
 exact h1
theorem zhg {w:World} {p q:PkgM} {nm nm2:ByteArray} {li li2:Int} {b2:Option Addr} {n2 c2:Nat} {d2:Option Addr} {m2 e2:Nat} {b3:Option Addr} {n3 c3:Nat} {d3:Option Addr} {m3 e3:Nat} {b4:Option Addr} {n4 c4:Nat} {d4:Option Addr} {m4 e4:Nat} {b5:Option Addr} {n5 c5:Nat} {d5:Option Addr} {m5 e5:Nat} {b6:Option Addr} {n6 c6:Nat} {d6:Option Addr} {m6 e6:Nat} {b7:Option Addr} {n7 c7:Nat} {d7:Option Addr} {m7 e7:Nat}
  (hnp:p.name=nm) (hnq:q.name=nm2) (hp:RPkR w (.slice b2 n2 c2) (.slice b3 n3 c3) (.slice b4 n4 c4) (.slice b5 n5 c5) (.slice b6 n6 c6) (.slice b7 n7 c7) p) (hq:RPkR w (.slice d2 m2 e2) (.slice d3 m3 e3) (.slice d4 m4 e4) (.slice d5 m5 e5) (.slice d6 m6 e6) (.slice d7 m7 e7) q) :
  Calls Tryz.prog 85 #[.agg #[.string nm,.int .i64 li,.slice b2 n2 c2,.slice b3 n3 c3,.slice b4 n4 c4,.slice b5 n5 c5,.slice b6 n6 c6,.slice b7 n7 c7],.agg #[.string nm2,.int .i64 li2,.slice d2 m2 e2,.slice d3 m3 e3,.slice d4 m4 e4,.slice d5 m5 e5,.slice d6 m6 e6,.slice d7 m7 e7]] w fun e w'=>e = .returned (.bool (zcy p q))∧Below w.heap.size w w':=by
 obtain⟨W1,hW1⟩ : ∃ W,W=(w.alloc (.cells #[.string nm,.int .i64 li,.slice b2 n2 c2,.slice b3 n3 c3,.slice b4 n4 c4,.slice b5 n5 c5,.slice b6 n6 c6,.slice b7 n7 c7] 123)).alloc (.cells #[.string nm2,.int .i64 li2,.slice d2 m2 e2,.slice d3 m3 e3,.slice d4 m4 e4,.slice d5 m5 e5,.slice d6 m6 e6,.slice d7 m7 e7] 123):=⟨_,rfl⟩
 obtain⟨g,hg⟩ : ∃ g,g=w.heap.size:=⟨_,rfl⟩
 have hb1:Below w.heap.size w W1:=by rw[hW1];exact (za2 _ _).alloc (by simp) _
 have hp0:W1.heap[g]? = some (.cells #[.string nm,.int .i64 li,.slice b2 n2 c2,.slice b3 n3 c3,.slice b4 n4 c4,.slice b5 n5 c5,.slice b6 n6 c6,.slice b7 n7 c7] 123 (0,0)):=by rw[hW1,hg];exact za0 (za2 _ _) (za5 rfl)
 have hp1:W1.heap[g+1]? = some (.cells #[.string nm2,.int .i64 li2,.slice d2 m2 e2,.slice d3 m3 e3,.slice d4 m4 e4,.slice d5 m5 e5,.slice d6 m6 e6,.slice d7 m7 e7] 123 (0,0)):=by rw[hW1,hg];exact za5 (by simp)
 have hpp:=hp.below hb1
 have hqq:=hq.below hb1
 have hrr0:=zl1 p q
 rw[hnp,hnq] at hrr0
 obtain⟨r,hrr⟩ : ∃ r,r=zcy p q:=⟨_,rfl⟩
 rw[← hrr]
 rw[← hrr] at hrr0
 have heq:=Txt.eq_dec nm nm2
 obtain⟨bn,hbn⟩ : ∃ b,b=decide (nm=nm2):=⟨_,rfl⟩
 rw[← hbn] at heq hrr0
 have hC2:=fun (W:World) (k:Below W1.heap.size W1 W)=>zi2 (zlk (za3 zeo _ _ _ _ hpp.1 k) (za3 zeo _ _ _ _ hqq.1 k))
 obtain⟨c2,hc2⟩ : ∃ c,c=decide (p.rel=q.rel):=⟨_,rfl⟩
 rw[← hc2] at hrr0
 simp only[← hc2] at hC2
 have hC3:=fun (W:World) (k:Below W1.heap.size W1 W)=>zq3 (za3 zdi _ _ _ _ hpp.2.1 k) (za3 zdi _ _ _ _ hqq.2.1 k)
 obtain⟨c3,hc3⟩ : ∃ c,c=decide (p.vars=q.vars):=⟨_,rfl⟩
 rw[← hc3] at hrr0
 simp only[← hc3] at hC3
 have hC4:=fun (W:World) (k:Below W1.heap.size W1 W)=>zi2 (zdc (zah hpp.2.2.1 k) (zah hqq.2.2.1 k))
 obtain⟨c4,hc4⟩ : ∃ c,c=decide (p.prov=q.prov):=⟨_,rfl⟩
 rw[← hc4] at hrr0
 simp only[← hc4] at hC4
 have hC7:=fun (W:World) (k:Below W1.heap.size W1 W)=>zi2 (zdc (zah hpp.2.2.2.2.2 k) (zah hqq.2.2.2.2.2 k))
 obtain⟨c7,hc7⟩ : ∃ c,c=decide (p.files=q.files):=⟨_,rfl⟩
 rw[← hc7] at hrr0
 simp only[← hc7] at hC7
 have hC5:=fun (W:World) (k:Below W1.heap.size W1 W)=>zq5 (za3 zbk _ _ _ _ hpp.2.2.2.1 k) (za3 zbk _ _ _ _ hqq.2.2.2.1 k)
 obtain⟨c5,hc5⟩ : ∃ c,c=zb5 p.dep q.dep:=⟨_,rfl⟩
 rw[← hc5] at hrr0
 simp only[← hc5] at hC5
 have hC6:=fun (W:World) (k:Below W1.heap.size W1 W)=>znc (za3 zbk _ _ _ _ hpp.2.2.2.2.1 k) (za3 zbk _ _ _ _ hqq.2.2.2.2.1 k)
 obtain⟨c6,hc6⟩ : ∃ c,c=zb5 p.conf q.conf:=⟨_,rfl⟩
 rw[← hc6] at hrr0
 simp only[← hc6] at hC6
 clear hrr
 have x0:=za1 hp0 0
 have y0:=za1 hp1 0
 simp only[List.getElem?_toArray,List.getElem?_cons_zero,List.getElem?_cons_succ] at x0 y0
 obtain⟨Hb1,Hp0,Hp1,Hpp,Hqq,Hrr0,Hp,Hq,Hnp,Hnq,Hbn,HC2,Hc2,HC3,Hc3,HC4⟩:=hd16 hb1 hp0 hp1 hpp hqq hrr0 hp hq hnp hnq hbn hC2 hc2 hC3 hc3 hC4;obtain⟨Hc4,HC7,Hc7,HC5,Hc5,HC6,Hc6⟩:=hd7 hc4 hC7 hc7 hC5 hc5 hC6 hc6;clear hb1 hp0 hp1 hpp hqq hrr0 hp hq hnp hnq hbn hC2 hc2 hC3 hc3 hC4 hc4 hC7 hc7 hC5 hc5 hC6 hc6
 go_enter Tryz.func85,Tryz.ntmps85
 go_upto_region 1 with (fail)
 rw[← hW1,← hg]
 clear hW1 hg
 cases bn with
 | false =>
  go_wp2_with fail
  go_ret
  exact⟨by rw[Hrr0.out];rfl,Hb1.out⟩
 | true =>
  have x2:=za1 (za0 (Below.refl W1.heap.size W1) Hp0.out) 2
  have y2:=za1 (za0 (Below.refl W1.heap.size W1) Hp1.out) 2
  simp only[List.getElem?_toArray,List.getElem?_cons_zero,List.getElem?_cons_succ] at x2 y2
  have hD2:=HC2.out _ (Below.refl W1.heap.size W1)
  have HD2:=hd hD2;clear hD2
  go_wp2_with fail
  refine HD2.out.mono ?_
  rintro e w2 ⟨rfl,hbb2⟩
  have hb2:=((Below.refl W1.heap.size W1)).trans (hbb2.mono ((Below.refl W1.heap.size W1)).size)
  clear x2 y2
  clear x0 y0 heq
  cases c2 with
  | false =>
   obtain⟨Hb2,Hbb2⟩:=hd2 hb2 hbb2;clear hb2 hbb2
   go_wp2_with fail
   go_ret
   exact⟨by rw[Hrr0.out];first | rfl | simp,Hb1.out.trans (Hb2.out.mono Hb1.out.size)⟩
  | true =>
   have x3:=za1 (za0 hb2 Hp0.out) 3
   have y3:=za1 (za0 hb2 Hp1.out) 3
   simp only[List.getElem?_toArray,List.getElem?_cons_zero,List.getElem?_cons_succ] at x3 y3
   have hD3:=HC3.out _ hb2
   have HD3:=hd hD3;clear hD3
   go_wp2_with fail
   refine HD3.out.mono ?_
   rintro e w3 ⟨rfl,hbb3⟩
   have hb3:=(hb2).trans (hbb3.mono (hb2).size)
   clear x3 y3
   cases c3 with
   | false =>
    obtain⟨Hb3,Hbb3⟩:=hd2 hb3 hbb3;clear hb3 hbb3
    go_wp2_with fail
    go_ret
    exact⟨by rw[Hrr0.out];first | rfl | simp,Hb1.out.trans (Hb3.out.mono Hb1.out.size)⟩
   | true =>
    have x4:=za1 (za0 hb3 Hp0.out) 4
    have y4:=za1 (za0 hb3 Hp1.out) 4
    simp only[List.getElem?_toArray,List.getElem?_cons_zero,List.getElem?_cons_succ] at x4 y4
    have hD4:=HC4.out _ hb3
    have HD4:=hd hD4;clear hD4
    go_wp2_with fail
    refine HD4.out.mono ?_
    rintro e w4 ⟨rfl,hbb4⟩
    have hb4:=(hb3).trans (hbb4.mono (hb3).size)
    clear x4 y4
    cases c4 with
    | false =>
     obtain⟨Hb4,Hbb4⟩:=hd2 hb4 hbb4;clear hb4 hbb4
     go_wp2_with fail
     go_ret
     exact⟨by rw[Hrr0.out];first | rfl | simp,Hb1.out.trans (Hb4.out.mono Hb1.out.size)⟩
    | true =>
     have x7:=za1 (za0 hb4 Hp0.out) 7
     have y7:=za1 (za0 hb4 Hp1.out) 7
     simp only[List.getElem?_toArray,List.getElem?_cons_zero,List.getElem?_cons_succ] at x7 y7
     have hD7:=HC7.out _ hb4
     have HD7:=hd hD7;clear hD7
     go_wp2_with fail
     refine HD7.out.mono ?_
     rintro e w7 ⟨rfl,hbb7⟩
     have hb7:=(hb4).trans (hbb7.mono (hb4).size)
     clear x7 y7
     cases c7 with
     | false =>
      obtain⟨Hb7,Hbb7⟩:=hd2 hb7 hbb7;clear hb7 hbb7
      go_wp2_with fail
      go_ret
      exact⟨by rw[Hrr0.out];first | rfl | simp,Hb1.out.trans (Hb7.out.mono Hb1.out.size)⟩
     | true =>
      have x5:=za1 (za0 hb7 Hp0.out) 5
      have y5:=za1 (za0 hb7 Hp1.out) 5
      simp only[List.getElem?_toArray,List.getElem?_cons_zero,List.getElem?_cons_succ] at x5 y5
      have hD5:=HC5.out _ hb7
      have HD5:=hd hD5;clear hD5
      go_wp2_with fail
      refine HD5.out.mono ?_
      rintro e w5 ⟨rfl,hbb5⟩
      have hb5:=(hb7).trans (hbb5.mono (hb7).size)
      clear x5 y5
      cases c5 with
      | false =>
       obtain⟨Hb5,Hbb5⟩:=hd2 hb5 hbb5;clear hb5 hbb5
       go_wp2_with fail
       go_ret
       exact⟨by rw[Hrr0.out];first | rfl | simp,Hb1.out.trans (Hb5.out.mono Hb1.out.size)⟩
      | true =>
       have x6:=za1 (za0 hb5 Hp0.out) 6
       have y6:=za1 (za0 hb5 Hp1.out) 6
       simp only[List.getElem?_toArray,List.getElem?_cons_zero,List.getElem?_cons_succ] at x6 y6
       have hD6:=HC6.out _ hb5
       have HD6:=hd hD6;clear hD6
       go_wp2_with fail
       refine HD6.out.mono ?_
       rintro e w6 ⟨rfl,hbb6⟩
       have hb6:=(hb5).trans (hbb6.mono (hb5).size)
       clear x6 y6
       obtain⟨Hb6,Hbb6⟩:=hd2 hb6 hbb6;clear hb6 hbb6
       go_wp2_with fail
       go_ret
       exact⟨by rw[Hrr0.out];first | rfl | simp,Hb1.out.trans (Hb6.out.mono Hb1.out.size)⟩
theorem zf5 {w:World} {x y:RcpM} {a1 a2 d1 d2:Option Addr} {n1 n2 c1 c2 m1 m2 e1 e2:Nat} (hp:zgb w (.slice a1 n1 c1) (.slice a2 n2 c2) x) (hq:zgb w (.slice d1 m1 e1) (.slice d2 m2 e2) y) :
  Calls Tryz.prog 41 #[.agg #[.slice a1 n1 c1,.slice a2 n2 c2],.agg #[.slice d1 m1 e1,.slice d2 m2 e2]] w fun e w'=>e = .returned (.bool (zds x y))∧Below w.heap.size w w':=by
 obtain⟨W1,hW1⟩ : ∃ W,W=(w.alloc (.cells #[.slice a1 n1 c1,.slice a2 n2 c2] 73)).alloc (.cells #[.slice d1 m1 e1,.slice d2 m2 e2] 73):=⟨_,rfl⟩
 obtain⟨g,hg⟩ : ∃ g,g=w.heap.size:=⟨_,rfl⟩
 have hb1:Below w.heap.size w W1:=by rw[hW1];exact (za2 _ _).alloc (by simp) _
 have hp0:W1.heap[g]? = some (.cells #[.slice a1 n1 c1,.slice a2 n2 c2] 73 (0,0)):=by rw[hW1,hg];exact za0 (za2 _ _) (za5 rfl)
 have hp1:W1.heap[g+1]? = some (.cells #[.slice d1 m1 e1,.slice d2 m2 e2] 73 (0,0)):=by rw[hW1,hg];exact za5 (by simp)
 have hpp:=hp.below hb1
 have hqq:=hq.below hb1
 have hC1:=zq1 zkm shape_pkM hpp.1 hqq.1 (enters_of Tryz.func85 (by kernel_rfl) rfl) (g:=zcy) fun W cs ds x y _ hx hy _ _=>by
  obtain⟨v2,v3,v4,v5,v6,v7,rfl,h⟩:=hx
  obtain⟨b2,c2,b3,c3,b4,c4,b5,c5,b6,c6,b7,c7,rfl,rfl,rfl,rfl,rfl,rfl⟩:=RPkR.shape h
  obtain⟨u2,u3,u4,u5,u6,u7,rfl,k⟩:=hy
  obtain⟨d2,e2,d3,e3,d4,e4,d5,e5,d6,e6,d7,e7,rfl,rfl,rfl,rfl,rfl,rfl⟩:=RPkR.shape k
  exact zhg rfl rfl h k
 rw[zek (g:=tupP) (fun x y=>by unfold zcy;simp)] at hC1
 have hC2:=fun (W:World) (k:Below W1.heap.size W1 W)=>eqPfs_any (za3 zfm _ _ _ _ hpp.2 k) (za3 zfm _ _ _ _ hqq.2 k)
 have x0:=za1 hp0 0
 have y0:=za1 hp1 0
 simp only[List.getElem?_toArray,List.getElem?_cons_zero,List.getElem?_cons_succ] at x0 y0
 have hrr:zds x y=(decide (x.pk.map tupP=y.pk.map tupP) && zeb x.pf y.pf):=rfl
 rw[hrr]
 obtain⟨c1',hc1⟩ : ∃ c,c=decide (x.pk.map tupP=y.pk.map tupP):=⟨_,rfl⟩
 obtain⟨c2',hc2⟩ : ∃ c,c=zeb x.pf y.pf:=⟨_,rfl⟩
 rw[← hc1] at hC1
 simp only[← hc2] at hC2
 rw[← hc1,← hc2]
 clear hrr
 obtain⟨Hb1,Hp0,Hp1,Hpp,Hqq,Hp,Hq,HC1,HC2,Hc1,Hc2⟩:=hd11 hb1 hp0 hp1 hpp hqq hp hq hC1 hC2 hc1 hc2;clear hb1 hp0 hp1 hpp hqq hp hq hC1 hC2 hc1 hc2
 go_enter Tryz.func41,Tryz.ntmps41
 go_upto_region 1 with (fail)
 rw[← hW1,← hg]
 clear hW1 hg
 go_wp2_with fail
 refine HC1.out.mono ?_
 rintro e w2 ⟨rfl,hb2⟩
 have hbw:=Hb1.out.trans (hb2.mono Hb1.out.size)
 clear x0 y0
 cases c1' with
 | false =>
  obtain⟨Hb2,Hbw⟩:=hd2 hb2 hbw;clear hb2 hbw
  go_wp2_with fail
  go_ret
  exact⟨rfl,Hbw.out⟩
 | true =>
  have x1:=za1 (za0 hb2 Hp0.out) 1
  have y1:=za1 (za0 hb2 Hp1.out) 1
  simp only[List.getElem?_toArray,List.getElem?_cons_zero,List.getElem?_cons_succ] at x1 y1
  have hD:=HC2.out _ hb2
  obtain⟨Hb2,Hbw,HD⟩:=hd3 hb2 hbw hD;clear hb2 hbw hD
  go_wp2_with fail
  refine HD.out.mono ?_
  rintro e w3 ⟨rfl,hb3⟩
  have hbz:=Hbw.out.trans (hb3.mono Hbw.out.size)
  obtain⟨Hb3,Hbz⟩:=hd2 hb3 hbz;clear hb3 hbz
  go_wp2_with fail
  go_ret
  exact⟨by first | rfl | (rw[Bool.true_and]),Hbz.out⟩
end

section
open Go.RowKit Go.Shelf Go.Lib VerN VarM
attribute [local go_sem ↓] Go.wp_at_zero Go.wp_at_succ
theorem zff {l m l2 m2:List DepM} (h:l.map zc4≠m.map zc4):(zb5 l m && zb5 l2 m2)=false:=by unfold zb5;rw[decide_eq_false h];rfl
theorem zfe {l m l2 m2:List DepM} (h:l2.map zc4≠m2.map zc4):(zb5 l m && zb5 l2 m2)=false:=by unfold zb5;rw[decide_eq_false h,Bool.and_false]
theorem zjo {w:World} {p q:PkgM} {nm nm2:ByteArray} {li li2:Int} {b2:Option Addr} {n2 c2:Nat} {d2:Option Addr} {m2 e2:Nat} {b3:Option Addr} {n3 c3:Nat} {d3:Option Addr} {m3 e3:Nat} {b4:Option Addr} {n4 c4:Nat} {d4:Option Addr} {m4 e4:Nat} {b5:Option Addr} {n5 c5:Nat} {d5:Option Addr} {m5 e5:Nat} {b6:Option Addr} {n6 c6:Nat} {d6:Option Addr} {m6 e6:Nat} {b7:Option Addr} {n7 c7:Nat} {d7:Option Addr} {m7 e7:Nat}
  (hp:RPkR w (.slice b2 n2 c2) (.slice b3 n3 c3) (.slice b4 n4 c4) (.slice b5 n5 c5) (.slice b6 n6 c6) (.slice b7 n7 c7) p) (hq:RPkR w (.slice d2 m2 e2) (.slice d3 m3 e3) (.slice d4 m4 e4) (.slice d5 m5 e5) (.slice d6 m6 e6) (.slice d7 m7 e7) q) :
  Calls Tryz.prog 149 #[.agg #[.string nm,.int .i64 li,.slice b2 n2 c2,.slice b3 n3 c3,.slice b4 n4 c4,.slice b5 n5 c5,.slice b6 n6 c6,.slice b7 n7 c7],.agg #[.string nm2,.int .i64 li2,.slice d2 m2 e2,.slice d3 m3 e3,.slice d4 m4 e4,.slice d5 m5 e5,.slice d6 m6 e6,.slice d7 m7 e7],.bool false] w fun e w'=>e = .returned (.bool (zb5 p.dep q.dep && zb5 p.conf q.conf))∧Below w.heap.size w w':=by
 obtain⟨W1,hW1⟩ : ∃ W,W=(w.alloc (.cells #[.string nm,.int .i64 li,.slice b2 n2 c2,.slice b3 n3 c3,.slice b4 n4 c4,.slice b5 n5 c5,.slice b6 n6 c6,.slice b7 n7 c7] 123)).alloc (.cells #[.string nm2,.int .i64 li2,.slice d2 m2 e2,.slice d3 m3 e3,.slice d4 m4 e4,.slice d5 m5 e5,.slice d6 m6 e6,.slice d7 m7 e7] 123):=⟨_,rfl⟩
 obtain⟨g,hg⟩ : ∃ g,g=w.heap.size:=⟨_,rfl⟩
 have hbZ:Below w.heap.size w W1:=by rw[hW1];exact (za2 _ _).alloc (by simp) _
 have p0:W1.heap[g]? = some (.cells #[.string nm,.int .i64 li,.slice b2 n2 c2,.slice b3 n3 c3,.slice b4 n4 c4,.slice b5 n5 c5,.slice b6 n6 c6,.slice b7 n7 c7] 123 (0,0)):=by rw[hW1,hg];exact za0 (za2 _ _) (za5 rfl)
 have p1:W1.heap[g+1]? = some (.cells #[.string nm2,.int .i64 li2,.slice d2 m2 e2,.slice d3 m3 e3,.slice d4 m4 e4,.slice d5 m5 e5,.slice d6 m6 e6,.slice d7 m7 e7] 123 (0,0)):=by rw[hW1,hg];exact za5 (by simp)
 obtain⟨l5,z5,g5⟩:=zg5 (hp.below hbZ).2.2.2.1
 obtain⟨r5,y5,f5⟩:=zg5 (hq.below hbZ).2.2.2.1
 obtain⟨l6,z6,g6⟩:=zg5 (hp.below hbZ).2.2.2.2.1
 obtain⟨r6,y6,f6⟩:=zg5 (hq.below hbZ).2.2.2.2.1
 obtain⟨L5,hL5⟩ : ∃ z,z=p.dep:=⟨_,rfl⟩
 obtain⟨M5,hM5⟩ : ∃ z,z=q.dep:=⟨_,rfl⟩
 obtain⟨L6,hL6⟩ : ∃ z,z=p.conf:=⟨_,rfl⟩
 obtain⟨M6,hM6⟩ : ∃ z,z=q.conf:=⟨_,rfl⟩
 rw[← hL5] at l5 g5
 rw[← hM5] at r5 f5
 rw[← hL6] at l6 g6
 rw[← hM6] at r6 f6
 rw[← hL5,← hM5,← hL6,← hM6]
 obtain⟨r,hrr⟩ : ∃ r,r=(zb5 L5 M5 && zb5 L6 M6):=⟨_,rfl⟩
 rw[← hrr]
 have x5:=za1 p0 5
 have x6:=za1 p0 6
 have y5':=za1 p1 5
 have y6':=za1 p1 6
 simp only[List.getElem?_toArray,List.getElem?_cons_zero,List.getElem?_cons_succ] at x5 x6 y5' y6'
 have hl5:=l5
 have hr5:=r5
 have hl6:=l6
 have hr6:=r6
 clear l5 r5 l6 r6 hL5 hM5 hL6 hM6
 have hg5:=g5
 have hf5:=f5
 have hg6:=g6
 have hf6:=f6
 clear g5 f5 g6 f6
 have hp0:=p0
 have hp1:=p1
 clear p0 p1
 have HbL:=Lib.hid (Below.refl W1.heap.size W1)
 by_cases h5:n5=m5
 case neg =>
  have k1:((n5:Int) != (m5:Int))=true:=by simp;omega
  have hff:r=false:=by rw[hrr];exact zff (zjx (by rw[← hl5,← hr5];exact h5))
  have Hff:=Lib.hid hff
  clear hff hp hq hl5 hr5 hl6 hr6 hg5 hf5 hg6 hf6 hp0 hp1 hrr h5
  have HbZ:=hd hbZ;clear hbZ
  go_enter Tryz.func149,Tryz.ntmps149
  go_upto_region 1 with (fail)
  rw[← hW1,← hg]
  clear hW1 hg
  go_wp2_with fail
  go_ret
  exact⟨by rw[Hff.out];rfl,HbZ.out⟩
 have k1:((n5:Int) != (m5:Int))=false:=by simp;omega
 by_cases h6:n6=m6
 case neg =>
  have k2:((n6:Int) != (m6:Int))=true:=by simp;omega
  have hff:r=false:=by rw[hrr];exact zfe (zjx (by rw[← hl6,← hr6];exact h6))
  have Hff:=Lib.hid hff
  clear hff hp hq hl5 hr5 hl6 hr6 hg5 hf5 hg6 hf6 hp0 hp1 hrr h5 h6
  have HbZ:=hd hbZ;clear hbZ
  go_enter Tryz.func149,Tryz.ntmps149
  go_upto_region 1 with (fail)
  rw[← hW1,← hg]
  clear hW1 hg
  go_wp2_with fail
  go_ret
  exact⟨by rw[Hff.out];rfl,HbZ.out⟩
 have k2:((n6:Int) != (m6:Int))=false:=by simp;omega
 have Hp:=Lib.hid hp
 have Hq:=Lib.hid hq
 have Hl5:=Lib.hid hl5
 have Hr5:=Lib.hid hr5
 have Hl6:=Lib.hid hl6
 have Hr6:=Lib.hid hr6
 have Hg5:=Lib.hid hg5
 have Hf5:=Lib.hid hf5
 have Hg6:=Lib.hid hg6
 have Hf6:=Lib.hid hf6
 have Hp0:=Lib.hid hp0
 have Hp1:=Lib.hid hp1
 have Hrr:=Lib.hid hrr
 have Hh5:=Lib.hid h5
 have Hh6:=Lib.hid h6
 clear hp hq hl5 hr5 hl6 hr6 hg5 hf5 hg6 hf6 hp0 hp1 hrr h5 h6
 have HbZ:=Lib.hid hbZ
 clear hbZ
 go_enter Tryz.func149,Tryz.ntmps149
 go_upto_region 1 with (fail)
 rw[← hW1,← hg]
 clear hW1 hg
 go_wp2_with fail
 clear k1 k2 x5 x6 y5' y6'
 go_loopw [32] (fun i wr=>∃ k:Nat,k≤n5∧i = .int .i64 k∧(∀ j (h1:j < L5.length) (h2:j < M5.length),j < k→zc4 L5[j]=zc4 M5[j])∧Below W1.heap.size W1 wr) (fun i _=>n5 - (RowKit.intOf i).toNat)
 case atStart=>exact⟨0,Nat.zero_le _,rfl,fun _ _ _ h=>by omega,HbL.out⟩
 case round =>
  obtain⟨k,hk,rfl,hno,hbr⟩:=hrel
  have px:=za1 (za0 hbr Hp0.out) 5
  have qx:=za1 (za0 hbr Hp1.out) 5
  simp only[List.getElem?_toArray,List.getElem?_cons_zero,List.getElem?_cons_succ] at px qx
  by_cases hlt:k < n5
  ·have hkl:k < L5.length:=by have:=Hl5.out;omega
   have hkm:k < M5.length:=by have:=Hr5.out;have:=Hh5.out;omega
   obtain⟨x,hx⟩ : ∃ x,x=L5[k]:=⟨_,rfl⟩
   obtain⟨y,hy⟩ : ∃ x,x=M5[k]:=⟨_,rfl⟩
   obtain⟨b,off,xa1,xc1,xa2,xc2,xa3,xc3,xa4,xc4,rfl,x0,x1,x2,x3,x4,x5,x6,⟨rx1,rx2⟩,rx3,rx4⟩:=Hg5.out k x (by rw[hx];exact List.getElem?_eq_getElem hkl)
   obtain⟨b',off',ya1,yc1,ya2,yc2,ya3,yc3,ya4,yc4,rfl,y0,y1,y2,y3,y4,y5,y6,⟨ry1,ry2⟩,ry3,ry4⟩:=Hf5.out k y (by rw[hy];exact List.getElem?_eq_getElem hkm)
   have hnx:x.1=y.1→x.2.1=y.2.1→∀ j (h1:j < L5.length) (h2:j < M5.length),j < k+1→zc4 L5[j]=zc4 M5[j]:=fun h h' j h1 h2 hjk=>by
    by_cases e:j=k
    ·subst e
     rw[← hx,← hy]
     unfold zc4
     rw[h,h']
    exact hno j h1 h2 (by omega)
   have hbd:¬ (x.1=y.1∧x.2.1=y.2.1)→L5.map zc4≠M5.map zc4:=fun h=>ziy hkl hkm (by
    rw[← hx,← hy]
    unfold zc4
    intro e
    simp only[Prod.mk.injEq,and_true] at e
    exact h e)
   obtain⟨xn1,hxn1⟩ : ∃ z,z=x.1.1:=⟨_,rfl⟩
   obtain⟨xz1,hxz1⟩ : ∃ z,z=x.1.2.1.length:=⟨_,rfl⟩
   obtain⟨xz2,hxz2⟩ : ∃ z,z=x.1.2.2.length:=⟨_,rfl⟩
   obtain⟨xn2,hxn2⟩ : ∃ z,z=x.2.1.1:=⟨_,rfl⟩
   obtain⟨xz3,hxz3⟩ : ∃ z,z=x.2.1.2.1.length:=⟨_,rfl⟩
   obtain⟨xz4,hxz4⟩ : ∃ z,z=x.2.1.2.2.length:=⟨_,rfl⟩
   obtain⟨xln,hxln⟩ : ∃ z,z=x.2.2:=⟨_,rfl⟩
   rw[← hxn1] at x0
   rw[← hxz1] at x1 rx1
   rw[← hxz2] at x2 rx2
   rw[← hxn2] at x3
   rw[← hxz3] at x4 rx3
   rw[← hxz4] at x5 rx4
   rw[← hxln] at x6
   obtain⟨yn1,hyn1⟩ : ∃ z,z=y.1.1:=⟨_,rfl⟩
   obtain⟨yz1,hyz1⟩ : ∃ z,z=y.1.2.1.length:=⟨_,rfl⟩
   obtain⟨yz2,hyz2⟩ : ∃ z,z=y.1.2.2.length:=⟨_,rfl⟩
   obtain⟨yn2,hyn2⟩ : ∃ z,z=y.2.1.1:=⟨_,rfl⟩
   obtain⟨yz3,hyz3⟩ : ∃ z,z=y.2.1.2.1.length:=⟨_,rfl⟩
   obtain⟨yz4,hyz4⟩ : ∃ z,z=y.2.1.2.2.length:=⟨_,rfl⟩
   obtain⟨yln,hyln⟩ : ∃ z,z=y.2.2:=⟨_,rfl⟩
   rw[← hyn1] at y0
   rw[← hyz1] at y1 ry1
   rw[← hyz2] at y2 ry2
   rw[← hyn2] at y3
   rw[← hyz3] at y4 ry3
   rw[← hyz4] at y5 ry4
   rw[← hyln] at y6
   have x0:=cell_later hbr x0
   have x1:=cell_later hbr x1
   have x2:=cell_later hbr x2
   have x3:=cell_later hbr x3
   have x4:=cell_later hbr x4
   have x5:=cell_later hbr x5
   have x6:=cell_later hbr x6
   obtain⟨wa,hwa⟩ : ∃ W,W=wr.alloc (.cells #[.string xn1,.slice xa1 xz1 xc1,.slice xa2 xz2 xc2,.string xn2,.slice xa3 xz3 xc3,.slice xa4 xz4 xc4,.int .i64 xln] 134):=⟨_,rfl⟩
   obtain⟨ba,hba⟩ : ∃ z,z=wr.heap.size:=⟨_,rfl⟩
   have pa:wa.heap[ba]? = some (.cells #[.string xn1,.slice xa1 xz1 xc1,.slice xa2 xz2 xc2,.string xn2,.slice xa3 xz3 xc3,.slice xa4 xz4 xc4,.int .i64 xln] 134 (0,0)):=by rw[hwa,hba];exact heap_alloc_new _ _
   have hb1:Below wr.heap.size wr wa:=by rw[hwa];exact za2 _ _
   have hbr1:=hbr.trans (hb1.mono hbr.size)
   have qx1:=za1 (za0 hbr1 Hp1.out) 5
   simp only[List.getElem?_toArray,List.getElem?_cons_zero,List.getElem?_cons_succ] at qx1
   have y0:=cell_later hbr1 y0
   have y1:=cell_later hbr1 y1
   have y2:=cell_later hbr1 y2
   have y3:=cell_later hbr1 y3
   have y4:=cell_later hbr1 y4
   have y5:=cell_later hbr1 y5
   have y6:=cell_later hbr1 y6
   obtain⟨wb,hwb⟩ : ∃ W,W=wa.alloc (.cells #[.string yn1,.slice ya1 yz1 yc1,.slice ya2 yz2 yc2,.string yn2,.slice ya3 yz3 yc3,.slice ya4 yz4 yc4,.int .i64 yln] 134):=⟨_,rfl⟩
   obtain⟨bb,hbb⟩ : ∃ z,z=wa.heap.size:=⟨_,rfl⟩
   have pb:wb.heap[bb]? = some (.cells #[.string yn1,.slice ya1 yz1 yc1,.slice ya2 yz2 yc2,.string yn2,.slice ya3 yz3 yc3,.slice ya4 yz4 yc4,.int .i64 yln] 134 (0,0)):=by rw[hwb,hbb];exact heap_alloc_new _ _
   have hb2:Below wa.heap.size wa wb:=by rw[hwb];exact za2 _ _
   have hbr2:=hbr1.trans (hb2.mono hbr1.size)
   have pa2:=za0 hb2 pa
   have hC1:=zd7 (n:=xn1) (m:=yn1) (za3 zaf _ _ _ _ rx1 hbr2) (za3 zag _ _ _ _ rx2 hbr2) (za3 zaf _ _ _ _ ry1 hbr2) (za3 zag _ _ _ _ ry2 hbr2)
   have hC2:=fun (W:World) (k:Below W1.heap.size W1 W)=>zd7 (n:=xn2) (m:=yn2) (za3 zaf _ _ _ _ rx3 k) (za3 zag _ _ _ _ rx4 k) (za3 zaf _ _ _ _ ry3 k) (za3 zag _ _ _ _ ry4 k)
   rw[hxn1,hyn1] at hC1
   rw[hxn2,hyn2] at hC2
   obtain⟨s1,hs1⟩ : ∃ s,s=decide ((x.1.1,x.1.2.1,x.1.2.2)=(y.1.1,y.1.2.1,y.1.2.2)):=⟨_,rfl⟩
   obtain⟨s2,hs2⟩ : ∃ s,s=decide ((x.2.1.1,x.2.1.2.1,x.2.1.2.2)=(y.2.1.1,y.2.1.2.1,y.2.1.2.2)):=⟨_,rfl⟩
   rw[← hs1,← hxn1,← hyn1] at hC1
   rw[← hs2,← hxn2,← hyn2] at hC2
   have k5:(0:Int)≤(k:Int):=by omega
   have k6:(k:Int) < (n5:Int):=by omega
   have k7:(k:Int) < (m5:Int):=by have:=Hh5.out;omega
   have w0:=za1 pa2 0
   have w1:=za1 pa2 1
   have w2:=za1 pa2 2
   have v0:=za1 pb 0
   have v1:=za1 pb 1
   have v2:=za1 pb 2
   simp only[List.getElem?_toArray,List.getElem?_cons_zero,List.getElem?_cons_succ] at w0 w1 w2 v0 v1 v2
   obtain⟨Hno,Hnx,Hbd,Hx,Hy,Hs1,Hs2,HC1,HC2,Hpa,Hpb,Hpa2,Hb1,Hb2,Hbr,Hbr1⟩:=hd16 hno hnx hbd hx hy hs1 hs2 hC1 hC2 pa pb pa2 hb1 hb2 hbr hbr1;obtain⟨Hbr2,Hrx1,Hrx2,Hrx3,Hrx4,Hry1,Hry2,Hry3,Hry4,Hxn1,Hxz1,Hxz2,Hxn2,Hxz3,Hxz4,Hxln⟩:=hd16 hbr2 rx1 rx2 rx3 rx4 ry1 ry2 ry3 ry4 hxn1 hxz1 hxz2 hxn2 hxz3 hxz4 hxln;obtain⟨Hyn1,Hyz1,Hyz2,Hyn2,Hyz3,Hyz4,Hyln⟩:=hd7 hyn1 hyz1 hyz2 hyn2 hyz3 hyz4 hyln;clear hno hnx hbd hx hy hs1 hs2 hC1 hC2 pa pb pa2 hb1 hb2 hbr hbr1 hbr2 rx1 rx2 rx3 rx4 ry1 ry2 ry3 ry4 hxn1 hxz1 hxz2 hxn2 hxz3 hxz4 hxln hyn1 hyz1 hyz2 hyn2 hyz3 hyz4 hyln
   go_upto_region 7 with (fail)
   rw[← hwa,← hba]
   clear hwa hba x0 x1 x2 x3 x4 x5 x6 px qx
   go_upto_region 8 with (fail)
   rw[← hwb,← hbb]
   clear hwb hbb y0 y1 y2 y3 y4 y5 y6 qx1
   go_wp2_with fail
   refine HC1.out.mono ?_
   rintro e' w9 ⟨rfl,hb9⟩
   have hbw9:=Hbr2.out.trans (hb9.mono Hbr2.out.size)
   clear w0 w1 w2 v0 v1 v2
   cases s1 with
   | false =>
    have hff:r=false:=by rw[Hrr.out];exact zff (Hbd.out fun h=>by have:=Hs1.out;rw[h.1] at this;simp at this)
    obtain⟨Hff,Hb9,Hbw9⟩:=hd3 hff hb9 hbw9;clear hff hb9 hbw9
    go_wp2_with fail
    go_ret
    exact⟨by rw[Hff.out];rfl,HbZ.out.trans (Hbw9.out.mono HbZ.out.size)⟩
   | true =>
    have u3:=za1 (za0 hb9 Hpa2.out) 3
    have u4:=za1 (za0 hb9 Hpa2.out) 4
    have u5:=za1 (za0 hb9 Hpa2.out) 5
    have t3:=za1 (za0 hb9 Hpb.out) 3
    have t4:=za1 (za0 hb9 Hpb.out) 4
    have t5:=za1 (za0 hb9 Hpb.out) 5
    simp only[List.getElem?_toArray,List.getElem?_cons_zero,List.getElem?_cons_succ] at u3 u4 u5 t3 t4 t5
    have hC3:=HC2.out _ hbw9
    obtain⟨Hb9,Hbw9,HC3⟩:=hd3 hb9 hbw9 hC3;clear hb9 hbw9 hC3
    go_wp2_with fail
    refine HC3.out.mono ?_
    rintro e' w10 ⟨rfl,hb10⟩
    have hbw10:=Hbw9.out.trans (hb10.mono Hbw9.out.size)
    clear u3 u4 u5 t3 t4 t5
    cases s2 with
    | false =>
     have hff:r=false:=by rw[Hrr.out];exact zff (Hbd.out fun h=>by have:=Hs2.out;rw[h.2] at this;simp at this)
     obtain⟨Hff,Hb10,Hbw10⟩:=hd3 hff hb10 hbw10;clear hff hb10 hbw10
     go_wp2_with fail
     go_ret
     exact⟨by rw[Hff.out];rfl,HbZ.out.trans (Hbw10.out.mono HbZ.out.size)⟩
    | true =>
     have hq2:=Hnx.out (of_decide_eq_true Hs1.out.symm) (of_decide_eq_true Hs2.out.symm)
     obtain⟨Hq2,Hb10,Hbw10⟩:=hd3 hq2 hb10 hbw10;clear hq2 hb10 hbw10
     go_wp2_with fail
     go_roundw
     case rel=>exact⟨k+1,by omega,by go_num,Hq2.out,Hbw10.out⟩
     case measure=>simp[RowKit.intOf];omega
  obtain rfl:n5=k:=by omega
  have hs5:zb5 L5 M5=true:=decide_eq_true (zg4 (by rw[← Hl5.out,← Hr5.out,Hh5.out]) (fun j h1 h2=>hno j h1 h2 (by have:=Hl5.out;omega)))
  have qx6:=za1 (za0 hbr Hp0.out) 6
  simp only[List.getElem?_toArray,List.getElem?_cons_zero,List.getElem?_cons_succ] at qx6
  clear qx
  replace HbL:=Lib.hid hbr
  obtain⟨Hs5,Hno,Hbr⟩:=hd3 hs5 hno hbr;clear hs5 hno hbr
  go_wp2_with fail
  clear px qx6
  go_loopw [73] (fun i wr=>∃ k:Nat,k≤n6∧i = .int .i64 k∧(∀ j (h1:j < L6.length) (h2:j < M6.length),j < k→zc4 L6[j]=zc4 M6[j])∧Below W1.heap.size W1 wr) (fun i _=>n6 - (RowKit.intOf i).toNat)
  case atStart=>exact⟨0,Nat.zero_le _,rfl,fun _ _ _ h=>by omega,HbL.out⟩
  case round =>
   obtain⟨k,hk,rfl,hno,hbr⟩:=hrel
   have px:=za1 (za0 hbr Hp0.out) 6
   have qx:=za1 (za0 hbr Hp1.out) 6
   simp only[List.getElem?_toArray,List.getElem?_cons_zero,List.getElem?_cons_succ] at px qx
   by_cases hlt:k < n6
   ·have hkl:k < L6.length:=by have:=Hl6.out;omega
    have hkm:k < M6.length:=by have:=Hr6.out;have:=Hh6.out;omega
    obtain⟨x,hx⟩ : ∃ x,x=L6[k]:=⟨_,rfl⟩
    obtain⟨y,hy⟩ : ∃ x,x=M6[k]:=⟨_,rfl⟩
    obtain⟨b,off,xa1,xc1,xa2,xc2,xa3,xc3,xa4,xc4,rfl,x0,x1,x2,x3,x4,x5,x6,⟨rx1,rx2⟩,rx3,rx4⟩:=Hg6.out k x (by rw[hx];exact List.getElem?_eq_getElem hkl)
    obtain⟨b',off',ya1,yc1,ya2,yc2,ya3,yc3,ya4,yc4,rfl,y0,y1,y2,y3,y4,y5,y6,⟨ry1,ry2⟩,ry3,ry4⟩:=Hf6.out k y (by rw[hy];exact List.getElem?_eq_getElem hkm)
    have hnx:x.1=y.1→x.2.1=y.2.1→∀ j (h1:j < L6.length) (h2:j < M6.length),j < k+1→zc4 L6[j]=zc4 M6[j]:=fun h h' j h1 h2 hjk=>by
     by_cases e:j=k
     ·subst e
      rw[← hx,← hy]
      unfold zc4
      rw[h,h']
     exact hno j h1 h2 (by omega)
    have hbd:¬ (x.1=y.1∧x.2.1=y.2.1)→L6.map zc4≠M6.map zc4:=fun h=>ziy hkl hkm (by
     rw[← hx,← hy]
     unfold zc4
     intro e
     simp only[Prod.mk.injEq,and_true] at e
     exact h e)
    obtain⟨xn1,hxn1⟩ : ∃ z,z=x.1.1:=⟨_,rfl⟩
    obtain⟨xz1,hxz1⟩ : ∃ z,z=x.1.2.1.length:=⟨_,rfl⟩
    obtain⟨xz2,hxz2⟩ : ∃ z,z=x.1.2.2.length:=⟨_,rfl⟩
    obtain⟨xn2,hxn2⟩ : ∃ z,z=x.2.1.1:=⟨_,rfl⟩
    obtain⟨xz3,hxz3⟩ : ∃ z,z=x.2.1.2.1.length:=⟨_,rfl⟩
    obtain⟨xz4,hxz4⟩ : ∃ z,z=x.2.1.2.2.length:=⟨_,rfl⟩
    obtain⟨xln,hxln⟩ : ∃ z,z=x.2.2:=⟨_,rfl⟩
    rw[← hxn1] at x0
    rw[← hxz1] at x1 rx1
    rw[← hxz2] at x2 rx2
    rw[← hxn2] at x3
    rw[← hxz3] at x4 rx3
    rw[← hxz4] at x5 rx4
    rw[← hxln] at x6
    obtain⟨yn1,hyn1⟩ : ∃ z,z=y.1.1:=⟨_,rfl⟩
    obtain⟨yz1,hyz1⟩ : ∃ z,z=y.1.2.1.length:=⟨_,rfl⟩
    obtain⟨yz2,hyz2⟩ : ∃ z,z=y.1.2.2.length:=⟨_,rfl⟩
    obtain⟨yn2,hyn2⟩ : ∃ z,z=y.2.1.1:=⟨_,rfl⟩
    obtain⟨yz3,hyz3⟩ : ∃ z,z=y.2.1.2.1.length:=⟨_,rfl⟩
    obtain⟨yz4,hyz4⟩ : ∃ z,z=y.2.1.2.2.length:=⟨_,rfl⟩
    obtain⟨yln,hyln⟩ : ∃ z,z=y.2.2:=⟨_,rfl⟩
    rw[← hyn1] at y0
    rw[← hyz1] at y1 ry1
    rw[← hyz2] at y2 ry2
    rw[← hyn2] at y3
    rw[← hyz3] at y4 ry3
    rw[← hyz4] at y5 ry4
    rw[← hyln] at y6
    have x0:=cell_later hbr x0
    have x1:=cell_later hbr x1
    have x2:=cell_later hbr x2
    have x3:=cell_later hbr x3
    have x4:=cell_later hbr x4
    have x5:=cell_later hbr x5
    have x6:=cell_later hbr x6
    obtain⟨wa,hwa⟩ : ∃ W,W=wr.alloc (.cells #[.string xn1,.slice xa1 xz1 xc1,.slice xa2 xz2 xc2,.string xn2,.slice xa3 xz3 xc3,.slice xa4 xz4 xc4,.int .i64 xln] 197):=⟨_,rfl⟩
    obtain⟨ba,hba⟩ : ∃ z,z=wr.heap.size:=⟨_,rfl⟩
    have pa:wa.heap[ba]? = some (.cells #[.string xn1,.slice xa1 xz1 xc1,.slice xa2 xz2 xc2,.string xn2,.slice xa3 xz3 xc3,.slice xa4 xz4 xc4,.int .i64 xln] 197 (0,0)):=by rw[hwa,hba];exact heap_alloc_new _ _
    have hb1:Below wr.heap.size wr wa:=by rw[hwa];exact za2 _ _
    have hbr1:=hbr.trans (hb1.mono hbr.size)
    have qx1:=za1 (za0 hbr1 Hp1.out) 6
    simp only[List.getElem?_toArray,List.getElem?_cons_zero,List.getElem?_cons_succ] at qx1
    have y0:=cell_later hbr1 y0
    have y1:=cell_later hbr1 y1
    have y2:=cell_later hbr1 y2
    have y3:=cell_later hbr1 y3
    have y4:=cell_later hbr1 y4
    have y5:=cell_later hbr1 y5
    have y6:=cell_later hbr1 y6
    obtain⟨wb,hwb⟩ : ∃ W,W=wa.alloc (.cells #[.string yn1,.slice ya1 yz1 yc1,.slice ya2 yz2 yc2,.string yn2,.slice ya3 yz3 yc3,.slice ya4 yz4 yc4,.int .i64 yln] 197):=⟨_,rfl⟩
    obtain⟨bb,hbb⟩ : ∃ z,z=wa.heap.size:=⟨_,rfl⟩
    have pb:wb.heap[bb]? = some (.cells #[.string yn1,.slice ya1 yz1 yc1,.slice ya2 yz2 yc2,.string yn2,.slice ya3 yz3 yc3,.slice ya4 yz4 yc4,.int .i64 yln] 197 (0,0)):=by rw[hwb,hbb];exact heap_alloc_new _ _
    have hb2:Below wa.heap.size wa wb:=by rw[hwb];exact za2 _ _
    have hbr2:=hbr1.trans (hb2.mono hbr1.size)
    have pa2:=za0 hb2 pa
    have hC1:=zd7 (n:=xn1) (m:=yn1) (za3 zaf _ _ _ _ rx1 hbr2) (za3 zag _ _ _ _ rx2 hbr2) (za3 zaf _ _ _ _ ry1 hbr2) (za3 zag _ _ _ _ ry2 hbr2)
    have hC2:=fun (W:World) (k:Below W1.heap.size W1 W)=>zd7 (n:=xn2) (m:=yn2) (za3 zaf _ _ _ _ rx3 k) (za3 zag _ _ _ _ rx4 k) (za3 zaf _ _ _ _ ry3 k) (za3 zag _ _ _ _ ry4 k)
    rw[hxn1,hyn1] at hC1
    rw[hxn2,hyn2] at hC2
    obtain⟨s1,hs1⟩ : ∃ s,s=decide ((x.1.1,x.1.2.1,x.1.2.2)=(y.1.1,y.1.2.1,y.1.2.2)):=⟨_,rfl⟩
    obtain⟨s2,hs2⟩ : ∃ s,s=decide ((x.2.1.1,x.2.1.2.1,x.2.1.2.2)=(y.2.1.1,y.2.1.2.1,y.2.1.2.2)):=⟨_,rfl⟩
    rw[← hs1,← hxn1,← hyn1] at hC1
    rw[← hs2,← hxn2,← hyn2] at hC2
    have k5:(0:Int)≤(k:Int):=by omega
    have k6:(k:Int) < (n6:Int):=by omega
    have k7:(k:Int) < (m6:Int):=by have:=Hh6.out;omega
    have w0:=za1 pa2 0
    have w1:=za1 pa2 1
    have w2:=za1 pa2 2
    have v0:=za1 pb 0
    have v1:=za1 pb 1
    have v2:=za1 pb 2
    simp only[List.getElem?_toArray,List.getElem?_cons_zero,List.getElem?_cons_succ] at w0 w1 w2 v0 v1 v2
    obtain⟨Hno,Hnx,Hbd,Hx,Hy,Hs1,Hs2,HC1,HC2,Hpa,Hpb,Hpa2,Hb1,Hb2,Hbr,Hbr1⟩:=hd16 hno hnx hbd hx hy hs1 hs2 hC1 hC2 pa pb pa2 hb1 hb2 hbr hbr1;obtain⟨Hbr2,Hrx1,Hrx2,Hrx3,Hrx4,Hry1,Hry2,Hry3,Hry4,Hxn1,Hxz1,Hxz2,Hxn2,Hxz3,Hxz4,Hxln⟩:=hd16 hbr2 rx1 rx2 rx3 rx4 ry1 ry2 ry3 ry4 hxn1 hxz1 hxz2 hxn2 hxz3 hxz4 hxln;obtain⟨Hyn1,Hyz1,Hyz2,Hyn2,Hyz3,Hyz4,Hyln⟩:=hd7 hyn1 hyz1 hyz2 hyn2 hyz3 hyz4 hyln;clear hno hnx hbd hx hy hs1 hs2 hC1 hC2 pa pb pa2 hb1 hb2 hbr hbr1 hbr2 rx1 rx2 rx3 rx4 ry1 ry2 ry3 ry4 hxn1 hxz1 hxz2 hxn2 hxz3 hxz4 hxln hyn1 hyz1 hyz2 hyn2 hyz3 hyz4 hyln
    go_upto_region 15 with (fail)
    rw[← hwa,← hba]
    clear hwa hba x0 x1 x2 x3 x4 x5 x6 px qx
    go_upto_region 16 with (fail)
    rw[← hwb,← hbb]
    clear hwb hbb y0 y1 y2 y3 y4 y5 y6 qx1
    go_wp2_with fail
    refine HC1.out.mono ?_
    rintro e' w9 ⟨rfl,hb9⟩
    have hbw9:=Hbr2.out.trans (hb9.mono Hbr2.out.size)
    clear w0 w1 w2 v0 v1 v2
    cases s1 with
    | false =>
     have hff:r=false:=by rw[Hrr.out];exact zfe (Hbd.out fun h=>by have:=Hs1.out;rw[h.1] at this;simp at this)
     obtain⟨Hff,Hb9,Hbw9⟩:=hd3 hff hb9 hbw9;clear hff hb9 hbw9
     go_wp2_with fail
     go_ret
     exact⟨by rw[Hff.out];rfl,HbZ.out.trans (Hbw9.out.mono HbZ.out.size)⟩
    | true =>
     have u3:=za1 (za0 hb9 Hpa2.out) 3
     have u4:=za1 (za0 hb9 Hpa2.out) 4
     have u5:=za1 (za0 hb9 Hpa2.out) 5
     have t3:=za1 (za0 hb9 Hpb.out) 3
     have t4:=za1 (za0 hb9 Hpb.out) 4
     have t5:=za1 (za0 hb9 Hpb.out) 5
     simp only[List.getElem?_toArray,List.getElem?_cons_zero,List.getElem?_cons_succ] at u3 u4 u5 t3 t4 t5
     have hC3:=HC2.out _ hbw9
     obtain⟨Hb9,Hbw9,HC3⟩:=hd3 hb9 hbw9 hC3;clear hb9 hbw9 hC3
     go_wp2_with fail
     refine HC3.out.mono ?_
     rintro e' w10 ⟨rfl,hb10⟩
     have hbw10:=Hbw9.out.trans (hb10.mono Hbw9.out.size)
     clear u3 u4 u5 t3 t4 t5
     cases s2 with
     | false =>
      have hff:r=false:=by rw[Hrr.out];exact zfe (Hbd.out fun h=>by have:=Hs2.out;rw[h.2] at this;simp at this)
      obtain⟨Hff,Hb10,Hbw10⟩:=hd3 hff hb10 hbw10;clear hff hb10 hbw10
      go_wp2_with fail
      go_ret
      exact⟨by rw[Hff.out];rfl,HbZ.out.trans (Hbw10.out.mono HbZ.out.size)⟩
     | true =>
      have hq2:=Hnx.out (of_decide_eq_true Hs1.out.symm) (of_decide_eq_true Hs2.out.symm)
      obtain⟨Hq2,Hb10,Hbw10⟩:=hd3 hq2 hb10 hbw10;clear hq2 hb10 hbw10
      go_wp2_with fail
      go_roundw
      case rel=>exact⟨k+1,by omega,by go_num,Hq2.out,Hbw10.out⟩
      case measure=>simp[RowKit.intOf];omega
   obtain rfl:n6=k:=by omega
   have hs6:zb5 L6 M6=true:=decide_eq_true (zg4 (by rw[← Hl6.out,← Hr6.out,Hh6.out]) (fun j h1 h2=>hno j h1 h2 (by have:=Hl6.out;omega)))
   have hff:r=true:=by rw[Hrr.out,Hs5.out,hs6];rfl
   clear px qx
   obtain⟨Hff,Hno,Hbr,Hs6⟩:=hd4 hff hno hbr hs6;clear hff hno hbr hs6
   go_wp2_with fail
   go_ret
   exact⟨by rw[Hff.out];rfl,HbZ.out.trans (Hbr.out.mono HbZ.out.size)⟩
end

section
open Go.RowKit Go.Shelf Go.Lib VerN VarM
attribute [local go_sem ↓] Go.wp_at_zero Go.wp_at_succ
theorem zhd {w:World} {p q:PkgM} {nm nm2:ByteArray} {li li2:Int} {b2:Option Addr} {n2 c2:Nat} {d2:Option Addr} {m2 e2:Nat} {b3:Option Addr} {n3 c3:Nat} {d3:Option Addr} {m3 e3:Nat} {b4:Option Addr} {n4 c4:Nat} {d4:Option Addr} {m4 e4:Nat} {b5:Option Addr} {n5 c5:Nat} {d5:Option Addr} {m5 e5:Nat} {b6:Option Addr} {n6 c6:Nat} {d6:Option Addr} {m6 e6:Nat} {b7:Option Addr} {n7 c7:Nat} {d7:Option Addr} {m7 e7:Nat}
  (hnp:p.name=nm) (hnq:q.name=nm2) (hp:RPkR w (.slice b2 n2 c2) (.slice b3 n3 c3) (.slice b4 n4 c4) (.slice b5 n5 c5) (.slice b6 n6 c6) (.slice b7 n7 c7) p) (hq:RPkR w (.slice d2 m2 e2) (.slice d3 m3 e3) (.slice d4 m4 e4) (.slice d5 m5 e5) (.slice d6 m6 e6) (.slice d7 m7 e7) q) :
  Calls Tryz.prog 89 #[.agg #[.string nm,.int .i64 li,.slice b2 n2 c2,.slice b3 n3 c3,.slice b4 n4 c4,.slice b5 n5 c5,.slice b6 n6 c6,.slice b7 n7 c7],.agg #[.string nm2,.int .i64 li2,.slice d2 m2 e2,.slice d3 m3 e3,.slice d4 m4 e4,.slice d5 m5 e5,.slice d6 m6 e6,.slice d7 m7 e7],.bool false] w fun e w'=>e = .returned (.bool (zcy p q))∧Below w.heap.size w w':=by
 obtain⟨W1,hW1⟩ : ∃ W,W=(w.alloc (.cells #[.string nm,.int .i64 li,.slice b2 n2 c2,.slice b3 n3 c3,.slice b4 n4 c4,.slice b5 n5 c5,.slice b6 n6 c6,.slice b7 n7 c7] 123)).alloc (.cells #[.string nm2,.int .i64 li2,.slice d2 m2 e2,.slice d3 m3 e3,.slice d4 m4 e4,.slice d5 m5 e5,.slice d6 m6 e6,.slice d7 m7 e7] 123):=⟨_,rfl⟩
 obtain⟨g,hg⟩ : ∃ g,g=w.heap.size:=⟨_,rfl⟩
 have hb1:Below w.heap.size w W1:=by rw[hW1];exact (za2 _ _).alloc (by simp) _
 have hp0:W1.heap[g]? = some (.cells #[.string nm,.int .i64 li,.slice b2 n2 c2,.slice b3 n3 c3,.slice b4 n4 c4,.slice b5 n5 c5,.slice b6 n6 c6,.slice b7 n7 c7] 123 (0,0)):=by rw[hW1,hg];exact za0 (za2 _ _) (za5 rfl)
 have hp1:W1.heap[g+1]? = some (.cells #[.string nm2,.int .i64 li2,.slice d2 m2 e2,.slice d3 m3 e3,.slice d4 m4 e4,.slice d5 m5 e5,.slice d6 m6 e6,.slice d7 m7 e7] 123 (0,0)):=by rw[hW1,hg];exact za5 (by simp)
 have hpp:=hp.below hb1
 have hqq:=hq.below hb1
 obtain⟨hl2,hz2,hg2⟩:=rls_at hpp.1
 obtain⟨hr2,hy2,hf2⟩:=rls_at hqq.1
 obtain⟨hl3,hz3,hg3⟩:=zje hpp.2.1
 obtain⟨hr3,hy3,hf3⟩:=zje hqq.2.1
 obtain⟨L2,hL2⟩ : ∃ z,z=p.rel:=⟨_,rfl⟩
 obtain⟨M2,hM2⟩ : ∃ z,z=q.rel:=⟨_,rfl⟩
 obtain⟨L3,hL3⟩ : ∃ z,z=p.vars:=⟨_,rfl⟩
 obtain⟨M3,hM3⟩ : ∃ z,z=q.vars:=⟨_,rfl⟩
 have hrr0:=zl1 p q
 rw[hnp,hnq,← hL2,← hM2,← hL3,← hM3] at hrr0
 rw[← hL2] at hl2 hg2
 rw[← hM2] at hr2 hf2
 rw[← hL3] at hl3 hg3
 rw[← hM3] at hr3 hf3
 obtain⟨r,hrr⟩ : ∃ r,r=zcy p q:=⟨_,rfl⟩
 rw[← hrr]
 rw[← hrr] at hrr0
 obtain⟨q4,hc4⟩ : ∃ c,c=decide (p.prov=q.prov):=⟨_,rfl⟩
 obtain⟨q7,hc7⟩ : ∃ c,c=decide (p.files=q.files):=⟨_,rfl⟩
 obtain⟨q5,hc5⟩ : ∃ c,c=(zb5 p.dep q.dep && zb5 p.conf q.conf):=⟨_,rfl⟩
 rw[← hc4,← hc7,← hc5] at hrr0
 have hT4:=fun (W:World) (k:Below W1.heap.size W1 W)=>zdr (zah hpp.2.2.1 k) (zah hqq.2.2.1 k)
 have hT7:=fun (W:World) (k:Below W1.heap.size W1 W)=>zdr (zah hpp.2.2.2.2.2 k) (zah hqq.2.2.2.2.2 k)
 have hT5:=fun (W:World) (k:Below W1.heap.size W1 W)=>zjo (nm:=nm) (nm2:=nm2) (li:=li) (li2:=li2) (hpp.below k) (hqq.below k)
 rw[← hc4] at hT4
 rw[← hc7] at hT7
 rw[← hc5] at hT5
 have x0:=za1 hp0 0
 have x2:=za1 hp0 2
 have x3:=za1 hp0 3
 have y0:=za1 hp1 0
 have y2:=za1 hp1 2
 have y3:=za1 hp1 3
 simp only[List.getElem?_toArray,List.getElem?_cons_zero,List.getElem?_cons_succ] at x0 x2 x3 y0 y2 y3
 have heq:=Txt.eq_dec nm nm2
 obtain⟨bn,hbn⟩ : ∃ b,b=decide (nm=nm2):=⟨_,rfl⟩
 rw[← hbn] at heq hrr0
 clear hrr
 cases bn with
 | false =>
  obtain⟨Hb1,Hp0,Hp1,Hpp,Hqq,Hl2,Hg2,Hr2,Hf2,Hl3,Hg3,Hr3,Hf3,Hrr0,Hp,Hq⟩:=hd16 hb1 hp0 hp1 hpp hqq hl2 hg2 hr2 hf2 hl3 hg3 hr3 hf3 hrr0 hp hq;obtain⟨HL2,HM2,HL3,HM3,Hc4,Hc7,Hc5,HT4,HT7,HT5,Hbn,Hnp,Hnq⟩:=hd13 hL2 hM2 hL3 hM3 hc4 hc7 hc5 hT4 hT7 hT5 hbn hnp hnq;clear hb1 hp0 hp1 hpp hqq hl2 hg2 hr2 hf2 hl3 hg3 hr3 hf3 hrr0 hp hq hL2 hM2 hL3 hM3 hc4 hc7 hc5 hT4 hT7 hT5 hbn hnp hnq
  go_enter Tryz.func89,Tryz.ntmps89
  go_upto_region 1 with (fail)
  rw[← hW1,← hg]
  clear hW1 hg
  go_wp2_with fail
  go_ret
  exact⟨by rw[Hrr0.out];rfl,Hb1.out⟩
 | true =>
  by_cases hh2:n2=m2
  case neg =>
   have k1:((n2:Int) != (m2:Int))=true:=by simp;omega
   have hff:decide (L2=M2)=false:=decide_eq_false fun e=>hh2 (by rw[hl2,hr2,e])
   obtain⟨Hb1,Hp0,Hp1,Hpp,Hqq,Hl2,Hg2,Hr2,Hf2,Hl3,Hg3,Hr3,Hf3,Hrr0,Hp,Hq⟩:=hd16 hb1 hp0 hp1 hpp hqq hl2 hg2 hr2 hf2 hl3 hg3 hr3 hf3 hrr0 hp hq;obtain⟨HL2,HM2,HL3,HM3,Hc4,Hc7,Hc5,HT4,HT7,HT5,Hbn,Hnp,Hnq,Hff,Hh2⟩:=hd15 hL2 hM2 hL3 hM3 hc4 hc7 hc5 hT4 hT7 hT5 hbn hnp hnq hff hh2;clear hb1 hp0 hp1 hpp hqq hl2 hg2 hr2 hf2 hl3 hg3 hr3 hf3 hrr0 hp hq hL2 hM2 hL3 hM3 hc4 hc7 hc5 hT4 hT7 hT5 hbn hnp hnq hff hh2
   go_enter Tryz.func89,Tryz.ntmps89
   go_upto_region 1 with (fail)
   rw[← hW1,← hg]
   clear hW1 hg
   go_wp2_with fail
   go_ret
   exact⟨by rw[Hrr0.out,Hff.out];rfl,Hb1.out⟩
  have k1:((n2:Int) != (m2:Int))=false:=by simp;omega
  by_cases hh3:n3=m3
  case neg =>
   have k2:((n3:Int) != (m3:Int))=true:=by simp;omega
   have hff:decide (L3=M3)=false:=decide_eq_false fun e=>hh3 (by rw[hl3,hr3,e])
   have hrx:r=false:=by rw[hrr0,hff];simp
   obtain⟨Hb1,Hp0,Hp1,Hpp,Hqq,Hl2,Hg2,Hr2,Hf2,Hl3,Hg3,Hr3,Hf3,Hrr0,Hp,Hq⟩:=hd16 hb1 hp0 hp1 hpp hqq hl2 hg2 hr2 hf2 hl3 hg3 hr3 hf3 hrr0 hp hq;obtain⟨HL2,HM2,HL3,HM3,Hc4,Hc7,Hc5,HT4,HT7,HT5,Hbn,Hnp,Hnq,Hff,Hh2,Hh3⟩:=hd16 hL2 hM2 hL3 hM3 hc4 hc7 hc5 hT4 hT7 hT5 hbn hnp hnq hff hh2 hh3;have Hrx:=hd hrx;clear hb1 hp0 hp1 hpp hqq hl2 hg2 hr2 hf2 hl3 hg3 hr3 hf3 hrr0 hp hq hL2 hM2 hL3 hM3 hc4 hc7 hc5 hT4 hT7 hT5 hbn hnp hnq hff hh2 hh3 hrx
   go_enter Tryz.func89,Tryz.ntmps89
   go_upto_region 1 with (fail)
   rw[← hW1,← hg]
   clear hW1 hg
   go_wp2_with fail
   go_ret
   exact⟨by rw[Hrx.out];rfl,Hb1.out⟩
  have k2:((n3:Int) != (m3:Int))=false:=by simp;omega
  obtain⟨Hb1,Hp0,Hp1,Hpp,Hqq,Hl2,Hg2,Hr2,Hf2,Hl3,Hg3,Hr3,Hf3,Hrr0,Hp,Hq⟩:=hd16 hb1 hp0 hp1 hpp hqq hl2 hg2 hr2 hf2 hl3 hg3 hr3 hf3 hrr0 hp hq;obtain⟨HL2,HM2,HL3,HM3,Hc4,Hc7,Hc5,HT4,HT7,HT5,Hbn,Hnp,Hnq,Hh2,Hh3⟩:=hd15 hL2 hM2 hL3 hM3 hc4 hc7 hc5 hT4 hT7 hT5 hbn hnp hnq hh2 hh3;clear hb1 hp0 hp1 hpp hqq hl2 hg2 hr2 hf2 hl3 hg3 hr3 hf3 hrr0 hp hq hL2 hM2 hL3 hM3 hc4 hc7 hc5 hT4 hT7 hT5 hbn hnp hnq hh2 hh3
  go_enter Tryz.func89,Tryz.ntmps89
  go_upto_region 1 with (fail)
  rw[← hW1,← hg]
  clear hW1 hg
  go_wp2_with fail
  clear k1 k2 x0 x2 x3 y0 y2 y3 heq
  go_loopw [45] (fun i wr=>∃ k:Nat,k≤n2∧i = .int .i64 k∧(∀ j (h1:j < L2.length) (h2:j < M2.length),j < k→L2[j]=M2[j])∧Below W1.heap.size W1 wr) (fun i _=>n2 - (RowKit.intOf i).toNat)
  case atStart=>exact⟨0,Nat.zero_le _,rfl,fun _ _ _ h=>by omega,Below.refl _ _⟩
  case round =>
   obtain⟨k,hk,rfl,hno,hbr⟩:=hrel
   have px:=za1 (za0 hbr Hp0.out) 2
   have qx:=za1 (za0 hbr Hp1.out) 2
   simp only[List.getElem?_toArray,List.getElem?_cons_zero,List.getElem?_cons_succ] at px qx
   by_cases hlt:k < n2
   ·have hkl:k < L2.length:=by have:=Hl2.out;omega
    have hkm:k < M2.length:=by have:=Hr2.out;have:=Hh2.out;omega
    obtain⟨x,hx⟩ : ∃ x,x=L2[k]:=⟨_,rfl⟩
    obtain⟨y,hy⟩ : ∃ x,x=M2[k]:=⟨_,rfl⟩
    obtain⟨b,off,rfl,x0,x1⟩:=Hg2.out k x (by rw[hx];exact List.getElem?_eq_getElem hkl)
    obtain⟨b',off',rfl,y0,y1⟩:=Hf2.out k y (by rw[hy];exact List.getElem?_eq_getElem hkm)
    have x0:=cell_later hbr x0
    have x1:=cell_later hbr x1
    have y0:=cell_later hbr y0
    have y1:=cell_later hbr y1
    have hnx:x=y→∀ j (h1:j < L2.length) (h2:j < M2.length),j < k+1→L2[j]=M2[j]:=fun h j h1 h2 hjk=>by
     by_cases e:j=k
     ·subst e;rw[← hx,← hy,h]
     exact hno j h1 h2 (by omega)
    have hbd:x≠y→L2≠M2:=fun h e=>h (by rw[hx,hy];subst e;rfl)
    have q2:=fun (W:World)=>zo0 x.1 x.2 y.1 y.2 W
    have hxy:(decide (x.1=y.1) && decide (x.2=y.2))=decide (x=y):=by
     rw[Bool.eq_iff_iff]
     simp[Prod.ext_iff]
    rw[hxy] at q2
    obtain⟨s,hs⟩ : ∃ s,s=x.1:=⟨_,rfl⟩
    obtain⟨t,ht⟩ : ∃ s,s=x.2:=⟨_,rfl⟩
    obtain⟨s',hs'⟩ : ∃ s,s=y.1:=⟨_,rfl⟩
    obtain⟨t',ht'⟩ : ∃ s,s=y.2:=⟨_,rfl⟩
    rw[← hs,← ht,← hs',← ht'] at q2
    rw[← hs] at x0
    rw[← ht] at x1
    rw[← hs'] at y0
    rw[← ht'] at y1
    clear hxy
    obtain⟨c,hc⟩ : ∃ c,c=decide (x=y):=⟨_,rfl⟩
    rw[← hc] at q2
    have k5:(0:Int)≤(k:Int):=by omega
    have k6:(k:Int) < (n2:Int):=by omega
    have k7:(k:Int) < (m2:Int):=by have:=Hh2.out;omega
    cases c with
    | true =>
     have hq:=hnx (of_decide_eq_true hc.symm)
     simp only[Bool.not_true] at q2
     obtain⟨Hno,Hnx,Hbd,Hx,Hy,Hc,Hs,Ht,Hs',Ht',Hq,Hbr⟩:=hd12 hno hnx hbd hx hy hc hs ht hs' ht' hq hbr;clear hno hnx hbd hx hy hc hs ht hs' ht' hq hbr
     go_wp2_with fail
     go_region
     go_wp2_with fail
     go_roundw
     case rel=>exact⟨k+1,by omega,by go_num,Hq.out,by first | exact Below.drew Hbr.out | exact za9 Hbr.out _ | exact Hbr.out⟩
     case measure=>simp[RowKit.intOf];omega
    | false =>
     have hf:decide (L2=M2)=false:=decide_eq_false (hbd (of_decide_eq_false hc.symm))
     simp only[Bool.not_false] at q2
     obtain⟨Hno,Hnx,Hbd,Hx,Hy,Hc,Hs,Ht,Hs',Ht',Hf,Hbr⟩:=hd12 hno hnx hbd hx hy hc hs ht hs' ht' hf hbr;clear hno hnx hbd hx hy hc hs ht hs' ht' hf hbr
     go_wp2_with fail
     go_region
     go_wp2_with fail
     go_ret
     exact⟨by rw[Hrr0.out,Hf.out];rfl,Hb1.out.trans (Below.mono (by first | exact Below.drew Hbr.out | exact za9 Hbr.out _ | exact Hbr.out) Hb1.out.size)⟩
   obtain rfl:n2=k:=by omega
   have hs2:decide (L2=M2)=true:=decide_eq_true (List.ext_getElem (by rw[← Hl2.out,← Hr2.out,Hh2.out]) (fun j h1 h2=>hno j h1 h2 (by have:=Hl2.out;omega)))
   have px3:=za1 (za0 hbr Hp0.out) 3
   simp only[List.getElem?_toArray,List.getElem?_cons_zero,List.getElem?_cons_succ] at px3
   clear px qx
   obtain⟨Hs2,Hno,Hbr⟩:=hd3 hs2 hno hbr;clear hs2 hno hbr
   go_wp2_with fail
   clear px3
   go_loopw [63] (fun i wr=>∃ k:Nat,k≤n3∧i = .int .i64 k∧(∀ j (h1:j < L3.length) (h2:j < M3.length),j < k→L3[j]=M3[j])∧Below W1.heap.size W1 wr) (fun i _=>n3 - (RowKit.intOf i).toNat)
   case atStart=>exact⟨0,Nat.zero_le _,rfl,fun _ _ _ h=>by omega,Hbr.out⟩
   case round =>
    obtain⟨k,hk,rfl,hno,hbr⟩:=hrel
    by_cases hlt:k < n3
    ·have hkl:k < L3.length:=by have:=Hl3.out;omega
     have hkm:k < M3.length:=by have:=Hr3.out;have:=Hh3.out;omega
     obtain⟨x,hx⟩ : ∃ x,x=L3[k]:=⟨_,rfl⟩
     obtain⟨y,hy⟩ : ∃ x,x=M3[k]:=⟨_,rfl⟩
     obtain⟨b,off,xa1,xc1,rfl,x0,x1,rx1⟩:=Hg3.out k x (by rw[hx];exact List.getElem?_eq_getElem hkl)
     obtain⟨b',off',ya1,yc1,rfl,y0,y1,ry1⟩:=Hf3.out k y (by rw[hy];exact List.getElem?_eq_getElem hkm)
     have hnx:x.1=y.1→x.2=y.2→∀ j (h1:j < L3.length) (h2:j < M3.length),j < k+1→L3[j]=M3[j]:=fun h h' j h1 h2 hjk=>by
      by_cases e:j=k
      ·subst e;rw[← hx,← hy];exact Prod.ext h h'
      exact hno j h1 h2 (by omega)
     have hbd:¬ (x.1=y.1∧x.2=y.2)→decide (L3=M3)=false:=fun h=>decide_eq_false fun e=>h (by
      have:x=y:=by rw[hx,hy];subst e;rfl
      rw[this];exact⟨rfl,rfl⟩)
     have hC:=fun (W:World) (k:Below W1.heap.size W1 W)=>zdr (zah rx1 k) (zah ry1 k)
     obtain⟨xz1,hxz1⟩ : ∃ z,z=x.2.length:=⟨_,rfl⟩
     obtain⟨yz1,hyz1⟩ : ∃ z,z=y.2.length:=⟨_,rfl⟩
     obtain⟨s,hs⟩ : ∃ s,s=x.1:=⟨_,rfl⟩
     obtain⟨s',hs'⟩ : ∃ s,s=y.1:=⟨_,rfl⟩
     rw[← hs] at x0 hnx hbd
     rw[← hs'] at y0 hnx hbd
     rw[← hxz1] at x1 hC rx1
     rw[← hyz1] at y1 hC ry1
     obtain⟨cs,hcs⟩ : ∃ c,c=decide (x.2=y.2):=⟨_,rfl⟩
     rw[← hcs] at hC
     have hzz:=Txt.eq_dec s s'
     obtain⟨cn,hcn⟩ : ∃ c,c=decide (s=s'):=⟨_,rfl⟩
     rw[← hcn] at hzz
     have hcz:∀ W,Below W1.heap.size W1 W→W.cell? ⟨g,3,none⟩=some (.slice (some ⟨b,off,none⟩) n3 c3)∧W.cell? ⟨g+1,3,none⟩=some (.slice (some ⟨b',off',none⟩) m3 e3)∧W.cell? ⟨b,off+k * 2,none⟩=some (.string s)∧W.cell? ⟨b,off+k * 2+1,none⟩=some (.slice xa1 xz1 xc1)∧W.cell? ⟨b',off' + k * 2,none⟩=some (.string s')∧W.cell? ⟨b',off' + k * 2+1,none⟩=some (.slice ya1 yz1 yc1):=fun W hb=>by
      have px:=za1 (za0 hb Hp0.out) 3
      have qx:=za1 (za0 hb Hp1.out) 3
      simp only[List.getElem?_toArray,List.getElem?_cons_zero,List.getElem?_cons_succ] at px qx
      exact⟨px,qx,cell_later hb x0,cell_later hb x1,cell_later hb y0,cell_later hb y1⟩
     have k5:(0:Int)≤(k:Int):=by omega
     have k6:(k:Int) < (n3:Int):=by omega
     have k7:(k:Int) < (m3:Int):=by have:=Hh3.out;omega
     clear x0 x1 y0 y1
     obtain⟨Hno,Hnx,Hbd,Hx,Hy,Hcn,Hcs,Hs,Hs',Hbr,Hrx1,Hry1,HC,Hcz,Hxz1,Hyz1⟩:=hd16 hno hnx hbd hx hy hcn hcs hs hs' hbr rx1 ry1 hC hcz hxz1 hyz1;clear hno hnx hbd hx hy hcn hcs hs hs' hbr rx1 ry1 hC hcz hxz1 hyz1
     go_upto_region 12 with (fail)
     have hSd:=Hcz.out _ (Below.drew Hbr.out)
     have hbdd:=Below.drew Hbr.out
     refine wp_region_held_drew (S:=fun W=>W.cell? ⟨g,3,none⟩=some (.slice (some ⟨b,off,none⟩) n3 c3)∧W.cell? ⟨g+1,3,none⟩=some (.slice (some ⟨b',off',none⟩) m3 e3)∧W.cell? ⟨b,off+k * 2,none⟩=some (.string s)∧W.cell? ⟨b,off+k * 2+1,none⟩=some (.slice xa1 xz1 xc1)∧W.cell? ⟨b',off' + k * 2,none⟩=some (.string s')∧W.cell? ⟨b',off' + k * 2+1,none⟩=some (.slice ya1 yz1 yc1)) (by kernel_rfl) (by exact hSd) (fun hHeld=>?_)
     generalize wr.drew=wd at hSd hbdd ⊢
     have Hbdd:=hd hbdd;clear hbdd
     refine wpAnyH_take (i:=0) (v:=?_) rfl (by kernel_rfl) (by kernel_rfl) (by kernel_rfl) (fun _ _ _ h=>h) (Or.inl ⟨by kernel_rfl,?_⟩) (by assumption) ?_
     rotate_left
     ·(intro w hSw;(try dsimp only at hSw);(try obtain⟨o0,o1,o2,o3,o4,o5⟩:=hSw);go_simp;try with_reducible rfl)
     try simp only[Act.put,lA,lB,lC]
     refine wpAnyH_take (i:=1) (v:=?_) rfl (by kernel_rfl) (by kernel_rfl) (by kernel_rfl) (fun _ _ _ h=>h) (Or.inl ⟨by kernel_rfl,?_⟩) (by assumption) ?_
     rotate_left
     ·(intro w hSw;(try dsimp only at hSw);(try obtain⟨o0,o1,o2,o3,o4,o5⟩:=hSw);go_simp;try with_reducible rfl)
     try simp only[Act.put,lA,lB,lC]
     refine wpAnyH_take (i:=2) (v:=?_) rfl (by kernel_rfl) (by kernel_rfl) (by kernel_rfl) (fun _ _ _ h=>h) (Or.inl ⟨by kernel_rfl,?_⟩) (by assumption) ?_
     rotate_left
     ·(intro w hSw;(try dsimp only at hSw);(try obtain⟨o0,o1,o2,o3,o4,o5⟩:=hSw);go_simp;try with_reducible rfl)
     try simp only[Act.put,lA,lB,lC]
     refine wpAnyH_take (i:=3) (v:=?_) rfl (by kernel_rfl) (by kernel_rfl) (by kernel_rfl) (fun _ _ _ h=>h) (Or.inl ⟨by kernel_rfl,?_⟩) (by assumption) ?_
     rotate_left
     ·(intro w hSw;(try dsimp only at hSw);(try obtain⟨o0,o1,o2,o3,o4,o5⟩:=hSw);go_simp;try with_reducible rfl)
     try simp only[Act.put,lA,lB,lC]
     refine wpAnyH_take (i:=4) (v:=?_) rfl (by kernel_rfl) (by kernel_rfl) (by kernel_rfl) (fun _ _ _ h=>h) (Or.inl ⟨by kernel_rfl,?_⟩) (by assumption) ?_
     rotate_left
     ·(intro w hSw;(try dsimp only at hSw);(try obtain⟨o0,o1,o2,o3,o4,o5⟩:=hSw);go_simp;try with_reducible rfl)
     try simp only[Act.put,lA,lB,lC]
     refine wpAnyH_take (i:=5) (v:=?_) rfl (by kernel_rfl) (by kernel_rfl) (by kernel_rfl) (fun _ _ _ h=>h) (Or.inl ⟨by kernel_rfl,?_⟩) (by assumption) ?_
     rotate_left
     ·(intro w hSw;(try dsimp only at hSw);(try obtain⟨o0,o1,o2,o3,o4,o5⟩:=hSw);go_simp;try with_reducible rfl)
     try simp only[Act.put,lA,lB,lC]
     refine wpAnyH_take (i:=6) (v:=?_) rfl (by kernel_rfl) (by kernel_rfl) (by kernel_rfl) (fun _ _ _ h=>h) (Or.inl ⟨by kernel_rfl,?_⟩) (by assumption) ?_
     rotate_left
     ·(intro w hSw;(try dsimp only at hSw);(try obtain⟨o0,o1,o2,o3,o4,o5⟩:=hSw);go_simp;try with_reducible rfl)
     try simp only[Act.put,lA,lB,lC]
     refine wpAnyH_take (i:=7) (v:=?_) rfl (by kernel_rfl) (by kernel_rfl) (by kernel_rfl) (fun _ _ _ h=>h) (Or.inl ⟨by kernel_rfl,?_⟩) (by assumption) ?_
     rotate_left
     ·(intro w hSw;(try dsimp only at hSw);(try obtain⟨o0,o1,o2,o3,o4,o5⟩:=hSw);go_simp;try with_reducible rfl)
     try simp only[Act.put,lA,lB,lC]
     refine wpAnyH_take (i:=8) (v:=?_) rfl (by kernel_rfl) (by kernel_rfl) (by kernel_rfl) (fun _ _ _ h=>h) (Or.inl ⟨by kernel_rfl,?_⟩) (by assumption) ?_
     rotate_left
     ·(intro w hSw;(try dsimp only at hSw);(try obtain⟨o0,o1,o2,o3,o4,o5⟩:=hSw);go_simp;try with_reducible rfl)
     try simp only[Act.put,lA,lB,lC]
     refine wpAnyH_take (i:=9) (v:=?_) rfl (by kernel_rfl) (by kernel_rfl) (by kernel_rfl) (fun _ _ _ h=>h) (Or.inl ⟨by kernel_rfl,?_⟩) (by assumption) ?_
     rotate_left
     ·(intro w hSw;(try dsimp only at hSw);(try obtain⟨o0,o1,o2,o3,o4,o5⟩:=hSw);go_simp;try with_reducible rfl)
     try simp only[Act.put,lA,lB,lC]
     refine wpAnyH_take (i:=10) (v:=?_) rfl (by kernel_rfl) (by kernel_rfl) (by kernel_rfl) (fun _ _ _ h=>h) (Or.inl ⟨by kernel_rfl,?_⟩) (by assumption) ?_
     rotate_left
     ·(intro w hSw;(try dsimp only at hSw);(try obtain⟨o0,o1,o2,o3,o4,o5⟩:=hSw);go_simp;try with_reducible rfl)
     try simp only[Act.put,lA,lB,lC]
     refine wpAnyH_take (i:=11) (v:=?_) rfl (by kernel_rfl) (by kernel_rfl) (by kernel_rfl) (fun _ _ _ h=>h) (Or.inl ⟨by kernel_rfl,?_⟩) (by assumption) ?_
     rotate_left
     ·(intro w hSw;(try dsimp only at hSw);(try obtain⟨o0,o1,o2,o3,o4,o5⟩:=hSw);go_simp;try with_reducible rfl)
     try simp only[Act.put,lA,lB,lC]
     refine wpAnyH_take (i:=12) (v:=?_) rfl (by kernel_rfl) (by kernel_rfl) (by kernel_rfl) (fun _ _ _ h=>h) (Or.inl ⟨by kernel_rfl,?_⟩) (by assumption) ?_
     rotate_left
     ·(intro w hSw;(try dsimp only at hSw);(try obtain⟨o0,o1,o2,o3,o4,o5⟩:=hSw);go_simp;try with_reducible rfl)
     try simp only[Act.put,lA,lB,lC]
     refine wpAnyH_take (i:=13) (v:=?_) rfl (by kernel_rfl) (by kernel_rfl) (by kernel_rfl) (fun _ _ _ h=>h) (Or.inl ⟨by kernel_rfl,?_⟩) (by assumption) ?_
     rotate_left
     ·(intro w hSw;(try dsimp only at hSw);(try obtain⟨o0,o1,o2,o3,o4,o5⟩:=hSw);go_simp;try with_reducible rfl)
     try simp only[Act.put,lA,lB,lC]
     cases cn with
     | false =>
      refine wpAnyH_take (i:=14) (v:=undef) rfl (by kernel_rfl) (by kernel_rfl) (by kernel_rfl) (fun _ _ _ h=>h) (Or.inr ⟨by kernel_rfl,rfl⟩) (by assumption) ?_
      simp only[Act.put,List.getElem_toArray,List.getElem_cons_succ,List.getElem_cons_zero,lA,lB,lC]
      refine wpAnyH_take (i:=15) (v:=undef) rfl (by kernel_rfl) (by kernel_rfl) (by kernel_rfl) (fun _ _ _ h=>h) (Or.inr ⟨by kernel_rfl,rfl⟩) (by assumption) ?_
      simp only[Act.put,List.getElem_toArray,List.getElem_cons_succ,List.getElem_cons_zero,lA,lB,lC]
      refine wpAnyH_take (i:=16) (v:=undef) rfl (by kernel_rfl) (by kernel_rfl) (by kernel_rfl) (fun _ _ _ h=>h) (Or.inr ⟨by kernel_rfl,rfl⟩) (by assumption) ?_
      simp only[Act.put,List.getElem_toArray,List.getElem_cons_succ,List.getElem_cons_zero,lA,lB,lC]
      refine wpAnyH_take (i:=17) (v:=undef) rfl (by kernel_rfl) (by kernel_rfl) (by kernel_rfl) (fun _ _ _ h=>h) (Or.inr ⟨by kernel_rfl,rfl⟩) (by assumption) ?_
      simp only[Act.put,List.getElem_toArray,List.getElem_cons_succ,List.getElem_cons_zero,lA,lB,lC]
      refine wpAnyH_take (i:=18) (v:=undef) rfl (by kernel_rfl) (by kernel_rfl) (by kernel_rfl) (fun _ _ _ h=>h) (Or.inr ⟨by kernel_rfl,rfl⟩) (by assumption) ?_
      simp only[Act.put,List.getElem_toArray,List.getElem_cons_succ,List.getElem_cons_zero,lA,lB,lC]
      refine wpAnyH_take (i:=19) (v:=undef) rfl (by kernel_rfl) (by kernel_rfl) (by kernel_rfl) (fun _ _ _ h=>h) (Or.inr ⟨by kernel_rfl,rfl⟩) (by assumption) ?_
      simp only[Act.put,List.getElem_toArray,List.getElem_cons_succ,List.getElem_cons_zero,lA,lB,lC]
      refine wpAnyH_take (i:=20) (v:=undef) rfl (by kernel_rfl) (by kernel_rfl) (by kernel_rfl) (fun _ _ _ h=>h) (Or.inr ⟨by kernel_rfl,rfl⟩) (by assumption) ?_
      simp only[Act.put,List.getElem_toArray,List.getElem_cons_succ,List.getElem_cons_zero,lA,lB,lC]
      refine wpAnyH_take (i:=21) (v:=undef) rfl (by kernel_rfl) (by kernel_rfl) (by kernel_rfl) (fun _ _ _ h=>h) (Or.inr ⟨by kernel_rfl,rfl⟩) (by assumption) ?_
      simp only[Act.put,List.getElem_toArray,List.getElem_cons_succ,List.getElem_cons_zero,lA,lB,lC]
      refine wpAnyH_take (i:=22) (v:=undef) rfl (by kernel_rfl) (by kernel_rfl) (by kernel_rfl) (fun _ _ _ h=>h) (Or.inr ⟨by kernel_rfl,rfl⟩) (by assumption) ?_
      simp only[Act.put,List.getElem_toArray,List.getElem_cons_succ,List.getElem_cons_zero,lA,lB,lC]
      refine wpAnyH_take (i:=23) (v:=undef) rfl (by kernel_rfl) (by kernel_rfl) (by kernel_rfl) (fun _ _ _ h=>h) (Or.inr ⟨by kernel_rfl,rfl⟩) (by assumption) ?_
      simp only[Act.put,List.getElem_toArray,List.getElem_cons_succ,List.getElem_cons_zero,lA,lB,lC]
      refine wpAnyH_take (i:=24) (v:=undef) rfl (by kernel_rfl) (by kernel_rfl) (by kernel_rfl) (fun _ _ _ h=>h) (Or.inr ⟨by kernel_rfl,rfl⟩) (by assumption) ?_
      simp only[Act.put,List.getElem_toArray,List.getElem_cons_succ,List.getElem_cons_zero,lA,lB,lC]
      refine wpAnyH_take (i:=25) (v:=undef) rfl (by kernel_rfl) (by kernel_rfl) (by kernel_rfl) (fun _ _ _ h=>h) (Or.inr ⟨by kernel_rfl,rfl⟩) (by assumption) ?_
      simp only[Act.put,List.getElem_toArray,List.getElem_cons_succ,List.getElem_cons_zero,lA,lB,lC]
      refine wpAnyH_take (i:=26) (v:=undef) rfl (by kernel_rfl) (by kernel_rfl) (by kernel_rfl) (fun _ _ _ h=>h) (Or.inr ⟨by kernel_rfl,rfl⟩) (by assumption) ?_
      simp only[Act.put,List.getElem_toArray,List.getElem_cons_succ,List.getElem_cons_zero,lA,lB,lC]
      refine wpAnyH_take (i:=27) (v:=undef) rfl (by kernel_rfl) (by kernel_rfl) (by kernel_rfl) (fun _ _ _ h=>h) (Or.inr ⟨by kernel_rfl,rfl⟩) (by assumption) ?_
      simp only[Act.put,List.getElem_toArray,List.getElem_cons_succ,List.getElem_cons_zero,lA,lB,lC]
      refine wpAnyH_take (i:=28) (v:=?_) rfl (by kernel_rfl) (by kernel_rfl) (by kernel_rfl) (fun _ _ _ h=>h) (Or.inl ⟨by kernel_rfl,?_⟩) (by assumption) ?_
      rotate_left
      ·(intro w hSw;(try dsimp only at hSw);(try obtain⟨o0,o1,o2,o3,o4,o5⟩:=hSw);go_simp;try with_reducible rfl)
      try simp only[Act.put,lA,lB,lC]
      refine wpAnyH_done (by kernel_rfl) ?_ _
      go_simp
      have hff:=Hbd.out fun h=>by have:=Hcn.out;rw[h.1] at this;simp at this
      have Hff:=hd hff;clear hff
      go_wp2_with fail
      go_ret
      exact⟨by rw[Hrr0.out,Hs2.out,Hff.out];rfl,Hb1.out.trans (Hbdd.out.mono Hb1.out.size)⟩
     | true =>
      refine wpAnyH_take (i:=14) (v:=?_) rfl (by kernel_rfl) (by kernel_rfl) (by kernel_rfl) (fun _ _ _ h=>h) (Or.inl ⟨by kernel_rfl,?_⟩) (by assumption) ?_
      rotate_left
      ·(intro w hSw;(try dsimp only at hSw);(try obtain⟨o0,o1,o2,o3,o4,o5⟩:=hSw);go_simp;try with_reducible rfl)
      try simp only[Act.put,lA,lB,lC]
      refine wpAnyH_take (i:=15) (v:=?_) rfl (by kernel_rfl) (by kernel_rfl) (by kernel_rfl) (fun _ _ _ h=>h) (Or.inl ⟨by kernel_rfl,?_⟩) (by assumption) ?_
      rotate_left
      ·(intro w hSw;(try dsimp only at hSw);(try obtain⟨o0,o1,o2,o3,o4,o5⟩:=hSw);go_simp;try with_reducible rfl)
      try simp only[Act.put,lA,lB,lC]
      refine wpAnyH_take (i:=16) (v:=?_) rfl (by kernel_rfl) (by kernel_rfl) (by kernel_rfl) (fun _ _ _ h=>h) (Or.inl ⟨by kernel_rfl,?_⟩) (by assumption) ?_
      rotate_left
      ·(intro w hSw;(try dsimp only at hSw);(try obtain⟨o0,o1,o2,o3,o4,o5⟩:=hSw);go_simp;try with_reducible rfl)
      try simp only[Act.put,lA,lB,lC]
      refine wpAnyH_take (i:=17) (v:=?_) rfl (by kernel_rfl) (by kernel_rfl) (by kernel_rfl) (fun _ _ _ h=>h) (Or.inl ⟨by kernel_rfl,?_⟩) (by assumption) ?_
      rotate_left
      ·(intro w hSw;(try dsimp only at hSw);(try obtain⟨o0,o1,o2,o3,o4,o5⟩:=hSw);go_simp;try with_reducible rfl)
      try simp only[Act.put,lA,lB,lC]
      refine wpAnyH_take (i:=18) (v:=?_) rfl (by kernel_rfl) (by kernel_rfl) (by kernel_rfl) (fun _ _ _ h=>h) (Or.inl ⟨by kernel_rfl,?_⟩) (by assumption) ?_
      rotate_left
      ·(intro w hSw;(try dsimp only at hSw);(try obtain⟨o0,o1,o2,o3,o4,o5⟩:=hSw);go_simp;try with_reducible rfl)
      try simp only[Act.put,lA,lB,lC]
      refine wpAnyH_take (i:=19) (v:=?_) rfl (by kernel_rfl) (by kernel_rfl) (by kernel_rfl) (fun _ _ _ h=>h) (Or.inl ⟨by kernel_rfl,?_⟩) (by assumption) ?_
      rotate_left
      ·(intro w hSw;(try dsimp only at hSw);(try obtain⟨o0,o1,o2,o3,o4,o5⟩:=hSw);go_simp;try with_reducible rfl)
      try simp only[Act.put,lA,lB,lC]
      refine wpAnyH_take (i:=20) (v:=?_) rfl (by kernel_rfl) (by kernel_rfl) (by kernel_rfl) (fun _ _ _ h=>h) (Or.inl ⟨by kernel_rfl,?_⟩) (by assumption) ?_
      rotate_left
      ·(intro w hSw;(try dsimp only at hSw);(try obtain⟨o0,o1,o2,o3,o4,o5⟩:=hSw);go_simp;try with_reducible rfl)
      try simp only[Act.put,lA,lB,lC]
      refine wpAnyH_take (i:=21) (v:=?_) rfl (by kernel_rfl) (by kernel_rfl) (by kernel_rfl) (fun _ _ _ h=>h) (Or.inl ⟨by kernel_rfl,?_⟩) (by assumption) ?_
      rotate_left
      ·(intro w hSw;(try dsimp only at hSw);(try obtain⟨o0,o1,o2,o3,o4,o5⟩:=hSw);go_simp;try with_reducible rfl)
      try simp only[Act.put,lA,lB,lC]
      refine wpAnyH_take (i:=22) (v:=?_) rfl (by kernel_rfl) (by kernel_rfl) (by kernel_rfl) (fun _ _ _ h=>h) (Or.inl ⟨by kernel_rfl,?_⟩) (by assumption) ?_
      rotate_left
      ·(intro w hSw;(try dsimp only at hSw);(try obtain⟨o0,o1,o2,o3,o4,o5⟩:=hSw);go_simp;try with_reducible rfl)
      try simp only[Act.put,lA,lB,lC]
      refine wpAnyH_take (i:=23) (v:=?_) rfl (by kernel_rfl) (by kernel_rfl) (by kernel_rfl) (fun _ _ _ h=>h) (Or.inl ⟨by kernel_rfl,?_⟩) (by assumption) ?_
      rotate_left
      ·(intro w hSw;(try dsimp only at hSw);(try obtain⟨o0,o1,o2,o3,o4,o5⟩:=hSw);go_simp;try with_reducible rfl)
      try simp only[Act.put,lA,lB,lC]
      refine wpAnyH_take (i:=24) (v:=?_) rfl (by kernel_rfl) (by kernel_rfl) (by kernel_rfl) (fun _ _ _ h=>h) (Or.inl ⟨by kernel_rfl,?_⟩) (by assumption) ?_
      rotate_left
      ·(intro w hSw;(try dsimp only at hSw);(try obtain⟨o0,o1,o2,o3,o4,o5⟩:=hSw);go_simp;try with_reducible rfl)
      try simp only[Act.put,lA,lB,lC]
      refine wpAnyH_take (i:=25) (v:=?_) rfl (by kernel_rfl) (by kernel_rfl) (by kernel_rfl) (fun _ _ _ h=>h) (Or.inl ⟨by kernel_rfl,?_⟩) (by assumption) ?_
      rotate_left
      ·(intro w hSw;(try dsimp only at hSw);(try obtain⟨o0,o1,o2,o3,o4,o5⟩:=hSw);go_simp;try with_reducible rfl)
      try simp only[Act.put,lA,lB,lC]
      refine wpAnyH_ready (rs:=[26]) (by kernel_rfl) (by simp) ?_
      refine AllReadyH.cons rfl (fun K hK=>?_) AllReadyH.nil
      go_simp
      refine (HC.out _ Hbdd.out).mono ?_
      rintro e wy ⟨rfl,qn,rfl⟩
      have hby:=za9 Hbdd.out qn
      have hSy:=Hcz.out _ hby
      generalize wd.drewN qn=wy at hby hSy ⊢
      have Hby:=hd hby;clear hby
      go_wp2_with fail
      refine hK.out _ _ (by exact hSy) (fun hHeld=>?_)
      clear hK K
      try simp only[Act.put,lA,lB,lC]
      cases cs with
      | false =>
       refine wpAnyH_take (i:=27) (v:=?_) rfl (by kernel_rfl) (by kernel_rfl) (by kernel_rfl) (fun _ _ _ h=>h) (Or.inl ⟨by kernel_rfl,?_⟩) (by assumption) ?_
       rotate_left
       ·(intro w hSw;(try dsimp only at hSw);(try obtain⟨o0,o1,o2,o3,o4,o5⟩:=hSw);go_simp;try with_reducible rfl)
       try simp only[Act.put,lA,lB,lC]
       refine wpAnyH_take (i:=28) (v:=?_) rfl (by kernel_rfl) (by kernel_rfl) (by kernel_rfl) (fun _ _ _ h=>h) (Or.inl ⟨by kernel_rfl,?_⟩) (by assumption) ?_
       rotate_left
       ·(intro w hSw;(try dsimp only at hSw);(try obtain⟨o0,o1,o2,o3,o4,o5⟩:=hSw);go_simp;try with_reducible rfl)
       try simp only[Act.put,lA,lB,lC]
       refine wpAnyH_done (by kernel_rfl) ?_ _
       go_simp
       have hff:=Hbd.out fun h=>by have:=Hcs.out;rw[h.2] at this;simp at this
       have Hff:=hd hff;clear hff
       go_wp2_with fail
       go_ret
       exact⟨by rw[Hrr0.out,Hs2.out,Hff.out];rfl,Hb1.out.trans (Hby.out.mono Hb1.out.size)⟩
      | true =>
       refine wpAnyH_take (i:=27) (v:=?_) rfl (by kernel_rfl) (by kernel_rfl) (by kernel_rfl) (fun _ _ _ h=>h) (Or.inl ⟨by kernel_rfl,?_⟩) (by assumption) ?_
       rotate_left
       ·(intro w hSw;(try dsimp only at hSw);(try obtain⟨o0,o1,o2,o3,o4,o5⟩:=hSw);go_simp;try with_reducible rfl)
       try simp only[Act.put,lA,lB,lC]
       refine wpAnyH_take (i:=28) (v:=?_) rfl (by kernel_rfl) (by kernel_rfl) (by kernel_rfl) (fun _ _ _ h=>h) (Or.inl ⟨by kernel_rfl,?_⟩) (by assumption) ?_
       rotate_left
       ·(intro w hSw;(try dsimp only at hSw);(try obtain⟨o0,o1,o2,o3,o4,o5⟩:=hSw);go_simp;try with_reducible rfl)
       try simp only[Act.put,lA,lB,lC]
       refine wpAnyH_done (by kernel_rfl) ?_ _
       go_simp
       have hq:=Hnx.out (of_decide_eq_true Hcn.out.symm) (of_decide_eq_true Hcs.out.symm)
       have Hq:=hd hq;clear hq
       go_wp2_with fail
       go_roundw
       case rel=>exact⟨k+1,by omega,by go_num,Hq.out,Hby.out⟩
       case measure=>simp[RowKit.intOf];omega
    obtain rfl:n3=k:=by omega
    have hs3:decide (L3=M3)=true:=decide_eq_true (List.ext_getElem (by rw[← Hl3.out,← Hr3.out,Hh3.out]) (fun j h1 h2=>hno j h1 h2 (by have:=Hl3.out;omega)))
    have i4:=za1 (za0 hbr Hp0.out) 4
    have j4:=za1 (za0 hbr Hp1.out) 4
    simp only[List.getElem?_toArray,List.getElem?_cons_zero,List.getElem?_cons_succ] at i4 j4
    have hC4:=HT4.out _ hbr
    obtain⟨Hs3,Hno,Hbr,HC4⟩:=hd4 hs3 hno hbr hC4;clear hs3 hno hbr hC4
    go_wp2_with fail
    refine HC4.out.mono ?_
    rintro e wy ⟨rfl,qn,rfl⟩
    have hby:=za9 Hbr.out qn
    generalize wr.drewN qn=wy at hby ⊢
    clear i4 j4
    cases q4 with
    | false =>
     have Hby:=hd hby;clear hby
     go_wp2_with fail
     go_ret
     exact⟨by rw[Hrr0.out,Hs2.out,Hs3.out];rfl,Hb1.out.trans (Hby.out.mono Hb1.out.size)⟩
    | true =>
     have i7:=za1 (za0 hby Hp0.out) 7
     have j7:=za1 (za0 hby Hp1.out) 7
     simp only[List.getElem?_toArray,List.getElem?_cons_zero,List.getElem?_cons_succ] at i7 j7
     have hC7:=HT7.out _ hby
     obtain⟨Hby,HC7⟩:=hd2 hby hC7;clear hby hC7
     go_wp2_with fail
     refine HC7.out.mono ?_
     rintro e wz ⟨rfl,qn,rfl⟩
     have hbz:=za9 Hby.out qn
     generalize wy.drewN qn=wz at hbz ⊢
     clear i7 j7
     cases q7 with
     | false =>
      have Hbz:=hd hbz;clear hbz
      go_wp2_with fail
      go_ret
      exact⟨by rw[Hrr0.out,Hs2.out,Hs3.out];rfl,Hb1.out.trans (Hbz.out.mono Hb1.out.size)⟩
     | true =>
      have i0:=za1 (za0 hbz Hp0.out) 0
      have j0:=za1 (za0 hbz Hp1.out) 0
      have i1:=za1 (za0 hbz Hp0.out) 1
      have j1:=za1 (za0 hbz Hp1.out) 1
      have i2:=za1 (za0 hbz Hp0.out) 2
      have j2:=za1 (za0 hbz Hp1.out) 2
      have i3:=za1 (za0 hbz Hp0.out) 3
      have j3:=za1 (za0 hbz Hp1.out) 3
      have i4:=za1 (za0 hbz Hp0.out) 4
      have j4:=za1 (za0 hbz Hp1.out) 4
      have i5:=za1 (za0 hbz Hp0.out) 5
      have j5:=za1 (za0 hbz Hp1.out) 5
      have i6:=za1 (za0 hbz Hp0.out) 6
      have j6:=za1 (za0 hbz Hp1.out) 6
      have i7:=za1 (za0 hbz Hp0.out) 7
      have j7:=za1 (za0 hbz Hp1.out) 7
      simp only[List.getElem?_toArray,List.getElem?_cons_zero,List.getElem?_cons_succ] at i0 j0 i1 j1 i2 j2 i3 j3 i4 j4 i5 j5 i6 j6 i7 j7
      have hC5:=HT5.out _ hbz
      obtain⟨Hbz,HC5⟩:=hd2 hbz hC5;clear hbz hC5
      go_wp2_with fail
      refine HC5.out.mono ?_
      rintro e wv ⟨rfl,hbv⟩
      have hbw:=Hbz.out.trans (hbv.mono Hbz.out.size)
      clear i0 i1 i2 i3 i4 i5 i6 i7 j0 j1 j2 j3 j4 j5 j6 j7
      have hre:r=q5:=by rw[Hrr0.out,Hs2.out,Hs3.out];rfl
      obtain⟨Hbv,Hbw,Hre⟩:=hd3 hbv hbw hre;clear hbv hbw hre
      go_wp2_with fail
      go_ret
      exact⟨by rw[Hre.out];rfl,Hb1.out.trans (Hbw.out.mono Hb1.out.size)⟩
end

section
open Go.RowKit Go.Shelf Go.Lib VerN VarM
attribute [local go_sem ↓] Go.wp_at_zero Go.wp_at_succ
theorem zp5 {l m:List PkgM} {k:Nat} (h1:k < l.length) (h2:k < m.length) (h:zcy l[k] m[k]=false):zea l m=false:=decide_eq_false (ziy h1 h2 (of_decide_eq_false h))
theorem zmi {l m:List PkgM} (hl:l.length=m.length) (h:∀ j (h1:j < l.length) (h2:j < m.length),zcy l[j] m[j]=true):zea l m=true:=decide_eq_true (zg4 hl fun j h1 h2=>of_decide_eq_true (h j h1 h2))
theorem zmj {l m:List PkgM} (h:l.length≠m.length):zea l m=false:=decide_eq_false (zjx h)
theorem zp6 {l m:List PrfM} (h:l.length≠m.length):zeb l m=false:=decide_eq_false (zjx h)
theorem zmh {w:World} {x y:RcpM} {a1 a2 d1 d2:Option Addr} {n1 n2 c1 c2 m1 m2 e1 e2:Nat} (hp:zgb w (.slice a1 n1 c1) (.slice a2 n2 c2) x) (hq:zgb w (.slice d1 m1 e1) (.slice d2 m2 e2) y) :
  Calls Tryz.prog 42 #[.agg #[.slice a1 n1 c1,.slice a2 n2 c2],.agg #[.slice d1 m1 e1,.slice d2 m2 e2],.bool false] w fun e w'=>e = .returned (.bool (zds x y))∧Below w.heap.size w w':=by
 obtain⟨W1,hW1⟩ : ∃ W,W=(w.alloc (.cells #[.slice a1 n1 c1,.slice a2 n2 c2] 73)).alloc (.cells #[.slice d1 m1 e1,.slice d2 m2 e2] 73):=⟨_,rfl⟩
 obtain⟨g,hg⟩ : ∃ g,g=w.heap.size:=⟨_,rfl⟩
 have hb1:Below w.heap.size w W1:=by rw[hW1];exact (za2 _ _).alloc (by simp) _
 have hp0:W1.heap[g]? = some (.cells #[.slice a1 n1 c1,.slice a2 n2 c2] 73 (0,0)):=by rw[hW1,hg];exact za0 (za2 _ _) (za5 rfl)
 have hp1:W1.heap[g+1]? = some (.cells #[.slice d1 m1 e1,.slice d2 m2 e2] 73 (0,0)):=by rw[hW1,hg];exact za5 (by simp)
 have hpp:=hp.below hb1
 have hqq:=hq.below hb1
 obtain⟨hl1,hz1,hg1⟩:=pks_at hpp.1
 obtain⟨hr1,hy1,hf1⟩:=pks_at hqq.1
 obtain⟨hl2,hz2,hg2⟩:=pfs_at hpp.2
 obtain⟨hr2,hy2,hf2⟩:=pfs_at hqq.2
 obtain⟨r,hrr⟩ : ∃ r,r=zds x y:=⟨_,rfl⟩
 rw[← hrr]
 unfold zds at hrr
 obtain⟨L1,hL1⟩ : ∃ z,z=x.pk:=⟨_,rfl⟩
 obtain⟨M1,hM1⟩ : ∃ z,z=y.pk:=⟨_,rfl⟩
 obtain⟨L2,hL2⟩ : ∃ z,z=x.pf:=⟨_,rfl⟩
 obtain⟨M2,hM2⟩ : ∃ z,z=y.pf:=⟨_,rfl⟩
 rw[← hL1,← hM1,← hL2,← hM2] at hrr
 rw[← hL1] at hl1 hg1
 rw[← hM1] at hr1 hf1
 rw[← hL2] at hl2 hg2
 rw[← hM2] at hr2 hf2
 have x0:=za1 hp0 0
 have x1:=za1 hp0 1
 have y0:=za1 hp1 0
 have y1:=za1 hp1 1
 simp only[List.getElem?_toArray,List.getElem?_cons_zero,List.getElem?_cons_succ] at x0 x1 y0 y1
 by_cases hh1:n1=m1
 case neg =>
  have k1:((n1:Int) != (m1:Int))=true:=by simp;omega
  have hff:zea L1 M1=false:=zmj (by rw[← hl1,← hr1];exact hh1)
  obtain⟨Hb1,Hp0,Hp1,Hpp,Hqq,Hl1,Hg1,Hr1,Hf1,Hl2,Hg2,Hr2,Hf2,Hrr,Hp,Hq⟩:=hd16 hb1 hp0 hp1 hpp hqq hl1 hg1 hr1 hf1 hl2 hg2 hr2 hf2 hrr hp hq;obtain⟨HL1,HM1,HL2,HM2,Hff,Hh1⟩:=hd6 hL1 hM1 hL2 hM2 hff hh1;clear hb1 hp0 hp1 hpp hqq hl1 hg1 hr1 hf1 hl2 hg2 hr2 hf2 hrr hp hq hL1 hM1 hL2 hM2 hff hh1
  go_enter Tryz.func42,Tryz.ntmps42
  go_upto_region 1 with (fail)
  rw[← hW1,← hg]
  clear hW1 hg
  go_wp2_with fail
  go_ret
  exact⟨by rw[Hrr.out,Hff.out];rfl,Hb1.out⟩
 have k1:((n1:Int) != (m1:Int))=false:=by simp;omega
 by_cases hh2:n2=m2
 case neg =>
  have k2:((n2:Int) != (m2:Int))=true:=by simp;omega
  have hff:zeb L2 M2=false:=zp6 (by rw[← hl2,← hr2];exact hh2)
  obtain⟨Hb1,Hp0,Hp1,Hpp,Hqq,Hl1,Hg1,Hr1,Hf1,Hl2,Hg2,Hr2,Hf2,Hrr,Hp,Hq⟩:=hd16 hb1 hp0 hp1 hpp hqq hl1 hg1 hr1 hf1 hl2 hg2 hr2 hf2 hrr hp hq;obtain⟨HL1,HM1,HL2,HM2,Hff,Hh1,Hh2⟩:=hd7 hL1 hM1 hL2 hM2 hff hh1 hh2;clear hb1 hp0 hp1 hpp hqq hl1 hg1 hr1 hf1 hl2 hg2 hr2 hf2 hrr hp hq hL1 hM1 hL2 hM2 hff hh1 hh2
  go_enter Tryz.func42,Tryz.ntmps42
  go_upto_region 1 with (fail)
  rw[← hW1,← hg]
  clear hW1 hg
  go_wp2_with fail
  go_ret
  exact⟨by rw[Hrr.out,Hff.out,Bool.and_false];rfl,Hb1.out⟩
 have k2:((n2:Int) != (m2:Int))=false:=by simp;omega
 obtain⟨Hb1,Hp0,Hp1,Hpp,Hqq,Hl1,Hg1,Hr1,Hf1,Hl2,Hg2,Hr2,Hf2,Hrr,Hp,Hq⟩:=hd16 hb1 hp0 hp1 hpp hqq hl1 hg1 hr1 hf1 hl2 hg2 hr2 hf2 hrr hp hq;obtain⟨HL1,HM1,HL2,HM2,Hh1,Hh2⟩:=hd6 hL1 hM1 hL2 hM2 hh1 hh2;clear hb1 hp0 hp1 hpp hqq hl1 hg1 hr1 hf1 hl2 hg2 hr2 hf2 hrr hp hq hL1 hM1 hL2 hM2 hh1 hh2
 go_enter Tryz.func42,Tryz.ntmps42
 go_upto_region 1 with (fail)
 rw[← hW1,← hg]
 clear hW1 hg
 go_wp2_with fail
 clear k1 k2 x0 x1 y0 y1
 go_loopw [30] (fun i wr=>∃ k:Nat,k≤n1∧i = .int .i64 k∧(∀ j (h1:j < L1.length) (h2:j < M1.length),j < k→zcy L1[j] M1[j]=true)∧Below W1.heap.size W1 wr) (fun i _=>n1 - (RowKit.intOf i).toNat)
 case atStart=>exact⟨0,Nat.zero_le _,rfl,fun _ _ _ h=>by omega,Below.refl _ _⟩
 case round =>
  obtain⟨k,hk,rfl,hno,hbr⟩:=hrel
  by_cases hlt:k < n1
  ·have hkl:k < L1.length:=by have:=Hl1.out;omega
   have hkm:k < M1.length:=by have:=Hr1.out;have:=Hh1.out;omega
   obtain⟨p,hx⟩ : ∃ x,x=L1[k]:=⟨_,rfl⟩
   obtain⟨q,hy⟩ : ∃ x,x=M1[k]:=⟨_,rfl⟩
   obtain⟨b,off,xb2,xc2,xb3,xc3,xb4,xc4,xb5,xc5,xb6,xc6,xb7,xc7,rfl,x0,x1,x2,x3,x4,x5,x6,x7,rx⟩:=Hg1.out k p (by rw[hx];exact List.getElem?_eq_getElem hkl)
   obtain⟨b',off',yb2,yc2,yb3,yc3,yb4,yc4,yb5,yc5,yb6,yc6,yb7,yc7,rfl,y0,y1,y2,y3,y4,y5,y6,y7,ry⟩:=Hf1.out k q (by rw[hy];exact List.getElem?_eq_getElem hkm)
   have hnx:zcy p q=true→∀ j (h1:j < L1.length) (h2:j < M1.length),j < k+1→zcy L1[j] M1[j]=true:=fun h j h1 h2 hjk=>by
    by_cases e:j=k
    ·subst e;rw[← hx,← hy];exact h
    exact hno j h1 h2 (by omega)
   have hbd:zcy p q=false→zea L1 M1=false:=fun h=>zp5 hkl hkm (by rw[← hx,← hy];exact h)
   have hC:=fun (W:World) (k:Below W1.heap.size W1 W) (nm nm2:ByteArray) (li li2:Int) (e1:p.name=nm) (e2:q.name=nm2)=>zhd (li:=li) (li2:=li2) e1 e2 (rx.below k) (ry.below k)
   obtain⟨nm,hnm⟩ : ∃ z,z=p.name:=⟨_,rfl⟩
   obtain⟨nm2,hnm2⟩ : ∃ z,z=q.name:=⟨_,rfl⟩
   obtain⟨li,hli⟩ : ∃ z,z=p.line:=⟨_,rfl⟩
   obtain⟨li2,hli2⟩ : ∃ z,z=q.line:=⟨_,rfl⟩
   obtain⟨xz2,hxz2⟩ : ∃ z,z=p.rel.length:=⟨_,rfl⟩
   obtain⟨xz3,hxz3⟩ : ∃ z,z=p.vars.length:=⟨_,rfl⟩
   obtain⟨xz4,hxz4⟩ : ∃ z,z=p.prov.length:=⟨_,rfl⟩
   obtain⟨xz5,hxz5⟩ : ∃ z,z=p.dep.length:=⟨_,rfl⟩
   obtain⟨xz6,hxz6⟩ : ∃ z,z=p.conf.length:=⟨_,rfl⟩
   obtain⟨xz7,hxz7⟩ : ∃ z,z=p.files.length:=⟨_,rfl⟩
   rw[← hxz2,← hxz3,← hxz4,← hxz5,← hxz6,← hxz7] at rx
   simp only[← hxz2,← hxz3,← hxz4,← hxz5,← hxz6,← hxz7] at hC
   rw[← hxz2] at x2
   rw[← hxz3] at x3
   rw[← hxz4] at x4
   rw[← hxz5] at x5
   rw[← hxz6] at x6
   rw[← hxz7] at x7
   obtain⟨yz2,hyz2⟩ : ∃ z,z=q.rel.length:=⟨_,rfl⟩
   obtain⟨yz3,hyz3⟩ : ∃ z,z=q.vars.length:=⟨_,rfl⟩
   obtain⟨yz4,hyz4⟩ : ∃ z,z=q.prov.length:=⟨_,rfl⟩
   obtain⟨yz5,hyz5⟩ : ∃ z,z=q.dep.length:=⟨_,rfl⟩
   obtain⟨yz6,hyz6⟩ : ∃ z,z=q.conf.length:=⟨_,rfl⟩
   obtain⟨yz7,hyz7⟩ : ∃ z,z=q.files.length:=⟨_,rfl⟩
   rw[← hyz2,← hyz3,← hyz4,← hyz5,← hyz6,← hyz7] at ry
   simp only[← hyz2,← hyz3,← hyz4,← hyz5,← hyz6,← hyz7] at hC
   rw[← hyz2] at y2
   rw[← hyz3] at y3
   rw[← hyz4] at y4
   rw[← hyz5] at y5
   rw[← hyz6] at y6
   rw[← hyz7] at y7
   rw[← hnm] at x0
   rw[← hli] at x1
   rw[← hnm2] at y0
   rw[← hli2] at y1
   have hC:=fun (W:World) (k:Below W1.heap.size W1 W)=>hC W k nm nm2 li li2 hnm.symm hnm2.symm
   obtain⟨cs,hcs⟩ : ∃ c,c=zcy p q:=⟨_,rfl⟩
   rw[← hcs] at hC hnx hbd
   have hcz:∀ W,Below W1.heap.size W1 W→W.cell? ⟨g,0,none⟩=some (.slice (some ⟨b,off,none⟩) n1 c1)∧W.cell? ⟨g+1,0,none⟩=some (.slice (some ⟨b',off',none⟩) m1 e1)∧W.cell? ⟨b,off+k * 8,none⟩=some (.string nm)∧W.cell? ⟨b,off+k * 8+1,none⟩=some (.int .i64 li)∧W.cell? ⟨b,off+k * 8+2,none⟩=some (.slice xb2 xz2 xc2)∧W.cell? ⟨b,off+k * 8+3,none⟩=some (.slice xb3 xz3 xc3)∧W.cell? ⟨b,off+k * 8+4,none⟩=some (.slice xb4 xz4 xc4)∧W.cell? ⟨b,off+k * 8+5,none⟩=some (.slice xb5 xz5 xc5)∧W.cell? ⟨b,off+k * 8+6,none⟩=some (.slice xb6 xz6 xc6)∧W.cell? ⟨b,off+k * 8+7,none⟩=some (.slice xb7 xz7 xc7)∧W.cell? ⟨b',off' + k * 8,none⟩=some (.string nm2)∧W.cell? ⟨b',off' + k * 8+1,none⟩=some (.int .i64 li2)∧W.cell? ⟨b',off' + k * 8+2,none⟩=some (.slice yb2 yz2 yc2)∧W.cell? ⟨b',off' + k * 8+3,none⟩=some (.slice yb3 yz3 yc3)∧W.cell? ⟨b',off' + k * 8+4,none⟩=some (.slice yb4 yz4 yc4)∧W.cell? ⟨b',off' + k * 8+5,none⟩=some (.slice yb5 yz5 yc5)∧W.cell? ⟨b',off' + k * 8+6,none⟩=some (.slice yb6 yz6 yc6)∧W.cell? ⟨b',off' + k * 8+7,none⟩=some (.slice yb7 yz7 yc7):=fun W hb=>by
    have px:=za1 (za0 hb Hp0.out) 0
    have qx:=za1 (za0 hb Hp1.out) 0
    simp only[List.getElem?_toArray,List.getElem?_cons_zero,List.getElem?_cons_succ] at px qx
    exact⟨px,qx,cell_later hb x0,cell_later hb x1,cell_later hb x2,cell_later hb x3,cell_later hb x4,cell_later hb x5,cell_later hb x6,cell_later hb x7,cell_later hb y0,cell_later hb y1,cell_later hb y2,cell_later hb y3,cell_later hb y4,cell_later hb y5,cell_later hb y6,cell_later hb y7⟩
   have k5:(0:Int)≤(k:Int):=by omega
   have k6:(k:Int) < (n1:Int):=by omega
   have k7:(k:Int) < (m1:Int):=by have:=Hh1.out;omega
   clear x0 y0 x1 y1 x2 y2 x3 y3 x4 y4 x5 y5 x6 y6 x7 y7
   obtain⟨Hno,Hnx,Hbd,Hx,Hy,Hcs,Hbr,Hrx,Hry,HC,Hcz,Hnm,Hnm2,Hli,Hli2,Hxz2⟩:=hd16 hno hnx hbd hx hy hcs hbr rx ry hC hcz hnm hnm2 hli hli2 hxz2;obtain⟨Hyz2,Hxz3,Hyz3,Hxz4,Hyz4,Hxz5,Hyz5,Hxz6,Hyz6,Hxz7,Hyz7⟩:=hd11 hyz2 hxz3 hyz3 hxz4 hyz4 hxz5 hyz5 hxz6 hyz6 hxz7 hyz7;clear hno hnx hbd hx hy hcs hbr rx ry hC hcz hnm hnm2 hli hli2 hxz2 hyz2 hxz3 hyz3 hxz4 hyz4 hxz5 hyz5 hxz6 hyz6 hxz7 hyz7
   go_upto_region 6 with (fail)
   have hSd:=Hcz.out _ (Below.drew Hbr.out)
   have hbdd:=Below.drew Hbr.out
   refine wp_region_held_drew (S:=fun W=>W.cell? ⟨g,0,none⟩=some (.slice (some ⟨b,off,none⟩) n1 c1)∧W.cell? ⟨g+1,0,none⟩=some (.slice (some ⟨b',off',none⟩) m1 e1)∧W.cell? ⟨b,off+k * 8,none⟩=some (.string nm)∧W.cell? ⟨b,off+k * 8+1,none⟩=some (.int .i64 li)∧W.cell? ⟨b,off+k * 8+2,none⟩=some (.slice xb2 xz2 xc2)∧W.cell? ⟨b,off+k * 8+3,none⟩=some (.slice xb3 xz3 xc3)∧W.cell? ⟨b,off+k * 8+4,none⟩=some (.slice xb4 xz4 xc4)∧W.cell? ⟨b,off+k * 8+5,none⟩=some (.slice xb5 xz5 xc5)∧W.cell? ⟨b,off+k * 8+6,none⟩=some (.slice xb6 xz6 xc6)∧W.cell? ⟨b,off+k * 8+7,none⟩=some (.slice xb7 xz7 xc7)∧W.cell? ⟨b',off' + k * 8,none⟩=some (.string nm2)∧W.cell? ⟨b',off' + k * 8+1,none⟩=some (.int .i64 li2)∧W.cell? ⟨b',off' + k * 8+2,none⟩=some (.slice yb2 yz2 yc2)∧W.cell? ⟨b',off' + k * 8+3,none⟩=some (.slice yb3 yz3 yc3)∧W.cell? ⟨b',off' + k * 8+4,none⟩=some (.slice yb4 yz4 yc4)∧W.cell? ⟨b',off' + k * 8+5,none⟩=some (.slice yb5 yz5 yc5)∧W.cell? ⟨b',off' + k * 8+6,none⟩=some (.slice yb6 yz6 yc6)∧W.cell? ⟨b',off' + k * 8+7,none⟩=some (.slice yb7 yz7 yc7)) (by kernel_rfl) (by exact hSd) (fun hHeld=>?_)
   generalize wr.drew=wd at hSd hbdd ⊢
   have Hbdd:=hd hbdd;clear hbdd
   refine wpAnyH_take (i:=0) (v:=?_) rfl (by kernel_rfl) (by kernel_rfl) (by kernel_rfl) (fun _ _ _ h=>h) (Or.inl ⟨by kernel_rfl,?_⟩) (by assumption) ?_
   rotate_left
   ·(intro w hSw;(try dsimp only at hSw);(try obtain⟨o0,o1,o2,o3,o4,o5,o6,o7,o8,o9,o10,o11,o12,o13,o14,o15,o16,o17⟩:=hSw);go_simp;try with_reducible rfl)
   try simp only[Act.put,lA,lB,lC]
   refine wpAnyH_take (i:=1) (v:=?_) rfl (by kernel_rfl) (by kernel_rfl) (by kernel_rfl) (fun _ _ _ h=>h) (Or.inl ⟨by kernel_rfl,?_⟩) (by assumption) ?_
   rotate_left
   ·(intro w hSw;(try dsimp only at hSw);(try obtain⟨o0,o1,o2,o3,o4,o5,o6,o7,o8,o9,o10,o11,o12,o13,o14,o15,o16,o17⟩:=hSw);go_simp;try with_reducible rfl)
   try simp only[Act.put,lA,lB,lC]
   refine wpAnyH_take (i:=2) (v:=?_) rfl (by kernel_rfl) (by kernel_rfl) (by kernel_rfl) (fun _ _ _ h=>h) (Or.inl ⟨by kernel_rfl,?_⟩) (by assumption) ?_
   rotate_left
   ·(intro w hSw;(try dsimp only at hSw);(try obtain⟨o0,o1,o2,o3,o4,o5,o6,o7,o8,o9,o10,o11,o12,o13,o14,o15,o16,o17⟩:=hSw);go_simp;try with_reducible rfl)
   try simp only[Act.put,lA,lB,lC]
   refine wpAnyH_take (i:=3) (v:=?_) rfl (by kernel_rfl) (by kernel_rfl) (by kernel_rfl) (fun _ _ _ h=>h) (Or.inl ⟨by kernel_rfl,?_⟩) (by assumption) ?_
   rotate_left
   ·(intro w hSw;(try dsimp only at hSw);(try obtain⟨o0,o1,o2,o3,o4,o5,o6,o7,o8,o9,o10,o11,o12,o13,o14,o15,o16,o17⟩:=hSw);go_simp;try with_reducible rfl)
   try simp only[Act.put,lA,lB,lC]
   refine wpAnyH_take (i:=4) (v:=?_) rfl (by kernel_rfl) (by kernel_rfl) (by kernel_rfl) (fun _ _ _ h=>h) (Or.inl ⟨by kernel_rfl,?_⟩) (by assumption) ?_
   rotate_left
   ·(intro w hSw;(try dsimp only at hSw);(try obtain⟨o0,o1,o2,o3,o4,o5,o6,o7,o8,o9,o10,o11,o12,o13,o14,o15,o16,o17⟩:=hSw);go_simp;try with_reducible rfl)
   try simp only[Act.put,lA,lB,lC]
   refine wpAnyH_take (i:=5) (v:=?_) rfl (by kernel_rfl) (by kernel_rfl) (by kernel_rfl) (fun _ _ _ h=>h) (Or.inl ⟨by kernel_rfl,?_⟩) (by assumption) ?_
   rotate_left
   ·(intro w hSw;(try dsimp only at hSw);(try obtain⟨o0,o1,o2,o3,o4,o5,o6,o7,o8,o9,o10,o11,o12,o13,o14,o15,o16,o17⟩:=hSw);go_simp;try with_reducible rfl)
   try simp only[Act.put,lA,lB,lC]
   refine wpAnyH_take (i:=6) (v:=?_) rfl (by kernel_rfl) (by kernel_rfl) (by kernel_rfl) (fun _ _ _ h=>h) (Or.inl ⟨by kernel_rfl,?_⟩) (by assumption) ?_
   rotate_left
   ·(intro w hSw;(try dsimp only at hSw);(try obtain⟨o0,o1,o2,o3,o4,o5,o6,o7,o8,o9,o10,o11,o12,o13,o14,o15,o16,o17⟩:=hSw);go_simp;try with_reducible rfl)
   try simp only[Act.put,lA,lB,lC]
   refine wpAnyH_take (i:=7) (v:=?_) rfl (by kernel_rfl) (by kernel_rfl) (by kernel_rfl) (fun _ _ _ h=>h) (Or.inl ⟨by kernel_rfl,?_⟩) (by assumption) ?_
   rotate_left
   ·(intro w hSw;(try dsimp only at hSw);(try obtain⟨o0,o1,o2,o3,o4,o5,o6,o7,o8,o9,o10,o11,o12,o13,o14,o15,o16,o17⟩:=hSw);go_simp;try with_reducible rfl)
   try simp only[Act.put,lA,lB,lC]
   refine wpAnyH_take (i:=8) (v:=?_) rfl (by kernel_rfl) (by kernel_rfl) (by kernel_rfl) (fun _ _ _ h=>h) (Or.inl ⟨by kernel_rfl,?_⟩) (by assumption) ?_
   rotate_left
   ·(intro w hSw;(try dsimp only at hSw);(try obtain⟨o0,o1,o2,o3,o4,o5,o6,o7,o8,o9,o10,o11,o12,o13,o14,o15,o16,o17⟩:=hSw);go_simp;try with_reducible rfl)
   try simp only[Act.put,lA,lB,lC]
   refine wpAnyH_take (i:=9) (v:=?_) rfl (by kernel_rfl) (by kernel_rfl) (by kernel_rfl) (fun _ _ _ h=>h) (Or.inl ⟨by kernel_rfl,?_⟩) (by assumption) ?_
   rotate_left
   ·(intro w hSw;(try dsimp only at hSw);(try obtain⟨o0,o1,o2,o3,o4,o5,o6,o7,o8,o9,o10,o11,o12,o13,o14,o15,o16,o17⟩:=hSw);go_simp;try with_reducible rfl)
   try simp only[Act.put,lA,lB,lC]
   refine wpAnyH_take (i:=10) (v:=?_) rfl (by kernel_rfl) (by kernel_rfl) (by kernel_rfl) (fun _ _ _ h=>h) (Or.inl ⟨by kernel_rfl,?_⟩) (by assumption) ?_
   rotate_left
   ·(intro w hSw;(try dsimp only at hSw);(try obtain⟨o0,o1,o2,o3,o4,o5,o6,o7,o8,o9,o10,o11,o12,o13,o14,o15,o16,o17⟩:=hSw);go_simp;try with_reducible rfl)
   try simp only[Act.put,lA,lB,lC]
   refine wpAnyH_ready (rs:=[11]) (by kernel_rfl) (by simp) ?_
   refine AllReadyH.cons rfl (fun K hK=>?_) AllReadyH.nil
   go_simp
   refine (HC.out _ Hbdd.out).mono ?_
   rintro e wy ⟨rfl,hbyy⟩
   have hby:=Hbdd.out.trans (hbyy.mono Hbdd.out.size)
   have hSy:=Hcz.out _ hby
   obtain⟨Hby,Hbyy⟩:=hd2 hby hbyy;clear hby hbyy
   go_wp2_with fail
   refine hK.out _ _ (by exact hSy) (fun hHeld=>?_)
   clear hK K
   try simp only[Act.put,lA,lB,lC]
   cases cs with
   | false =>
    refine wpAnyH_take (i:=12) (v:=?_) rfl (by kernel_rfl) (by kernel_rfl) (by kernel_rfl) (fun _ _ _ h=>h) (Or.inl ⟨by kernel_rfl,?_⟩) (by assumption) ?_
    rotate_left
    ·(intro w hSw;(try dsimp only at hSw);(try obtain⟨o0,o1,o2,o3,o4,o5,o6,o7,o8,o9,o10,o11,o12,o13,o14,o15,o16,o17⟩:=hSw);go_simp;try with_reducible rfl)
    try simp only[Act.put,lA,lB,lC]
    refine wpAnyH_done (by kernel_rfl) ?_ _
    go_simp
    have hff:=Hbd.out rfl
    have Hff:=hd hff;clear hff
    go_wp2_with fail
    go_ret
    exact⟨by rw[Hrr.out,Hff.out];rfl,Hb1.out.trans (Hby.out.mono Hb1.out.size)⟩
   | true =>
    refine wpAnyH_take (i:=12) (v:=?_) rfl (by kernel_rfl) (by kernel_rfl) (by kernel_rfl) (fun _ _ _ h=>h) (Or.inl ⟨by kernel_rfl,?_⟩) (by assumption) ?_
    rotate_left
    ·(intro w hSw;(try dsimp only at hSw);(try obtain⟨o0,o1,o2,o3,o4,o5,o6,o7,o8,o9,o10,o11,o12,o13,o14,o15,o16,o17⟩:=hSw);go_simp;try with_reducible rfl)
    try simp only[Act.put,lA,lB,lC]
    refine wpAnyH_done (by kernel_rfl) ?_ _
    go_simp
    have hq:=Hnx.out rfl
    have Hq:=hd hq;clear hq
    go_wp2_with fail
    go_roundw
    case rel=>exact⟨k+1,by omega,by go_num,Hq.out,Hby.out⟩
    case measure=>simp[RowKit.intOf];omega
  obtain rfl:n1=k:=by omega
  have hs1:zea L1 M1=true:=zmi (by rw[← Hl1.out,← Hr1.out,Hh1.out]) (fun j h1 h2=>hno j h1 h2 (by have:=Hl1.out;omega))
  have px:=za1 (za0 hbr Hp0.out) 1
  simp only[List.getElem?_toArray,List.getElem?_cons_zero,List.getElem?_cons_succ] at px
  obtain⟨Hs1,Hno,Hbr⟩:=hd3 hs1 hno hbr;clear hs1 hno hbr
  go_wp2_with fail
  clear px
  go_loopw [50] (fun i wr=>∃ k:Nat,k≤n2∧i = .int .i64 k∧(∀ j (h1:j < L2.length) (h2:j < M2.length),j < k→zg7 L2[j]=zg7 M2[j])∧Below W1.heap.size W1 wr) (fun i _=>n2 - (RowKit.intOf i).toNat)
  case atStart=>exact⟨0,Nat.zero_le _,rfl,fun _ _ _ h=>by omega,Hbr.out⟩
  case round =>
   obtain⟨k,hk,rfl,hno,hbr⟩:=hrel
   have px:=za1 (za0 hbr Hp0.out) 1
   simp only[List.getElem?_toArray,List.getElem?_cons_zero,List.getElem?_cons_succ] at px
   by_cases hlt:k < n2
   ·have hkl:k < L2.length:=by have:=Hl2.out;omega
    have hkm:k < M2.length:=by have:=Hr2.out;have:=Hh2.out;omega
    obtain⟨x,hx⟩ : ∃ x,x=L2[k]:=⟨_,rfl⟩
    obtain⟨y,hy⟩ : ∃ x,x=M2[k]:=⟨_,rfl⟩
    obtain⟨b,off,xa1,xc1,rfl,x0,x1,x2,rx1⟩:=Hg2.out k x (by rw[hx];exact List.getElem?_eq_getElem hkl)
    obtain⟨b',off',ya1,yc1,rfl,y0,y1,y2,ry1⟩:=Hf2.out k y (by rw[hy];exact List.getElem?_eq_getElem hkm)
    have hnx:x.1=y.1→x.2.1=y.2.1→∀ j (h1:j < L2.length) (h2:j < M2.length),j < k+1→zg7 L2[j]=zg7 M2[j]:=fun h h' j h1 h2 hjk=>by
     by_cases e:j=k
     ·subst e
      rw[← hx,← hy]
      unfold zg7
      rw[h,h']
     exact hno j h1 h2 (by omega)
    have hbd:¬ (x.1=y.1∧x.2.1=y.2.1)→zeb L2 M2=false:=fun h=>decide_eq_false (ziy hkl hkm (by
     rw[← hx,← hy]
     unfold zg7
     intro e
     simp only[Prod.mk.injEq,and_true] at e
     exact h e))
    have hC:=fun (W:World) (k:Below W1.heap.size W1 W)=>zdr (zah rx1 k) (zah ry1 k)
    obtain⟨xn1,hxn1⟩ : ∃ z,z=x.1:=⟨_,rfl⟩
    obtain⟨xz1,hxz1⟩ : ∃ z,z=x.2.1.length:=⟨_,rfl⟩
    obtain⟨xln,hxln⟩ : ∃ z,z=x.2.2:=⟨_,rfl⟩
    rw[← hxn1] at x0 hnx hbd
    rw[← hxz1] at x1 hC rx1
    rw[← hxln] at x2
    obtain⟨yn1,hyn1⟩ : ∃ z,z=y.1:=⟨_,rfl⟩
    obtain⟨yz1,hyz1⟩ : ∃ z,z=y.2.1.length:=⟨_,rfl⟩
    obtain⟨yln,hyln⟩ : ∃ z,z=y.2.2:=⟨_,rfl⟩
    rw[← hyn1] at y0 hnx hbd
    rw[← hyz1] at y1 hC ry1
    rw[← hyln] at y2
    obtain⟨cs,hcs⟩ : ∃ c,c=decide (x.2.1=y.2.1):=⟨_,rfl⟩
    rw[← hcs] at hC
    have hzz:=Txt.eq_dec xn1 yn1
    obtain⟨cn,hcn⟩ : ∃ c,c=decide (xn1=yn1):=⟨_,rfl⟩
    rw[← hcn] at hzz
    have x0:=cell_later hbr x0
    have x1:=cell_later hbr x1
    have x2:=cell_later hbr x2
    obtain⟨wa,hwa⟩ : ∃ W,W=wr.alloc (.cells #[.string xn1,.slice xa1 xz1 xc1,.int .i64 xln] 125):=⟨_,rfl⟩
    obtain⟨ba,hba⟩ : ∃ z,z=wr.heap.size:=⟨_,rfl⟩
    have pa:wa.heap[ba]? = some (.cells #[.string xn1,.slice xa1 xz1 xc1,.int .i64 xln] 125 (0,0)):=by rw[hwa,hba];exact heap_alloc_new _ _
    have hb1':Below wr.heap.size wr wa:=by rw[hwa];exact za2 _ _
    have hbr1:=hbr.trans (hb1'.mono hbr.size)
    have qx1:=za1 (za0 hbr1 Hp1.out) 1
    simp only[List.getElem?_toArray,List.getElem?_cons_zero,List.getElem?_cons_succ] at qx1
    have y0:=cell_later hbr1 y0
    have y1:=cell_later hbr1 y1
    have y2:=cell_later hbr1 y2
    obtain⟨wb,hwb⟩ : ∃ W,W=wa.alloc (.cells #[.string yn1,.slice ya1 yz1 yc1,.int .i64 yln] 125):=⟨_,rfl⟩
    obtain⟨bb,hbb⟩ : ∃ z,z=wa.heap.size:=⟨_,rfl⟩
    have pb:wb.heap[bb]? = some (.cells #[.string yn1,.slice ya1 yz1 yc1,.int .i64 yln] 125 (0,0)):=by rw[hwb,hbb];exact heap_alloc_new _ _
    have hb2:Below wa.heap.size wa wb:=by rw[hwb];exact za2 _ _
    have hbr2:=hbr1.trans (hb2.mono hbr1.size)
    have pa2:=za0 hb2 pa
    have hC1:=hC _ hbr2
    have k5:(0:Int)≤(k:Int):=by omega
    have k6:(k:Int) < (n2:Int):=by omega
    have k7:(k:Int) < (m2:Int):=by have:=Hh2.out;omega
    have w0:=za1 pa2 0
    have w1:=za1 pa2 1
    have v0:=za1 pb 0
    have v1:=za1 pb 1
    simp only[List.getElem?_toArray,List.getElem?_cons_zero,List.getElem?_cons_succ] at w0 w1 v0 v1
    obtain⟨Hno,Hnx,Hbd,Hx,Hy,Hcs,Hcn,HC,HC1,Hpa,Hpb,Hpa2,Hb1',Hb2,Hbr,Hbr1⟩:=hd16 hno hnx hbd hx hy hcs hcn hC hC1 pa pb pa2 hb1' hb2 hbr hbr1;obtain⟨Hbr2,Hrx1,Hry1,Hxn1,Hxz1,Hxln,Hyn1,Hyz1,Hyln⟩:=hd9 hbr2 rx1 ry1 hxn1 hxz1 hxln hyn1 hyz1 hyln;clear hno hnx hbd hx hy hcs hcn hC hC1 pa pb pa2 hb1' hb2 hbr hbr1 hbr2 rx1 ry1 hxn1 hxz1 hxln hyn1 hyz1 hyln
    go_upto_region 13 with (fail)
    rw[← hwa,← hba]
    clear hwa hba x0 x1 x2 px
    go_upto_region 14 with (fail)
    rw[← hwb,← hbb]
    clear hwb hbb y0 y1 y2 qx1
    cases cn with
    | false =>
     have hff:zeb L2 M2=false:=Hbd.out fun h=>by have:=Hcn.out;rw[h.1] at this;simp at this
     have Hff:=hd hff;clear hff
     go_wp2_with fail
     go_ret
     exact⟨by rw[Hrr.out,Hff.out,Bool.and_false];rfl,Hb1.out.trans (Hbr2.out.mono Hb1.out.size)⟩
    | true =>
     go_wp2_with fail
     refine HC1.out.mono ?_
     rintro e' wy ⟨rfl,qn,rfl⟩
     have hby:=za9 Hbr2.out qn
     generalize wb.drewN qn=wy at hby ⊢
     clear w0 w1 v0 v1
     cases cs with
     | false =>
      have hff:zeb L2 M2=false:=Hbd.out fun h=>by have:=Hcs.out;rw[h.2] at this;simp at this
      obtain⟨Hff,Hby⟩:=hd2 hff hby;clear hff hby
      go_wp2_with fail
      go_ret
      exact⟨by rw[Hrr.out,Hff.out,Bool.and_false];rfl,Hb1.out.trans (Hby.out.mono Hb1.out.size)⟩
     | true =>
      have hq:=Hnx.out (of_decide_eq_true Hcn.out.symm) (of_decide_eq_true Hcs.out.symm)
      obtain⟨Hq,Hby⟩:=hd2 hq hby;clear hq hby
      go_wp2_with fail
      go_roundw
      case rel=>exact⟨k+1,by omega,by go_num,Hq.out,Hby.out⟩
      case measure=>simp[RowKit.intOf];omega
   obtain rfl:n2=k:=by omega
   have hs2:zeb L2 M2=true:=decide_eq_true (zg4 (by rw[← Hl2.out,← Hr2.out,Hh2.out]) (fun j h1 h2=>hno j h1 h2 (by have:=Hl2.out;omega)))
   clear px
   obtain⟨Hs2,Hno,Hbr⟩:=hd3 hs2 hno hbr;clear hs2 hno hbr
   go_wp2_with fail
   go_ret
   exact⟨by rw[Hrr.out,Hs1.out,Hs2.out];rfl,Hb1.out.trans (Hbr.out.mono Hb1.out.size)⟩
end

section
open Go.RowKit Go.Shelf Go.Lib VerN
def zkd (F:List BSp):Prop:=F.length≤30∧∀ z∈F,z.1.size≤100∧z.2.size≤100
theorem zjp {w:World} {v:Value} {F:List BSp} (h:RSps w [v] F):Calls Tryz.prog 20 #[v] w fun e w'=>(∃ r,e = .returned (.bool r)∧(r=false→zkd F))∧w=w':=by
 obtain⟨a,cap,hv,hlen,hop⟩:=zb8 h
 have hat:=zns (by rw[← hv];exact h)
 subst hv
 obtain⟨q,hq⟩ : ∃ q,q=F.length:=⟨_,rfl⟩
 have hsz:=sps_size h
 rw[← hq] at h hlen ⊢
 by_cases h30:30 < q
 ·have kk:decide ((30:Int) < (q:Int))=true:=decide_eq_true (by omega)
  obtain⟨Hh,Hq,Hat,Hop,Hsz⟩:=hd5 h hq hat hop hsz;clear h hq hat hop hsz
  go_enter Tryz.func20,Tryz.ntmps20
  go_wp2_with fail
  go_ret
  exact⟨⟨_,rfl,fun h=>by cases h⟩,rfl⟩
 have kk:decide ((30:Int) < (q:Int))=false:=decide_eq_false (by omega)
 obtain⟨Hh,Hq,Hat,Hop,Hsz⟩:=hd5 h hq hat hop hsz;clear h hq hat hop hsz
 go_enter Tryz.func20,Tryz.ntmps20
 go_wp2_with fail
 go_loopw [9] (fun i wr=>∃ k:Nat,k≤q∧i = .int .i64 k∧(∀ j (hj:j < F.length),j < k→F[j].1.size≤100∧F[j].2.size≤100)∧wr=w) (fun i _=>q - (RowKit.intOf i).toNat)
 case atStart=>exact⟨0,Nat.zero_le _,rfl,(fun _ _ h=>absurd h (Nat.not_lt_zero _)),rfl⟩
 case round =>
  obtain⟨k,hk,rfl,hno,rfl⟩:=hrel
  by_cases hlt:k < q
  ·have hkF:k < F.length:=by have:=Hq.out;omega
   obtain⟨y,hy⟩ : ∃ y,y=F[k]:=⟨_,rfl⟩
   obtain⟨b,off,rfl,c0,c1⟩:=Hat.out k y (by rw[hy];exact List.getElem?_eq_getElem hkF)
   have hys:=Hsz.out y (by rw[hy];exact List.getElem_mem hkF)
   have hnx:y.1.size≤100→y.2.size≤100→∀ j (hj:j < F.length),j < k+1→F[j].1.size≤100∧F[j].2.size≤100:=fun h h' j hj hjk=>by
    by_cases e:j=k
    ·subst e;rw[← hy];exact⟨h,h'⟩
    exact hno j hj (by omega)
   obtain⟨y1,hy1⟩ : ∃ s,s=y.1:=⟨_,rfl⟩
   obtain⟨y2,hy2⟩ : ∃ s,s=y.2:=⟨_,rfl⟩
   rw[← hy1] at c0 hnx hys
   rw[← hy2] at c1 hnx hys
   unfold maxLen at hys
   have k5:(0:Int)≤(k:Int):=by omega
   have k6:(k:Int) < (q:Int):=by omega
   by_cases h1:100 < y1.size
   ·have e1:decide ((100:Int) < (y1.size:Int))=true:=decide_eq_true (by omega)
    obtain⟨Hno,Hy,Hys,Hnx,Hy1,Hy2⟩:=hd6 hno hy hys hnx hy1 hy2;clear hno hy hys hnx hy1 hy2
    go_wp2_with fail
    go_ret
    exact⟨⟨_,rfl,fun h=>by cases h⟩,rfl⟩
   have e1:decide ((100:Int) < (y1.size:Int))=false:=decide_eq_false (by omega)
   by_cases h2:100 < y2.size
   ·have e2:decide ((100:Int) < (y2.size:Int))=true:=decide_eq_true (by omega)
    obtain⟨Hno,Hy,Hys,Hnx,Hy1,Hy2⟩:=hd6 hno hy hys hnx hy1 hy2;clear hno hy hys hnx hy1 hy2
    go_wp2_with fail
    go_ret
    exact⟨⟨_,rfl,fun h=>by cases h⟩,rfl⟩
   have e2:decide ((100:Int) < (y2.size:Int))=false:=decide_eq_false (by omega)
   have hf:=hnx (by omega) (by omega)
   obtain⟨Hno,Hy,Hys,Hnx,Hy1,Hy2,Hf⟩:=hd7 hno hy hys hnx hy1 hy2 hf;clear hno hy hys hnx hy1 hy2 hf
   go_wp2_with fail
   go_roundw
   case rel=>exact⟨k+1,by omega,by go_num,Hf.out,by first | rfl | trivial⟩
   case measure=>(simp[RowKit.intOf]) <;> omega
  obtain rfl:k=q:=by omega
  have hf:zkd F:=⟨by have:=Hq.out;omega,fun z hz=>by
   obtain⟨j,hj,rfl⟩:=List.mem_iff_getElem.1 hz
   exact hno j hj (by have:=Hq.out;omega)⟩
  obtain⟨Hno,Hf⟩:=hd2 hno hf;clear hno hf
  go_wp2_with fail
  go_ret
  exact⟨⟨_,rfl,fun _=>Hf.out⟩,rfl⟩
def zcc (s:Spc3):Prop:=s.1.size≤100∧s.2.2.length≤20∧zkd s.2.1∧∀ x∈s.2.2,x.1.size≤100∧x.2.size≤100
theorem zdz {w:World} {nm:ByteArray} {u v:Value} {sp:List BSp} {l:List Setg} (hsp:RSps w [u] sp) (h:zbm w [v] l):Calls Tryz.prog 73 #[.agg #[.string nm,u,v]] w fun e w'=>(∃ r,e = .returned (.bool r)∧(r=false→zcc (nm,sp,l)))∧Below w.heap.size w w':=by
 have hb0:Below w.heap.size w (w.alloc (.cells #[.string nm,u,v] 51)):=za2 _ _
 have hG:=zjp (za3 zaf _ _ _ _ hsp hb0)
 obtain⟨W0,hW0⟩ : ∃ W0,W0=w.alloc (.cells #[.string nm,u,v] 51):=⟨_,rfl⟩
 obtain⟨nb,hnb⟩ : ∃ nb,nb=w.heap.size:=⟨_,rfl⟩
 have hbx:W0.heap[nb]? = some (.cells #[.string nm,u,v] 51 (0,0)):=by rw[hW0,hnb];exact heap_alloc_new _ _
 rw[← hW0] at hb0 hG
 obtain⟨ua,uc,rfl,hzu,_⟩:=zb8 hsp
 obtain⟨m,hm⟩ : ∃ m,m=sp.length:=⟨_,rfl⟩
 rw[← hm] at hG hbx hW0 hzu
 obtain⟨a,cap,rfl,hz,g⟩:=zbc h
 obtain⟨n,hn⟩ : ∃ n,n=l.length:=⟨_,rfl⟩
 rw[← hn] at hz h hbx hW0
 rw[← hm,← hn]
 have c0:=za1 hbx 0
 have c1:=za1 hbx 1
 have c2:=za1 hbx 2
 simp only[List.getElem?_toArray,List.getElem?_cons_zero,List.getElem?_cons_succ] at c0 c1 c2
 obtain⟨Hh,Hsp,Hg,Hn,Hm,HG,Hb0,Hbx⟩:=hd8 h hsp g hn hm hG hb0 hbx;clear h hsp g hn hm hG hb0 hbx
 go_enter Tryz.func73,Tryz.ntmps73
 go_upto_region 1 with (fail)
 rw[← hW0,← hnb]
 obtain⟨HW0,Hnb⟩:=hd2 hW0 hnb;clear hW0 hnb
 by_cases h1:100 < nm.size
 ·have k1:decide ((100:Int) < (nm.size:Int))=true:=by simp;omega
  go_wp2_with fail
  go_ret
  exact⟨⟨true,rfl,fun h=>by cases h⟩,Hb0.out⟩
 have k1:decide ((100:Int) < (nm.size:Int))=false:=by simp;omega
 by_cases h2:20 < n
 ·have k2:decide ((20:Int) < (n:Int))=true:=by simp;omega
  go_wp2_with fail
  go_ret
  exact⟨⟨true,rfl,fun h=>by cases h⟩,Hb0.out⟩
 have k2:decide ((20:Int) < (n:Int))=false:=by simp;omega
 go_wp2_with fail
 refine HG.out.mono ?_
 rintro e w1 ⟨⟨r,rfl,hsm⟩,rfl⟩
 have Hsm:=hd hsm;clear hsm
 cases r with
 | true =>
  go_wp2_with fail
  go_ret
  exact⟨⟨true,rfl,fun h=>by cases h⟩,Hb0.out⟩
 | false =>
  go_wp2_with fail
  clear k1 k2
  obtain⟨H1,H2⟩:=hd2 h1 h2;clear h1 h2
  go_loopw [22] (fun i wr=>∃ k:Nat,k≤n∧i = .int .i64 k∧(∀ j x,j < k→l[j]? = some x→x.1.size≤100∧x.2.size≤100)∧W0=wr) (fun i _=>n - (intOf i).toNat)
  case atStart=>exact⟨0,Nat.zero_le _,rfl,fun j x h=>by omega,rfl⟩
  case round =>
   obtain⟨k,hk,rfl,hsf,rfl⟩:=hrel
   have Hsf:=hd hsf;clear hsf
   by_cases hlt:k < n
   ·have hkl:k < l.length:=by have:=Hn.out;omega
    obtain⟨b,off,rfl,d0,d1,hs1,hs2⟩:=Hg.out k _ (List.getElem?_eq_getElem hkl)
    obtain⟨x,hx⟩ : ∃ x,x=l[k]:=⟨_,rfl⟩
    rw[← hx] at d0 d1 hs1 hs2
    obtain⟨s,hs⟩ : ∃ s,s=x.1:=⟨_,rfl⟩
    obtain⟨t,ht⟩ : ∃ s,s=x.2:=⟨_,rfl⟩
    rw[← hs] at d0 hs1
    rw[← ht] at d1 hs2
    have e0:=cell_later Hb0.out d0
    have e1:=cell_later Hb0.out d1
    have k5:(0:Int)≤(k:Int):=by omega
    have k6:(k:Int) < (n:Int):=by omega
    have hx':l[k]? = some x:=by rw[hx];exact List.getElem?_eq_getElem hkl
    clear hx hkl d0 d1
    obtain⟨Hx',Hs,Ht⟩:=hd3 hx' hs ht;clear hx' hs ht
    by_cases h100:100 < s.size
    ·have k7:decide ((100:Int) < (s.size:Int))=true:=by simp;omega
     go_wp2_with fail
     go_ret
     exact⟨⟨true,rfl,fun h=>by cases h⟩,Hb0.out⟩
    have k7:decide ((100:Int) < (s.size:Int))=false:=by simp;omega
    by_cases hm20:100 < t.size
    ·have k8:decide ((100:Int) < (t.size:Int))=true:=by simp;omega
     go_wp2_with fail
     go_ret
     exact⟨⟨true,rfl,fun h=>by cases h⟩,Hb0.out⟩
    have k8:decide ((100:Int) < (t.size:Int))=false:=by simp;omega
    go_wp2_with fail
    go_roundw
    case rel =>
     refine⟨k+1,by omega,by go_num,fun j y hj hy=>?_,by first | rfl | trivial⟩
     by_cases e:j=k
     ·subst e
      rw[Hx'.out] at hy
      obtain rfl:=Option.some.inj hy
      rw[← Hs.out,← Ht.out]
      omega
     exact Hsf.out j y (by omega) hy
    case measure=>simp[intOf];omega
   obtain rfl:k=n:=by omega
   go_wp2_with fail
   go_ret
   exact⟨⟨false,rfl,fun _=>⟨by have:=H1.out;show nm.size≤100;omega,by have:=H2.out;have:=Hn.out;show l.length≤20;omega,Hsm.out trivial,fun x hx=>by obtain⟨i,hi,e⟩:=List.getElem_of_mem hx;exact Hsf.out i x (by have:=Hn.out;have hi:i < l.length:=hi;omega) (by rw[← e];exact List.getElem?_eq_getElem hi)⟩⟩,Hb0.out⟩
end
end Go.Proofs.YteailgjiifdgcaaGreatDoor
