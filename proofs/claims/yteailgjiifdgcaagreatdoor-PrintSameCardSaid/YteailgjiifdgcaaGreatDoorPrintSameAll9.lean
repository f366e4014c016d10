/- Walks and plain facts. Texts merged: RcG, PnO, RcO, RpT, Bld, Build, LexA, LexT4, PnB, RqG, PnM, RqE, RqF. Condition: none beyond what each says. -/
import Derived.Lib.Builder
import Derived.Lib.AppendStr
import Derived.Lib.UnsafeStr
import Derived.Laws.Externs
import Derived.Recover
import Derived.Laws.Pointers
import Derived.Test.YteailgjiifdgcaaGreatDoorPrintSameAll8
set_option linter.unusedVariables false
set_option linter.unusedSimpArgs false
set_option maxRecDepth 10000
set_option maxHeartbeats 4000000
namespace Go.Proofs.YteailgjiifdgcaaGreatDoor
section
open Go.RowKit Go.Shelf Go.Lib VerN VarM
attribute [local go_sem ↓] Go.wp_at_zero Go.wp_at_succ
def zi8 (l:List ByteArray):Prop:=l.length≤50∧∀ x∈l,x.size≤100
structure znj (p:PkgM):Prop where
 name:p.name.size≤100
 rel:p.rel.length≤30∧∀ x∈p.rel,x.1.size≤100
 vars:p.vars.length≤20∧∀ x∈p.vars,x.1.size≤100∧zi8 x.2
 prov:zi8 p.prov
 dep:p.dep.length≤40∧∀ x∈p.dep,zcc x.1∧zcc x.2.1
 conf:p.conf.length≤40∧∀ x∈p.conf,zcc x.1∧zcc x.2.1
 files:zi8 p.files
def SmallRc (x:RcpM):Prop:=(x.pk.length≤30∧∀ p∈x.pk,znj p)∧x.pf.length≤20∧∀ q∈x.pf,q.1.size≤100∧zi8 q.2.1
theorem zi4 {α:Type} {P:α→Prop} {l:List α} {n:Nat} (hn:n=l.length) (h:∀ (j:Nat) x,j < n→l[j]? = some x→P x):∀ x∈l,P x:=fun x hx=>by
 obtain⟨i,hi,e⟩:=List.getElem_of_mem hx
 exact h i x (by omega) (by rw[← e];exact List.getElem?_eq_getElem hi)
theorem zdy {w:World} {a:Option Addr} {n c:Nat} {l:List ByteArray} (h:RTs w [.slice a n c] l):Calls Tryz.prog 83 #[.slice a n c] w fun e w'=>(∃ r,e = .returned (.bool r)∧(r=false→zi8 l))∧w=w':=by
 obtain⟨a',cap,e,hz,g⟩:=zaw h
 simp only[Value.slice.injEq] at e
 obtain⟨rfl,hn,rfl⟩:=e
 obtain⟨Hh,Hg,Hn⟩:=hd3 h g hn;clear h g hn
 go_enter Tryz.func83,Tryz.ntmps83
 by_cases h50:50 < n
 ·have k1:decide ((50:Int) < (n:Int))=true:=by simp;omega
  go_wp2_with fail
  go_ret
  exact⟨⟨true,rfl,fun h=>by cases h⟩,rfl⟩
 have k1:decide ((50:Int) < (n:Int))=false:=by simp;omega
 go_wp2_with fail
 have h50':n≤50:=by omega
 clear k1 h50
 go_loopw [9] (fun i wr=>∃ k:Nat,k≤n∧i = .int .i64 k∧(∀ (j:Nat) x,j < k→l[j]? = some x→x.size≤100)∧w=wr) (fun i _=>n - (RowKit.intOf i).toNat)
 case atStart=>exact⟨0,Nat.zero_le _,rfl,fun j x h=>by omega,rfl⟩
 case round =>
  obtain⟨k,hk,rfl,hno,rfl⟩:=hrel
  by_cases hlt:k < n
  ·have hkl:k < l.length:=by have:=Hn.out;omega
   obtain⟨b,off,rfl,d0,hs1⟩:=Hg.out k hkl
   obtain⟨x,hx⟩ : ∃ x,x=l[k]:=⟨_,rfl⟩
   have hx':l[k]? = some x:=by rw[hx];exact List.getElem?_eq_getElem hkl
   rw[← hx] at d0 hs1
   have k5:(0:Int)≤(k:Int):=by omega
   have k6:(k:Int) < (n:Int):=by omega
   clear hx hkl hs1
   by_cases h100:100 < x.size
   ·have k7:decide ((100:Int) < (x.size:Int))=true:=by simp;omega
    obtain⟨Hno,Hx'⟩:=hd2 hno hx';clear hno hx'
    go_wp2_with fail
    go_ret
    exact⟨⟨true,rfl,fun h=>by cases h⟩,rfl⟩
   have k7:decide ((100:Int) < (x.size:Int))=false:=by simp;omega
   obtain⟨Hno,Hx',H100⟩:=hd3 hno hx' h100;clear hno hx' h100
   go_wp2_with fail
   go_roundw
   case rel =>
    refine⟨k+1,by omega,by go_num,fun j y hj hy=>?_,by first | rfl | trivial⟩
    by_cases e:j=k
    ·subst e
     rw[Hx'.out] at hy
     obtain rfl:=Option.some.inj hy
     have:=H100.out
     omega
    exact Hno.out j y (by omega) hy
   case measure=>simp[RowKit.intOf];omega
  obtain rfl:k=n:=by omega
  have Hno:=hd hno;clear hno
  go_wp2_with fail
  go_ret
  exact⟨⟨false,rfl,fun _=>⟨by have:=Hn.out;omega,zi4 Hn.out Hno.out⟩⟩,rfl⟩
set_option linter.unusedVariables false in
theorem zlg {w:World} {p:PkgM} {nm:ByteArray} {li:Int} {b2:Option Addr} {n2 c2:Nat} {b3:Option Addr} {n3 c3:Nat} {b4:Option Addr} {n4 c4:Nat} {b5:Option Addr} {n5 c5:Nat} {b6:Option Addr} {n6 c6:Nat} {b7:Option Addr} {n7 c7:Nat} (hnp:p.name=nm) (hp:RPkR w (.slice b2 n2 c2) (.slice b3 n3 c3) (.slice b4 n4 c4) (.slice b5 n5 c5) (.slice b6 n6 c6) (.slice b7 n7 c7) p) :
  Calls Tryz.prog 82 #[.agg #[.string nm,.int .i64 li,.slice b2 n2 c2,.slice b3 n3 c3,.slice b4 n4 c4,.slice b5 n5 c5,.slice b6 n6 c6,.slice b7 n7 c7]] w fun e w'=>(∃ r,e = .returned (.bool r)∧(r=false→znj p))∧Below w.heap.size w w':=by
 obtain⟨W0,hW0⟩ : ∃ W0,W0=w.alloc (.cells #[.string nm,.int .i64 li,.slice b2 n2 c2,.slice b3 n3 c3,.slice b4 n4 c4,.slice b5 n5 c5,.slice b6 n6 c6,.slice b7 n7 c7] 123):=⟨_,rfl⟩
 obtain⟨nb,hnb⟩ : ∃ nb,nb=w.heap.size:=⟨_,rfl⟩
 have hb0:Below w.heap.size w W0:=by rw[hW0];exact za2 _ _
 have hbx:W0.heap[nb]? = some (.cells #[.string nm,.int .i64 li,.slice b2 n2 c2,.slice b3 n3 c3,.slice b4 n4 c4,.slice b5 n5 c5,.slice b6 n6 c6,.slice b7 n7 c7] 123 (0,0)):=by rw[hW0,hnb];exact heap_alloc_new _ _
 have hpp:=hp.below hb0
 obtain⟨hn2,hz2,hg2⟩:=rls_at hpp.1
 obtain⟨hn3,hz3,hg3⟩:=zje hpp.2.1
 obtain⟨hn5,hz5,hg5⟩:=zg5 hpp.2.2.2.1
 obtain⟨hn6,hz6,hg6⟩:=zg5 hpp.2.2.2.2.1
 have hT4:=zdy hpp.2.2.1
 have hT7:=zdy hpp.2.2.2.2.2
 have HbL:=Lib.hid (Below.refl W0.heap.size W0)
 have c0x:=za1 hbx 0
 have c2x:=za1 hbx 2
 have c3x:=za1 hbx 3
 have c4x:=za1 hbx 4
 have c5x:=za1 hbx 5
 have c6x:=za1 hbx 6
 have c7x:=za1 hbx 7
 simp only[List.getElem?_toArray,List.getElem?_cons_zero,List.getElem?_cons_succ] at c0x c2x c3x c4x c5x c6x c7x
 obtain⟨Hp,Hpp,Hn2,Hn3,Hn5,Hn6,Hg2,Hg3,Hg5,Hg6,HT4,HT7,Hb0,Hbx,Hnp⟩:=hd15 hp hpp hn2 hn3 hn5 hn6 hg2 hg3 hg5 hg6 hT4 hT7 hb0 hbx hnp;clear hp hpp hn2 hn3 hn5 hn6 hg2 hg3 hg5 hg6 hT4 hT7 hb0 hbx hnp
 go_enter Tryz.func82,Tryz.ntmps82
 go_upto_region 1 with (fail)
 rw[← hW0,← hnb]
 clear hW0 hnb
 by_cases e0:100 < nm.size
 ·have k0:decide ((100:Int) < (nm.size:Int))=true:=by simp;omega
  go_wp2_with fail
  go_ret
  exact⟨⟨true,rfl,fun h=>by cases h⟩,Hb0.out⟩
 have k0:decide ((100:Int) < (nm.size:Int))=false:=by simp;omega
 by_cases e1:30 < n2
 ·have k1:decide ((30:Int) < (n2:Int))=true:=by simp;omega
  go_wp2_with fail
  go_ret
  exact⟨⟨true,rfl,fun h=>by cases h⟩,Hb0.out⟩
 have k1:decide ((30:Int) < (n2:Int))=false:=by simp;omega
 by_cases e2:20 < n3
 ·have k2:decide ((20:Int) < (n3:Int))=true:=by simp;omega
  go_wp2_with fail
  go_ret
  exact⟨⟨true,rfl,fun h=>by cases h⟩,Hb0.out⟩
 have k2:decide ((20:Int) < (n3:Int))=false:=by simp;omega
 by_cases e3:40 < n5
 ·have k3:decide ((40:Int) < (n5:Int))=true:=by simp;omega
  go_wp2_with fail
  go_ret
  exact⟨⟨true,rfl,fun h=>by cases h⟩,Hb0.out⟩
 have k3:decide ((40:Int) < (n5:Int))=false:=by simp;omega
 by_cases e4:40 < n6
 ·have k4:decide ((40:Int) < (n6:Int))=true:=by simp;omega
  go_wp2_with fail
  go_ret
  exact⟨⟨true,rfl,fun h=>by cases h⟩,Hb0.out⟩
 have k4:decide ((40:Int) < (n6:Int))=false:=by simp;omega
 go_wp2_with fail
 refine HT4.out.mono ?_
 rintro e w1 ⟨⟨r,rfl,hs4⟩,rfl⟩
 have Hs4:=hd hs4;clear hs4
 cases r with
 | true =>
  go_wp2_with fail
  go_ret
  exact⟨⟨true,rfl,fun h=>by cases h⟩,Hb0.out⟩
 | false =>
  go_wp2_with fail
  refine HT7.out.mono ?_
  rintro e w1 ⟨⟨r,rfl,hs7⟩,rfl⟩
  have Hs7:=hd hs7;clear hs7
  cases r with
  | true =>
   go_wp2_with fail
   go_ret
   exact⟨⟨true,rfl,fun h=>by cases h⟩,Hb0.out⟩
  | false =>
   go_wp2_with fail
   clear c0x c2x c3x c4x c5x c6x c7x k0 k1 k2 k3 k4
   go_loopw [48] (fun i wr=>∃ k:Nat,k≤n2∧i = .int .i64 k∧(∀ (j:Nat) x,j < k→p.rel[j]? = some x→x.1.size≤100)∧Below W0.heap.size W0 wr) (fun i _=>n2 - (RowKit.intOf i).toNat)
   case atStart=>exact⟨0,Nat.zero_le _,rfl,fun j x h=>by omega,HbL.out⟩
   case round =>
    obtain⟨k,hk,rfl,hno,hbr⟩:=hrel
    have px:=za1 (za0 hbr Hbx.out) 2
    simp only[List.getElem?_toArray,List.getElem?_cons_zero,List.getElem?_cons_succ] at px
    by_cases hlt:k < n2
    ·have hkl:k < p.rel.length:=by have:=Hn2.out;omega
     obtain⟨x,hx⟩ : ∃ x,x=p.rel[k]:=⟨_,rfl⟩
     have hx':p.rel[k]? = some x:=by rw[hx];exact List.getElem?_eq_getElem hkl
     have k5:(0:Int)≤(k:Int):=by omega
     have k6:(k:Int) < (n2:Int):=by omega
     clear hx
     obtain⟨b,off,rfl,d0,-⟩:=Hg2.out k x hx'
     obtain⟨s,hs⟩ : ∃ s,s=x.1:=⟨_,rfl⟩
     rw[← hs] at d0
     have d0:=cell_later hbr d0
     by_cases h100:100 < s.size
     ·have k7:decide ((100:Int) < (s.size:Int))=true:=by simp;omega
      obtain⟨Hno,Hbr,Hx',Hs⟩:=hd4 hno hbr hx' hs;clear hno hbr hx' hs
      go_wp2_with fail
      go_ret
      exact⟨⟨true,rfl,fun h=>by cases h⟩,Hb0.out.trans (Hbr.out.mono Hb0.out.size)⟩
     have k7:decide ((100:Int) < (s.size:Int))=false:=by simp;omega
     obtain⟨Hno,Hbr,Hx',Hs,H100⟩:=hd5 hno hbr hx' hs h100;clear hno hbr hx' hs h100
     go_wp2_with fail
     go_roundw
     case rel =>
      refine⟨k+1,by omega,by go_num,fun j y hj hy=>?_,Hbr.out⟩
      by_cases e:j=k
      ·subst e
       rw[Hx'.out] at hy
       obtain rfl:=Option.some.inj hy
       rw[← Hs.out]
       have:=H100.out
       omega
      exact Hno.out j y (by omega) hy
     case measure=>simp[RowKit.intOf];omega
    obtain rfl:n2=k:=by omega
    have hall2:=zi4 Hn2.out hno
    clear px
    have px:=za1 (za0 hbr Hbx.out) 3
    simp only[List.getElem?_toArray,List.getElem?_cons_zero,List.getElem?_cons_succ] at px
    replace HbL:=Lib.hid hbr
    obtain⟨Hno,Hbr⟩:=hd2 hno hbr;clear hno hbr
    go_wp2_with fail
    clear px
    go_loopw [63] (fun i wr=>∃ k:Nat,k≤n3∧i = .int .i64 k∧(∀ (j:Nat) x,j < k→p.vars[j]? = some x→x.1.size≤100∧zi8 x.2)∧Below W0.heap.size W0 wr) (fun i _=>n3 - (RowKit.intOf i).toNat)
    case atStart=>exact⟨0,Nat.zero_le _,rfl,fun j x h=>by omega,HbL.out⟩
    case round =>
     obtain⟨k,hk,rfl,hno,hbr⟩:=hrel
     have px:=za1 (za0 hbr Hbx.out) 3
     simp only[List.getElem?_toArray,List.getElem?_cons_zero,List.getElem?_cons_succ] at px
     by_cases hlt:k < n3
     ·have hkl:k < p.vars.length:=by have:=Hn3.out;omega
      obtain⟨x,hx⟩ : ∃ x,x=p.vars[k]:=⟨_,rfl⟩
      have hx':p.vars[k]? = some x:=by rw[hx];exact List.getElem?_eq_getElem hkl
      have k5:(0:Int)≤(k:Int):=by omega
      have k6:(k:Int) < (n3:Int):=by omega
      clear hx
      obtain⟨b,off,ua,uc,rfl,d0,d1,hu⟩:=Hg3.out k x hx'
      obtain⟨s,hs⟩ : ∃ s,s=x.1:=⟨_,rfl⟩
      obtain⟨un,hun⟩ : ∃ s,s=x.2.length:=⟨_,rfl⟩
      rw[← hs] at d0
      rw[← hun] at d1 hu
      have hT:=zdy (zah hu hbr)
      have d0:=cell_later hbr d0
      have d1:=cell_later hbr d1
      by_cases h100:100 < s.size
      ·have k7:decide ((100:Int) < (s.size:Int))=true:=by simp;omega
       obtain⟨Hno,Hbr,Hx',Hs,HT,Hu,Hun⟩:=hd7 hno hbr hx' hs hT hu hun;clear hno hbr hx' hs hT hu hun
       go_wp2_with fail
       go_ret
       exact⟨⟨true,rfl,fun h=>by cases h⟩,Hb0.out.trans (Hbr.out.mono Hb0.out.size)⟩
      have k7:decide ((100:Int) < (s.size:Int))=false:=by simp;omega
      obtain⟨Hno,Hbr,Hx',Hs,H100,HT,Hu,Hun⟩:=hd8 hno hbr hx' hs h100 hT hu hun;clear hno hbr hx' hs h100 hT hu hun
      go_wp2_with fail
      refine HT.out.mono ?_
      rintro e w1 ⟨⟨r,rfl,hsm⟩,rfl⟩
      have Hsm:=hd hsm;clear hsm
      cases r with
      | true =>
       go_wp2_with fail
       go_ret
       exact⟨⟨true,rfl,fun h=>by cases h⟩,Hb0.out.trans (Hbr.out.mono Hb0.out.size)⟩
      | false =>
       go_wp2_with fail
       go_roundw
       case rel =>
        refine⟨k+1,by omega,by go_num,fun j y hj hy=>?_,Hbr.out⟩
        by_cases e:j=k
        ·subst e
         rw[Hx'.out] at hy
         obtain rfl:=Option.some.inj hy
         have:=H100.out
         exact⟨by rw[← Hs.out];omega,Hsm.out (by first | exact rfl | exact trivial)⟩
        exact Hno.out j y (by omega) hy
       case measure=>simp[RowKit.intOf];omega
     obtain rfl:n3=k:=by omega
     have hall3:=zi4 Hn3.out hno
     clear px
     have px:=za1 (za0 hbr Hbx.out) 5
     simp only[List.getElem?_toArray,List.getElem?_cons_zero,List.getElem?_cons_succ] at px
     replace HbL:=Lib.hid hbr
     obtain⟨Hno,Hbr⟩:=hd2 hno hbr;clear hno hbr
     go_wp2_with fail
     clear px
     go_loopw [87] (fun i wr=>∃ k:Nat,k≤n5∧i = .int .i64 k∧(∀ (j:Nat) x,j < k→p.dep[j]? = some x→zcc x.1∧zcc x.2.1)∧Below W0.heap.size W0 wr) (fun i _=>n5 - (RowKit.intOf i).toNat)
     case atStart=>exact⟨0,Nat.zero_le _,rfl,fun j x h=>by omega,HbL.out⟩
     case round =>
      obtain⟨k,hk,rfl,hno,hbr⟩:=hrel
      have px:=za1 (za0 hbr Hbx.out) 5
      simp only[List.getElem?_toArray,List.getElem?_cons_zero,List.getElem?_cons_succ] at px
      by_cases hlt:k < n5
      ·have hkl:k < p.dep.length:=by have:=Hn5.out;omega
       obtain⟨x,hx⟩ : ∃ x,x=p.dep[k]:=⟨_,rfl⟩
       have hx':p.dep[k]? = some x:=by rw[hx];exact List.getElem?_eq_getElem hkl
       have k5:(0:Int)≤(k:Int):=by omega
       have k6:(k:Int) < (n5:Int):=by omega
       clear hx
       obtain⟨b,off,xa1,xc1,xa2,xc2,xa3,xc3,xa4,xc4,rfl,x0,x1,x2,x3,x4,x5,-,⟨rx1,rx2⟩,rx3,rx4⟩:=Hg5.out k x hx'
       obtain⟨xn1,hxn1⟩ : ∃ z,z=x.1.1:=⟨_,rfl⟩
       obtain⟨xz1,hxz1⟩ : ∃ z,z=x.1.2.1.length:=⟨_,rfl⟩
       obtain⟨xz2,hxz2⟩ : ∃ z,z=x.1.2.2.length:=⟨_,rfl⟩
       obtain⟨xn2,hxn2⟩ : ∃ z,z=x.2.1.1:=⟨_,rfl⟩
       obtain⟨xz3,hxz3⟩ : ∃ z,z=x.2.1.2.1.length:=⟨_,rfl⟩
       obtain⟨xz4,hxz4⟩ : ∃ z,z=x.2.1.2.2.length:=⟨_,rfl⟩
       have hG1:=zdz (nm:=xn1) (za3 zaf _ _ _ _ rx1 hbr) (za3 zag _ _ _ _ rx2 hbr)
       have hG2:=fun (W:World) (k:Below W0.heap.size W0 W)=>zdz (nm:=xn2) (za3 zaf _ _ _ _ rx3 k) (za3 zag _ _ _ _ rx4 k)
       have hc2:∀ W,Below W0.heap.size W0 W→W.cell? ⟨b,off+k * 7+3,none⟩=some (.string x.2.1.1)∧W.cell? ⟨b,off+k * 7+4,none⟩=some (.slice xa3 x.2.1.2.1.length xc3)∧W.cell? ⟨b,off+k * 7+5,none⟩=some (.slice xa4 x.2.1.2.2.length xc4):=fun W hW=>⟨cell_later hW x3,cell_later hW x4,cell_later hW x5⟩
       have x0:=cell_later hbr x0
       have x1:=cell_later hbr x1
       have x2:=cell_later hbr x2
       rw[hxn1] at hG1
       simp only[hxn2] at hG2
       have hS1:∀ r,(r=false→zcc (x.1.1,x.1.2.1,x.1.2.2))→r=false→zcc x.1:=fun _ h=>h
       simp only[← hxn1,← hxz1,← hxz2] at hG1
       rw[← hxn1] at x0
       rw[← hxz1] at x1
       rw[← hxz2] at x2
       simp only[← hxn2,← hxz3,← hxz4] at hG2 hc2
       clear x3 x4 x5
       obtain⟨Hno,Hbr,Hx',HG1,HG2,Hc2,Hrx1,Hrx2,Hrx3,Hrx4,Hxn1,Hxz1,Hxz2,Hxn2,Hxz3,Hxz4⟩:=hd16 hno hbr hx' hG1 hG2 hc2 rx1 rx2 rx3 rx4 hxn1 hxz1 hxz2 hxn2 hxz3 hxz4;clear hno hbr hx' hG1 hG2 hc2 rx1 rx2 rx3 rx4 hxn1 hxz1 hxz2 hxn2 hxz3 hxz4
       go_wp2_with fail
       refine HG1.out.mono ?_
       rintro e w9 ⟨⟨r,rfl,hsm⟩,hb9⟩
       have hbw9:=Hbr.out.trans (hb9.mono Hbr.out.size)
       have hG3:=HG2.out _ hbw9
       obtain⟨x3,x4,x5⟩:=Hc2.out _ hbw9
       have px9:=za1 (za0 hbw9 Hbx.out) 5
       simp only[List.getElem?_toArray,List.getElem?_cons_zero,List.getElem?_cons_succ] at px9
       clear x0 x1 x2 px
       obtain⟨Hsm,Hb9,Hbw9,HG3⟩:=hd4 hsm hb9 hbw9 hG3;clear hsm hb9 hbw9 hG3
       cases r with
       | true =>
        go_wp2_with fail
        go_ret
        exact⟨⟨true,rfl,fun h=>by cases h⟩,Hb0.out.trans (Hbw9.out.mono Hb0.out.size)⟩
       | false =>
        go_wp2_with fail
        refine HG3.out.mono ?_
        rintro e w10 ⟨⟨r,rfl,hsm2⟩,hb10⟩
        have hbw10:=Hbw9.out.trans (hb10.mono Hbw9.out.size)
        obtain⟨Hsm2,Hb10,Hbw10⟩:=hd3 hsm2 hb10 hbw10;clear hsm2 hb10 hbw10
        clear x3 x4 x5 px9
        cases r with
        | true =>
         go_wp2_with fail
         go_ret
         exact⟨⟨true,rfl,fun h=>by cases h⟩,Hb0.out.trans (Hbw10.out.mono Hb0.out.size)⟩
        | false =>
         go_wp2_with fail
         go_roundw
         case rel =>
          refine⟨k+1,by omega,by go_num,fun j y hj hy=>?_,Hbw10.out⟩
          by_cases e:j=k
          ·subst e
           rw[Hx'.out] at hy
           obtain rfl:=Option.some.inj hy
           have h1:=Hsm.out (by first | exact rfl | exact trivial)
           have h2:=Hsm2.out (by first | exact rfl | exact trivial)
           rw[Hxn1.out] at h1
           rw[Hxn2.out] at h2
           exact⟨h1,h2⟩
          exact Hno.out j y (by omega) hy
         case measure=>simp[RowKit.intOf];omega
      obtain rfl:n5=k:=by omega
      have hall5:=zi4 Hn5.out hno
      clear px
      have px:=za1 (za0 hbr Hbx.out) 6
      simp only[List.getElem?_toArray,List.getElem?_cons_zero,List.getElem?_cons_succ] at px
      replace HbL:=Lib.hid hbr
      obtain⟨Hno,Hbr⟩:=hd2 hno hbr;clear hno hbr
      go_wp2_with fail
      clear px
      go_loopw [110] (fun i wr=>∃ k:Nat,k≤n6∧i = .int .i64 k∧(∀ (j:Nat) x,j < k→p.conf[j]? = some x→zcc x.1∧zcc x.2.1)∧Below W0.heap.size W0 wr) (fun i _=>n6 - (RowKit.intOf i).toNat)
      case atStart=>exact⟨0,Nat.zero_le _,rfl,fun j x h=>by omega,HbL.out⟩
      case round =>
       obtain⟨k,hk,rfl,hno,hbr⟩:=hrel
       have px:=za1 (za0 hbr Hbx.out) 6
       simp only[List.getElem?_toArray,List.getElem?_cons_zero,List.getElem?_cons_succ] at px
       by_cases hlt:k < n6
       ·have hkl:k < p.conf.length:=by have:=Hn6.out;omega
        obtain⟨x,hx⟩ : ∃ x,x=p.conf[k]:=⟨_,rfl⟩
        have hx':p.conf[k]? = some x:=by rw[hx];exact List.getElem?_eq_getElem hkl
        have k5:(0:Int)≤(k:Int):=by omega
        have k6:(k:Int) < (n6:Int):=by omega
        clear hx
        obtain⟨b,off,xa1,xc1,xa2,xc2,xa3,xc3,xa4,xc4,rfl,x0,x1,x2,x3,x4,x5,-,⟨rx1,rx2⟩,rx3,rx4⟩:=Hg6.out k x hx'
        obtain⟨xn1,hxn1⟩ : ∃ z,z=x.1.1:=⟨_,rfl⟩
        obtain⟨xz1,hxz1⟩ : ∃ z,z=x.1.2.1.length:=⟨_,rfl⟩
        obtain⟨xz2,hxz2⟩ : ∃ z,z=x.1.2.2.length:=⟨_,rfl⟩
        obtain⟨xn2,hxn2⟩ : ∃ z,z=x.2.1.1:=⟨_,rfl⟩
        obtain⟨xz3,hxz3⟩ : ∃ z,z=x.2.1.2.1.length:=⟨_,rfl⟩
        obtain⟨xz4,hxz4⟩ : ∃ z,z=x.2.1.2.2.length:=⟨_,rfl⟩
        have hG1:=zdz (nm:=xn1) (za3 zaf _ _ _ _ rx1 hbr) (za3 zag _ _ _ _ rx2 hbr)
        have hG2:=fun (W:World) (k:Below W0.heap.size W0 W)=>zdz (nm:=xn2) (za3 zaf _ _ _ _ rx3 k) (za3 zag _ _ _ _ rx4 k)
        have hc2:∀ W,Below W0.heap.size W0 W→W.cell? ⟨b,off+k * 7+3,none⟩=some (.string x.2.1.1)∧W.cell? ⟨b,off+k * 7+4,none⟩=some (.slice xa3 x.2.1.2.1.length xc3)∧W.cell? ⟨b,off+k * 7+5,none⟩=some (.slice xa4 x.2.1.2.2.length xc4):=fun W hW=>⟨cell_later hW x3,cell_later hW x4,cell_later hW x5⟩
        have x0:=cell_later hbr x0
        have x1:=cell_later hbr x1
        have x2:=cell_later hbr x2
        rw[hxn1] at hG1
        simp only[hxn2] at hG2
        have hS1:∀ r,(r=false→zcc (x.1.1,x.1.2.1,x.1.2.2))→r=false→zcc x.1:=fun _ h=>h
        simp only[← hxn1,← hxz1,← hxz2] at hG1
        rw[← hxn1] at x0
        rw[← hxz1] at x1
        rw[← hxz2] at x2
        simp only[← hxn2,← hxz3,← hxz4] at hG2 hc2
        clear x3 x4 x5
        obtain⟨Hno,Hbr,Hx',HG1,HG2,Hc2,Hrx1,Hrx2,Hrx3,Hrx4,Hxn1,Hxz1,Hxz2,Hxn2,Hxz3,Hxz4⟩:=hd16 hno hbr hx' hG1 hG2 hc2 rx1 rx2 rx3 rx4 hxn1 hxz1 hxz2 hxn2 hxz3 hxz4;clear hno hbr hx' hG1 hG2 hc2 rx1 rx2 rx3 rx4 hxn1 hxz1 hxz2 hxn2 hxz3 hxz4
        go_wp2_with fail
        refine HG1.out.mono ?_
        rintro e w9 ⟨⟨r,rfl,hsm⟩,hb9⟩
        have hbw9:=Hbr.out.trans (hb9.mono Hbr.out.size)
        have hG3:=HG2.out _ hbw9
        obtain⟨x3,x4,x5⟩:=Hc2.out _ hbw9
        have px9:=za1 (za0 hbw9 Hbx.out) 6
        simp only[List.getElem?_toArray,List.getElem?_cons_zero,List.getElem?_cons_succ] at px9
        clear x0 x1 x2 px
        obtain⟨Hsm,Hb9,Hbw9,HG3⟩:=hd4 hsm hb9 hbw9 hG3;clear hsm hb9 hbw9 hG3
        cases r with
        | true =>
         go_wp2_with fail
         go_ret
         exact⟨⟨true,rfl,fun h=>by cases h⟩,Hb0.out.trans (Hbw9.out.mono Hb0.out.size)⟩
        | false =>
         go_wp2_with fail
         refine HG3.out.mono ?_
         rintro e w10 ⟨⟨r,rfl,hsm2⟩,hb10⟩
         have hbw10:=Hbw9.out.trans (hb10.mono Hbw9.out.size)
         obtain⟨Hsm2,Hb10,Hbw10⟩:=hd3 hsm2 hb10 hbw10;clear hsm2 hb10 hbw10
         clear x3 x4 x5 px9
         cases r with
         | true =>
          go_wp2_with fail
          go_ret
          exact⟨⟨true,rfl,fun h=>by cases h⟩,Hb0.out.trans (Hbw10.out.mono Hb0.out.size)⟩
         | false =>
          go_wp2_with fail
          go_roundw
          case rel =>
           refine⟨k+1,by omega,by go_num,fun j y hj hy=>?_,Hbw10.out⟩
           by_cases e:j=k
           ·subst e
            rw[Hx'.out] at hy
            obtain rfl:=Option.some.inj hy
            have h1:=Hsm.out (by first | exact rfl | exact trivial)
            have h2:=Hsm2.out (by first | exact rfl | exact trivial)
            rw[Hxn1.out] at h1
            rw[Hxn2.out] at h2
            exact⟨h1,h2⟩
           exact Hno.out j y (by omega) hy
          case measure=>simp[RowKit.intOf];omega
       obtain rfl:n6=k:=by omega
       have hall6:=zi4 Hn6.out hno
       clear px
       obtain⟨Hno,Hbr⟩:=hd2 hno hbr;clear hno hbr
       go_wp2_with fail
       go_ret
       exact⟨⟨false,rfl,fun _=>⟨by rw[Hnp.out];omega,⟨by have:=Hn2.out;omega,hall2⟩,⟨by have:=Hn3.out;omega,hall3⟩,Hs4.out (by first | exact rfl | exact trivial),⟨by have:=Hn5.out;omega,hall5⟩,⟨by have:=Hn6.out;omega,hall6⟩,Hs7.out (by first | exact rfl | exact trivial)⟩⟩,Hb0.out.trans (Hbr.out.mono Hb0.out.size)⟩
set_option linter.unusedVariables false in
theorem zj3 {w:World} {x0:RcpM} {a1 a2:Option Addr} {n1 n2 c1 c2:Nat} (hp:zgb w (.slice a1 n1 c1) (.slice a2 n2 c2) x0) :
  Calls Tryz.prog 40 #[.agg #[.slice a1 n1 c1,.slice a2 n2 c2]] w fun e w'=>(∃ r,e = .returned (.bool r)∧(r=false→SmallRc x0))∧Below w.heap.size w w':=by
 obtain⟨W0,hW0⟩ : ∃ W0,W0=w.alloc (.cells #[.slice a1 n1 c1,.slice a2 n2 c2] 73):=⟨_,rfl⟩
 obtain⟨nb,hnb⟩ : ∃ nb,nb=w.heap.size:=⟨_,rfl⟩
 have hb0:Below w.heap.size w W0:=by rw[hW0];exact za2 _ _
 have hbx:W0.heap[nb]? = some (.cells #[.slice a1 n1 c1,.slice a2 n2 c2] 73 (0,0)):=by rw[hW0,hnb];exact heap_alloc_new _ _
 have hpp:=hp.below hb0
 obtain⟨hn0,hz0,hg0⟩:=pks_at hpp.1
 obtain⟨hn1,hz1,hg1⟩:=pfs_at hpp.2
 have HbL:=Lib.hid (Below.refl W0.heap.size W0)
 have c0x:=za1 hbx 0
 have c1x:=za1 hbx 1
 simp only[List.getElem?_toArray,List.getElem?_cons_zero,List.getElem?_cons_succ] at c0x c1x
 obtain⟨Hp,Hpp,Hn0,Hn1,Hg0,Hg1,Hb0,Hbx⟩:=hd8 hp hpp hn0 hn1 hg0 hg1 hb0 hbx;clear hp hpp hn0 hn1 hg0 hg1 hb0 hbx
 go_enter Tryz.func40,Tryz.ntmps40
 go_upto_region 1 with (fail)
 rw[← hW0,← hnb]
 clear hW0 hnb
 by_cases e0:30 < n1
 ·have k0:decide ((30:Int) < (n1:Int))=true:=by simp;omega
  go_wp2_with fail
  go_ret
  exact⟨⟨true,rfl,fun h=>by cases h⟩,Hb0.out⟩
 have k0:decide ((30:Int) < (n1:Int))=false:=by simp;omega
 by_cases e1:20 < n2
 ·have k1:decide ((20:Int) < (n2:Int))=true:=by simp;omega
  go_wp2_with fail
  go_ret
  exact⟨⟨true,rfl,fun h=>by cases h⟩,Hb0.out⟩
 have k1:decide ((20:Int) < (n2:Int))=false:=by simp;omega
 go_wp2_with fail
 clear c0x c1x k0 k1
 go_loopw [18] (fun i wr=>∃ k:Nat,k≤n1∧i = .int .i64 k∧(∀ (j:Nat) x,j < k→x0.pk[j]? = some x→znj x)∧Below W0.heap.size W0 wr) (fun i _=>n1 - (RowKit.intOf i).toNat)
 case atStart=>exact⟨0,Nat.zero_le _,rfl,fun j x h=>by omega,HbL.out⟩
 case round =>
  obtain⟨k,hk,rfl,hno,hbr⟩:=hrel
  have px:=za1 (za0 hbr Hbx.out) 0
  simp only[List.getElem?_toArray,List.getElem?_cons_zero,List.getElem?_cons_succ] at px
  by_cases hlt:k < n1
  ·have hkl:k < x0.pk.length:=by have:=Hn0.out;omega
   obtain⟨x,hx⟩ : ∃ x,x=x0.pk[k]:=⟨_,rfl⟩
   have hx':x0.pk[k]? = some x:=by rw[hx];exact List.getElem?_eq_getElem hkl
   have k5:(0:Int)≤(k:Int):=by omega
   have k6:(k:Int) < (n1:Int):=by omega
   clear hx
   obtain⟨b,off,q2,s2,q3,s3,q4,s4,q5,s5,q6,s6,q7,s7,rfl,x0,x1,x2,x3,x4,x5,x6,x7,rx⟩:=Hg0.out k x hx'
   obtain⟨z2,hz2⟩ : ∃ z,z=x.rel.length:=⟨_,rfl⟩
   rw[← hz2] at x2
   obtain⟨z3,hz3⟩ : ∃ z,z=x.vars.length:=⟨_,rfl⟩
   rw[← hz3] at x3
   obtain⟨z4,hz4⟩ : ∃ z,z=x.prov.length:=⟨_,rfl⟩
   rw[← hz4] at x4
   obtain⟨z5,hz5⟩ : ∃ z,z=x.dep.length:=⟨_,rfl⟩
   rw[← hz5] at x5
   obtain⟨z6,hz6⟩ : ∃ z,z=x.conf.length:=⟨_,rfl⟩
   rw[← hz6] at x6
   obtain⟨z7,hz7⟩ : ∃ z,z=x.files.length:=⟨_,rfl⟩
   rw[← hz7] at x7
   rw[← hz2,← hz3,← hz4,← hz5,← hz6,← hz7] at rx
   obtain⟨nm,hnm⟩ : ∃ z,z=x.name:=⟨_,rfl⟩
   obtain⟨li,hli⟩ : ∃ z,z=x.line:=⟨_,rfl⟩
   rw[← hnm] at x0
   rw[← hli] at x1
   have hG:=zlg (li:=li) hnm.symm (rx.below hbr)
   have x0:=cell_later hbr x0
   have x1:=cell_later hbr x1
   have x2:=cell_later hbr x2
   have x3:=cell_later hbr x3
   have x4:=cell_later hbr x4
   have x5:=cell_later hbr x5
   have x6:=cell_later hbr x6
   have x7:=cell_later hbr x7
   obtain⟨Hno,Hbr,Hx',HG,Hrx,Hnm,Hli,Hz2,Hz3,Hz4,Hz5,Hz6,Hz7⟩:=hd13 hno hbr hx' hG rx hnm hli hz2 hz3 hz4 hz5 hz6 hz7;clear hno hbr hx' hG rx hnm hli hz2 hz3 hz4 hz5 hz6 hz7
   go_wp2_with fail
   refine HG.out.mono ?_
   rintro e w9 ⟨⟨r,rfl,hsm⟩,hb9⟩
   have hbw9:=Hbr.out.trans (hb9.mono Hbr.out.size)
   clear x0 x1 x2 x3 x4 x5 x6 x7 px
   obtain⟨Hsm,Hb9,Hbw9⟩:=hd3 hsm hb9 hbw9;clear hsm hb9 hbw9
   cases r with
   | true =>
    go_wp2_with fail
    go_ret
    exact⟨⟨true,rfl,fun h=>by cases h⟩,Hb0.out.trans (Hbw9.out.mono Hb0.out.size)⟩
   | false =>
    go_wp2_with fail
    go_roundw
    case rel =>
     refine⟨k+1,by omega,by go_num,fun j y hj hy=>?_,Hbw9.out⟩
     by_cases e:j=k
     ·subst e
      rw[Hx'.out] at hy
      obtain rfl:=Option.some.inj hy
      exact Hsm.out (by first | exact rfl | exact trivial)
     exact Hno.out j y (by omega) hy
    case measure=>simp[RowKit.intOf];omega
  obtain rfl:n1=k:=by omega
  have hall0:=zi4 Hn0.out hno
  clear px
  have px:=za1 (za0 hbr Hbx.out) 1
  simp only[List.getElem?_toArray,List.getElem?_cons_zero,List.getElem?_cons_succ] at px
  replace HbL:=Lib.hid hbr
  obtain⟨Hno,Hbr⟩:=hd2 hno hbr;clear hno hbr
  go_wp2_with fail
  clear px
  go_loopw [31] (fun i wr=>∃ k:Nat,k≤n2∧i = .int .i64 k∧(∀ (j:Nat) x,j < k→x0.pf[j]? = some x→x.1.size≤100∧zi8 x.2.1)∧Below W0.heap.size W0 wr) (fun i _=>n2 - (RowKit.intOf i).toNat)
  case atStart=>exact⟨0,Nat.zero_le _,rfl,fun j x h=>by omega,HbL.out⟩
  case round =>
   obtain⟨k,hk,rfl,hno,hbr⟩:=hrel
   have px:=za1 (za0 hbr Hbx.out) 1
   simp only[List.getElem?_toArray,List.getElem?_cons_zero,List.getElem?_cons_succ] at px
   by_cases hlt:k < n2
   ·have hkl:k < x0.pf.length:=by have:=Hn1.out;omega
    obtain⟨x,hx⟩ : ∃ x,x=x0.pf[k]:=⟨_,rfl⟩
    have hx':x0.pf[k]? = some x:=by rw[hx];exact List.getElem?_eq_getElem hkl
    have k5:(0:Int)≤(k:Int):=by omega
    have k6:(k:Int) < (n2:Int):=by omega
    clear hx
    obtain⟨b,off,ua,uc,rfl,d0,d1,-,hu⟩:=Hg1.out k x hx'
    obtain⟨s,hs⟩ : ∃ s,s=x.1:=⟨_,rfl⟩
    obtain⟨un,hun⟩ : ∃ s,s=x.2.1.length:=⟨_,rfl⟩
    rw[← hs] at d0
    rw[← hun] at d1 hu
    have hT:=zdy (zah hu hbr)
    have d0:=cell_later hbr d0
    have d1:=cell_later hbr d1
    by_cases h100:100 < s.size
    ·have k7:decide ((100:Int) < (s.size:Int))=true:=by simp;omega
     obtain⟨Hno,Hbr,Hx',Hs,HT,Hu,Hun⟩:=hd7 hno hbr hx' hs hT hu hun;clear hno hbr hx' hs hT hu hun
     go_wp2_with fail
     go_ret
     exact⟨⟨true,rfl,fun h=>by cases h⟩,Hb0.out.trans (Hbr.out.mono Hb0.out.size)⟩
    have k7:decide ((100:Int) < (s.size:Int))=false:=by simp;omega
    obtain⟨Hno,Hbr,Hx',Hs,H100,HT,Hu,Hun⟩:=hd8 hno hbr hx' hs h100 hT hu hun;clear hno hbr hx' hs h100 hT hu hun
    go_wp2_with fail
    refine HT.out.mono ?_
    rintro e w1 ⟨⟨r,rfl,hsm⟩,rfl⟩
    have Hsm:=hd hsm;clear hsm
    cases r with
    | true =>
     go_wp2_with fail
     go_ret
     exact⟨⟨true,rfl,fun h=>by cases h⟩,Hb0.out.trans (Hbr.out.mono Hb0.out.size)⟩
    | false =>
     go_wp2_with fail
     go_roundw
     case rel =>
      refine⟨k+1,by omega,by go_num,fun j y hj hy=>?_,Hbr.out⟩
      by_cases e:j=k
      ·subst e
       rw[Hx'.out] at hy
       obtain rfl:=Option.some.inj hy
       have:=H100.out
       exact⟨by rw[← Hs.out];omega,Hsm.out (by first | exact rfl | exact trivial)⟩
      exact Hno.out j y (by omega) hy
     case measure=>simp[RowKit.intOf];omega
   obtain rfl:n2=k:=by omega
   have hall1:=zi4 Hn1.out hno
   clear px
   obtain⟨Hno,Hbr⟩:=hd2 hno hbr;clear hno hbr
   go_wp2_with fail
   go_ret
   exact⟨⟨false,rfl,fun _=>⟨⟨by have:=Hn0.out;omega,hall0⟩,by have:=Hn1.out;omega,hall1⟩⟩,Hb0.out.trans (Hbr.out.mono Hb0.out.size)⟩
end

section
open Go.RowKit Go.Shelf VerN VarM
theorem ze0:Tryz.prog.cellsOf 9=1:=by kernel_rfl
theorem zdf {α β:Type} {P:Program} {t:TypeId} {R:Rd α} {S:Rd β} (hS:zbx P t R) (hm:∀ w cs a,R w cs a→∃ b,S w cs b):zbx P t S:=by
 intro H enc w base spare held fuel cs x hx
 obtain⟨y,hy⟩:=hS enc w base spare held fuel cs x hx
 exact hm w cs y hy
abbrev RTwo:Rd (ByteArray × ByteArray × Unit):=zcp 1 RStr (zcp 1 RStr RNil)
theorem zkl {w:World} {cs:List Value} {x:ByteArray × ByteArray × Unit} (h:RTwo w cs x):cs = [.string x.1,.string x.2.1]∧x.1.size≤maxLen∧x.2.1.size≤maxLen:=by
 obtain⟨a0,t0,rfl,l0,⟨rfl,z0⟩,a1,t1,rfl,l1,⟨rfl,z1⟩,h2⟩:=h
 obtain rfl:t1 = []:=h2
 exact⟨rfl,z0,z1⟩
theorem zms:zbx Tryz.prog 34 RTwo:=by
 refine zax Tryz.underlying34 ?_
 have hN:Tryz.prog.cellsOf 34=0+1+1:=by kernel_rfl
 rw[hN]
 exact zaa rfl ze0 (zbu Tryz.underlying9) (zaa rfl ze0 (zbu Tryz.underlying9) zbl)
theorem zih:zbx Tryz.prog 109 RTwo:=by
 refine zax Tryz.underlying109 ?_
 have hN:Tryz.prog.cellsOf 109=0+1+1:=by kernel_rfl
 rw[hN]
 exact zaa rfl ze0 (zbu Tryz.underlying9) (zaa rfl ze0 (zbu Tryz.underlying9) zbl)
theorem zpf:zbx Tryz.prog 34 RSpn:=zdf (R:=RTwo) (S:=RSpn) zms fun _ _ x h=>⟨(x.1,x.2.1),zkl h⟩
theorem zjs:zbx Tryz.prog 109 RSet:=zdf (R:=RTwo) (S:=RSet) zih fun _ _ x h=>⟨(x.1,x.2.1),zkl h⟩
theorem opens_sps:zbx Tryz.prog 23 RSps:=zbg Tryz.underlying23 (by kernel_rfl) (by decide) zpf
theorem zpg:zbx Tryz.prog 49 zbm:=zbg Tryz.underlying49 (by kernel_rfl) (by decide) zjs
def RSpq:Rd Spc3:=fun w cs s=>∃ v1 v2,cs = [.string s.1,v1,v2]∧s.1.size≤maxLen∧RSps w [v1] s.2.1∧zbm w [v2] s.2.2
abbrev RSpq3:Rd (ByteArray × List BSp × List Setg × Unit):=zcp 1 RStr (zcp 1 RSps (zcp 1 zbm RNil))
theorem zmr:zbx Tryz.prog 51 RSpq3:=by
 refine zax Tryz.underlying51 ?_
 have hN:Tryz.prog.cellsOf 51=0+1+1+1:=by kernel_rfl
 rw[hN]
 exact zaa rfl ze0 (zbu Tryz.underlying9) (zaa rfl (by kernel_rfl) opens_sps (zaa rfl (by kernel_rfl) zpg zbl))
theorem spq_of {w:World} {cs:List Value} {x:ByteArray × List BSp × List Setg × Unit} (h:RSpq3 w cs x):RSpq w cs (x.1,x.2.1,x.2.2.1):=by
 obtain⟨a0,t0,rfl,l0,⟨rfl,z0⟩,a1,t1,rfl,l1,h1,a2,t2,rfl,l2,h2,h3⟩:=h
 obtain rfl:t2 = []:=h3
 match a1,l1,a2,l2 with
 | [v1],_,[v2],_=>exact⟨v1,v2,rfl,z0,h1,h2⟩
theorem zer:zbx Tryz.prog 51 RSpq:=zdf (R:=RSpq3) (S:=RSpq) zmr fun _ _ x h=>⟨_,spq_of h⟩
end

section
open Go.RowKit Go.Shelf VerN VarM
theorem zdv:zbx Tryz.prog 88 RTs:=zbg Tryz.underlying88 (by kernel_rfl) (by decide) (zbu Tryz.underlying9)
abbrev RRls2:Rd (ByteArray × Bool × Unit):=zcp 1 RStr (zcp 1 RBool RNil)
theorem zph:zbx Tryz.prog 157 zga:=zdf (R:=RRls2) (S:=zga) (by
 refine zax Tryz.underlying157 ?_
 have hN:Tryz.prog.cellsOf 157=0+1+1:=by kernel_rfl
 rw[hN]
 exact zaa rfl ze0 (zbu Tryz.underlying9) (zaa rfl (by kernel_rfl) (zpm Tryz.underlying4) zbl)) fun w cs x h=>by
 obtain⟨a0,t0,rfl,l0,⟨rfl,z0⟩,a1,t1,rfl,l1,h1,h2⟩:=h
 obtain rfl:t1 = []:=h2
 obtain rfl:a1 = [.bool x.2.1]:=h1
 exact⟨(x.1,x.2.1),rfl⟩
abbrev RVar2:Rd (ByteArray × List ByteArray × Unit):=zcp 1 RStr (zcp 1 RTs RNil)
theorem zpe:zbx Tryz.prog 159 zfy:=zdf (R:=RVar2) (S:=zfy) (by
 refine zax Tryz.underlying159 ?_
 have hN:Tryz.prog.cellsOf 159=0+1+1:=by kernel_rfl
 rw[hN]
 exact zaa rfl ze0 (zbu Tryz.underlying9) (zaa rfl (by kernel_rfl) zdv zbl)) fun w cs x h=>by
 obtain⟨a0,t0,rfl,l0,⟨rfl,z0⟩,a1,t1,rfl,l1,h1,h2⟩:=h
 obtain rfl:t1 = []:=h2
 match a1,l1 with
 | [v],_=>exact⟨(x.1,x.2.1),v,rfl,h1⟩
abbrev RDep3:Rd (Spc3 × Spc3 × Int × Unit):=zcp 3 RSpq (zcp 3 RSpq (zcp 1 (RInt .i64) RNil))
theorem dep_of3 {w:World} {cs:List Value} {x:Spc3 × Spc3 × Int × Unit} (h:RDep3 w cs x):zcq w cs (x.1,x.2.1,x.2.2.1):=by
 obtain⟨a0,t0,rfl,l0,⟨v1,v2,rfl,z0,h1,h2⟩,a1,t1,rfl,l1,⟨v3,v4,rfl,z1,h3,h4⟩,a2,t2,rfl,l2,⟨rfl,_⟩,h5⟩:=h
 obtain rfl:t2 = []:=h5
 exact⟨_,_,_,_,_,_,rfl,⟨rfl,h1,h2⟩,rfl,h3,h4⟩
theorem zpl:zbx Tryz.prog 134 zcq:=zdf (R:=RDep3) (S:=zcq) (by
 refine zax Tryz.underlying134 ?_
 have hN:Tryz.prog.cellsOf 134=0+3+3+1:=by kernel_rfl
 rw[hN]
 exact zaa rfl (by kernel_rfl) zer (zaa rfl (by kernel_rfl) zer (zaa rfl (by kernel_rfl) (zfr Tryz.underlying3) zbl))) fun w cs x h=>⟨_,dep_of3 h⟩
theorem zmv:zbx Tryz.prog 197 zcq:=zdf (R:=RDep3) (S:=zcq) (by
 refine zax Tryz.underlying197 ?_
 have hN:Tryz.prog.cellsOf 197=0+3+3+1:=by kernel_rfl
 rw[hN]
 exact zaa rfl (by kernel_rfl) zer (zaa rfl (by kernel_rfl) zer (zaa rfl (by kernel_rfl) (zfr Tryz.underlying3) zbl))) fun w cs x h=>⟨_,dep_of3 h⟩
abbrev RPf3:Rd (ByteArray × List ByteArray × Int × Unit):=zcp 1 RStr (zcp 1 RTs (zcp 1 (RInt .i64) RNil))
theorem opens_pfM:zbx Tryz.prog 125 RPfM:=zdf (R:=RPf3) (S:=RPfM) (by
 refine zax Tryz.underlying125 ?_
 have hN:Tryz.prog.cellsOf 125=0+1+1+1:=by kernel_rfl
 rw[hN]
 exact zaa rfl ze0 (zbu Tryz.underlying9) (zaa rfl (by kernel_rfl) zdv (zaa rfl (by kernel_rfl) (zfr Tryz.underlying3) zbl))) fun w cs x h=>by
 obtain⟨a0,t0,rfl,l0,⟨rfl,z0⟩,a1,t1,rfl,l1,h1,a2,t2,rfl,l2,⟨rfl,_⟩,h2⟩:=h
 obtain rfl:t2 = []:=h2
 match a1,l1 with
 | [v],_=>exact⟨(x.1,x.2.1,x.2.2.1),v,rfl,h1⟩
theorem zmt:zbx Tryz.prog 118 (zad 2 zga):=zbg Tryz.underlying118 (by kernel_rfl) (by decide) zph
theorem zmq:zbx Tryz.prog 119 (zad 2 zfy):=zbg Tryz.underlying119 (by kernel_rfl) (by decide) zpe
theorem zmu:zbx Tryz.prog 120 (zad 7 zcq):=zbg Tryz.underlying120 (by kernel_rfl) (by decide) zpl
theorem zl6:zbx Tryz.prog 121 (zad 7 zcq):=zbg Tryz.underlying121 (by kernel_rfl) (by decide) zmv
theorem zpk:zbx Tryz.prog 71 (zad 3 RPfM):=zbg Tryz.underlying71 (by kernel_rfl) (by decide) opens_pfM
abbrev RPk8:Rd (ByteArray × Int × List RlsM × List zik × List ByteArray × List DepM × List DepM × List ByteArray × Unit) :=
 zcp 1 RStr (zcp 1 (RInt .i64) (zcp 1 (zad 2 zga) (zcp 1 (zad 2 zfy) (zcp 1 RTs (zcp 1 (zad 7 zcq) (zcp 1 (zad 7 zcq) (zcp 1 RTs RNil)))))))
theorem opens_pkM:zbx Tryz.prog 123 RPkM:=zdf (R:=RPk8) (S:=RPkM) (by
 refine zax Tryz.underlying123 ?_
 have hN:Tryz.prog.cellsOf 123=0+1+1+1+1+1+1+1+1:=by kernel_rfl
 rw[hN]
 exact zaa rfl ze0 (zbu Tryz.underlying9) (zaa rfl (by kernel_rfl) (zfr Tryz.underlying3) (zaa rfl (by kernel_rfl) zmt (zaa rfl (by kernel_rfl) zmq
  (zaa rfl (by kernel_rfl) zdv (zaa rfl (by kernel_rfl) zmu (zaa rfl (by kernel_rfl) zl6 (zaa rfl (by kernel_rfl) zdv zbl)))))))) fun w cs x h=>by
 obtain⟨a0,t0,rfl,l0,⟨rfl,z0⟩,a1,t1,rfl,l1,⟨rfl,_⟩,a2,t2,rfl,l2,h2,a3,t3,rfl,l3,h3,a4,t4,rfl,l4,h4,a5,t5,rfl,l5,h5,a6,t6,rfl,l6,h6,a7,t7,rfl,l7,h7,h8⟩:=h
 obtain rfl:t7 = []:=h8
 match a2,l2,a3,l3,a4,l4,a5,l5,a6,l6,a7,l7 with
 | [v2],_,[v3],_,[v4],_,[v5],_,[v6],_,[v7],_=>exact⟨⟨x.1,x.2.1,x.2.2.1,x.2.2.2.1,x.2.2.2.2.1,x.2.2.2.2.2.1,x.2.2.2.2.2.2.1,x.2.2.2.2.2.2.2.1⟩,v2,v3,v4,v5,v6,v7,rfl,h2,h3,h4,h5,h6,h7⟩
theorem zpj:zbx Tryz.prog 70 (zad 8 RPkM):=zbg Tryz.underlying70 (by kernel_rfl) (by decide) opens_pkM
abbrev RRc2:Rd (List PkgM × List PrfM × Unit):=zcp 1 (zad 8 RPkM) (zcp 1 (zad 3 RPfM) RNil)
def RRcpC:Rd RcpM:=fun w cs x=>∃ v u,cs = [v,u]∧zgb w v u x
theorem zpi:zbx Tryz.prog 73 RRcpC:=zdf (R:=RRc2) (S:=RRcpC) (by
 refine zax Tryz.underlying73 ?_
 have hN:Tryz.prog.cellsOf 73=0+1+1:=by kernel_rfl
 rw[hN]
 exact zaa rfl (by kernel_rfl) zpj (zaa rfl (by kernel_rfl) zpk zbl)) fun w cs x h=>by
 obtain⟨a0,t0,rfl,l0,h0,a1,t1,rfl,l1,h1,h2⟩:=h
 obtain rfl:t1 = []:=h2
 match a0,l0,a1,l1 with
 | [v],_,[u],_=>exact⟨⟨x.1,x.2.1⟩,v,u,rfl,h0,h1⟩
theorem zhn:OpensZ Tryz.prog 73 RRcpC:=opensZ_of zpi
theorem zo4 {w:World} {cs:Array Value} {x:RcpM} (h:RRcpC w cs.toList x):∃ v u,cs=#[v,u]∧zgb w v u x:=by
 obtain⟨v,u,hc,h1⟩:=h
 exact⟨v,u,by rw[← Array.toArray_toList (xs:=cs),hc],h1⟩
end

section
open Go.Lib VerN VarM
def zex (L:List ByteArray):ByteArray:=⟨(Lib.join (L.map (·.data.toList)) [32]).toArray⟩
theorem zdl (L:List ByteArray):(zex L).data.toList=Lib.join (L.map (·.data.toList)) [32]:=rfl
theorem zhr:zex []=noT:=rfl
theorem zhq (x:ByteArray):zex [x]=x:=by
 apply Txt.ext
 rw[zdl,List.map_cons,List.map_nil,Lib.join_one]
theorem zpw {L:List ByteArray} (h:L≠[]) (x:ByteArray):zex (L ++ [x])=zex L ++ ⟨#[32]⟩ ++ x:=by
 apply Txt.ext
 rw[Go.Joins.data_append,Go.Joins.data_append,zdl,zdl]
 cases L with
 | nil=>exact absurd rfl h
 | cons y r =>
  rw[List.cons_append,List.map_cons,List.map_cons,Lib.join_cons,Lib.join_cons]
  have:Lib.joinTail [32] ((r ++ [x]).map (·.data.toList))=Lib.joinTail [32] (r.map (·.data.toList)) ++ (32 :: x.data.toList):=by simp[Lib.joinTail]
  rw[this]
  simp
def zm1 (o:ByteArray) (x:Setg):ByteArray:=(if o=noT then o else o ++ ⟨#[32]⟩) ++ x.1 ++ ⟨#[61]⟩ ++ x.2
noncomputable def zgl (s:Spc3):ByteArray:=if s.2.2.foldl zm1 (zay s)=noT then zdd else s.2.2.foldl zm1 (zay s)
theorem setT_ne (x:Setg):setT x≠noT:=by
 intro e
 have h:=congrArg (fun x:ByteArray=>x.data.toList) e
 unfold setT at h
 simp only[Go.Joins.data_append] at h
 simp[noT] at h
theorem app_ne {a b:ByteArray} (h:b≠noT):a ++ b≠noT:=by
 intro e
 apply h
 have h1:=congrArg (fun x:ByteArray=>x.data.toList) e
 simp only[Go.Joins.data_append] at h1
 exact Txt.ext (List.append_eq_nil_iff.1 h1).2
theorem noT_app (a:ByteArray):noT ++ a=a:=Txt.ext (by rw[Go.Joins.data_append];rfl)
theorem zni {L:List ByteArray} (h:L = []∨zex L≠noT) (x:Setg):zm1 (zex L) x=zex (L ++ [setT x])∧zex (L ++ [setT x])≠noT:=by
 unfold zm1
 rcases h with h | h
 ·subst h
  rw[zhr,if_pos rfl,noT_app,List.nil_append,zhq]
  exact⟨rfl,setT_ne x⟩
 have hL:L≠[]:=by rintro rfl;exact h zhr
 rw[if_neg h,zpw hL]
 exact⟨by unfold setT;rw[← ByteArray.append_assoc,← ByteArray.append_assoc],app_ne (setT_ne x)⟩
theorem zj5:∀ (xs:List Setg) (L:List ByteArray),(L = []∨zex L≠noT)→xs.foldl zm1 (zex L)=zex (L ++ xs.map setT)∧(L ++ xs.map setT = []∨zex (L ++ xs.map setT)≠noT)
 | [],L,h=>by simpa using h
 | x :: xs,L,h=>by
  obtain⟨h1,h2⟩:=zni h x
  have h3:=zj5 xs (L ++ [setT x]) (.inr h2)
  rw[List.foldl_cons,h1,List.map_cons]
  simpa using h3
theorem znt (s:Spc3):zgl s=zex (zcf s):=by
 obtain⟨L,hL,hf,h0⟩ : ∃ L,L=(if zay s=noT then [] else [zay s])∧zay s=zex L∧(L = []∨zex L≠noT):=by
  refine⟨_,rfl,?_⟩
  by_cases h:zay s=noT
  ·rw[if_pos h];exact⟨h,.inl rfl⟩
  rw[if_neg h,zhq];exact⟨rfl,.inr h⟩
 obtain⟨h1,h2⟩:=zj5 s.2.2 L h0
 unfold zgl zcf
 rw[← hL,hf,h1]
 by_cases h:L ++ s.2.2.map setT = []
 ·rw[if_pos h,h,zhr,if_pos rfl,zhq]
 rw[if_neg h,if_neg (h2.resolve_left h)]
end

section
open Go.RowKit
def Bld (B b:Nat) (bs:List UInt8) (w:World):Prop:=Lib.IsBuilder 144 5 B b (Lib.byteCells bs) w
theorem bld_size:(Tryz.prog.info? 144).map (·.size)=some 2:=by kernel_rfl
theorem bld_lies:liesAt Tryz.prog Tryz.prog.depth 144 (2 / Tryz.prog.cellsOf 144) 0 144 1=true:=by kernel_rfl
theorem zok:(Tryz.prog.info? 5).map (fun i=>(i.zero,i.size,i.bytes))=some (some (.int .u8 0),1,1):=by kernel_rfl
theorem bld_cells:Tryz.prog.cellsOf 5=1:=by kernel_rfl
theorem bld_new (w:World):Bld w.heap.size w.heap.size [] (w.alloc (.cells #[.pointer none,.slice none 0 0] 144)):=Lib.fresh_isBuilder _ _ w
def Keep (w w':World):Prop:=∀ (k:Nat) (cs:Array Value) (t:TypeId) (fr:Nat × Nat),w.heap[k]? = some (.cells cs t fr)→t≠144→t≠5→w'.heap[k]? = some (.cells cs t fr)
theorem keep_refl (w:World):Keep w w:=fun _ _ _ _ h _ _=>h
theorem Keep.trans {a b c:World} (h:Keep a b) (k:Keep b c):Keep a c:=fun i cs t fr h1 h2 h3=>k i cs t fr (h i cs t fr h1 h2 h3) h2 h3
theorem zpt {w w':World} (h:Below w.heap.size w w'):Keep w w':=fun k _ _ _ h1 _ _=>(h.block k (Array.getElem?_eq_some_iff.1 h1).1).trans h1
theorem zk2 {w:World} {b:Nat} {cs:Array Value} {fr:Nat × Nat} (hb:w.heap[b]? = some (.cells cs 144 fr)) (i:Nat) (u:Value):Keep w (w.setCell ⟨b,i,none⟩ u):=by
 intro k cs' t fr' h h1 _
 have hne:k≠b:=by
  intro e
  subst e
  rw[hb] at h
  simp at h
  exact h1 h.2.1.symm
 rw[Below.heap_setCell _ _ _ _ hne]
 exact h
theorem zj0 {w w':World} {B:Nat} {v:Value} {n:Nat} {xs:List Value} (hg:w.grownBy w' v.ownBlock) (hown:w.ownsRow B 5 1 v n xs):Keep w w':=by
 intro k cs t fr h _ h2
 refine (hg.block k (Array.getElem?_eq_some_iff.1 h).1 (fun e=>?_)).trans h
 rcases hown.2 with⟨hv,_⟩ | ⟨g,cap,cur,hv,_,hgg,_⟩
 ·rw[hv] at e;simp[Value.ownBlock] at e
 rw[hv] at e
 simp[Value.ownBlock] at e
 subst e
 rw[hgg] at h
 simp at h
 exact h2 h.2.1.symm
theorem zly {B b:Nat} {bs:List Value} {w:World} (h:Lib.IsBuilder 144 5 B b bs w) :
  Calls Tryz.prog 160 #[.pointer (some ⟨b,0,none⟩)] w fun e w'=>e = .returned (.tuple #[])∧Lib.BuilderAt 144 5 B b (.pointer (some ⟨b,0,none⟩)) bs w'∧Below B w w'∧Keep w w':=by
 obtain⟨j,hj,hjs⟩:=Option.map_eq_some_iff.1 bld_size
 rcases h with h | h
 ·have h0:=h.cell0
  have hsh:=h.shape
  have hfz:=h.frozen0
  have H:=Lib.hid h;have HJ:=Lib.hid hj;have HS:=Lib.hid hjs;have HSH:=Lib.hid hsh
  clear h hj hjs hsh
  go_enter Tryz.func160,Tryz.ntmps160
  go_wp2_with fail
  rw[Lib.run_to_unsafe w ⟨b,0,none⟩ Tryz.underlying141 Tryz.underlying232 HJ.out (by rw[HS.out];decide) HSH.out (Nat.zero_lt_succ 1)]
  simp only[Result.andThen]
  rw[Oper.upon_value]
  go_wp2_with fail
  rw[run_callFunc_extern Tryz.func191 (by kernel_rfl) (by kernel_rfl) (by kernel_rfl) (e:=Extern.AbiNoEscape.same) (by kernel_rfl)]
  rw[Lib.run_noEscape]
  simp only[Result.andThen]
  rw[Oper.upon_value]
  go_wp2_with fail
  rw[Lib.run_from_unsafe w ⟨b,0,none⟩ Tryz.underlying232 Tryz.underlying141 HJ.out HSH.out bld_lies]
  simp only[Result.andThen]
  rw[Oper.upon_value]
  go_wp2_with fail
  go_end0
  exact⟨rfl,H.out.used _,(Below.refl B w).setCell (p:=⟨b,0,none⟩) H.out.1 _,by obtain⟨_,v,hbk,_⟩:=H.out;exact zk2 hbk 0 _⟩
 have h0:=h.cell0
 have H:=Lib.hid h;have HJ:=Lib.hid hj
 clear h hj hjs
 go_enter Tryz.func160,Tryz.ntmps160
 go_wp2_with fail
 rw[Lib.run_neq_ptr_same w _ Tryz.underlying141 HJ.out]
 go_wp2_with fail
 go_end0
 exact⟨rfl,H.out,Below.refl B _,keep_refl _⟩
theorem zjb {B b:Nat} {bs:List UInt8} {w:World} (h:Bld B b bs w) (s:ByteArray) (hlen:bs.length+s.size≤1000000000) (hBw:B≤w.heap.size) :
  Calls Tryz.prog 94 #[.pointer (some ⟨b,0,none⟩),.string s] w fun e w'=>e = .returned (.tuple #[.int .i64 s.size,.nilIface])∧Bld B b (bs ++ s.data.toList) w'∧Below B w w'∧Keep w w':=by
 obtain⟨i0,hi,hz0,hz1,hz2⟩:=info_parts zok
 have hl:(Lib.byteCells bs).length=bs.length:=Lib.byteCells_length bs
 have HC:=Lib.hid (fun w=>zly (w:=w) (B:=B) (b:=b) (bs:=Lib.byteCells bs))
 have hcat:Lib.byteCells bs ++ Lib.strCells s=Lib.byteCells (bs ++ s.data.toList):=by simp[Lib.byteCells,Lib.strCells]
 obtain⟨L,hL⟩ : ∃ L,L=Lib.byteCells bs:=⟨_,rfl⟩
 unfold Bld at h
 rw[← hL] at h hl HC hcat
 have hLl:L.length+s.size≤1000000000:=by omega
 obtain⟨Hi,Hz0,Hz1,Hz2,Hh,HL,Hl,Hcat⟩:=hd8 hi hz0 hz1 hz2 h hL hl hcat;clear hi hz0 hz1 hz2 h hL hl hcat
 go_enter Tryz.func94,Tryz.ntmps94
 go_wp2_with fail
 refine (HC.out _ Hh.out).mono ?_
 rintro e w1 ⟨rfl,⟨hB,v,hbk,hown,hne⟩,hb1,hkp⟩
 have c0:w1.cell? ⟨b,0,none⟩=some (.pointer (some ⟨b,0,none⟩)):=by rw[Lib.cell_of_heap hbk];rfl
 have c1:w1.cell? ⟨b,1,none⟩=some v:=by rw[Lib.cell_of_heap hbk];rfl
 have hB1:B≤w1.heap.size:=by have:=hb1.size;omega
 obtain⟨Hbk,Hown,Hne,Hb1,Hkp⟩:=hd5 hbk hown hne hb1 hkp;clear hbk hown hne hb1 hkp
 go_wp2_with (at_builtin;refine Lib.wpList_append_own_string _ rfl _ _ 142 9 rfl B 5 i0 Tryz.underlying142 Tryz.underlying9 Hi.out Hz0.out Hz1.out Hz2.out _ _ _ rfl Hown.out s rfl ?c3 ?c4 ?c5 ?_)
 case c3=>unfold maxLen;omega
 case c4=>omega
 case c5=>omega
 intro v' w2 hown' hgrow _
 have hlt:b < w1.heap.size:=(Array.getElem?_eq_some_iff.1 Hbk.out).1
 have hb2:w2.heap[b]? = some (.cells #[.pointer (some ⟨b,0,none⟩),v] 144 (0,0)):=by
  rw[hgrow.block b hlt (fun e=>Hne.out e.symm)]
  exact Hbk.out
 have d1:w2.cell? ⟨b,1,none⟩=some v:=by rw[Lib.cell_of_heap hb2];rfl
 have f1:w2.frozen? ⟨b,1,none⟩=false:=Lib.frozen_of_heap hb2 1
 obtain⟨ao,n',cap,rfl⟩ : ∃ ao n' cap,v' = .slice ao n' cap:=by
  rcases hown'.2 with⟨hv,_⟩ | ⟨g,cap,cur,hv,_⟩
  ·exact⟨_,_,_,hv⟩
  exact⟨_,_,_,hv⟩
 obtain⟨Hb2,Hown',Hgrow⟩:=hd3 hb2 hown' hgrow;clear hb2 hown' hgrow
 go_wp2_with fail
 go_ret2
 refine⟨rfl,?_,?_,?_⟩
 ·unfold Bld
  rw[← Hcat.out]
  exact .inr (Lib.BuilderAt.put (T:=144) (e:=5) hB Hb2.out (bs':=L ++ Lib.strCells s) (by simpa [Lib.strCells_length] using Hown'.out) (by decide))
 ·exact (Hb1.out.grown Hgrow.out hB1 (fun k hk=>(Hown.out.lt k hk).1)).setCell (p:=⟨b,1,none⟩) hB _
 exact (Hkp.out.trans (zj0 Hgrow.out Hown.out)).trans (zk2 Hb2.out 1 _)
theorem bld_done {B b:Nat} {l:List UInt8} {w:World} (h:Bld B b l w) (h0:l≠[]) :
  Calls Tryz.prog 95 #[.pointer (some ⟨b,0,none⟩)] w fun e w'=>e = .returned (.string ⟨l.toArray⟩)∧Below B w w':=by
 obtain⟨p,hB,v,hbk,hown,hne⟩ : ∃ p,Lib.BuilderAt 144 5 B b p (Lib.byteCells l) w:=by
  rcases h with h | h
  ·exact⟨_,h⟩
  exact⟨_,h⟩
 have hl0:l.length≠0:=by simpa using h0
 rw[Lib.byteCells_length] at hown
 obtain⟨g,cap,cur,rfl,hbg,hg,hnc,hcm,hcs,htake⟩ : ∃ g cap cur,v = .slice (some ⟨g,0,none⟩) l.length cap∧B≤g∧w.heap[g]? = some (.cells cur 5 (0,0))∧l.length≤cap∧cap≤maxLen∧cur.size=cap * 1∧cur.toList.take (l.length * 1)=Lib.byteCells l:=by
  rcases hown.2 with⟨_,hz⟩ | ⟨g,cap,cur,hv,r⟩
  ·exact absurd hz hl0
  exact⟨g,cap,cur,hv,r⟩
 have c1:w.drew.cell? ⟨b,1,none⟩=some (.slice (some ⟨g,0,none⟩) l.length cap):=by
  have:w.drew.heap[b]? = some (.cells #[p,.slice (some ⟨g,0,none⟩) l.length cap] 144 (0,0)):=hbk
  rw[Lib.cell_of_heap this];rfl
 have hSD:(Builtin.unsafeSliceData_ #[142] 213 #[.slice (some ⟨g,0,none⟩) l.length cap]).run Tryz.prog w.drew = .ok (.pointer (some ⟨g,0,none⟩)) w.drew :=
  Lib.run_unsafeSliceData_row _ _ _ _ _ _ (by omega)
 have hUS:(Builtin.unsafeString_ #[213,3] 9 #[.pointer (some ⟨g,0,none⟩),.int .i64 l.length]).run Tryz.prog w.drew = .ok (.string ⟨l.toArray⟩) (w.drew.freeze ⟨g,0,none⟩ l.length):=by
  refine Lib.run_unsafeString_row w.drew 213 3 9 5 Tryz.underlying213 bld_cells g cur.size (by have hg':w.drew.heap[g]? = some (.cells cur 5 (0,0)):=hg;simp[World.shape?,hg']) l h0 (by omega) (by unfold maxLen at hcm;omega) ?_
  intro j x hx
  have:=hown.cells (g:=g) rfl j (.int .u8 x.toNat) (by simp[Lib.byteCells,hx])
  exact this
 have hlm:l.length≤9223372036854775807:=by unfold maxLen at hcm;omega
 obtain⟨Hbk,Hown,Hne,Hg,Hcs,Htake,Hh⟩:=hd7 hbk hown hne hg hcs htake h;clear hbk hown hne hg hcs htake h
 go_enter Tryz.func95,Tryz.ntmps95
 go_wp2_with fail
 go_region
 all_goals
  go_wp2_with fail
  go_ret
  exact⟨rfl,Lib.below_freeze (Below.drew (Below.refl B w)) (p:=⟨g,0,none⟩) hbg _⟩
theorem zgj {T e:TypeId} {B b:Nat} {p:Value} {bs:List Value} {w w':World} (h:Lib.BuilderAt T e B b p bs w) (hb:Below w.heap.size w w'):Lib.BuilderAt T e B b p bs w':=by
 obtain⟨hB,v,hbk,hown,hne⟩:=h
 exact⟨hB,v,(hb.block b (Array.getElem?_eq_some_iff.1 hbk).1).trans hbk,za8 hown hb,hne⟩
theorem zlz {B b:Nat} {bs:List UInt8} {w w':World} (h:Bld B b bs w) (hb:Below w.heap.size w w'):Bld B b bs w':=by
 rcases h with h | h
 ·exact .inl (zgj h hb)
 exact .inr (zgj h hb)
theorem bld_empty (w:World) {b:Nat} (hbk:w.heap[b]? = some (.cells #[.pointer none,.slice none 0 0] 144 (0,0))) :
  Calls Tryz.prog 95 #[.pointer (some ⟨b,0,none⟩)] w fun e w'=>e = .returned (.string ⟨#[]⟩)∧Below w.heap.size w w':=by
 have c1:w.drew.cell? ⟨b,1,none⟩=some (.slice none 0 0):=by
  have:w.drew.heap[b]? = some (.cells #[.pointer none,.slice none 0 0] 144 (0,0)):=hbk
  rw[Lib.cell_of_heap this];rfl
 have hUS:(Builtin.unsafeString_ #[213,3] 9 #[.pointer none,.int .i64 0]).run Tryz.prog w.drew = .ok (.string .empty) w.drew:=Lib.run_unsafeString_none w.drew _ _ _ none
 have hSD:(Builtin.unsafeSliceData_ #[142] 213 #[.slice none 0 0]).run Tryz.prog w.drew = .ok (.pointer none) w.drew:=rfl
 have Hbk:=hd hbk;clear hbk
 go_enter Tryz.func95,Tryz.ntmps95
 go_wp2_with fail
 go_region
 all_goals
  go_wp2_with fail
  go_ret
  exact⟨rfl,Below.drew (Below.refl _ w)⟩
end

section
open Go.RowKit
theorem zlx {B b:Nat} {bs:List UInt8} {w:World} (h:Bld B b bs w) (c:UInt8) (hlen:bs.length+1≤1000000000) (hBw:B≤w.heap.size) :
  Calls Tryz.prog 179 #[.pointer (some ⟨b,0,none⟩),.int .u8 c.toNat] w fun e w'=>e = .returned .nilIface∧Bld B b (bs ++ [c]) w'∧Below B w w'∧Keep w w':=by
 obtain⟨i0,hi,hz0,hz1,hz2⟩:=info_parts zok
 have hl:(Lib.byteCells bs).length=bs.length:=Lib.byteCells_length bs
 have HC:=Lib.hid (fun w=>zly (w:=w) (B:=B) (b:=b) (bs:=Lib.byteCells bs))
 have hcat:Lib.byteCells bs ++ [.int .u8 c.toNat]=Lib.byteCells (bs ++ [c]):=by simp[Lib.byteCells]
 obtain⟨n,hn⟩ : ∃ n,n=c.toNat:=⟨_,rfl⟩
 rw[← hn] at hcat ⊢
 have hn2:n < 256:=by rw[hn];exact c.toNat_lt
 obtain⟨L,hL⟩ : ∃ L,L=Lib.byteCells bs:=⟨_,rfl⟩
 unfold Bld at h
 rw[← hL] at h hl HC hcat
 have hLl:L.length≤1000000000:=by omega
 obtain⟨Hi,Hz0,Hz1,Hz2,Hh,HL,Hn,Hl,Hcat⟩:=hd9 hi hz0 hz1 hz2 h hL hn hl hcat;clear hi hz0 hz1 hz2 h hL hn hl hcat
 go_enter Tryz.func179,Tryz.ntmps179
 go_wp2_with fail
 refine (HC.out _ Hh.out).mono ?_
 rintro e w1 ⟨rfl,⟨hB,v,hbk,hown,hne⟩,hb1,hkp⟩
 have c0:w1.cell? ⟨b,0,none⟩=some (.pointer (some ⟨b,0,none⟩)):=by rw[Lib.cell_of_heap hbk];rfl
 have c1:w1.cell? ⟨b,1,none⟩=some v:=by rw[Lib.cell_of_heap hbk];rfl
 have hB1:B≤w1.heap.size:=by have:=hb1.size;omega
 obtain⟨Hbk,Hown,Hne,Hb1,Hkp⟩:=hd5 hbk hown hne hb1 hkp;clear hbk hown hne hb1 hkp
 go_wp2_with (at_builtin;refine wpList_append_own _ rfl _ _ 142 rfl B 5 i0 (.int .u8 0) 1 1 Tryz.underlying142 Hi.out Hz0.out Hz1.out Hz2.out rfl (by decide) _ _ _ rfl (Hown.out.alloc _) ⟨w1.heap.size,0,none⟩ 1 1 [.int .u8 n] rfl rfl ?c1 ?c2 ?c3 ?c4 ?c5 ?_)
 case c1 =>
  intro j u hj
  match j,hj with
  | 0,hj=>simp at hj;subst hj;simp[Addr.add]
 case c2=>intro u hu;simp at hu;subst hu;rfl
 case c3=>unfold maxLen;omega
 case c4=>omega
 case c5=>simp;omega
 intro v' w2 hown' hgrow _
 have hlt:b < w1.heap.size:=(Array.getElem?_eq_some_iff.1 Hbk.out).1
 have hb2:w2.heap[b]? = some (.cells #[.pointer (some ⟨b,0,none⟩),v] 144 (0,0)):=by
  rw[hgrow.block b (by simp;omega) (fun e=>Hne.out e.symm),Lib.alloc_old w1 _ b hlt]
  exact Hbk.out
 have d1:w2.cell? ⟨b,1,none⟩=some v:=by rw[Lib.cell_of_heap hb2];rfl
 have f1:w2.frozen? ⟨b,1,none⟩=false:=Lib.frozen_of_heap hb2 1
 obtain⟨g,cap,rfl⟩ : ∃ g cap,v' = .slice (some ⟨g,0,none⟩) (L.length+1) cap:=by
  rcases hown'.2 with⟨_,h0⟩ | ⟨g,cap,cur,hv,_⟩
  ·omega
  exact⟨g,cap,hv⟩
 obtain⟨Hb2,Hown',Hgrow⟩:=hd3 hb2 hown' hgrow;clear hb2 hown' hgrow
 go_wp2_with fail
 go_ret
 refine⟨rfl,?_,?_,?_⟩
 ·unfold Bld
  rw[← Hcat.out]
  exact .inr (Lib.BuilderAt.put (T:=144) (e:=5) hB Hb2.out (bs':=L ++ [.int .u8 n]) (by simpa using Hown'.out) (by decide))
 ·exact ((Hb1.out.alloc hB1 _).grown Hgrow.out (by simp;omega) (fun k hk=>(Hown.out.lt k hk).1)).setCell (p:=⟨b,1,none⟩) hB _
 exact ((Hkp.out.trans (zpt ((Below.refl _ _).alloc (Nat.le_refl _) _))).trans (zj0 Hgrow.out (Hown.out.alloc _))).trans (zk2 Hb2.out 1 _)
end

section
open Go.RowKit
open LexM (Bs Wd Ln St)
theorem zn2 {w:World} {av:Value} {l:List Ln} (h:RLns w [av] l):∃ a cap,av = .slice a l.length cap∧l.length≤cap∧cap≤maxLen ∧
  ∀ (i:Nat) (hi:i < l.length),∃ b off,a=some ⟨b,off,none⟩∧w.cell? ⟨b,off+i * 2,none⟩=some (.int .i64 l[i].1)∧∃ v,w.cell? ⟨b,off+i * 2+1,none⟩=some v∧zad 2 RWd w [v] l[i].2:=by
 obtain⟨a,cap,hv,h1,h2,h3⟩:=h
 simp only[List.cons.injEq,and_true] at hv
 refine⟨a,cap,hv,h1,h2,fun i hi=>?_⟩
 obtain⟨b,off,ecs,ha,hl,hc,v,hr1,hr2,_⟩:=h3 i l[i] (List.getElem?_eq_getElem hi)
 subst hr1
 exact⟨b,off,ha,by simpa using hc 0 _ rfl,v,by simpa using hc 1 _ rfl,hr2⟩
theorem wd_cell {w:World} {av:Value} {l:List Wd} (h:zad 2 RWd w [av] l):∃ a cap,av = .slice a l.length cap∧l.length≤cap∧cap≤maxLen ∧
  ∀ (i:Nat) (hi:i < l.length),∃ b off,a=some ⟨b,off,none⟩∧w.cell? ⟨b,off+i * 2,none⟩=some (.int .i64 l[i].1)∧w.cell? ⟨b,off+i * 2+1,none⟩=some (bv l[i].2):=by
 obtain⟨a,cap,hv,h1,h2,h3⟩:=h
 simp only[List.cons.injEq,and_true] at hv
 refine⟨a,cap,hv,h1,h2,fun i hi=>?_⟩
 obtain⟨b,off,ecs,ha,hl,hc,hr1,_⟩:=h3 i l[i] (List.getElem?_eq_getElem hi)
 subst hr1
 exact⟨b,off,ha,by simpa [zch] using hc 0 _ rfl,by simpa [zch] using hc 1 _ rfl⟩
end

section
open Go.RowKit
open LexM (Bs Wd Ln St)
def wt:List Wd→Bs
 | [] => []
 | x :: r=>x.2 ++ r.flatMap fun y=>32 :: y.2
def ltx (l:List Ln):Bs:=l.flatMap fun ln=>wt ln.2 ++ [10]
theorem wt_snoc (ws:List Wd) (x:Wd):wt (ws ++ [x])=wt ws ++ ((if ws.length=0 then [] else [32]) ++ x.2):=by
 cases ws with
 | nil=>simp[wt]
 | cons y r=>simp[wt]
theorem ziq {α:Type} (l:List α) (k:Nat) (h:k < l.length):l.take (k+1)=l.take k ++ [l[k]]:=by
 rw[List.take_add_one,List.getElem?_eq_getElem h];rfl
theorem ltx_take (l:List Ln) (k:Nat):(ltx (l.take k)).length≤(ltx l).length:=by
 conv=>rhs;rw[← List.take_append_drop k l]
 unfold ltx
 rw[List.flatMap_append,List.length_append]
 omega
theorem ltx_snoc (l:List Ln) (k:Nat) (h:k < l.length):ltx (l.take (k+1))=ltx (l.take k) ++ (wt l[k].2 ++ [10]):=by
 rw[ziq l k h]
 unfold ltx
 rw[List.flatMap_append]
 simp
theorem wt_take (ws:List Wd) (j:Nat):(wt (ws.take j)).length≤(wt ws).length:=by
 induction ws generalizing j with
 | nil=>simp
 | cons x r _ =>
  match j with
  | 0=>simp[wt]
  | j+1 =>
   simp only[List.take_succ_cons,wt,List.length_append]
   have:((r.take j).flatMap fun y=>(32:UInt8) :: y.2).length≤(r.flatMap fun y=>(32:UInt8) :: y.2).length:=by
    conv=>rhs;rw[← List.take_append_drop j r]
    rw[List.flatMap_append,List.length_append]
    omega
   omega
theorem text_any {w:World} {av:Value} {l:List Ln} (h:RLns w [av] l) (hlen:(ltx l).length≤100000000):Calls Tryz.prog 129 #[av] w fun e w'=>e = .returned (.string ⟨(ltx l).toArray⟩)∧Below w.heap.size w w':=by
 obtain⟨aa,ac,rfl,ha1,ha2,ha3⟩:=zn2 h
 unfold maxLen at ha2
 obtain⟨b,hb⟩ : ∃ b,b=w.heap.size:=⟨_,rfl⟩
 have h0:=bld_new w
 have hbel0:Below w.heap.size w (w.alloc (.cells #[.pointer none,.slice none 0 0] 144)):=(Below.refl _ _).alloc (Nat.le_refl _) _
 by_cases hl0:l.length=0
 ·have hl:l = []:=List.eq_nil_of_length_eq_zero hl0
  subst hl
  have hnew:=heap_alloc_new w (.cells #[.pointer none,.slice none 0 0] 144)
  obtain⟨Hh,Ha3,H0,Hbel0,Hnew,Hb,Hl0⟩:=hd7 h ha3 h0 hbel0 hnew hb hl0;clear h ha3 h0 hbel0 hnew hb hl0
  go_enter Tryz.func129,Tryz.ntmps129
  go_wp2_with fail
  go_loop [10] (fun i=>i = .int .i64 0) (fun i=>0)
  case atStart=>rfl
  case round =>
   subst hrel
   go_wp2_with fail
   refine (bld_empty _ Hnew.out).mono ?_
   rintro e w2 ⟨rfl,hb2⟩
   have Hb2:=hd hb2;clear hb2
   go_wp2_with fail
   go_ret
   exact⟨rfl,Hbel0.out.trans (Hb2.out.mono Hbel0.out.size)⟩
 have hlp:0 < l.length:=by omega
 obtain⟨Hh,Ha3,H0,Hbel0,Hb,Hl0⟩:=hd6 h ha3 h0 hbel0 hb hl0;clear h ha3 h0 hbel0 hb hl0
 go_enter Tryz.func129,Tryz.ntmps129
 go_wp2_with fail
 rw[← Hb.out] at H0
 obtain⟨w1,hw1⟩ : ∃ w1,w1=w.alloc (.cells #[.pointer none,.slice none 0 0] 144):=⟨_,rfl⟩
 rw[← hw1] at H0 Hbel0 ⊢
 rw[← Hb.out] at Hbel0 ⊢
 clear hw1
 go_loopw [10] (fun i wr=>∃ k:Nat,k≤l.length∧i = .int .i64 k∧Bld b b (ltx (l.take k)) wr∧Below b w wr) (fun i _=>l.length - (intOf i).toNat)
 case atStart=>exact⟨0,by omega,rfl,H0.out,Hbel0.out⟩
 case round =>
  obtain⟨k,hk,rfl,hB,hbel⟩:=hrel
  by_cases hlt:k < l.length
  ·have hbelw:Below w.heap.size w wr:=by rw[← Hb.out];exact hbel
   have hBw:=hbel.size
   obtain⟨b1,o1,hx,c1,v1,c2,r1⟩:=Ha3.out k hlt
   subst hx
   obtain⟨wa,wc,rfl,hw1,hw2,hw3⟩:=wd_cell r1
   obtain⟨A,hA⟩ : ∃ A,A=l[k]:=⟨_,rfl⟩
   rw[← hA] at c1 c2 hw1 hw3
   have c1':=cell_later hbelw c1
   have c2':=cell_later hbelw c2
   unfold maxLen at hw2
   have hsn:=ltx_snoc l k hlt
   rw[← hA] at hsn
   have htl:=ltx_take l (k+1)
   rw[hsn] at htl
   simp only[List.length_append,List.length_singleton] at htl
   obtain⟨pre,hpre⟩ : ∃ pre,pre=ltx (l.take k):=⟨_,rfl⟩
   rw[← hpre] at hB hsn htl
   have hB3:Bld b b (pre ++ wt (A.2.take 0)) (wr.alloc (.cells #[.int .i64 A.1,.slice wa A.2.length wc] 62)):=by
    simp only[List.take_zero,wt,List.append_nil]
    exact zlz hB ((Below.refl _ _).alloc (Nat.le_refl _) _)
   have hbel3:Below b w (wr.alloc (.cells #[.int .i64 A.1,.slice wa A.2.length wc] 62)):=hbel.alloc (by rw[Hb.out];exact hBw) _
   obtain⟨HB,Hbel,Hbelw,Hr1,Hw3,HA,Hsn,Hpre,HB3,Hbel3⟩:=hd10 hB hbel hbelw r1 hw3 hA hsn hpre hB3 hbel3;clear hB hbel hbelw r1 hw3 hA hsn hpre hB3 hbel3
   clear c1 c2
   go_wp2_with fail
   obtain⟨w3,hw3'⟩ : ∃ w3,w3=wr.alloc (.cells #[.int .i64 A.1,.slice wa A.2.length wc] 62):=⟨_,rfl⟩
   rw[← hw3'] at HB3 Hbel3 ⊢
   clear hw3' c1' c2'
   go_loopw [17] (fun i wr=>∃ j:Nat,j≤A.2.length∧i = .int .i64 j∧Bld b b (pre ++ wt (A.2.take j)) wr∧Below b w wr) (fun i _=>A.2.length - (intOf i).toNat)
   case atStart=>exact⟨0,by omega,rfl,HB3.out,Hbel3.out⟩
   case round =>
    obtain⟨j,hj,rfl,hBj,hbelj⟩:=hrel
    by_cases hjl:j < A.2.length
    ·have hbelw2:Below w.heap.size w wr:=by rw[← Hb.out];exact hbelj
     have hBw2:=hbelw2.size
     obtain⟨b2,o2,hx,d1,d2⟩:=Hw3.out j hjl
     subst hx
     obtain⟨X,hX⟩ : ∃ X,X=A.2[j]:=⟨_,rfl⟩
     rw[← hX] at d1 d2
     have d1':=cell_later hbelw2 d1
     have d2':=cell_later hbelw2 d2
     have hws:wt (A.2.take (j+1))=wt (A.2.take j) ++ ((if j=0 then [] else [32]) ++ X.2):=by
      rw[ziq _ _ hjl,wt_snoc,List.length_take,Nat.min_eq_left (by omega),hX]
     have hwl:=wt_take A.2 (j+1)
     rw[hws] at hwl
     simp only[List.length_append] at hwl
     have hB4:Bld b b (pre ++ wt (A.2.take j)) (wr.alloc (.cells #[.int .i64 X.1,bv X.2] 64)):=zlz hBj ((Below.refl _ _).alloc (Nat.le_refl _) _)
     have hnew:=heap_alloc_new wr (.cells #[.int .i64 X.1,bv X.2] 64)
     have hbel4:Below b w (wr.alloc (.cells #[.int .i64 X.1,bv X.2] 64)):=hbelj.alloc (by rw[Hb.out];exact hBw2) _
     have hszX:(⟨X.2.toArray⟩ : ByteArray).size=X.2.length:=by show X.2.toArray.size=_;simp
     have hb4:b≤wr.heap.size:=by rw[Hb.out];exact hBw2
     by_cases hj0:j=0
     ·rw[if_pos hj0] at hws hwl
      have hjz:j≤0:=by omega
      have hS:=zjb hB4 ⟨X.2.toArray⟩ (by rw[hszX,List.length_append];simp at hwl;omega) (by simp;omega)
      have e1:(pre ++ wt (A.2.take j)) ++ (⟨X.2.toArray⟩ : ByteArray).data.toList=pre ++ wt (A.2.take (j+1)):=by rw[hws];simp
      rw[e1] at hS
      obtain⟨HBj,Hbelj,Hbelw2,HX,Hws,Hwl,HB4,Hnew,Hbel4,HS,HszX,Hj0⟩:=hd12 hBj hbelj hbelw2 hX hws hwl hB4 hnew hbel4 hS hszX hj0;clear hBj hbelj hbelw2 hX hws hwl hB4 hnew hbel4 hS hszX hj0
      clear d1 d2
      go_wp2_with fail
      refine HS.out.mono ?_
      rintro e w5 ⟨rfl,hB5,hb5,hk5⟩
      have hbel5:=Hbel4.out.trans hb5
      obtain⟨HB5,Hb5,Hk5,Hbel5⟩:=hd4 hB5 hb5 hk5 hbel5;clear hB5 hb5 hk5 hbel5
      go_wp2_with fail
      go_roundw
      case rel=>exact⟨j+1,by omega,by go_num,HB5.out,Hbel5.out⟩
      case measure=>simp[intOf];omega
     rw[if_neg hj0] at hws hwl
     have hjp:0 < j:=by omega
     have hW:=zlx hB4 32 (by rw[List.length_append];simp at hwl;omega) (by simp;omega)
     obtain⟨HBj,Hbelj,Hbelw2,HX,Hws,HB4,Hnew,Hbel4,HW⟩:=hd9 hBj hbelj hbelw2 hX hws hB4 hnew hbel4 hW;clear hBj hbelj hbelw2 hX hws hB4 hnew hbel4 hW
     clear d1 d2 hj0
     go_wp2_with fail
     refine HW.out.mono ?_
     rintro e w5 ⟨rfl,hB5,hb5,hk5⟩
     have hbel5:=Hbel4.out.trans hb5
     have hn5:=hk5 _ _ _ _ Hnew.out (by decide) (by decide)
     have z1:=cell_of_row _ wr.heap.size 1 _ _ _ hn5
     simp only[List.getElem?_toArray,List.getElem?_cons_succ,List.getElem?_cons_zero] at z1
     have hS:=zjb hB5 ⟨X.2.toArray⟩ (by rw[hszX,List.length_append,List.length_append];simp at hwl ⊢;omega) (by rw[Hb.out];exact hbel5.size)
     have e1:(pre ++ wt (A.2.take j) ++ [32]) ++ (⟨X.2.toArray⟩ : ByteArray).data.toList=pre ++ wt (A.2.take (j+1)):=by rw[Hws.out];simp
     rw[e1] at hS
     obtain⟨HB5,Hb5,Hk5,Hbel5,HS,HszX,Hn5⟩:=hd7 hB5 hb5 hk5 hbel5 hS hszX hn5;clear hB5 hb5 hk5 hbel5 hS hszX hn5
     go_wp2_with fail
     refine HS.out.mono ?_
     rintro e w6 ⟨rfl,hB6,hb6,hk6⟩
     have hbel6:=Hbel5.out.trans hb6
     obtain⟨HB6,Hb6,Hk6,Hbel6⟩:=hd4 hB6 hb6 hk6 hbel6;clear hB6 hb6 hk6 hbel6
     go_wp2_with fail
     go_roundw
     case rel=>exact⟨j+1,by omega,by go_num,HB6.out,Hbel6.out⟩
     case measure=>simp[intOf];omega
    obtain rfl:j=A.2.length:=by omega
    rw[List.take_of_length_le (Nat.le_refl _)] at hBj
    have hW:=zlx hBj 10 (by rw[List.length_append];omega) (by rw[Hb.out];exact hbelj.size)
    have e1:(pre ++ wt A.2) ++ [10]=ltx (l.take (k+1)):=by rw[Hsn.out,List.append_assoc]
    rw[e1] at hW
    obtain⟨HBj,Hbelj,HW⟩:=hd3 hBj hbelj hW;clear hBj hbelj hW
    go_wp2_with fail
    refine HW.out.mono ?_
    rintro e w5 ⟨rfl,hB5,hb5,hk5⟩
    have hbel5:=Hbelj.out.trans hb5
    obtain⟨HB5,Hb5,Hk5,Hbel5⟩:=hd4 hB5 hb5 hk5 hbel5;clear hB5 hb5 hk5 hbel5
    go_wp2_with fail
    go_roundw
    case rel=>exact⟨k+1,by omega,by go_num,HB5.out,Hbel5.out⟩
    case measure=>simp[intOf];omega
  obtain rfl:k=l.length:=by omega
  rw[List.take_of_length_le (Nat.le_refl _)] at hB
  have hne:ltx l≠[]:=by
   cases l with
   | nil=>simp at hlp
   | cons x r=>simp[ltx]
  have hD:=bld_done hB hne
  obtain⟨HB,Hbel,Hne,HD⟩:=hd4 hB hbel hne hD;clear hB hbel hne hD
  go_wp2_with fail
  refine HD.out.mono ?_
  rintro e w5 ⟨rfl,hb5⟩
  have hbel5:=Hbel.out.trans hb5
  obtain⟨Hb5,Hbel5⟩:=hd2 hb5 hbel5;clear hb5 hbel5
  go_wp2_with fail
  go_ret
  exact⟨rfl,by rw[← Hb.out];exact Hbel5.out⟩
end

section
open Go.Shelf Go.RowKit Go.Lib VerN VarM
attribute [local go_sem ↓] Go.wp_at_zero Go.wp_at_succ
theorem zjh (L:List ByteArray) (x:ByteArray):(L ++ [x]).map Value.string=L.map Value.string ++ [.string x]:=by simp
theorem zhb {l:List Setg} {k:Nat} (h:k < l.length):(l.take (k+1)).map setT=(l.take k).map setT ++ [setT l[k]]:=by rw[List.take_succ_eq_append_getElem h,List.map_append];rfl
def zi7 (s:Spc3) (w:World) (e:Ending) (w':World):Prop:=∃ a c,e = .returned (.slice a (zcf s).length c)∧RTs w' [.slice a (zcf s).length c] (zcf s)∧Below w.heap.size w w'
structure WdI (w:World) (sets:List Setg) (F0:List ByteArray) (k:Nat) (v:Value) (W:World):Prop where
 row:W.ownsRow w.heap.size 9 1 v (F0.length+k) ((F0 ++ (sets.take k).map setT).map Value.string)
 bel:Below w.heap.size w W
theorem word_size (s:Spc3) (h1:s.1.size≤9000) (h3:∀ x∈s.2.2,x.1.size≤9000∧x.2.size≤9000) (h2:(zay s).size≤9223372036854775807):∀ x∈zcf s,x.size≤maxLen:=by
 have e:∀ a b:ByteArray,(a ++ b).size=a.size+b.size:=fun a b=>by rw[← Txt.len,Go.Joins.data_append,List.length_append,Txt.len,Txt.len]
 have hs:∀ x∈(if zay s=noT then [] else [zay s]) ++ s.2.2.map setT,x.size≤maxLen:=fun x hx=>by
  unfold maxLen
  rcases List.mem_append.1 hx with hx | hx
  ·split at hx
   ·simp at hx
   rw[List.mem_singleton] at hx
   rw[hx]
   exact h2
  obtain⟨y,hy,rfl⟩:=List.mem_map.1 hx
  have:=h3 y hy
  unfold setT
  rw[e,e]
  show y.1.size+1+y.2.size≤_
  omega
 intro x hx
 unfold zcf at hx
 by_cases hc:(if zay s=noT then [] else [zay s]) ++ s.2.2.map setT = []
 ·rw[if_pos hc,List.mem_singleton] at hx
  rw[hx]
  decide
 rw[if_neg hc] at hx
 exact hs x hx
theorem znu (l:List Tp) (hl:l.length≤1000):(spT (tB l)).size≤20000000:=by
 rw[spT_tB]
 unfold zc0
 split
 ·decide
 split
 ·decide
 have hF:=zha l
 have hlen:(zey l).length≤1000:=by have:=zod l;omega
 unfold joinF
 show (Lib.join (((zey l).map zc7).map (·.data.toList)) [44]).length≤_
 have hb:∀ x∈((zey l).map zc7).map (·.data.toList),x.length≤18001:=by
  intro x hx
  obtain⟨y,hy,rfl⟩:=List.mem_map.1 hx
  obtain⟨z,hz,rfl⟩:=List.mem_map.1 hy
  rw[Txt.len]
  exact zhh (hF z hz)
 have h1:=zk1 18001 _ hb
 have h2:(((zey l).map zc7).map (·.data.toList)).length≤1000:=by simpa using hlen
 obtain⟨L,hL⟩ : ∃ L,L=((zey l).map zc7).map (·.data.toList):=⟨_,rfl⟩
 rw[← hL] at h1 h2 ⊢
 cases L with
 | nil=>simp[Lib.join_nil]
 | cons x r =>
  rw[Lib.join_length]
  simp only[List.length_cons,List.length_nil] at *
  omega
theorem zie {w:World} {v1 v2:Value} {nm:ByteArray} {l:List Tp} {sets:List Setg} (h1:RSps w [v1] (tB l)) (h2:zbm w [v2] sets) (hD:zb1 w) (hl:l.length≤1000) (hm:sets.length≤1000) (hnz:nm.size≤9000) (hsz:∀ x∈sets,x.1.size≤9000∧x.2.size≤9000) :
  Calls Tryz.prog 128 #[.agg #[.string nm,v1,v2]] w (zi7 (nm,tB l,sets) w):=by
 obtain⟨a1,c1,rfl,-,-⟩:=zb8 h1
 obtain⟨a2,c2,rfl,hz2,hat⟩:=zbc h2
 obtain⟨n1,hn1⟩ : ∃ n,n=(tB l).length:=⟨_,rfl⟩
 obtain⟨n2,hn2⟩ : ∃ n,n=sets.length:=⟨_,rfl⟩
 rw[← hn1] at h1 ⊢
 rw[← hn2] at h2 hz2 hm ⊢
 obtain⟨W1,hW1⟩ : ∃ W,W=w.alloc (.cells #[.string nm,.slice a1 n1 c1,.slice a2 n2 c2] 51):=⟨_,rfl⟩
 obtain⟨g,hg⟩ : ∃ g,g=w.heap.size:=⟨_,rfl⟩
 have hb1:Below w.heap.size w W1:=by rw[hW1];exact za2 _ _
 have p0:zav g (.string nm) (.slice a1 n1 c1) (.slice a2 n2 c2) W1:=by rw[hW1,hg];exact heap_alloc_new _ _
 obtain⟨x0,x1,x2,-⟩:=zai p0
 have r1:=za3 zaf _ _ _ _ h1 hb1
 have hA:=zl4 r1
 have hT:=zh4 r1 (by omega) (hD.below hb1)
 have hts:=znu l hl
 have hst:zay (nm,tB l,sets)=if tB l=allV then nm else nm ++ (⟨#[64]⟩ ++ spT (tB l)):=rfl
 rw[spT_tB] at hts hst
 obtain⟨tx,htx⟩ : ∃ t,t=zc0 l:=⟨_,rfl⟩
 rw[← htx] at hT hts hst
 have hws:zcf (nm,tB l,sets)=if (if zay (nm,tB l,sets)=noT then [] else [zay (nm,tB l,sets)]) ++ sets.map setT = [] then [zdd] else (if zay (nm,tB l,sets)=noT then [] else [zay (nm,tB l,sets)]) ++ sets.map setT:=rfl
 have hwz:(zay (nm,tB l,sets)).size≤9223372036854775807→∀ x∈zcf (nm,tB l,sets),x.size≤maxLen:=word_size (nm,tB l,sets) hnz hsz
 obtain⟨R,hR⟩ : ∃ R,R=zcf (nm,tB l,sets):=⟨_,rfl⟩
 obtain⟨fi,hfi⟩ : ∃ f,f=zay (nm,tB l,sets):=⟨_,rfl⟩
 rw[← hR] at hws hwz
 rw[← hfi] at hst hws hwz
 unfold zi7
 rw[← hR]
 obtain⟨al,hal⟩ : ∃ b,b=decide (tB l=allV):=⟨_,rfl⟩
 rw[← hal] at hA
 have hnd:=Txt.no_dec nm
 have hsize:∀ a b:ByteArray,(a ++ b).size=a.size+b.size:=fun a b=>by rw[← Txt.len,Go.Joins.data_append,List.length_append,Txt.len,Txt.len]
 obtain⟨H1,H2,HD,Hl,Hb1,Hp0,Hr1,HA,HT,Hts,Hst,Hws,Hwz,HR,Hfi,Htx⟩:=hd16 h1 h2 hD hl hb1 p0 r1 hA hT hts hst hws hwz hR hfi htx;obtain⟨Hal,Hn1,Hn2,Hat,Hsz,Hsize⟩:=hd6 hal hn1 hn2 hat hsz hsize;clear h1 h2 hD hl hb1 p0 r1 hA hT hts hst hws hwz hR hfi htx hal hn1 hn2 hat hsz hsize
 go_enter Tryz.func128,Tryz.ntmps128
 go_upto_region 1 with (fail)
 rw[← hW1,← hg]
 clear hW1 hg
 cases al with
 | true =>
  have hfn:fi=nm:=by rw[Hst.out,if_pos (of_decide_eq_true Hal.out.symm)]
  by_cases hne:nm.size=0
  ·have k1:nm.toList.isEmpty=true:=by rw[hnd];exact decide_eq_true hne
   have hF0':(if fi=noT then [] else [fi])=([] : List ByteArray):=if_pos (by rw[hfn];exact Txt.ext (List.eq_nil_of_length_eq_zero (by rw[Txt.len];exact hne)))
   have hfz:fi.size≤9223372036854775807:=by rw[hfn];omega
   obtain⟨F0,hFe⟩ : ∃ F:List ByteArray,F = []:=⟨_,rfl⟩
   have hF0:(if fi=noT then [] else [fi])=F0:=by rw[hFe];exact hF0'
   clear hF0'
   have hF1:F0.length≤1:=by rw[hFe];exact Nat.zero_le _
   have hI:WdI w sets F0 0 (.slice none 0 0) W1:=⟨by rw[hFe];exact World.ownsRow_nil _ _ _ _,Hb1.out⟩
   clear hnd
   obtain⟨Hfn,Hne,HF0,Hfz,HFe,HF1,HI⟩:=hd7 hfn hne hF0 hfz hFe hF1 hI;clear hfn hne hF0 hfz hFe hF1 hI
   go_wp2_with fail
   refine HA.out.mono ?_
   rintro e wz ⟨rfl,hwz'⟩
   subst hwz'
   go_upto_region 7 with (fail)
   have Hp:=Lib.hid Hp0.out
   obtain⟨y0,y1,y2,-⟩:=zai Hp.out
   clear x0 x1 x2 k1
   go_wp2_with fail
   go_loopw [4,28] (fun v i wr=>∃ k:Nat,k≤n2∧i = .int .i64 k∧WdI w sets F0 k v wr) (fun _ i _=>n2 - (RowKit.intOf i).toNat)
   case atStart=>exact⟨0,Nat.zero_le _,rfl,HI.out⟩
   case round =>
    obtain⟨k,hk,rfl,hI⟩:=hrel
    obtain⟨z,hz⟩ : ∃ z,z=F0.length+k:=⟨_,rfl⟩
    have hrow:=hI.row
    rw[← hz] at hrow
    obtain⟨ra,rc,rfl⟩:=zaj hrow
    have hzs:z≤1001:=by have:=HF1.out;omega
    by_cases hlt:k < n2
    ·have hkl:k < sets.length:=by have:=Hn2.out;omega
     obtain⟨x,hx⟩ : ∃ x,x=sets[k]:=⟨_,rfl⟩
     obtain⟨b,off,rfl,d0,d1,hs1,hs2⟩:=Hat.out k x (by rw[hx];exact List.getElem?_eq_getElem hkl)
     have e0:=cell_later hI.bel d0
     have e1:=cell_later hI.bel d1
     have hnext:=zhb hkl
     rw[← hx] at hnext
     have hset:setT x=x.1 ++ ⟨#[61]⟩ ++ x.2:=rfl
     obtain⟨s,hs⟩ : ∃ s,s=x.1:=⟨_,rfl⟩
     obtain⟨t,ht⟩ : ∃ s,s=x.2:=⟨_,rfl⟩
     rw[← hs,← ht] at hset
     have hxz:=Hsz.out x (by rw[hx];exact List.getElem_mem hkl)
     rw[← hs,← ht] at hxz
     obtain⟨hss,htt⟩:=hxz
     rw[← hs] at e0
     rw[← ht] at e1
     obtain⟨sb,hsb⟩ : ∃ z,z=wr.heap.size:=⟨_,rfl⟩
     obtain⟨w5,hw5⟩ : ∃ W,W=wr.alloc (.cells #[.string s,.string t] 109):=⟨_,rfl⟩
     have hba:Below wr.heap.size wr w5:=by rw[hw5];exact za2 _ _
     have p6:w5.heap[sb]? = some (.cells #[.string s,.string t] 109 (0,0)):=by rw[hw5,hsb];exact heap_alloc_new _ _
     have f0:=za1 p6 0
     have f1:=za1 p6 1
     simp only[List.getElem?_toArray,List.getElem?_cons_zero,List.getElem?_cons_succ] at f0 f1
     have hrow5:=za8 hrow hba
     have hbel5:=hI.bel.trans (hba.mono hI.bel.size)
     have hbw5:=hbel5.size
     obtain⟨N,hN⟩ : ∃ N,N=(F0 ++ (sets.take k).map setT).map Value.string:=⟨_,rfl⟩
     rw[← hN] at hrow5
     have k5:(0:Int)≤(k:Int):=by omega
     have k6:(k:Int) < (n2:Int):=by omega
     clear d0 d1 hs1 hs2
     obtain⟨HI,Hz,Hrow,Hx,Hs,Ht,Hnext,Hset,Hba,Hrow5,Hbel5,Hbw5,HN,Hp6⟩:=hd14 hI hz hrow hx hs ht hnext hset hba hrow5 hbel5 hbw5 hN p6;clear hI hz hrow hx hs ht hnext hset hba hrow5 hbel5 hbw5 hN p6
     go_upto_region 10 with (fail)
     rw[← hw5,← hsb]
     clear hw5 hsb e0 e1
     go_wp2_with (at_builtin;(refine zan zdn rfl (.tmp 32) (.tmp 39) rfl w.heap.size (.slice ra z rc) z N rfl Hrow5.out 1 _ rfl rfl (by simp[Value.oneCell']) (by omega) (by unfold maxLen;omega) Hbw5.out ?_;intro v9 w9 hown9 hg9 hm9;obtain⟨a9,c9,rfl⟩:=zaj hown9;have hb9:=(zdg Hbel5.out Hrow5.out (Nat.le_refl _) hg9 Hbw5.out:Below w.heap.size w w9);obtain⟨Hown9,Hb9⟩:=hd2 hown9 hb9;clear hown9 hg9 hm9 hb9))
     go_roundw
     case rel =>
      refine⟨k+1,by omega,by go_num,⟨?_,Hb9.out⟩⟩
      rw[Hnext.out,← List.append_assoc,zjh,← HN.out,← Nat.add_assoc,← Hz.out,Hset.out]
      exact Hown9.out
     case measure=>(simp[RowKit.intOf]) <;> omega
    obtain rfl:k=n2:=by omega
    have htk:(sets.take k).map setT=sets.map setT:=by rw[List.take_of_length_le (Nat.le_of_eq Hn2.out.symm)]
    have hws2:=Hws.out
    rw[HF0.out] at hws2
    rw[htk] at hrow
    have hlen:(F0 ++ sets.map setT).length=z:=by rw[List.length_append,List.length_map,hz,Hn2.out]
    have hRz:=Hwz.out Hfz.out
    by_cases hz0:z=0
    ·subst hz0
     have hL:F0 ++ sets.map setT = []:=List.eq_nil_of_length_eq_zero hlen
     rw[if_pos hL] at hws2
     have hlit:(wr.alloc (.cells #[.string ⟨#[42]⟩] 9)).ownsRow wr.heap.size 9 1 (.slice (some ⟨wr.heap.size,0,none⟩) 1 1) 1 [.string ⟨#[42]⟩]:=World.ownsRow_lit (base:=wr.heap.size) (e:=9) (size:=1) wr #[.string ⟨#[42]⟩] 1 (Nat.le_refl _) (by decide) rfl
     have hbz:Below w.heap.size w (wr.alloc (.cells #[.string ⟨#[42]⟩] 9)):=hI.bel.alloc hI.bel.size _
     obtain⟨HI,Hz,Hrow,Htk,Hws2,Hlen,HRz,HL,Hlit,Hbz⟩:=hd10 hI hz hrow htk hws2 hlen hRz hL hlit hbz;clear hI hz hrow htk hws2 hlen hRz hL hlit hbz
     go_wp2_with fail
     go_ret
     have hfin:R = [zdd]:=Hws2.out
     refine⟨some ⟨wr.heap.size,0,none⟩,1,by rw[hfin];rfl,?_,Hbz.out⟩
     rw[hfin]
     exact zdj (l:=[zdd]) Hlit.out (fun x hx=>by rw[List.mem_singleton] at hx;rw[hx];decide)
    have k7:((z:Int) == 0)=false:=by rw[beq_eq_false_iff_ne];omega
    have hL:F0 ++ sets.map setT≠[]:=fun e=>by rw[e] at hlen;exact hz0 hlen.symm
    rw[if_neg hL] at hws2
    rw[← hws2] at hrow hlen
    have hI2:=hI
    obtain⟨HI,HI2,Hz,Hrow,Htk,Hws2,Hlen,HRz,HL,Hz0⟩:=hd10 hI hI2 hz hrow htk hws2 hlen hRz hL hz0;clear hI hI2 hz hrow htk hws2 hlen hRz hL hz0
    go_wp2_with fail
    go_ret
    refine⟨ra,rc,by rw[Hlen.out];rfl,?_,HI2.out.bel⟩
    rw[Hlen.out]
    exact zdj Hrow.out HRz.out
  have k1:nm.toList.isEmpty=false:=by rw[hnd];exact decide_eq_false hne
  have hF0':(if fi=noT then [] else [fi]) = [nm]:=by rw[hfn];exact if_neg (by intro e;rw[e] at hne;exact hne rfl)
  have hfz:fi.size≤9223372036854775807:=by rw[hfn];omega
  obtain⟨F0,hFe⟩ : ∃ F:List ByteArray,F = [nm]:=⟨_,rfl⟩
  have hF0:(if fi=noT then [] else [fi])=F0:=by rw[hFe];exact hF0'
  clear hF0'
  have hF1:F0.length≤1:=by rw[hFe];exact Nat.le_refl _
  have hbs:=Hb1.out.size
  have hnil:W1.ownsRow w.heap.size 9 1 (.slice none 0 0) 0 []:=World.ownsRow_nil _ _ _ _
  clear hnd
  obtain⟨Hfn,Hne,HF0,Hfz,Hnil,HFe,HF1⟩:=hd7 hfn hne hF0 hfz hnil hFe hF1;clear hfn hne hF0 hfz hnil hFe hF1
  go_wp2_with fail
  refine HA.out.mono ?_
  rintro e wz ⟨rfl,hwz'⟩
  subst hwz'
  go_wp2_with (at_builtin;(refine zan zdn rfl (.tmp 21) (.tmp 23) rfl w.heap.size (.slice none 0 0) 0 [] rfl Hnil.out 1 #[.string nm] rfl rfl (by simp[Value.oneCell']) (by omega) (by unfold maxLen;omega) hbs ?_;intro v9 w9 hown9 hg9 hm9;obtain⟨a9,c9,rfl⟩:=zaj hown9;have hb9:=(zdg Hb1.out Hnil.out (Nat.le_refl _) hg9 hbs:Below w.heap.size w w9);have Hp:=Lib.hid ((hg9.block g (Array.getElem?_eq_some_iff.1 Hp0.out).1 (by simp[Value.ownBlock])).trans Hp0.out:zav g (.string nm) (.slice a1 n1 c1) (.slice a2 n2 c2) w9);have HI:=Lib.hid (⟨by rw[HFe.out];exact hown9,hb9⟩ : WdI w sets F0 0 (.slice a9 1 c9) w9);obtain⟨y0,y1,y2,-⟩:=zai Hp.out;clear hown9 hg9 hm9 hb9))
  clear x0 x1 x2 k1
  go_loopw [4,28] (fun v i wr=>∃ k:Nat,k≤n2∧i = .int .i64 k∧WdI w sets F0 k v wr) (fun _ i _=>n2 - (RowKit.intOf i).toNat)
  case atStart=>exact⟨0,Nat.zero_le _,rfl,HI.out⟩
  case round =>
   obtain⟨k,hk,rfl,hI⟩:=hrel
   obtain⟨z,hz⟩ : ∃ z,z=F0.length+k:=⟨_,rfl⟩
   have hrow:=hI.row
   rw[← hz] at hrow
   obtain⟨ra,rc,rfl⟩:=zaj hrow
   have hzs:z≤1001:=by have:=HF1.out;omega
   by_cases hlt:k < n2
   ·have hkl:k < sets.length:=by have:=Hn2.out;omega
    obtain⟨x,hx⟩ : ∃ x,x=sets[k]:=⟨_,rfl⟩
    obtain⟨b,off,rfl,d0,d1,hs1,hs2⟩:=Hat.out k x (by rw[hx];exact List.getElem?_eq_getElem hkl)
    have e0:=cell_later hI.bel d0
    have e1:=cell_later hI.bel d1
    have hnext:=zhb hkl
    rw[← hx] at hnext
    have hset:setT x=x.1 ++ ⟨#[61]⟩ ++ x.2:=rfl
    obtain⟨s,hs⟩ : ∃ s,s=x.1:=⟨_,rfl⟩
    obtain⟨t,ht⟩ : ∃ s,s=x.2:=⟨_,rfl⟩
    rw[← hs,← ht] at hset
    have hxz:=Hsz.out x (by rw[hx];exact List.getElem_mem hkl)
    rw[← hs,← ht] at hxz
    obtain⟨hss,htt⟩:=hxz
    rw[← hs] at e0
    rw[← ht] at e1
    obtain⟨sb,hsb⟩ : ∃ z,z=wr.heap.size:=⟨_,rfl⟩
    obtain⟨w5,hw5⟩ : ∃ W,W=wr.alloc (.cells #[.string s,.string t] 109):=⟨_,rfl⟩
    have hba:Below wr.heap.size wr w5:=by rw[hw5];exact za2 _ _
    have p6:w5.heap[sb]? = some (.cells #[.string s,.string t] 109 (0,0)):=by rw[hw5,hsb];exact heap_alloc_new _ _
    have f0:=za1 p6 0
    have f1:=za1 p6 1
    simp only[List.getElem?_toArray,List.getElem?_cons_zero,List.getElem?_cons_succ] at f0 f1
    have hrow5:=za8 hrow hba
    have hbel5:=hI.bel.trans (hba.mono hI.bel.size)
    have hbw5:=hbel5.size
    obtain⟨N,hN⟩ : ∃ N,N=(F0 ++ (sets.take k).map setT).map Value.string:=⟨_,rfl⟩
    rw[← hN] at hrow5
    have k5:(0:Int)≤(k:Int):=by omega
    have k6:(k:Int) < (n2:Int):=by omega
    clear d0 d1 hs1 hs2
    obtain⟨HI,Hz,Hrow,Hx,Hs,Ht,Hnext,Hset,Hba,Hrow5,Hbel5,Hbw5,HN,Hp6⟩:=hd14 hI hz hrow hx hs ht hnext hset hba hrow5 hbel5 hbw5 hN p6;clear hI hz hrow hx hs ht hnext hset hba hrow5 hbel5 hbw5 hN p6
    go_upto_region 10 with (fail)
    rw[← hw5,← hsb]
    clear hw5 hsb e0 e1
    go_wp2_with (at_builtin;(refine zan zdn rfl (.tmp 32) (.tmp 39) rfl w.heap.size (.slice ra z rc) z N rfl Hrow5.out 1 _ rfl rfl (by simp[Value.oneCell']) (by omega) (by unfold maxLen;omega) Hbw5.out ?_;intro v9 w9 hown9 hg9 hm9;obtain⟨a9,c9,rfl⟩:=zaj hown9;have hb9:=(zdg Hbel5.out Hrow5.out (Nat.le_refl _) hg9 Hbw5.out:Below w.heap.size w w9);obtain⟨Hown9,Hb9⟩:=hd2 hown9 hb9;clear hown9 hg9 hm9 hb9))
    go_roundw
    case rel =>
     refine⟨k+1,by omega,by go_num,⟨?_,Hb9.out⟩⟩
     rw[Hnext.out,← List.append_assoc,zjh,← HN.out,← Nat.add_assoc,← Hz.out,Hset.out]
     exact Hown9.out
    case measure=>(simp[RowKit.intOf]) <;> omega
   obtain rfl:k=n2:=by omega
   have htk:(sets.take k).map setT=sets.map setT:=by rw[List.take_of_length_le (Nat.le_of_eq Hn2.out.symm)]
   have hws2:=Hws.out
   rw[HF0.out] at hws2
   rw[htk] at hrow
   have hlen:(F0 ++ sets.map setT).length=z:=by rw[List.length_append,List.length_map,hz,Hn2.out]
   have hRz:=Hwz.out Hfz.out
   by_cases hz0:z=0
   ·subst hz0
    have hL:F0 ++ sets.map setT = []:=List.eq_nil_of_length_eq_zero hlen
    rw[if_pos hL] at hws2
    have hlit:(wr.alloc (.cells #[.string ⟨#[42]⟩] 9)).ownsRow wr.heap.size 9 1 (.slice (some ⟨wr.heap.size,0,none⟩) 1 1) 1 [.string ⟨#[42]⟩]:=World.ownsRow_lit (base:=wr.heap.size) (e:=9) (size:=1) wr #[.string ⟨#[42]⟩] 1 (Nat.le_refl _) (by decide) rfl
    have hbz:Below w.heap.size w (wr.alloc (.cells #[.string ⟨#[42]⟩] 9)):=hI.bel.alloc hI.bel.size _
    obtain⟨HI,Hz,Hrow,Htk,Hws2,Hlen,HRz,HL,Hlit,Hbz⟩:=hd10 hI hz hrow htk hws2 hlen hRz hL hlit hbz;clear hI hz hrow htk hws2 hlen hRz hL hlit hbz
    go_wp2_with fail
    go_ret
    have hfin:R = [zdd]:=Hws2.out
    refine⟨some ⟨wr.heap.size,0,none⟩,1,by rw[hfin];rfl,?_,Hbz.out⟩
    rw[hfin]
    exact zdj (l:=[zdd]) Hlit.out (fun x hx=>by rw[List.mem_singleton] at hx;rw[hx];decide)
   have k7:((z:Int) == 0)=false:=by rw[beq_eq_false_iff_ne];omega
   have hL:F0 ++ sets.map setT≠[]:=fun e=>by rw[e] at hlen;exact hz0 hlen.symm
   rw[if_neg hL] at hws2
   rw[← hws2] at hrow hlen
   have hI2:=hI
   obtain⟨HI,HI2,Hz,Hrow,Htk,Hws2,Hlen,HRz,HL,Hz0⟩:=hd10 hI hI2 hz hrow htk hws2 hlen hRz hL hz0;clear hI hI2 hz hrow htk hws2 hlen hRz hL hz0
   go_wp2_with fail
   go_ret
   refine⟨ra,rc,by rw[Hlen.out];rfl,?_,HI2.out.bel⟩
   rw[Hlen.out]
   exact zdj Hrow.out HRz.out
 | false =>
  have hfn:fi=nm ++ (⟨#[64]⟩ ++ tx):=by rw[Hst.out,if_neg (of_decide_eq_false Hal.out.symm)]
  have hne:fi≠noT:=by rw[hfn];exact app_ne (ne_app (by decide))
  have hfz:fi.size≤9223372036854775807:=by
   have:=Hts.out
   have e1:=Hsize.out nm (⟨#[64]⟩ ++ tx)
   have e2:=Hsize.out ⟨#[64]⟩ tx
   have e3:(⟨#[64]⟩ : ByteArray).size=1:=rfl
   rw[hfn]
   omega
  obtain⟨F0,hFe⟩ : ∃ F:List ByteArray,F = [nm ++ (⟨#[64]⟩ ++ tx)]:=⟨_,rfl⟩
  have hF0:(if fi=noT then [] else [fi])=F0:=by rw[if_neg hne,hFe,hfn]
  have hF1:F0.length≤1:=by rw[hFe];exact Nat.le_refl _
  have k1:(nm ++ (⟨#[64]⟩ ++ tx)).toList.isEmpty=false:=by
   rw[Txt.no_dec]
   refine decide_eq_false fun h=>?_
   apply hne
   rw[hfn]
   exact Txt.ext (List.eq_nil_of_length_eq_zero (by rw[Txt.len];exact h))
  clear hnd
  have htxz:=Hts.out
  obtain⟨Hfn,Hne,HF0,Hfz,HFe,HF1⟩:=hd6 hfn hne hF0 hfz hFe hF1;clear hfn hne hF0 hfz hFe hF1
  go_wp2_with fail
  refine HA.out.mono ?_
  rintro e wz ⟨rfl,hwz'⟩
  subst hwz'
  go_wp2_with fail
  refine HT.out.mono ?_
  rintro e wt ⟨rfl,hbt1⟩
  have hbt:=Hb1.out.trans (hbt1.mono Hb1.out.size)
  have hpt:=za0 hbt1 Hp0.out
  have hbs:=hbt.size
  have hnil:wt.ownsRow w.heap.size 9 1 (.slice none 0 0) 0 []:=World.ownsRow_nil _ _ _ _
  obtain⟨Hbt1,Hbt,Hpt,Hnil⟩:=hd4 hbt1 hbt hpt hnil;clear hbt1 hbt hpt hnil
  go_wp2_with (at_builtin;(refine zan zdn rfl (.tmp 21) (.tmp 23) rfl w.heap.size (.slice none 0 0) 0 [] rfl Hnil.out 1 _ rfl rfl (by simp[Value.oneCell']) (by omega) (by unfold maxLen;omega) hbs ?_;intro v9 w9 hown9 hg9 hm9;obtain⟨a9,c9,rfl⟩:=zaj hown9;have hb9:=(zdg Hbt.out Hnil.out (Nat.le_refl _) hg9 hbs:Below w.heap.size w w9);have Hp:=Lib.hid ((hg9.block g (Array.getElem?_eq_some_iff.1 Hpt.out).1 (by simp[Value.ownBlock])).trans Hpt.out:zav g (.string nm) (.slice a1 n1 c1) (.slice a2 n2 c2) w9);have HI:=Lib.hid (⟨by rw[HFe.out];exact hown9,hb9⟩ : WdI w sets F0 0 (.slice a9 1 c9) w9);obtain⟨y0,y1,y2,-⟩:=zai Hp.out;clear hown9 hg9 hm9 hb9))
  clear x0 x1 x2 k1
  go_loopw [4,28] (fun v i wr=>∃ k:Nat,k≤n2∧i = .int .i64 k∧WdI w sets F0 k v wr) (fun _ i _=>n2 - (RowKit.intOf i).toNat)
  case atStart=>exact⟨0,Nat.zero_le _,rfl,HI.out⟩
  case round =>
   obtain⟨k,hk,rfl,hI⟩:=hrel
   obtain⟨z,hz⟩ : ∃ z,z=F0.length+k:=⟨_,rfl⟩
   have hrow:=hI.row
   rw[← hz] at hrow
   obtain⟨ra,rc,rfl⟩:=zaj hrow
   have hzs:z≤1001:=by have:=HF1.out;omega
   by_cases hlt:k < n2
   ·have hkl:k < sets.length:=by have:=Hn2.out;omega
    obtain⟨x,hx⟩ : ∃ x,x=sets[k]:=⟨_,rfl⟩
    obtain⟨b,off,rfl,d0,d1,hs1,hs2⟩:=Hat.out k x (by rw[hx];exact List.getElem?_eq_getElem hkl)
    have e0:=cell_later hI.bel d0
    have e1:=cell_later hI.bel d1
    have hnext:=zhb hkl
    rw[← hx] at hnext
    have hset:setT x=x.1 ++ ⟨#[61]⟩ ++ x.2:=rfl
    obtain⟨s,hs⟩ : ∃ s,s=x.1:=⟨_,rfl⟩
    obtain⟨t,ht⟩ : ∃ s,s=x.2:=⟨_,rfl⟩
    rw[← hs,← ht] at hset
    have hxz:=Hsz.out x (by rw[hx];exact List.getElem_mem hkl)
    rw[← hs,← ht] at hxz
    obtain⟨hss,htt⟩:=hxz
    rw[← hs] at e0
    rw[← ht] at e1
    obtain⟨sb,hsb⟩ : ∃ z,z=wr.heap.size:=⟨_,rfl⟩
    obtain⟨w5,hw5⟩ : ∃ W,W=wr.alloc (.cells #[.string s,.string t] 109):=⟨_,rfl⟩
    have hba:Below wr.heap.size wr w5:=by rw[hw5];exact za2 _ _
    have p6:w5.heap[sb]? = some (.cells #[.string s,.string t] 109 (0,0)):=by rw[hw5,hsb];exact heap_alloc_new _ _
    have f0:=za1 p6 0
    have f1:=za1 p6 1
    simp only[List.getElem?_toArray,List.getElem?_cons_zero,List.getElem?_cons_succ] at f0 f1
    have hrow5:=za8 hrow hba
    have hbel5:=hI.bel.trans (hba.mono hI.bel.size)
    have hbw5:=hbel5.size
    obtain⟨N,hN⟩ : ∃ N,N=(F0 ++ (sets.take k).map setT).map Value.string:=⟨_,rfl⟩
    rw[← hN] at hrow5
    have k5:(0:Int)≤(k:Int):=by omega
    have k6:(k:Int) < (n2:Int):=by omega
    clear d0 d1 hs1 hs2
    obtain⟨HI,Hz,Hrow,Hx,Hs,Ht,Hnext,Hset,Hba,Hrow5,Hbel5,Hbw5,HN,Hp6⟩:=hd14 hI hz hrow hx hs ht hnext hset hba hrow5 hbel5 hbw5 hN p6;clear hI hz hrow hx hs ht hnext hset hba hrow5 hbel5 hbw5 hN p6
    go_upto_region 10 with (fail)
    rw[← hw5,← hsb]
    clear hw5 hsb e0 e1
    go_wp2_with (at_builtin;(refine zan zdn rfl (.tmp 32) (.tmp 39) rfl w.heap.size (.slice ra z rc) z N rfl Hrow5.out 1 _ rfl rfl (by simp[Value.oneCell']) (by omega) (by unfold maxLen;omega) Hbw5.out ?_;intro v9 w9 hown9 hg9 hm9;obtain⟨a9,c9,rfl⟩:=zaj hown9;have hb9:=(zdg Hbel5.out Hrow5.out (Nat.le_refl _) hg9 Hbw5.out:Below w.heap.size w w9);obtain⟨Hown9,Hb9⟩:=hd2 hown9 hb9;clear hown9 hg9 hm9 hb9))
    go_roundw
    case rel =>
     refine⟨k+1,by omega,by go_num,⟨?_,Hb9.out⟩⟩
     rw[Hnext.out,← List.append_assoc,zjh,← HN.out,← Nat.add_assoc,← Hz.out,Hset.out]
     exact Hown9.out
    case measure=>(simp[RowKit.intOf]) <;> omega
   obtain rfl:k=n2:=by omega
   have htk:(sets.take k).map setT=sets.map setT:=by rw[List.take_of_length_le (Nat.le_of_eq Hn2.out.symm)]
   have hws2:=Hws.out
   rw[HF0.out] at hws2
   rw[htk] at hrow
   have hlen:(F0 ++ sets.map setT).length=z:=by rw[List.length_append,List.length_map,hz,Hn2.out]
   have hRz:=Hwz.out Hfz.out
   by_cases hz0:z=0
   ·subst hz0
    have hL:F0 ++ sets.map setT = []:=List.eq_nil_of_length_eq_zero hlen
    rw[if_pos hL] at hws2
    have hlit:(wr.alloc (.cells #[.string ⟨#[42]⟩] 9)).ownsRow wr.heap.size 9 1 (.slice (some ⟨wr.heap.size,0,none⟩) 1 1) 1 [.string ⟨#[42]⟩]:=World.ownsRow_lit (base:=wr.heap.size) (e:=9) (size:=1) wr #[.string ⟨#[42]⟩] 1 (Nat.le_refl _) (by decide) rfl
    have hbz:Below w.heap.size w (wr.alloc (.cells #[.string ⟨#[42]⟩] 9)):=hI.bel.alloc hI.bel.size _
    obtain⟨HI,Hz,Hrow,Htk,Hws2,Hlen,HRz,HL,Hlit,Hbz⟩:=hd10 hI hz hrow htk hws2 hlen hRz hL hlit hbz;clear hI hz hrow htk hws2 hlen hRz hL hlit hbz
    go_wp2_with fail
    go_ret
    have hfin:R = [zdd]:=Hws2.out
    refine⟨some ⟨wr.heap.size,0,none⟩,1,by rw[hfin];rfl,?_,Hbz.out⟩
    rw[hfin]
    exact zdj (l:=[zdd]) Hlit.out (fun x hx=>by rw[List.mem_singleton] at hx;rw[hx];decide)
   have k7:((z:Int) == 0)=false:=by rw[beq_eq_false_iff_ne];omega
   have hL:F0 ++ sets.map setT≠[]:=fun e=>by rw[e] at hlen;exact hz0 hlen.symm
   rw[if_neg hL] at hws2
   rw[← hws2] at hrow hlen
   have hI2:=hI
   obtain⟨HI,HI2,Hz,Hrow,Htk,Hws2,Hlen,HRz,HL,Hz0⟩:=hd10 hI hI2 hz hrow htk hws2 hlen hRz hL hz0;clear hI hI2 hz hrow htk hws2 hlen hRz hL hz0
   go_wp2_with fail
   go_ret
   refine⟨ra,rc,by rw[Hlen.out];rfl,?_,HI2.out.bel⟩
   rw[Hlen.out]
   exact zdj Hrow.out HRz.out
end

namespace LexM
def zm7 (N:Nat) (x:Wd):Prop:=1≤x.1∧x.1≤(N:Int)∧x.2≠[]∧x.2.length≤N
def zkh (N:Nat) (l:Ln):Prop:=1≤l.1∧l.2≠[]∧l.2.length≤40∧∀ x∈l.2,zm7 N x
theorem zm7.mono {N M:Nat} (h:N≤M) {x:Wd} (g:zm7 N x):zm7 M x:=⟨g.1,by have:=g.2.1;omega,g.2.2.1,Nat.le_trans g.2.2.2 h⟩
theorem rerr_room {t:Bs} {room:Bool} {s:RS} {i:Nat} {c:UInt8} (h:rerr t room s i c=0) (hk:zec t s i c=false):s.out.length≠40:=by
 intro e
 unfold rerr at h
 rw[hk] at h
 split at h
 ·cases h
 simp[e] at h
theorem zo1 {t:Bs} {room:Bool}:∀ (r:Bs) (s:RS) (i:Nat),t.drop i=r→s.out.length≤40→(∀ x∈s.out,zm7 t.length x)→(∀ x∈(rgo t room s i r).1,zm7 t.length x)∧(rgo t room s i r).1.length≤40
 | [],s,i,_,hl,h=>⟨h,hl⟩
 | c :: r,s,i,hd,hl,h=>by
  obtain⟨hg,hd2,hi⟩:=zeg hd
  unfold rgo
  by_cases he:rerr t room s i c=0
  ·rw[if_pos he]
   refine zo1 r _ (i+1) hd2 ?_ ?_
   ·unfold zed
    dsimp only
    split
    ·exact hl
    rename_i hk
    have:=rerr_room he (by simpa using hk)
    rw[List.length_append,List.length_singleton]
    omega
   intro x hx
   unfold zed at hx
   dsimp only at hx
   split at hx
   ·exact h x hx
   rename_i hk
   rcases List.mem_append.1 hx with hx | hx
   ·exact h x hx
   rw[List.mem_singleton] at hx
   subst hx
   have hp:part c=true:=by
    unfold zec at hk
    simp only[Bool.or_eq_true,not_or,Bool.not_eq_true',Bool.not_eq_false] at hk
    exact hk.1.2
   refine⟨by show (1:Int)≤(i:Int)+1;omega,by show (i:Int)+1≤(t.length:Int);omega,?_,?_⟩
   ·show zim t i≠[]
    rw[zkj hd hp]
    simp
   show (zim t i).length≤t.length
   unfold zim
   refine Nat.le_trans (List.takeWhile_sublist _).length_le ?_
   rw[List.length_drop]
   omega
  rw[if_neg he]
  exact⟨h,hl⟩
theorem ziw (t:Bs) (room:Bool):(∀ x∈(zgp t room).1,zm7 t.length x)∧(zgp t room).1.length≤40:=zo1 t _ 0 rfl (Nat.zero_le _) (fun x hx=>by simp at hx)
theorem zjc {N:Nat} {out:List Ln} {n:Int} {ws:List Wd} (h:∀ l∈out,zkh N l) (hn:1≤n) (h40:ws.length≤40) (hw:∀ x∈ws,zm7 N x):∀ l∈zkc out n ws,zkh N l:=by
 unfold zkc
 split
 ·exact h
 rename_i h0
 intro l hl
 rcases List.mem_append.1 hl with hl | hl
 ·exact h l hl
 rw[List.mem_singleton] at hl
 subst hl
 exact⟨hn,h0,h40,hw⟩
theorem zm2 (out:List Ln) (n:Int) (ws:List Wd):(zkc out n ws).length≤out.length+1:=by
 unfold zkc
 split <;> simp
theorem zfg {N:Nat}:∀ (r:Bs) (n:Int) (cur:Bs) (out:List Ln),1≤n→cur.length+r.length≤N→(∀ l∈out,zkh N l)→(∀ l∈(zf4 n cur out r).lines,zkh N l)∧(zf4 n cur out r).lines.length≤out.length+r.length+1
 | [],n,cur,out,hn,hN,h=>by
  have hg:=ziw cur (decide (out.length < 2000))
  simp only[List.length_nil] at hN
  unfold zf4
  dsimp only
  split
  ·exact⟨zjc h hn hg.2 (fun x hx=>(hg.1 x hx).mono (by omega)),by have:=zm2 out n (zgp cur (decide (out.length < 2000))).1;simp;omega⟩
  exact⟨fun l hl=>by simp at hl,by simp⟩
 | c :: r,n,cur,out,hn,hN,h=>by
  have hg:=ziw cur (decide (out.length < 2000))
  simp only[List.length_cons] at hN ⊢
  unfold zf4
  split
  ·dsimp only
   split
   ·have:=zfg r (n+1) [] (zkc out n (zgp cur (decide (out.length < 2000))).1) (by omega) (by simp;omega) (zjc h hn hg.2 (fun x hx=>(hg.1 x hx).mono (by omega)))
    have h2:=zm2 out n (zgp cur (decide (out.length < 2000))).1
    exact⟨this.1,by omega⟩
   exact⟨fun l hl=>by simp at hl,by simp⟩
  have:=zfg r n (cur ++ [c]) out hn (by simp;omega) h
  exact⟨this.1,by omega⟩
theorem doc_good (t:Bs):(∀ l∈(docLines t).lines,zkh t.length l)∧(docLines t).lines.length≤t.length+1:=by
 unfold docLines
 split
 ·exact⟨fun l hl=>by simp at hl,by simp⟩
 have:=zfg (N:=t.length) t 1 [] [] (by omega) (by simp) (fun l hl=>by simp at hl)
 simpa using this
theorem doc_good7 (t:Bs):(∀ l∈(docLines t).lines,zkh 70000 l)∧(docLines t).lines.length≤70001:=by
 by_cases h:65536 < t.length
 ·unfold docLines
  rw[if_pos h]
  exact⟨fun l hl=>by simp at hl,by simp⟩
 have h1:=doc_good t
 exact⟨fun l hl=>by obtain⟨k1,k2,k3,k4⟩:=h1.1 l hl;exact⟨k1,k2,k3,fun x hx=>(k4 x hx).mono (by omega)⟩,by omega⟩
end LexM

section
open Go.Lib VerN VarM
open LexM (Wd Ln)
abbrev zos:=List Wd→Nat→Option Spc3 × Nat
def zg9 (R:zos) (t:ByteArray) (s:Spc3):Prop:=(LexM.docLines t.data.toList).e=0∧∃ ln,(LexM.docLines t.data.toList).lines = [ln]∧wt ln.2=t.data.toList∧R ln.2 0=(some s,ln.2.length)
open Classical in
noncomputable def zh6 (R:zos) (s:Spc3):ByteArray × Bool:=if zg9 R (zgl s) s then (zgl s,true) else (noT,false)
theorem zks {R:zos} {s:Spc3} (h:zg9 R (zgl s) s):zh6 R s=(zgl s,true):=by unfold zh6;rw[if_pos h]
theorem specR_no {R:zos} {s:Spc3} (h:¬ zg9 R (zgl s) s):zh6 R s=(noT,false):=by unfold zh6;rw[if_neg h]
structure Sp (s:Spc3) (l:List Tp):Prop where
 sp:s.2.1=tB l
 l1:l.length≤1000
 nm:s.1.size≤9000
 sl:s.2.2.length≤1000
 sz:∀ x∈s.2.2,x.1.size≤9000∧x.2.size≤9000
theorem zkb (a b:ByteArray):(a ++ b).size=a.size+b.size:=by rw[← Txt.len,Go.Joins.data_append,List.length_append,Txt.len,Txt.len]
theorem Sp.first {s:Spc3} {l:List Tp} (h:Sp s l):(zay s).size≤20009001:=by
 have h1:=znu l h.l1
 have h2:=h.nm
 unfold zay
 rw[h.sp]
 split
 ·omega
 rw[zkb,zkb]
 have:(⟨#[64]⟩ : ByteArray).size=1:=rfl
 omega
theorem Sp.words {s:Spc3} {l:List Tp} (h:Sp s l):(∀ x∈zcf s,x.size≤20009001)∧(zcf s).length≤1001∧zcf s≠[]:=by
 have hs:∀ x∈(if zay s=noT then [] else [zay s]) ++ s.2.2.map setT,x.size≤20009001:=fun x hx=>by
  rcases List.mem_append.1 hx with hx | hx
  ·split at hx
   ·simp at hx
   rw[List.mem_singleton] at hx
   rw[hx]
   exact h.first
  obtain⟨y,hy,rfl⟩:=List.mem_map.1 hx
  have:=h.sz y hy
  unfold setT
  rw[zkb,zkb]
  have e:(⟨#[61]⟩ : ByteArray).size=1:=rfl
  omega
 have hl:((if zay s=noT then [] else [zay s]) ++ s.2.2.map setT).length≤1001:=by
  have:=h.sl
  rw[List.length_append,List.length_map]
  split <;> simp <;> omega
 unfold zcf
 by_cases hc:(if zay s=noT then [] else [zay s]) ++ s.2.2.map setT = []
 ·rw[if_pos hc]
  exact⟨fun x hx=>by rw[List.mem_singleton] at hx;rw[hx];decide,by simp,by simp⟩
 rw[if_neg hc]
 exact⟨hs,hl,hc⟩
theorem Sp.text {s:Spc3} {l:List Tp} (h:Sp s l):(zgl s).size≤30000000000:=by
 obtain⟨h1,h2,h3⟩:=h.words
 rw[znt,← Txt.len,zdl]
 have hb:∀ x∈(zcf s).map (·.data.toList),x.length≤20009001:=by
  intro x hx
  obtain⟨y,hy,rfl⟩:=List.mem_map.1 hx
  rw[Txt.len]
  exact h1 y hy
 have h4:=zk1 20009001 _ hb
 have h5:((zcf s).map (·.data.toList)).length≤1001:=by simpa using h2
 obtain⟨L,hL⟩ : ∃ L,L=(zcf s).map (·.data.toList):=⟨_,rfl⟩
 rw[← hL] at h4 h5 ⊢
 cases L with
 | nil=>simp[Lib.join_nil]
 | cons x r =>
  rw[Lib.join_length]
  simp only[List.length_cons,List.length_nil] at *
  omega
open LexM (zkh)
theorem wt_small {ln:Ln} (h:zkh 70000 ln):(wt ln.2).length≤3000000:=by
 have hs:∀ (ws:List Wd),(∀ x∈ws,x.2.length≤70000)→(wt ws).length≤70001 * ws.length:=by
  intro ws
  have hf:∀ (r:List Wd),(∀ x∈r,x.2.length≤70000)→(r.flatMap fun y=>(32:UInt8) :: y.2).length≤70001 * r.length:=by
   intro r
   induction r with
   | nil=>intro _;simp
   | cons y r ih =>
    intro h
    have h1:=ih (fun x hx=>h x (by simp[hx]))
    have h2:=h y (by simp)
    rw[List.flatMap_cons,List.length_append,List.length_cons,List.length_cons]
    omega
  cases ws with
  | nil=>intro _;simp[wt]
  | cons x r =>
   intro h
   have h1:=hf r (fun y hy=>h y (by simp[hy]))
   have h2:=h x (by simp)
   show (x.2 ++ r.flatMap fun y=>(32:UInt8) :: y.2).length≤_
   rw[List.length_append,List.length_cons]
   omega
 have h1:=hs ln.2 (fun x hx=>(h.2.2.2 x hx).2.2.2)
 have h2:=h.2.2.1
 omega
theorem zjy (ln:Ln):ltx [ln]=wt ln.2 ++ [10]:=by simp[ltx]
theorem ltx_eq (ln:Ln) (t:ByteArray):((⟨(ltx [ln]).toArray⟩ : ByteArray).toList == (t ++ ⟨#[10]⟩ : ByteArray).toList)=decide (wt ln.2=t.data.toList):=by
 rw[Txt.eq_dec]
 refine decide_eq_decide.2 ⟨fun h=>?_,fun h=>?_⟩
 ·have h1:=congrArg (fun x:ByteArray=>x.data.toList) h
  simp only[Go.Joins.data_append] at h1
  rw[zjy] at h1
  exact List.append_inj_left' h1 rfl
 apply Txt.ext
 rw[Go.Joins.data_append,← h]
 exact zjy ln
end

section
open Go.Shelf Go.RowKit Go.Lib VerN VarM
open LexM (Wd)
attribute [local go_sem ↓] Go.wp_at_zero Go.wp_at_succ
abbrev thrownV (c:Int):Value:=.iface 206 (.agg #[.int .i64 c])
theorem zgo (v:Value) (w:World):(Instr.typeAssert (.iface 206 v) 20 206 true).run Tryz.prog w = .ok (.tuple #[v,.bool true]) w:=by
 have u:=Tryz.underlying206
 unfold Instr.typeAssert
 simp[Sem.run_bind,Sem.run_pure,u,go_sem]
theorem zqc (g:Nat) (w:World):CallsD Tryz.prog 150 #[.pointer (some ⟨g,0,none⟩)] .returning w fun e u' w'=>e = .returned (.tuple #[])∧u' = .returning∧w'=w:=by
 refine callsD_of_wpS Tryz.func150 rfl fun c₀ cs hu=>?_
 apply wpS_seq
 apply wpS_region
 simp[wpOpsS,go_sem,recoverD,hu,Tryz.ntmps150,Exit.thenS]
 have Hu:=hd hu;clear hu
 simp only[Array.replicate_succ,Array.replicate_zero,List.push_toArray,List.append_toArray,List.nil_append,List.cons_append,lA,lB,lC]
 refine wpS_of_wp ?_
 generalize hQ:(fun (e:Exit) (a':Act) (w':World)=>_)=Q
 have HQ:=hd hQ;clear hQ
 go_wp2_with fail
 rw[← HQ.out]
 cases c₀
 have hu:=Hu.out
 simp_all [bodyPostS,results,Tryz.results150]
theorem zne (g:Nat) (c x:Int) (w:World) (hg:w.heap[g]? = some (.cells #[.int .i64 x] 3 (0,0))) :
  CallsD Tryz.prog 150 #[.pointer (some ⟨g,0,none⟩)] (.panicking [{ v:=thrownV c,recovered:=false }]) w fun e u' w' =>
   e = .returned (.tuple #[])∧u' = .panicking [{ v:=thrownV c,recovered:=true }]∧w'=(w.alloc (.cells #[.int .i64 c] 206)).setCell ⟨g,0,none⟩ (.int .i64 c):=by
 refine callsD_of_wpS Tryz.func150 rfl fun c₀ cs hu=>?_
 apply wpS_seq
 apply wpS_region
 simp[wpOpsS,go_sem,recoverD,hu,Tryz.ntmps150,Exit.thenS]
 have ra:=zgo (.agg #[.int .i64 c])
 have q0:=za1 hg 0
 have q1:=za7 hg 0
 have q2:=za0 (za2 w (.cells #[.int .i64 c] 206)) hg
 have q3:=za1 q2 0
 have q4:=za7 q2 0
 have Hu:=hd hu;clear hu
 simp only[Array.replicate_succ,Array.replicate_zero,List.push_toArray,List.append_toArray,List.nil_append,List.cons_append,lA,lB,lC]
 refine wpS_of_wp ?_
 generalize hQ:(fun (e:Exit) (a':Act) (w':World)=>_)=Q
 have HQ:=hd hQ;clear hQ
 go_wp2_with fail
 rw[← HQ.out]
 cases c₀
 have hu:=Hu.out
 clear ra q0 q1 q2 q3 q4 hg
 simp_all [bodyPostS,results,Tryz.results150]
theorem zqb {w:World} {f:FuncId} {caps:Array Value} (eg:∀ args w,(callFunc f args).run Tryz.prog w = .ok (.enter f args) w) {A:World→Prop} {B:Int→World→Prop}
  (h:Calls Tryz.prog f caps (w.alloc (.cells #[.int .i64 0] 3)) fun e w'=>((e = .returned (.tuple #[])∧A w')∨∃ c,e=zh0 c∧B c w')∧w'.heap[w.heap.size]? = some (.cells #[.int .i64 0] 3 (0,0))) :
  Calls Tryz.prog 91 #[.func (.func f) #[] caps] w fun e w'=>(∃ w1,A w1∧e = .returned (.int .i64 0)∧w'=w1.setCell ⟨w.heap.size,0,none⟩ (.int .i64 0))∨(∃ c w1,B c w1∧e = .returned (.int .i64 c)∧w'=(w1.alloc (.cells #[.int .i64 c] 206)).setCell ⟨w.heap.size,0,none⟩ (.int .i64 c)):=by
 have hmf:∀ (fn:Fn) (first cap:Array Value) (w:World),(Instr.makeFunc fn first cap).run Tryz.prog w = .ok (.func fn first cap) w:=fun _ _ _ _=>rfl
 have Hh:=hd h;clear h
 go_enter_defers Tryz.func91,Tryz.ntmps91
 go_wp2_with fail
 refine Hh.out.mono ?_
 rintro e w1 ⟨⟨rfl,hA⟩ | ⟨c,rfl,hB⟩,hbx⟩
 ·have q0:=za1 hbx 0
  have q1:=za7 hbx 0
  simp only[List.getElem?_toArray,List.getElem?_cons_zero] at q0
  obtain⟨HA,Hbx⟩:=hd2 hA hbx;clear hA hbx
  go_wp2_with fail
  refine leaves_cons (f:=150) (args:=#[.pointer (some ⟨w.heap.size,0,none⟩)]) (by simp) (by simp[go_sem]) ?_
  refine (zqc _ _).mono ?_
  rintro e u' w'' ⟨rfl,rfl,rfl⟩
  have q2:=za1 (heap_setCell_same w1 w.heap.size 0 _ _ (.int .i64 0) Hbx.out) 0
  have q2:(w1.setCell ⟨w.heap.size,0,none⟩ (.int .i64 0)).cell? ⟨w.heap.size,0,none⟩=some (.int .i64 0):=q2
  simp[Leaves,settle,results,Tryz.results91,go_sem,q2]
  exact .inl ⟨_,HA.out,rfl⟩
 have HB:=hd hB;clear hB
 go_wp2_with fail
 refine leaves_cons (f:=150) (args:=#[.pointer (some ⟨w.heap.size,0,none⟩)]) (by simp) (by simp[go_sem]) ?_
 refine (zne _ c 0 _ hbx).mono ?_
 rintro e u' w'' ⟨rfl,rfl,rfl⟩
 have q2:=za1 (heap_setCell_same _ w.heap.size 0 _ _ (.int .i64 c) (za0 (za2 w1 (.cells #[.int .i64 c] 206)) hbx)) 0
 have q2:((w1.alloc (.cells #[.int .i64 c] 206)).setCell ⟨w.heap.size,0,none⟩ (.int .i64 c)).cell? ⟨w.heap.size,0,none⟩=some (.int .i64 c):=q2
 simp[Leaves,settle,results,Tryz.results91,go_sem,q2]
 exact .inr ⟨_,_,HB.out,rfl,rfl⟩
end

section
open Go.Shelf Go.RowKit Go.Lib VerN VarM
open LexM (Wd)
attribute [local go_sem ↓] Go.wp_at_zero Go.wp_at_succ
theorem zd8 {P:Program} {fn:Func} {p u v:Tmp} {ty t:TypeId} (h:fn.results=#[.cell p ty,.tmp u,.tmp v]) {tmps:Array Value} {w:World} {g:Nat} {cs:Array Value} {d:TypeDesc} {x y:Value}
  (hp:tmps.getD p undef = .pointer (some ⟨g,0,none⟩)) (hx:tmps.getD u undef=x) (hy:tmps.getD v undef=y) (hg:w.heap[g]? = some (.cells cs t (0,0)))
  (hu:P.underlying ty=some d) (hd:(match d with | .struct _ | .array _ _=>true | _=>false)=true) (hi:(P.info? ty).map (·.size)=some cs.size) :
  (results fn tmps).run P w = .ok (.tuple #[.agg cs,x,y]) w:=by
 have hl:=run_loadVar_row w g t ty cs (0,0) d hg hu hd hi
 have hp':tmps[p]?.getD undef = .pointer (some ⟨g,0,none⟩):=by simpa using hp
 have hx':tmps[u]?.getD undef=x:=by simpa using hx
 have hy':tmps[v]?.getD undef=y:=by simpa using hy
 simp only[results,h]
 simp[Sem.run_bind,Result.andThen,asAddr,hp',hx',hy',hl]
end
end Go.Proofs.YteailgjiifdgcaaGreatDoor
