/- Walks and plain facts. Texts merged: RpC, RsV, RsP, RsN, RcD. Condition: none beyond what each says. -/
import Derived.Deep.RegionLaw
import Derived.Test.YteailgjiifdgcaaGreatDoorRecipeJoinsAll7
set_option linter.unusedVariables false
set_option linter.unusedSimpArgs false
set_option maxRecDepth 10000
set_option maxHeartbeats 4000000
namespace Go.Proofs.YteailgjiifdgcaaGreatDoor
section
open Go.Shelf Go.RowKit Go.Lib VerN VarM
open LexM (Wd)
attribute [local go_sem ↓] Go.wp_at_zero Go.wp_at_succ
def CondPost (r:Nat) (a:Option Addr) (n c:Nat) (fin:Int) (ws:List Wd) (i:Nat) (w:World) (e:Ending) (w':World):Prop :=
 ((∃ s j v1 v2,zd4 ws i=(some s,j)∧e = .returned (.agg #[.string s.1,v1,v2])∧zg2 w' v1 s.2.1∧zel w' v2 s.2.2∧RBox r (.slice a n c) j fin w')∨(∃ j,zd4 ws i=(none,j)∧e=zea (zf6 ws fin j)))∧Frm (fun k=>k=r) w w'
theorem zri {ws:List Wd} {i:Nat} (h:zan ws i=ziv):zd4 ws i=(some (noT,allV,[]),i+1):=by unfold zd4;rw[if_pos h]
theorem condW_bad {ws:List Wd} {i:Nat} (h:zan ws i≠ziv) (h1:zfm (zan ws i)=true) (h2:zed (zgq (zan ws i))=false):zd4 ws i=(none,i):=by unfold zd4;rw[if_neg h,if_pos h1,if_neg (by rw[h2];simp)]
theorem condW_at {ws:List Wd} {i:Nat} (h:zan ws i≠ziv) (h1:zfm (zan ws i)=true) (h2:zed (zgq (zan ws i))=true):zd4 ws i=((zb7 ws (i+1) []).1.map fun l=>(noT,rdV (zgq (zan ws i)),l),(zb7 ws (i+1) []).2):=by unfold zd4;rw[if_neg h,if_pos h1,if_pos h2]
theorem zrj {ws:List Wd} {i:Nat} (h:zan ws i≠ziv) (h1:zfm (zan ws i)=false):(∀ l j,zb7 ws i []=(some l,j)→j≠i→zd4 ws i=(some (noT,allV,l),j))∧(∀ l j,zb7 ws i []=(some l,j)→j=i→zd4 ws i=(none,j))∧(∀ j,zb7 ws i []=(none,j)→zd4 ws i=(none,j)):=by
 unfold zd4
 rw[if_neg h,if_neg (by rw[h1];simp)]
 cases hb:hasB 61 (zan ws i) with
 | false =>
  rw[zkd hb]
  refine⟨fun l j e hj=>?_,fun l j e hj=>?_,fun j e=>?_⟩
  ·cases e;exact absurd rfl hj
  ·cases e;rfl
  cases e
 | true =>
  rw[if_pos rfl]
  refine⟨fun l j e _=>by rw[e];rfl,fun l j e hj=>?_,fun j e=>by rw[e];rfl⟩
  subst hj
  cases hw:ze7 ([] ++ [zfu (zan ws j)]) with
  | false=>rw[zj2 hb hw] at e;cases e
  | true =>
   rw[zj1 hb hw] at e
   have:=zf4 ws (j+1) ([] ++ [zfu (zan ws j)])
   rw[e] at this
   simp only at this
   omega
theorem zme (s:ByteArray):Lib.hasPrefix s.data.toList [64]=zfm s:=by
 unfold Lib.hasPrefix zfm
 cases h:s.data.toList with
 | nil=>rfl
 | cons c l =>
  by_cases e:c=64
  ·subst e;rfl
  simp[List.isPrefixOf,Ne.symm e,e]
theorem zo3 {s:ByteArray} (h:zfm s=true):(⟨(Lib.trimPrefix s.data.toList [64]).toArray⟩ : ByteArray)=zgq s:=by
 unfold Lib.trimPrefix
 rw[zme,if_pos h]
 rfl
theorem zqb (s:ByteArray):(zgq s).size≤s.size:=by
 have e:∀ l:List UInt8,(⟨l.toArray⟩ : ByteArray).size=l.length:=fun l=>rfl
 unfold zgq
 rw[e,List.length_drop,Txt.len]
 omega
theorem zq0 {w0 w:World} {r:Nat} {a:Option Addr} {n c:Nat} {fin:Int} {ws:List Wd} {i:Nat} (C:RdC w0 r a n c fin ws) (S:RdS w0 r a n c fin i w) (hi:i≤1000):Calls Tryz.prog 131 #[rp r] w (CondPost r a n c fin ws i w):=by
 have hrw:r < w.heap.size:=(Array.getElem?_eq_some_iff.1 S.box).1
 have hn1:=C.n1000
 obtain⟨s,hs⟩ : ∃ s,s=zan ws i:=⟨_,rfl⟩
 have hsz:s.size≤70000:=by rw[hs];exact C.peek_size _
 obtain⟨g,hg⟩ : ∃ k,k=w.heap.size:=⟨_,rfl⟩
 obtain⟨g1,hg1⟩ : ∃ k,k=g+1+1:=⟨_,rfl⟩
 obtain⟨va,hva⟩ : ∃ k:Option Addr,k=some ⟨g+1,0,none⟩:=⟨_,rfl⟩
 obtain⟨w4,hw4⟩ : ∃ W,W=((w.alloc (.cells #[.string ⟨#[]⟩,.slice none 0 0,.slice none 0 0] 51)).alloc (.cells #[.string ⟨#[]⟩,.string ⟨#[]⟩] 34)).alloc (.cells #[.string ⟨#[]⟩,.slice va 1 1,.slice none 0 0] 51):=⟨_,rfl⟩
 have hb4:Below w.heap.size w w4:=by rw[hw4];exact ((za1 _ _).alloc (by simp) _).alloc (by simp;omega) _
 have hJ:WsJ w0 r a n c fin i w g g1 ⟨#[]⟩ va 1 1 allV w4:=by
  refine⟨S.to hb4,Frm.of_below hb4,?_,?_,?_⟩
  ·rw[hw4,hg];exact za0 (za1 _ _) (za0 (za1 _ _) (zag rfl))
  ·rw[hw4,hg1,hg];exact zag (by simp)
  rw[hw4,hva,hg]
  have:=zjs (w.alloc (.cells #[.string ⟨#[]⟩,.slice none 0 0,.slice none 0 0] 51))
  simp only[World.size_alloc] at this
  exact zdn this (za1 _ _)
 have hrg:r < g:=by rw[hg];exact hrw
 have hgg:g < g1:=by rw[hg1];omega
 have hwg:w.heap.size≤g:=Nat.le_of_eq hg.symm
 have hP:=C.peek hJ.st
 rw[← hs] at hP
 have heq:=Txt.eq_dec s ⟨#[42]⟩
 rw[Lib.toList_data (⟨#[42]⟩ : ByteArray)] at heq
 obtain⟨HC,HS,HP,Hs,Hb4,HJ⟩:=hd6 C S hP hs hb4 hJ;clear C S hP hs hb4 hJ
 go_enter Tryz.func131,Tryz.ntmps131
 go_upto_region 2 with (fail)
 rw[← hg,← hva,← hw4,← hg1]
 clear hva hw4 hg hg1
 go_wp2_with fail
 refine HP.out.mono ?_
 rintro e w1 ⟨rfl,q1,rfl⟩
 have hJ1:WsJ w0 r a n c fin i w g g1 ⟨#[]⟩ va 1 1 allV (w4.drewN q1):=⟨HJ.out.st.drewN q1,HJ.out.frm.drewN q1,HJ.out.g0,HJ.out.g1,zdn HJ.out.rd (zac (Below.refl _ _) q1)⟩
 generalize w4.drewN q1=w5 at hJ1 ⊢
 have HJ1:=hd hJ1;clear hJ1
 by_cases hst:s=ziv
 ·have k1:(s.toList == [42])=true:=by rw[heq];exact decide_eq_true hst
  clear heq
  obtain⟨_,c1',_,c3'⟩:=zba HJ1.out.st.box
  obtain⟨w6,hw6⟩ : ∃ W,W=w5.setCell ⟨r,1,none⟩ (.int .i64 ((i:Int)+1)):=⟨_,rfl⟩
  have hk0:zcg g (.string ⟨#[]⟩) (.slice none 0 0) (.slice none 0 0) w6:=by rw[hw6];exact zaa HJ1.out.g0 (by omega)
  have hk1:zcg g1 (.string ⟨#[]⟩) (.slice va 1 1) (.slice none 0 0) w6:=by rw[hw6];exact zaa HJ1.out.g1 (by omega)
  have hon:=HJ1.out.st.on HC.out.low
  rw[← hw6] at hon
  have hf6:Frm (fun k=>k=r) w w6:=by rw[hw6];exact zad HJ1.out.frm 1 _
  have hT6:Frm (fun k=>k=r∨k=g∨k=g1) w5 w6:=by rw[hw6];exact (Frm.refl _ w5).setCell (p:=⟨r,1,none⟩) (.inr (.inl rfl)) _
  have hvv:=zbr HJ1.out.rd hT6 (zd0 HJ1.out.st.box HJ1.out.g0 HJ1.out.g1)
  obtain⟨_,_,_,f00,f01,f02⟩:=zbh hk0
  obtain⟨x10,x11,x12,_,_,_⟩:=zbh hk1
  obtain⟨Hst,Hk0,Hk1,Hon,Hf6,HT6,Hvv⟩:=hd7 hst hk0 hk1 hon hf6 hT6 hvv;clear hst hk0 hk1 hon hf6 hT6 hvv
  go_upto_region 4 with (fail)
  rw[← hw6]
  clear hw6
  go_wp2_with fail
  obtain⟨W9,hW9⟩ : ∃ W,W=((w6.setCell ⟨g,0,none⟩ (.string ⟨#[]⟩)).setCell ⟨g,1,none⟩ (.slice va 1 1)).setCell ⟨g,2,none⟩ (.slice none 0 0):=⟨_,rfl⟩
  rw[← hW9]
  have k0:=heap_setCell_same _ g 0 _ _ (.string ⟨#[]⟩) Hk0.out
  have k1:=heap_setCell_same _ g 1 _ _ (.slice va 1 1) k0
  have k2:=heap_setCell_same _ g 2 _ _ (.slice none 0 0) k1
  have hF9:Frm (fun k=>k=r) w W9:=by rw[hW9];exact ((Hf6.out.setCell (p:=⟨g,0,none⟩) (.inl hwg) _).setCell (p:=⟨g,1,none⟩) (.inl hwg) _).setCell (p:=⟨g,2,none⟩) (.inl hwg) _
  have hT9:Frm (fun k=>k=r∨k=g∨k=g1) w6 W9:=by
   rw[hW9]
   exact (((Frm.refl _ w6).setCell (p:=⟨g,0,none⟩) (.inr (.inr (.inl rfl))) _).setCell (p:=⟨g,1,none⟩) (.inr (.inr (.inl rfl))) _).setCell (p:=⟨g,2,none⟩) (.inr (.inr (.inl rfl))) _
  have hb9:RBox r (.slice a n c) (i+1) fin W9:=by rw[hW9];exact zaa (zaa (zaa Hon.out.box (by omega)) (by omega)) (by omega)
  rw[← hW9] at k2
  refine bodyPost_ret (results_cell_row rfl _ _ _ _ _ _ _ rfl k2 Tryz.underlying51 rfl (by kernel_rfl)) rfl ?_
  exact⟨.inl ⟨(noT,allV,[]),i+1,.slice va 1 1,.slice none 0 0,zri (by rw[← Hs.out];exact Hst.out),rfl,zbr Hvv.out hT9 (zd0 Hon.out.box Hk0.out Hk1.out),setsT_nil ⟨none,0,rfl,Nat.le_refl _,Nat.zero_le _,fun i x hi=>by simp at hi⟩,hb9⟩,hF9⟩
 have k1:(s.toList == [42])=false:=by rw[heq];exact decide_eq_false hst
 clear heq
 have hst':zan ws i≠ziv:=by rw[← Hs.out];exact hst
 obtain⟨_,c1',_,c3'⟩:=zba HJ1.out.st.box
 have hP2:=HC.out.peek HJ1.out.st
 rw[← Hs.out] at hP2
 have hPre:=fun (W:World)=>Tryz.strings_CutPrefix s ⟨#[64]⟩ W
 simp only[zme] at hPre
 obtain⟨tx,htx⟩ : ∃ t:ByteArray,t=⟨(Lib.trimPrefix s.data.toList [64]).toArray⟩:=⟨_,rfl⟩
 simp only[← htx] at hPre
 obtain⟨fl,hfl⟩ : ∃ b,b=zfm s:=⟨_,rfl⟩
 simp only[← hfl] at hPre
 obtain⟨Hst,Hst',HP2,Hfl,HPre,Htx⟩:=hd6 hst hst' hP2 hfl hPre htx;clear hst hst' hP2 hfl hPre htx
 go_wp2_with fail
 refine HP2.out.mono ?_
 rintro e w1 ⟨rfl,q2,rfl⟩
 have hJ2:WsJ w0 r a n c fin i w g g1 ⟨#[]⟩ va 1 1 allV (w5.drewN q2):=⟨HJ1.out.st.drewN q2,HJ1.out.frm.drewN q2,HJ1.out.g0,HJ1.out.g1,zdn HJ1.out.rd (zac (Below.refl _ _) q2)⟩
 generalize w5.drewN q2=w6 at hJ2 ⊢
 have HJ2:=hd hJ2;clear hJ2
 clear c1' c3'
 go_wp2_with fail
 refine (HPre.out _).mono ?_
 rintro e wp ⟨rfl,hwp⟩
 subst hwp
 cases fl with
 | false =>
  have hCw:=zrj (ws:=ws) (i:=i) Hst'.out (by rw[← Hs.out];exact Hfl.out.symm)
  have hYes:=hCw.1
  have hNil:=hCw.2.1
  have hNo:=hCw.2.2
  have HI:=HJ2
  clear hCw
  obtain⟨HYes,HNil,HNo⟩:=hd3 hYes hNil hNo;clear hYes hNil hNo
  have hSt:=zes HC.out HI.out.st
  have HSt:=hd hSt;clear hSt
  go_wp2_with fail
  refine HSt.out.mono ?_
  rintro e w7 ⟨⟨l,j,v,hse,rfl,hv,hbx⟩ | ⟨j,hse,rfl⟩,hfr⟩
  ·obtain⟨a3,c3,rfl⟩:=zd7 hv.1
   have hfw:=HI.out.frm.trans hfr (fun _ _ h=>h)
   obtain⟨z,hz⟩ : ∃ n,n=l.length:=⟨_,rfl⟩
   rw[← hz] at hv ⊢
   have hk0:zcg g (.string ⟨#[]⟩) (.slice none 0 0) (.slice none 0 0) w7:=zcd hfr HI.out.g0 (by omega)
   have hk1:zcg g1 (.string ⟨#[]⟩) (.slice va 1 1) (.slice none 0 0) w7:=zcd hfr HI.out.g1 (by omega)
   have hst7:RdS w0 r a n c fin j w7:=⟨hbx,HI.out.st.bel.trans (hfr.below (by have:=HI.out.st.bel.size;exact HI.out.st.bel.size) (by rintro k rfl;exact HC.out.low))⟩
   obtain⟨_,_,_,_,_,f12⟩:=zbh hk1
   have hvv:=HI.out.rd
   have hge:=zf4 ws i []
   rw[hse] at hge
   simp only at hge
   obtain⟨w8,hw8⟩ : ∃ W,W=w7.setCell ⟨g1,2,none⟩ (.slice a3 z c3):=⟨_,rfl⟩
   have hst8:RdS w0 r a n c fin j w8:=by rw[hw8];exact⟨zaa hst7.box (by omega),hst7.bel.setCell (p:=⟨g1,2,none⟩) (by have:=HC.out.low;show w0.heap.size≤g1;omega) _⟩
   have hk08:zcg g (.string ⟨#[]⟩) (.slice none 0 0) (.slice none 0 0) w8:=by rw[hw8];exact zaa hk0 (by omega)
   have hk18:zcg g1 (.string ⟨#[]⟩) (.slice va 1 1) (.slice a3 z c3) w8:=by rw[hw8];exact heap_setCell_same _ g1 2 _ _ _ hk1
   have hf8:Frm (fun k=>k=r) w w8:=by rw[hw8];exact hfw.setCell (p:=⟨g1,2,none⟩) (.inl (show w.heap.size≤g1 by omega)) _
   have hT8:Frm (fun k=>k=r∨k=g∨k=g1) w7 w8:=by rw[hw8];exact (Frm.refl _ w7).setCell (p:=⟨g1,2,none⟩) (.inr (.inr (.inr rfl))) _
   have hno7:=zd0 hbx hk0 hk1
   have hv8:=zcn hv hT8 hno7
   have hvv8:=zbr (zbr hvv (Frm.mono (T:=fun k=>k=r∨k=g∨k=g1) hfr (fun _ _ h=>.inl h)) (zd0 HI.out.st.box HI.out.g0 HI.out.g1)) hT8 hno7
   obtain⟨_,q1,_,_⟩:=zba hst8.box
   obtain⟨Hse,Hv,Hbx,Hfr,Hfw,Hk0,Hk1,Hst7,Hvv,Hz,Hge,Hst8,Hk08,Hk18,Hf8,HT8⟩:=hd16 hse hv hbx hfr hfw hk0 hk1 hst7 hvv hz hge hst8 hk08 hk18 hf8 hT8;obtain⟨Hno7,Hv8,Hvv8⟩:=hd3 hno7 hv8 hvv8;clear hse hv hbx hfr hfw hk0 hk1 hst7 hvv hz hge hst8 hk08 hk18 hf8 hT8 hno7 hv8 hvv8
   go_upto_region 13 with (fail)
   rw[← hw8]
   clear hw8
   by_cases hji:j=i
   ·have kgt:decide (i < j)=false:=decide_eq_false (by omega)
    have hWn:=HC.out.want Hst8.out
    have HWn:=hd hWn;clear hWn
    go_wp2_with fail
    refine HWn.out.mono ?_
    rintro e w9 ⟨rfl,q5,rfl⟩
    go_wp2_with fail
    exact⟨rfl,.inr ⟨j,HNil.out _ _ Hse.out hji,by rw[hji]⟩,Hf8.out.drewN q5⟩
   obtain⟨x10,x11,x12,_,_,_⟩:=zbh Hk18.out
   obtain⟨_,_,_,f00,f01,f02⟩:=zbh Hk08.out
   have kgt:decide (i < j)=true:=decide_eq_true (by have:=Hge.out.1;omega)
   go_wp2_with fail
   refine (zbv _ r).mono ?_
   rintro e w9 ⟨rfl,hw9⟩
   subst hw9
   go_wp2_with fail
   obtain⟨W9,hW9⟩ : ∃ W,W=((w9.setCell ⟨g,0,none⟩ (.string ⟨#[]⟩)).setCell ⟨g,1,none⟩ (.slice va 1 1)).setCell ⟨g,2,none⟩ (.slice a3 z c3):=⟨_,rfl⟩
   rw[← hW9]
   have k0:=heap_setCell_same _ g 0 _ _ (.string ⟨#[]⟩) Hk08.out
   have k1:=heap_setCell_same _ g 1 _ _ (.slice va 1 1) k0
   have k2:=heap_setCell_same _ g 2 _ _ (.slice a3 z c3) k1
   have hF9:Frm (fun k=>k=r) w W9:=by rw[hW9];exact ((Hf8.out.setCell (p:=⟨g,0,none⟩) (.inl hwg) _).setCell (p:=⟨g,1,none⟩) (.inl hwg) _).setCell (p:=⟨g,2,none⟩) (.inl hwg) _
   have hT9:Frm (fun k=>k=r∨k=g∨k=g1) w9 W9:=by
    rw[hW9]
    exact (((Frm.refl _ w9).setCell (p:=⟨g,0,none⟩) (.inr (.inr (.inl rfl))) _).setCell (p:=⟨g,1,none⟩) (.inr (.inr (.inl rfl))) _).setCell (p:=⟨g,2,none⟩) (.inr (.inr (.inl rfl))) _
   have hb9:RBox r (.slice a n c) j fin W9:=by rw[hW9];exact zaa (zaa (zaa Hst8.out.box (by omega)) (by omega)) (by omega)
   rw[← hW9] at k2
   have hno8:=zd0 Hst8.out.box Hk08.out Hk18.out
   refine bodyPost_ret (results_cell_row rfl _ _ _ _ _ _ _ rfl k2 Tryz.underlying51 rfl (by kernel_rfl)) rfl ?_
   exact⟨.inl ⟨(noT,allV,l),j,.slice va 1 1,.slice a3 z c3,HYes.out _ _ Hse.out (by have:=Hge.out.1;omega),rfl,zbr Hvv8.out hT9 hno8,zcn Hv8.out hT9 hno8,hb9⟩,hF9⟩
  have hfw:=HI.out.frm.trans hfr (fun _ _ h=>h)
  obtain⟨Hse,Hfr,Hfw⟩:=hd3 hse hfr hfw;clear hse hfr hfw
  go_wp2_with fail
  exact⟨rfl,.inr ⟨j,HNo.out _ Hse.out,rfl⟩,Hfw.out⟩
 | true =>
  obtain⟨tl,htl⟩ : ∃ t,t=zgq s:=⟨_,rfl⟩
  obtain rfl:tx=tl:=by rw[Htx.out,htl];exact zo3 Hfl.out.symm
  have hSet:=set_any tx (by have:=zqb s;rw[← htl] at this;omega) (HC.out.dr HJ2.out.st)
  obtain⟨ok,hok⟩ : ∃ b,b=zed tx:=⟨_,rfl⟩
  unfold zot at hSet
  rw[← hok] at hSet
  obtain⟨HSet,Hok,Htl⟩:=hd3 hSet hok htl;clear hSet hok htl
  go_wp2_with fail
  refine HSet.out.mono ?_
  rintro e w8 ⟨a2,n2,c2,rfl,hrd,hb8⟩
  have hg15:=za0 hb8 HJ2.out.g1
  have hg05:=za0 hb8 HJ2.out.g0
  have hst8:=HJ2.out.st.to hb8
  have hfr8:=HJ2.out.frm.trans (Frm.of_below (S:=fun _=>False) hb8) (fun _ _ h=>h.elim)
  obtain⟨Hrd,Hb8,Hg15,Hg05,Hst8,Hfr8⟩:=hd6 hrd hb8 hg15 hg05 hst8 hfr8;clear hrd hb8 hg15 hg05 hst8 hfr8
  cases ok with
  | false =>
   have hBad:=condW_bad (ws:=ws) (i:=i) Hst'.out (by rw[← Hs.out];exact Hfl.out.symm) (by rw[← Hs.out,← Htl.out];exact Hok.out.symm)
   have hWn:=HC.out.want Hst8.out
   obtain⟨HBad,HWn⟩:=hd2 hBad hWn;clear hBad hWn
   go_wp2_with fail
   refine HWn.out.mono ?_
   rintro e w9 ⟨rfl,q5,rfl⟩
   go_wp2_with fail
   exact⟨rfl,.inr ⟨i,HBad.out,rfl⟩,Hfr8.out.drewN q5⟩
  | true =>
   have hAt:=condW_at (ws:=ws) (i:=i) Hst'.out (by rw[← Hs.out];exact Hfl.out.symm) (by rw[← Hs.out,← Htl.out];exact Hok.out.symm)
   rw[← Hs.out,← Htl.out] at hAt
   have hYes:∀ l j,zb7 ws (i+1) []=(some l,j)→j≠i→zd4 ws i=(some (noT,rdV tx,l),j):=fun l j e _=>by rw[hAt,e];rfl
   have hNo:∀ j,zb7 ws (i+1) []=(none,j)→zd4 ws i=(none,j):=fun j e=>by rw[hAt,e];rfl
   obtain⟨_,_,_,_,fz1,_⟩:=zbh Hg15.out
   obtain⟨_,c1',_,c3'⟩:=zba Hst8.out.box
   obtain⟨w6,hw6⟩ : ∃ W,W=(w8.setCell ⟨g1,1,none⟩ (.slice a2 n2 c2)).setCell ⟨r,1,none⟩ (.int .i64 ((i:Int)+1)):=⟨_,rfl⟩
   have HI:Go.RowKit.Hid (WsJ w0 r a n c fin (i+1) w g g1 ⟨#[]⟩ a2 n2 c2 (rdV tx) w6):=by
    refine⟨?_,?_,?_,?_,?_⟩
    ·rw[hw6]
     exact RdS.on ⟨zaa Hst8.out.box (by omega),Hst8.out.bel.setCell (p:=⟨g1,1,none⟩) (by have:=HC.out.low;show w0.heap.size≤g1;omega) _⟩ HC.out.low
    ·rw[hw6];exact zad (Hfr8.out.setCell (p:=⟨g1,1,none⟩) (.inl (by show w.heap.size≤g1;omega)) _) 1 _
    ·rw[hw6];exact zaa (zaa Hg05.out (by omega)) (by omega)
    ·rw[hw6];exact zaa (heap_setCell_same _ g1 1 _ _ _ Hg15.out) (by omega)
    rw[hw6]
    refine zbr (T:=fun k=>k=g1∨k=r) (Hrd.out rfl) ?_ ?_
    ·exact ((Frm.refl _ w8).setCell (p:=⟨g1,1,none⟩) (.inr (.inl rfl)) _).setCell (p:=⟨r,1,none⟩) (.inr (.inr rfl)) _
    rintro k (rfl | rfl)
    ·exact zi0 Hg15.out (by decide) (by decide)
    exact zi0 Hst8.out.box (by decide) (by decide)
   clear hAt
   obtain⟨HYes,HNo⟩:=hd2 hYes hNo;clear hYes hNo
   go_wp2_with fail
   refine (zbv _ r).mono ?_
   rintro e w9 ⟨rfl,hw9⟩
   subst hw9
   go_upto_region 12 with (fail)
   rw[← hw6]
   clear hw6
   have hSt:=zes HC.out HI.out.st
   have HSt:=hd hSt;clear hSt
   go_wp2_with fail
   refine HSt.out.mono ?_
   rintro e w7 ⟨⟨l,j,v,hse,rfl,hv,hbx⟩ | ⟨j,hse,rfl⟩,hfr⟩
   ·obtain⟨a3,c3,rfl⟩:=zd7 hv.1
    have hfw:=HI.out.frm.trans hfr (fun _ _ h=>h)
    obtain⟨z,hz⟩ : ∃ n,n=l.length:=⟨_,rfl⟩
    rw[← hz] at hv ⊢
    have hk0:zcg g (.string ⟨#[]⟩) (.slice none 0 0) (.slice none 0 0) w7:=zcd hfr HI.out.g0 (by omega)
    have hk1:zcg g1 (.string ⟨#[]⟩) (.slice a2 n2 c2) (.slice none 0 0) w7:=zcd hfr HI.out.g1 (by omega)
    have hst7:RdS w0 r a n c fin j w7:=⟨hbx,HI.out.st.bel.trans (hfr.below (by have:=HI.out.st.bel.size;exact HI.out.st.bel.size) (by rintro k rfl;exact HC.out.low))⟩
    obtain⟨_,_,_,_,_,f12⟩:=zbh hk1
    have hvv:=HI.out.rd
    have hge:=zf4 ws (i+1) []
    rw[hse] at hge
    simp only at hge
    obtain⟨w8,hw8⟩ : ∃ W,W=w7.setCell ⟨g1,2,none⟩ (.slice a3 z c3):=⟨_,rfl⟩
    have hst8:RdS w0 r a n c fin j w8:=by rw[hw8];exact⟨zaa hst7.box (by omega),hst7.bel.setCell (p:=⟨g1,2,none⟩) (by have:=HC.out.low;show w0.heap.size≤g1;omega) _⟩
    have hk08:zcg g (.string ⟨#[]⟩) (.slice none 0 0) (.slice none 0 0) w8:=by rw[hw8];exact zaa hk0 (by omega)
    have hk18:zcg g1 (.string ⟨#[]⟩) (.slice a2 n2 c2) (.slice a3 z c3) w8:=by rw[hw8];exact heap_setCell_same _ g1 2 _ _ _ hk1
    have hf8:Frm (fun k=>k=r) w w8:=by rw[hw8];exact hfw.setCell (p:=⟨g1,2,none⟩) (.inl (show w.heap.size≤g1 by omega)) _
    have hT8:Frm (fun k=>k=r∨k=g∨k=g1) w7 w8:=by rw[hw8];exact (Frm.refl _ w7).setCell (p:=⟨g1,2,none⟩) (.inr (.inr (.inr rfl))) _
    have hno7:=zd0 hbx hk0 hk1
    have hv8:=zcn hv hT8 hno7
    have hvv8:=zbr (zbr hvv (Frm.mono (T:=fun k=>k=r∨k=g∨k=g1) hfr (fun _ _ h=>.inl h)) (zd0 HI.out.st.box HI.out.g0 HI.out.g1)) hT8 hno7
    obtain⟨_,q1,_,_⟩:=zba hst8.box
    obtain⟨Hse,Hv,Hbx,Hfr,Hfw,Hk0,Hk1,Hst7,Hvv,Hz,Hge,Hst8,Hk08,Hk18,Hf8,HT8⟩:=hd16 hse hv hbx hfr hfw hk0 hk1 hst7 hvv hz hge hst8 hk08 hk18 hf8 hT8;obtain⟨Hno7,Hv8,Hvv8⟩:=hd3 hno7 hv8 hvv8;clear hse hv hbx hfr hfw hk0 hk1 hst7 hvv hz hge hst8 hk08 hk18 hf8 hT8 hno7 hv8 hvv8
    go_upto_region 13 with (fail)
    rw[← hw8]
    clear hw8
    obtain⟨x10,x11,x12,_,_,_⟩:=zbh Hk18.out
    obtain⟨_,_,_,f00,f01,f02⟩:=zbh Hk08.out
    have kgt:decide (i < j)=true:=decide_eq_true (by have:=Hge.out.1;omega)
    go_wp2_with fail
    refine (zbv _ r).mono ?_
    rintro e w9 ⟨rfl,hw9⟩
    subst hw9
    go_wp2_with fail
    obtain⟨W9,hW9⟩ : ∃ W,W=((w9.setCell ⟨g,0,none⟩ (.string ⟨#[]⟩)).setCell ⟨g,1,none⟩ (.slice a2 n2 c2)).setCell ⟨g,2,none⟩ (.slice a3 z c3):=⟨_,rfl⟩
    rw[← hW9]
    have k0:=heap_setCell_same _ g 0 _ _ (.string ⟨#[]⟩) Hk08.out
    have k1:=heap_setCell_same _ g 1 _ _ (.slice a2 n2 c2) k0
    have k2:=heap_setCell_same _ g 2 _ _ (.slice a3 z c3) k1
    have hF9:Frm (fun k=>k=r) w W9:=by rw[hW9];exact ((Hf8.out.setCell (p:=⟨g,0,none⟩) (.inl hwg) _).setCell (p:=⟨g,1,none⟩) (.inl hwg) _).setCell (p:=⟨g,2,none⟩) (.inl hwg) _
    have hT9:Frm (fun k=>k=r∨k=g∨k=g1) w9 W9:=by
     rw[hW9]
     exact (((Frm.refl _ w9).setCell (p:=⟨g,0,none⟩) (.inr (.inr (.inl rfl))) _).setCell (p:=⟨g,1,none⟩) (.inr (.inr (.inl rfl))) _).setCell (p:=⟨g,2,none⟩) (.inr (.inr (.inl rfl))) _
    have hb9:RBox r (.slice a n c) j fin W9:=by rw[hW9];exact zaa (zaa (zaa Hst8.out.box (by omega)) (by omega)) (by omega)
    rw[← hW9] at k2
    have hno8:=zd0 Hst8.out.box Hk08.out Hk18.out
    refine bodyPost_ret (results_cell_row rfl _ _ _ _ _ _ _ rfl k2 Tryz.underlying51 rfl (by kernel_rfl)) rfl ?_
    exact⟨.inl ⟨(noT,(rdV tx),l),j,.slice a2 n2 c2,.slice a3 z c3,HYes.out _ _ Hse.out (by have:=Hge.out.1;omega),rfl,zbr Hvv8.out hT9 hno8,zcn Hv8.out hT9 hno8,hb9⟩,hF9⟩
   have hfw:=HI.out.frm.trans hfr (fun _ _ h=>h)
   obtain⟨Hse,Hfr,Hfw⟩:=hd3 hse hfr hfw;clear hse hfr hfw
   go_wp2_with fail
   exact⟨rfl,.inr ⟨j,HNo.out _ Hse.out,rfl⟩,Hfw.out⟩
end

section
open Go.Shelf Go.RowKit Go.Lib VerN VarM
open LexM (Wd)
attribute [local go_sem ↓] Go.wp_at_zero Go.wp_at_succ
theorem zo0 {w0 w:World} {r:Nat} {a:Option Addr} {n c:Nat} {fin:Int} {ws:List Wd} {i:Nat} {t:Nat→Nat} {B xb pb cap:Nat} {vf:Value} {x:RcpM} {ps:List PkgM} {p:PkgM} {line:Int} {first:ByteArray} (C:RdC w0 r a n c fin ws) (S:RdS w0 r a n c fin i w) (hi1:i≤990)
  (H:RcSt w t B xb (.slice (some ⟨pb,0,none⟩) (ps.length+1) cap) vf x) (hx:x.pk=ps ++ [p]) (tr:t r=10) (hBw:B≤w.heap.size) (hp:FewP p) (hps:ps.length≤70000) (hf:first=zd1) :
  Calls Tryz.prog 156 #[rp r,.string first,.int .i64 line,.pointer (some ⟨pb,ps.length * 8,none⟩)] w (zds r a n c fin ws i t B xb (.slice (some ⟨pb,0,none⟩) (ps.length+1) cap) vf x ps p line first w):=by
 have k0:(first.toList == [118,101,114,115,105,111,110])=true:=by rw[zau first [118,101,114,115,105,111,110] zd1 rfl,hf];decide
 have hrw:r < w.heap.size:=(Array.getElem?_eq_some_iff.1 S.box).1
 have hn:=C.len
 have hn1:=C.n1000
 have hlow:=C.low
 obtain⟨dss,v2,v3,v4,v5,v6,v7,L⟩ : ∃ dss v2 v3 v4 v5 v6 v7,zc9 w t B (.slice (some ⟨pb,0,none⟩) (ps.length+1) cap) ps p dss v2 v3 v4 v5 v6 v7:=by
  rcases H.pk with⟨h1,_⟩ | ⟨ps',p',dss,v2,v3,v4,v5,v6,v7,h1,L⟩
  ·rw[hx] at h1
   simp at h1
  rw[hx] at h1
  have e1:=List.append_inj_left' h1 rfl
  have e2:=List.append_inj_right' h1 rfl
  obtain rfl:p=p':=by simpa using e2
  subst e1
  exact⟨dss,v2,v3,v4,v5,v6,v7,L⟩
 have hrt:=zb5 S.box (by decide)
 -- the recipe as it is at a later world,ahead of the store
 have hto:∀ W,Frm (fun k=>k=r) w W→RcSt W (zah t w.heap.size 3) B xb (.slice (some ⟨pb,0,none⟩) (ps.length+1) cap) vf x∧zc9 W (zah t w.heap.size 3) B (.slice (some ⟨pb,0,none⟩) (ps.length+1) cap) ps p dss v2 v3 v4 v5 v6 v7:=fun W hF =>
  ⟨H.to hF (fun k _ hk=>by subst hk;exact⟨by omega,hrt⟩) (fun k hk _=>za8 hk),L.to hF (fun k _ hk=>by subst hk;unfold Live;exact⟨by omega,by omega,by omega,hrt⟩) (fun k hk _=>za8 hk)⟩
 have ht1:∀ k,k < w.heap.size→zah t w.heap.size 3 k=t k:=fun k hk=>za8 hk
 have hr1:zah t w.heap.size 3 r=10:=by rw[za8 hrw,tr]
 have hpb1:zah t w.heap.size 3 pb=1:=by rw[za8 (L.row.lt pb rfl).2,L.tag pb rfl]
 have hT:=zeq C S (by omega) (enters_of Tryz.func124 (by kernel_rfl) rfl) (ok:=zmg) (fun s W hs k=>verOk_any s hs ((C.doors.below S.bel).below k))
 obtain⟨s,hs⟩ : ∃ s,s=zan ws i:=⟨_,rfl⟩
 unfold zbs at hT
 rw[← hs] at hT
 obtain⟨HC,HS,HH,HL,Hx,Hp,Hf,HT,Hs,Hn,Hto,Ht1,Hr1,Hpb1,Hrt,Htr⟩:=hd16 C S H L hx hp hf hT hs hn hto ht1 hr1 hpb1 hrt tr;clear C S H L hx hp hf hT hs hn hto ht1 hr1 hpb1 hrt tr
 go_enter Tryz.func156,Tryz.ntmps156
 go_wp2_with fail
 refine HT.out.mono ?_
 rintro e w1 ⟨⟨hi2,hok,rfl,hbx⟩ | ⟨hno,j,rfl⟩,hfr⟩
 ·obtain⟨w2,hw2⟩ : ∃ W,W=w1.alloc (.cells #[.string s,.bool false] 157):=⟨_,rfl⟩
  obtain⟨b8,hb8⟩ : ∃ z,z=w1.heap.size:=⟨_,rfl⟩
  have hb12:Below w1.heap.size w1 w2:=by rw[hw2];exact za1 _ _
  have p8:w2.heap[b8]? = some (.cells #[.string s,.bool false] 157 (0,0)):=by rw[hw2,hb8];exact heap_alloc_new _ _
  have hfr2:=zb2 hfr hb12
  have hbx2:=za0 hb12 hbx
  have hst2:RdS w0 r a n c fin (i+1) w2:=zee HS.out hlow hfr2 hbx2
  have hM:=HC.out.more hst2
  have h8:w.heap.size≤b8:=by rw[hb8];exact hfr.size
  by_cases hlt:i+1 < n
  ·rw[decide_eq_true hlt] at hM
   obtain⟨Hi2,Hok,Hbx,Hfr,Hb12,Hp8,Hfr2,Hbx2,Hst2,HM⟩:=hd10 hi2 hok hbx hfr hb12 p8 hfr2 hbx2 hst2 hM;clear hi2 hok hbx hfr hb12 p8 hfr2 hbx2 hst2 hM
   go_upto_region 3 with (fail)
   rw[← hw2,← hb8]
   clear hw2 hb8
   go_wp2_with fail
   refine HM.out.mono ?_
   rintro e w3 ⟨rfl,q3,rfl⟩
   have hb3:Below w2.heap.size w2 (w2.drewN q3):=zac (Below.refl _ _) q3
   generalize w2.drewN q3=w3 at hb3 ⊢
   have hIs:=zlc ⟨#[111,108,100]⟩ w3
   obtain⟨Hb3,HIs⟩:=hd2 hb3 hIs;clear hb3 hIs
   go_wp2_with fail
   refine HIs.out.mono ?_
   rintro e w4 ⟨rfl,hw4⟩
   obtain⟨bo,hbo⟩ : ∃ z,z=w3.heap.size:=⟨_,rfl⟩
   have hb34:Below w3.heap.size w3 w4:=by rw[hw4];exact za1 _ _
   have po:w4.heap[bo]? = some (.cells #[.string ⟨#[111,108,100]⟩] 9 (0,0)):=by rw[hw4,hbo];exact heap_alloc_new _ _
   have hb24:=Hb3.out.trans (hb34.mono Hb3.out.size)
   have hst4:=Hst2.out.to hb24
   have hT4:=ziq HC.out hst4 (by omega) (enters_of Tryz.func211 (by kernel_rfl) rfl) (ok:=fun s=>decide (s=wOld)) (cp:=.pointer (some ⟨bo,0,none⟩)) (fun s W _ k=>zoh s wOld (za0 k po))
   have p84:=za0 hb24 Hp8.out
   have hfr4:=zb2 Hfr2.out hb24
   rw[← hbo]
   clear hbo
   unfold zbs at hT4
   obtain⟨Hb34,Hpo,Hb24,Hst4,HT4,Hp84,Hfr4,Hw4⟩:=hd8 hb34 po hb24 hst4 hT4 p84 hfr4 hw4;clear hb34 po hb24 hst4 hT4 p84 hfr4 hw4
   go_wp2_with fail
   refine HT4.out.mono ?_
   rintro e w5 ⟨⟨hi5,hok5,rfl,hbx5⟩ | ⟨hno,j,rfl⟩,hfr5⟩
   ·have hold:zan ws (i+1)=wOld:=of_decide_eq_true hok5
    have h5:b8 < w4.heap.size:=(Array.getElem?_eq_some_iff.1 Hp84.out).1
    have p85:=zcd hfr5 Hp84.out (by omega)
    have hfrw5:Frm (fun k=>k=r) w w5:=Hfr4.out.trans hfr5 (fun _ _ h=>h)
    obtain⟨w6,hw6⟩ : ∃ W,W=w5.setCell ⟨b8,1,none⟩ (.bool true):=⟨_,rfl⟩
    have p86:w6.heap[b8]? = some (.cells #[.string s,.bool true] 157 (0,0)):=by rw[hw6];exact heap_setCell_same _ b8 1 _ _ _ p85
    have hfr6:Frm (fun k=>k=r) w w6:=by
     rw[hw6]
     exact hfrw5.trans (T:=fun k=>k=b8) (zad (Frm.refl _ _) _ _) (fun k hk e=>by omega)
    have hbx6:RBox r (.slice a n c) (i+1+1) fin w6:=by rw[hw6];exact zaa hbx5 (by omega)
    have y1:=za5 p85 1
    have y2:=za2 p85 1
    simp only[List.getElem?_toArray,List.getElem?_cons_zero,List.getElem?_cons_succ] at y2
    obtain⟨Hi5,Hok5,Hbx5,Hfr5,Hold,Hp85,Hfrw5,Hp86,Hfr6,Hbx6⟩:=hd10 hi5 hok5 hbx5 hfr5 hold p85 hfrw5 p86 hfr6 hbx6;clear hi5 hok5 hbx5 hfr5 hold p85 hfrw5 p86 hfr6 hbx6
    go_upto_region 6 with (fail)
    rw[← hw6]
    clear hw6 y1 y2
    obtain⟨H1,L1⟩:=Hto.out _ Hfr6.out
    obtain⟨⟨cur,hcur⟩,z2,z3,z4,z5,z6,z7⟩:=L1.cells
    obtain⟨css,hr⟩:=L1.last.rel
    obtain⟨ra,rc,hrv⟩:=za9 hr.row
    rw[hrv] at z2
    have zf:=za5 hcur (ps.length * 8+2)
    have hne:v2.ownBlock≠some pb:=fun e=>by
     have e1:=hr.tag pb e
     have e2:=Hpb1.out
     omega
    have hvl:∀ k,v2.ownBlock=some k→Live (zah t w.heap.size 3 k)∧¬ Ty w6 k:=fun k hk=>⟨by have:=hr.tag k hk;unfold Live;omega,zaq hr (by decide) hk⟩
    have hpt:¬ Ty w6 pb:=zb5 hcur (by decide)
    have hB:B≤w6.heap.size:=Nat.le_trans hBw Hfr6.out.size
    have hrow:=hr.row
    obtain⟨m,hm⟩ : ∃ m,m=p.rel.length:=⟨_,rfl⟩
    rw[← hm] at hrow hrv z2
    have hm7:m≤70000:=by rw[hm];exact Hp.out.1
    rw[hrv] at hrow
    obtain⟨N,hN⟩ : ∃ N,N=css.flatten:=⟨_,rfl⟩
    rw[← hN] at hrow
    have hels:Ft w6 (Fx w6 (zah t w.heap.size 3)) (fun W'=>zjw W' [.string s,.bool true] (s,true)):=fun V _ _=>rfl
    have y0:=za2 Hp86.out 0
    have y1:=za2 Hp86.out 1
    simp only[List.getElem?_toArray,List.getElem?_cons_zero,List.getElem?_cons_succ] at y0 y1
    have za:∀ ob:Obj,(w6.alloc ob).cell? ⟨pb,ps.length * 8+2,none⟩=some (.slice ra m rc):=fun ob=>((Frm.refl (fun _=>False) w6).alloc ob).keep z2
    have hrowd:(w6.drew).ownsRow B 157 2 (.slice ra m rc) m N:=hrow
    have hBd:B≤w6.drew.heap.size:=hB
    clear z3 z4 z5 z6 z7 zf hrow
    have Hne:=Lib.hid hne
    have Hcur:=Lib.hid hcur
    obtain⟨HH1,HL1,Hr,Hrv,Hvl,Hpt,Hm,HN,Hels,Hrowd⟩:=hd10 H1 L1 hr hrv hvl hpt hm hN hels hrowd;clear H1 L1 hr hrv hvl hpt hm hN hels hrowd
    clear hne hcur
    go_region_law (refine zb3 zpv (w:=w6.drew) rfl (.tmp 28) (.tmp 30) rfl B (.slice ra m rc) m N rfl Hrowd.out 1 (by decide) #[.string s,.bool true] rfl rfl (by simp[Value.oneCell']) (by omega) (by unfold maxLen;omega) hBd ?_;intro g9 c9 w9 hown9 hg9 hm9;have hc9:=zaf Hcur.out ((Frm.drew (Frm.refl _ w6)).grown hg9 (S:=fun k=>(Value.slice ra m rc).ownBlock=some k) (fun k hk=>.inr hk)) (by rw[← Hrv.out];exact Hne.out);have d2:=za5 hc9 (ps.length * 8+2);have d1:=(World.cell?_of_block (w:=w6) (w':=w9) (a:=⟨pb,ps.length * 8+2,none⟩) (hc9.trans Hcur.out.symm)).trans z2)
    all_goals
     have hL9:=HL1.out.rel_push Hr.out Hels.out (v9:=.slice (some ⟨g9,0,none⟩) (m+1) c9) (by rw[← Hm.out,← HN.out];exact hown9) (by rw[Hrv.out];exact zbn hg9) (by rw[Hrv.out];exact hm9)
     have hg9':w6.grownBy w9 v2.ownBlock:=by rw[Hrv.out];exact zbn hg9
     obtain⟨Hown9,Hg9,Hm9,Hc9,HL9,Hg9'⟩:=hd6 hown9 hg9 hm9 hc9 hL9 hg9';clear hown9 hg9 hm9 hc9 hL9 hg9'
     clear za
     go_wp2_with fail
     go_end0
     refine zb1 (v:=v2) (j:=i+1+1) HH1.out HL9.out Hfr6.out Hg9'.out Ht1.out (fun k hk=>za8 hk) Hvl.out Hpb1.out Hpt.out Hbx6.out Hr1.out ?_ ?_ ?_ rfl
     ·intro hj
      rw[Hf.out]
      unfold zax
      rw[if_pos rfl,verL_two (by omega) (by rw[← Hs.out];exact Hok.out) Hold.out,← Hs.out]
      rfl
     ·intro hj
      rw[Hf.out]
      unfold zax
      rw[if_pos rfl,zp2 (by omega) (.inr (by omega))]
      rfl
     have:=Hn.out
     omega
   have hnone:zax first line p (zap ws i)=none:=by
    rw[Hf.out]
    unfold zax
    rw[if_pos rfl,zp2 (by have:=Hn.out;omega) (.inl (by
     rcases hno with h | h
     ·have:=Hn.out;omega
     exact of_decide_eq_false h))]
    rfl
   have hfrw5:Frm (fun k=>k=r) w w5:=Hfr4.out.trans hfr5 (fun _ _ h=>h)
   obtain⟨Hno,Hfr5,Hnone,Hfrw5⟩:=hd4 hno hfr5 hnone hfrw5;clear hno hfr5 hnone hfrw5
   go_wp2_with fail
   exact⟨rfl,zb9 Hnone.out rfl Hfrw5.out⟩
  rw[decide_eq_false hlt] at hM
  obtain⟨Hi2,Hok,Hbx,Hfr,Hb12,Hp8,Hfr2,Hbx2,Hst2,HM⟩:=hd10 hi2 hok hbx hfr hb12 p8 hfr2 hbx2 hst2 hM;clear hi2 hok hbx hfr hb12 p8 hfr2 hbx2 hst2 hM
  go_upto_region 3 with (fail)
  rw[← hw2,← hb8]
  clear hw2 hb8
  go_wp2_with fail
  refine HM.out.mono ?_
  rintro e w3 ⟨rfl,q3,rfl⟩
  have hb3:Below w2.heap.size w2 (w2.drewN q3):=zac (Below.refl _ _) q3
  generalize w2.drewN q3=w3 at hb3 ⊢
  have p83:=za0 hb3 Hp8.out
  have hfr3:=zb2 Hfr2.out hb3
  have hbx3:=za0 hb3 Hbx2.out
  obtain⟨Hb3,Hp83,Hfr3,Hbx3⟩:=hd4 hb3 p83 hfr3 hbx3;clear hb3 p83 hfr3 hbx3
  go_upto_region 6 with (fail)
  obtain⟨H1,L1⟩:=Hto.out _ Hfr3.out
  obtain⟨⟨cur,hcur⟩,z2,z3,z4,z5,z6,z7⟩:=L1.cells
  obtain⟨css,hr⟩:=L1.last.rel
  obtain⟨ra,rc,hrv⟩:=za9 hr.row
  rw[hrv] at z2
  have zf:=za5 hcur (ps.length * 8+2)
  have hne:v2.ownBlock≠some pb:=fun e=>by
   have e1:=hr.tag pb e
   have e2:=Hpb1.out
   omega
  have hvl:∀ k,v2.ownBlock=some k→Live (zah t w.heap.size 3 k)∧¬ Ty w3 k:=fun k hk=>⟨by have:=hr.tag k hk;unfold Live;omega,zaq hr (by decide) hk⟩
  have hpt:¬ Ty w3 pb:=zb5 hcur (by decide)
  have hB:B≤w3.heap.size:=Nat.le_trans hBw Hfr3.out.size
  have hrow:=hr.row
  obtain⟨m,hm⟩ : ∃ m,m=p.rel.length:=⟨_,rfl⟩
  rw[← hm] at hrow hrv z2
  have hm7:m≤70000:=by rw[hm];exact Hp.out.1
  rw[hrv] at hrow
  obtain⟨N,hN⟩ : ∃ N,N=css.flatten:=⟨_,rfl⟩
  rw[← hN] at hrow
  have hels:Ft w3 (Fx w3 (zah t w.heap.size 3)) (fun W'=>zjw W' [.string s,.bool false] (s,false)):=fun V _ _=>rfl
  have y0:=za2 Hp83.out 0
  have y1:=za2 Hp83.out 1
  simp only[List.getElem?_toArray,List.getElem?_cons_zero,List.getElem?_cons_succ] at y0 y1
  have za:∀ ob:Obj,(w3.alloc ob).cell? ⟨pb,ps.length * 8+2,none⟩=some (.slice ra m rc):=fun ob=>((Frm.refl (fun _=>False) w3).alloc ob).keep z2
  have hrowd:(w3.drew).ownsRow B 157 2 (.slice ra m rc) m N:=hrow
  have hBd:B≤w3.drew.heap.size:=hB
  clear z3 z4 z5 z6 z7 zf hrow
  have Hne:=Lib.hid hne
  have Hcur:=Lib.hid hcur
  obtain⟨HH1,HL1,Hr,Hrv,Hvl,Hpt,Hm,HN,Hels,Hrowd⟩:=hd10 H1 L1 hr hrv hvl hpt hm hN hels hrowd;clear H1 L1 hr hrv hvl hpt hm hN hels hrowd
  clear hne hcur
  go_region_law (refine zb3 zpv (w:=w3.drew) rfl (.tmp 28) (.tmp 30) rfl B (.slice ra m rc) m N rfl Hrowd.out 1 (by decide) #[.string s,.bool false] rfl rfl (by simp[Value.oneCell']) (by omega) (by unfold maxLen;omega) hBd ?_;intro g9 c9 w9 hown9 hg9 hm9;have hc9:=zaf Hcur.out ((Frm.drew (Frm.refl _ w3)).grown hg9 (S:=fun k=>(Value.slice ra m rc).ownBlock=some k) (fun k hk=>.inr hk)) (by rw[← Hrv.out];exact Hne.out);have d2:=za5 hc9 (ps.length * 8+2);have d1:=(World.cell?_of_block (w:=w3) (w':=w9) (a:=⟨pb,ps.length * 8+2,none⟩) (hc9.trans Hcur.out.symm)).trans z2)
  all_goals
   have hL9:=HL1.out.rel_push Hr.out Hels.out (v9:=.slice (some ⟨g9,0,none⟩) (m+1) c9) (by rw[← Hm.out,← HN.out];exact hown9) (by rw[Hrv.out];exact zbn hg9) (by rw[Hrv.out];exact hm9)
   have hg9':w3.grownBy w9 v2.ownBlock:=by rw[Hrv.out];exact zbn hg9
   obtain⟨Hown9,Hg9,Hm9,Hc9,HL9,Hg9'⟩:=hd6 hown9 hg9 hm9 hc9 hL9 hg9';clear hown9 hg9 hm9 hc9 hL9 hg9'
   clear za
   go_wp2_with fail
   go_end0
   refine zb1 (v:=v2) (j:=i+1) HH1.out HL9.out Hfr3.out Hg9'.out Ht1.out (fun k hk=>za8 hk) Hvl.out Hpb1.out Hpt.out Hbx3.out Hr1.out ?_ ?_ ?_ rfl
   ·intro hj
    rw[Hf.out]
    unfold zax
    rw[if_pos rfl,verL_one (by omega) (by rw[← Hs.out];exact Hok.out),← Hs.out]
    rfl
   ·intro hj
    have:=Hn.out
    omega
   have:=Hi2.out
   omega
 have hnone:zax first line p (zap ws i)=none:=by
  rw[Hf.out]
  unfold zax
  rw[if_pos rfl,verL_none (by rw[← Hs.out];exact hno)]
  rfl
 obtain⟨Hno,Hfr,Hnone⟩:=hd3 hno hfr hnone;clear hno hfr hnone
 go_wp2_with fail
 exact⟨rfl,zb9 Hnone.out rfl Hfr.out⟩
end

section
open Go.Shelf Go.RowKit Go.Lib VerN VarM
open LexM (Wd)
attribute [local go_sem ↓] Go.wp_at_zero Go.wp_at_succ
theorem zm9 {w0 w:World} {r:Nat} {a:Option Addr} {n c:Nat} {fin:Int} {ws:List Wd} {i:Nat} {t:Nat→Nat} {B xb pb cap:Nat} {vf:Value} {x:RcpM} {ps:List PkgM} {p:PkgM} {line:Int} {first:ByteArray} (C:RdC w0 r a n c fin ws) (S:RdS w0 r a n c fin i w) (hi1:i≤990)
  (H:RcSt w t B xb (.slice (some ⟨pb,0,none⟩) (ps.length+1) cap) vf x) (hx:x.pk=ps ++ [p]) (tr:t r=10) (hBw:B≤w.heap.size) (hp:FewP p) (hps:ps.length≤70000) (hf:first=zct) :
  Calls Tryz.prog 156 #[rp r,.string first,.int .i64 line,.pointer (some ⟨pb,ps.length * 8,none⟩)] w (zds r a n c fin ws i t B xb (.slice (some ⟨pb,0,none⟩) (ps.length+1) cap) vf x ps p line first w):=by
 have k0:(first.toList == [118,101,114,115,105,111,110])=false:=by rw[zau first [118,101,114,115,105,111,110] zd1 rfl,hf];decide
 have k1:(first.toList == [118,97,114,105,97,110,116])=false:=by rw[zau first [118,97,114,105,97,110,116] zd9 rfl,hf];decide
 have k2:(first.toList == [112,114,111,118,105,100,101,115])=true:=by rw[zau first [112,114,111,118,105,100,101,115] zct rfl,hf];decide
 have hrw:r < w.heap.size:=(Array.getElem?_eq_some_iff.1 S.box).1
 have hn:=C.len
 have hn1:=C.n1000
 have hlow:=C.low
 obtain⟨dss,v2,v3,v4,v5,v6,v7,L⟩ : ∃ dss v2 v3 v4 v5 v6 v7,zc9 w t B (.slice (some ⟨pb,0,none⟩) (ps.length+1) cap) ps p dss v2 v3 v4 v5 v6 v7:=by
  rcases H.pk with⟨h1,_⟩ | ⟨ps',p',dss,v2,v3,v4,v5,v6,v7,h1,L⟩
  ·rw[hx] at h1
   simp at h1
  rw[hx] at h1
  have e1:=List.append_inj_left' h1 rfl
  have e2:=List.append_inj_right' h1 rfl
  obtain rfl:p=p':=by simpa using e2
  subst e1
  exact⟨dss,v2,v3,v4,v5,v6,v7,L⟩
 have hrt:=zb5 S.box (by decide)
 -- the recipe as it is at a later world,ahead of the store
 have hto:∀ W,Frm (fun k=>k=r) w W→RcSt W (zah t w.heap.size 3) B xb (.slice (some ⟨pb,0,none⟩) (ps.length+1) cap) vf x∧zc9 W (zah t w.heap.size 3) B (.slice (some ⟨pb,0,none⟩) (ps.length+1) cap) ps p dss v2 v3 v4 v5 v6 v7:=fun W hF =>
  ⟨H.to hF (fun k _ hk=>by subst hk;exact⟨by omega,hrt⟩) (fun k hk _=>za8 hk),L.to hF (fun k _ hk=>by subst hk;unfold Live;exact⟨by omega,by omega,by omega,hrt⟩) (fun k hk _=>za8 hk)⟩
 have ht1:∀ k,k < w.heap.size→zah t w.heap.size 3 k=t k:=fun k hk=>za8 hk
 have hr1:zah t w.heap.size 3 r=10:=by rw[za8 hrw,tr]
 have hpb1:zah t w.heap.size 3 pb=1:=by rw[za8 (L.row.lt pb rfl).2,L.tag pb rfl]
 have hT:=fun (W:World) (k:Below w.heap.size w W)=>zeq C (S.to k) (by omega) (enters_of Tryz.func153 (by kernel_rfl) rfl) (ok:=zcw) (fun s W hs _=>zf5 s hs W)
 obtain⟨s,hs⟩ : ∃ s,s=zan ws i:=⟨_,rfl⟩
 unfold zbs at hT
 simp only[← hs] at hT
 obtain⟨⟨cur0,hcur0⟩,-,-,g4,-,-,g7⟩:=L.cells
 obtain⟨css0,hr0⟩:=L.last.prov
 obtain⟨ra,rc,hrv0⟩:=za9 hr0.row
 rw[hrv0] at g4
 obtain⟨m,hm⟩ : ∃ m,m=p.prov.length:=⟨_,rfl⟩
 rw[← hm] at g4 hrv0
 have hkeep:∀ W,Frm (fun k=>k=r) w W→W.cell? ⟨pb,ps.length * 8+4,none⟩=some (.slice ra m rc):=fun W hF=>(hF.cell (p:=⟨pb,ps.length * 8+4,none⟩) (Array.getElem?_eq_some_iff.1 hcur0).1 (fun e=>by
  have h1:pb=r:=e
  have h2:=L.tag pb rfl
  rw[h1,tr] at h2
  cases h2)).trans g4
 clear g7
 have Hkeep:=Lib.hid hkeep
 clear hkeep
 obtain⟨HC,HS,HH,HL,Hx,Hp,Hf,HT,Hs,Hn,Hto,Ht1,Hr1,Hpb1,Hrt,Htr⟩:=hd16 C S H L hx hp hf hT hs hn hto ht1 hr1 hpb1 hrt tr;obtain⟨Hcur0,Hr0,Hrv0,Hm⟩:=hd4 hcur0 hr0 hrv0 hm;clear C S H L hx hp hf hT hs hn hto ht1 hr1 hpb1 hrt tr hcur0 hr0 hrv0 hm
 go_enter Tryz.func156,Tryz.ntmps156
 go_upto_region 11 with (fail)
 have hbd:=Below.drew (Below.refl w.heap.size w)
 have hT1:=HT.out _ hbd
 have hSd:w.drew.cell? ⟨pb,ps.length * 8+4,none⟩=some (.slice ra m rc):=g4
 have hTr:True:=trivial
 refine wp_region_held_drew (S:=fun _=>True) (by kernel_rfl) trivial (fun hHeld=>?_)
 have hfd:Frm (fun k=>k=r) w w.drew:=Frm.drew (Frm.refl _ w)
 generalize w.drew=wd at hbd hT1 hfd hSd ⊢
 clear g4
 obtain⟨Hbd,HT1,Hfd⟩:=hd3 hbd hT1 hfd;clear hbd hT1 hfd
 refine wpAnyH_take (i:=0) (v:=?_) rfl (by kernel_rfl) (by kernel_rfl) (by kernel_rfl) (fun _ _ _ h=>h) (Or.inl ⟨by kernel_rfl,?_⟩) (by assumption) ?_
 rotate_left
 ·(intro w hSw;(try dsimp only at hSw);(try obtain⟨⟩:=hSw);go_simp;try with_reducible rfl)
 try simp only[Act.put,lA,lB,lC]
 refine wpAnyH_take (i:=1) (v:=?_) rfl (by kernel_rfl) (by kernel_rfl) (by kernel_rfl) (fun _ _ _ h=>h) (Or.inl ⟨by kernel_rfl,?_⟩) (by assumption) ?_
 rotate_left
 ·(intro w hSw;(try dsimp only at hSw);(try obtain⟨⟩:=hSw);go_simp;try with_reducible rfl)
 try simp only[Act.put,lA,lB,lC]
 refine wpAnyH_take (i:=2) (v:=?_) rfl (by kernel_rfl) (by kernel_rfl) (by kernel_rfl) (fun _ _ _ h=>h) (Or.inl ⟨by kernel_rfl,?_⟩) (by assumption) ?_
 rotate_left
 ·(intro w hSw;(try dsimp only at hSw);(try obtain⟨⟩:=hSw);go_simp;try with_reducible rfl)
 try simp only[Act.put,lA,lB,lC]
 refine wpAnyH_take (i:=3) (v:=?_) rfl (by kernel_rfl) (by kernel_rfl) (by kernel_rfl) (fun _ _ _ h=>h) (Or.inl ⟨by kernel_rfl,?_⟩) (by assumption) ?_
 rotate_left
 ·(intro w hSw;(try dsimp only at hSw);(try obtain⟨⟩:=hSw);go_simp;try with_reducible rfl)
 try simp only[Act.put,lA,lB,lC]
 refine wpAnyH_take (i:=5) (v:=?_) rfl (by kernel_rfl) (by kernel_rfl) (by kernel_rfl) (fun _ _ _ h=>h) (Or.inl ⟨by kernel_rfl,?_⟩) (by assumption) ?_
 rotate_left
 ·(intro w hSw;(try dsimp only at hSw);(try obtain⟨⟩:=hSw);go_simp;try with_reducible rfl)
 try simp only[Act.put,lA,lB,lC]
 refine wpAnyH_ready (rs:=[4,6]) (by kernel_rfl) (by simp) ?_
 refine AllReadyH.cons rfl (fun K hK=>?_) (AllReadyH.cons rfl (fun K hK=>?_) AllReadyH.nil)
 ·go_simp
  refine hK.out _ _ trivial (fun hHeld=>?_)
  clear hK K
  try simp only[Act.put,lA,lB,lC]
  refine wpAnyH_ready (rs:=[6]) (by kernel_rfl) (by simp) ?_
  refine AllReadyH.cons rfl (fun K hK=>?_) AllReadyH.nil
  go_simp
  refine HT1.out.mono ?_
  rintro e w1 ⟨⟨hi2,hok,rfl,hbx⟩ | ⟨hno,j,rfl⟩,hfr⟩
  ·have hfr1:Frm (fun k=>k=r) w w1:=Hfd.out.trans hfr (fun _ _ h=>h)
   have hS1:=Hkeep.out _ hfr1
   obtain⟨Hi2,Hok,Hbx,Hfr,Hfr1⟩:=hd5 hi2 hok hbx hfr hfr1;clear hi2 hok hbx hfr hfr1
   go_wp2_with fail
   refine hK.out _ _ trivial (fun hHeld=>?_)
   clear hK K
   try simp only[Act.put,lA,lB,lC]
   obtain⟨H1,L1⟩:=Hto.out _ Hfr1.out
   obtain⟨⟨cur,hcur⟩,-⟩:=L1.cells
   obtain⟨css,hr⟩:=L1.last.prov
   have hne:v4.ownBlock≠some pb:=fun e=>by
    have e1:=hr.tag pb e
    have e2:=Hpb1.out
    omega
   have hvl:∀ k,v4.ownBlock=some k→Live (zah t w.heap.size 3 k)∧¬ Ty w1 k:=fun k hk=>⟨by have:=hr.tag k hk;unfold Live;omega,zaq hr (by decide) hk⟩
   have hpt:¬ Ty w1 pb:=zb5 hcur (by decide)
   have hB:B≤w1.heap.size:=Nat.le_trans hBw Hfr1.out.size
   have hrow:=hr.row
   rw[← Hm.out,Hrv0.out] at hrow
   have hm7:m≤70000:=by rw[Hm.out];exact Hp.out.2.2.1
   obtain⟨N,hN⟩ : ∃ N,N=css.flatten:=⟨_,rfl⟩
   rw[← hN] at hrow
   have hsz:s.size≤maxLen:=by have:=HC.out.peek_size i;rw[← Hs.out] at this;unfold maxLen;omega
   have hels:Ft w1 (Fx w1 (zah t w.heap.size 3)) (fun W'=>RStr W' [.string s] s):=fun V _ _=>⟨rfl,hsz⟩
   have Hne:=Lib.hid hne
   have Hcur:=Lib.hid hcur
   clear hne hcur
   obtain⟨HH1,HL1,Hr,Hvl,Hpt,HN,Hels,Hrow⟩:=hd8 H1 L1 hr hvl hpt hN hels hrow;clear H1 L1 hr hvl hpt hN hels hrow
   refine wpAnyH_ready (rs:=[7]) (by kernel_rfl) (by simp) ?_
   refine AllReadyH.cons rfl (fun K hK=>?_) AllReadyH.nil
   go_simp
   refine hK.out _ _ trivial (fun hHeld=>?_)
   clear hK K
   try simp only[Act.put,lA,lB,lC]
   refine wpAnyH_ready (rs:=[8]) (by kernel_rfl) (by simp) ?_
   refine AllReadyH.cons rfl (fun K hK=>?_) AllReadyH.nil
   refine zas zdx (.tmp 57) (.tmp 60) rfl B (.slice ra m rc) m N rfl Hrow.out 1 #[.string s] rfl rfl (by simp[Value.oneCell']) (by omega) (by unfold maxLen;omega) hB (fun v' w9 hown9 hg9 hm9=>?_)
   obtain⟨a9,c9,rfl⟩:=za9 hown9
   have hc9:w9.heap[pb]? = some (.cells cur 123 (0,0)):=(hg9.block pb (Array.getElem?_eq_some_iff.1 Hcur.out).1 (fun e=>Hne.out (by rw[Hrv0.out];exact e.symm))).trans Hcur.out
   have d2:=za5 hc9 (ps.length * 8+4)
   have d1:=(World.cell?_of_block (w:=w1) (w':=w9) (a:=⟨pb,ps.length * 8+4,none⟩) (hc9.trans Hcur.out.symm)).trans hS1
   have hL9:=HL1.out.prov_push Hr.out Hels.out (v9:=.slice a9 (m+1) c9) (by rw[← Hm.out,← HN.out];exact hown9) (by rw[Hrv0.out];exact hg9) (by rw[Hrv0.out];exact hm9)
   have hg9':w1.grownBy w9 v4.ownBlock:=by rw[Hrv0.out];exact hg9
   obtain⟨Hown9,Hg9,Hm9,Hc9,HL9,Hg9'⟩:=hd6 hown9 hg9 hm9 hc9 hL9 hg9';clear hown9 hg9 hm9 hc9 hL9 hg9'
   refine hK.out _ _ trivial (fun hHeld=>?_)
   clear hK K
   try simp only[Act.put,lA,lB,lC]
   refine wpAnyH_take (i:=9) (v:=?_) rfl (by kernel_rfl) (by kernel_rfl) (by kernel_rfl) (fun _ _ _ h=>h) (Or.inl ⟨by kernel_rfl,?_⟩) (by assumption) ?_
   rotate_left
   ·(intro w hSw;(try dsimp only at hSw);(try obtain⟨⟩:=hSw);go_simp;try with_reducible rfl)
   try simp only[Act.put,lA,lB,lC]
   refine wpAnyH_take (i:=10) (v:=?_) rfl (by kernel_rfl) (by kernel_rfl) (by kernel_rfl) (fun _ _ _ h=>h) (Or.inl ⟨by kernel_rfl,?_⟩) (by assumption) ?_
   rotate_left
   ·(intro w hSw;(try dsimp only at hSw);(try obtain⟨⟩:=hSw);go_simp;try with_reducible rfl)
   try simp only[Act.put,lA,lB,lC]
   refine wpAnyH_ready (rs:=[11]) (by kernel_rfl) (by simp) ?_
   refine AllReadyH.cons rfl (fun K hK=>?_) AllReadyH.nil
   go_simp
   refine hK.out _ _ trivial (fun hHeld=>?_)
   clear hK K
   try simp only[Act.put,lA,lB,lC]
   refine wpAnyH_done (by kernel_rfl) ?_ _
   go_simp
   go_wp2_with fail
   go_end0
   refine zb1 (v:=v4) (j:=i+1) HH1.out HL9.out Hfr1.out Hg9'.out Ht1.out (fun k hk=>za8 hk) Hvl.out Hpb1.out Hpt.out Hbx.out Hr1.out ?_ ?_ ?_ rfl
   ·intro hj
    rw[Hf.out]
    unfold zax
    rw[if_neg (by decide),if_neg (by decide),if_pos rfl,zex (by omega) (by rw[← Hs.out];exact Hok.out),← Hs.out]
    rfl
   ·intro hj
    rw[Hf.out]
    unfold zax
    rw[if_neg (by decide),if_neg (by decide),if_pos rfl,zdf (.inr (.inr (by omega)))]
    rfl
   have:=Hi2.out
   omega
  have hnone:zax first line p (zap ws i)=none:=by
   rw[Hf.out]
   unfold zax
   rw[if_neg (by decide),if_neg (by decide),if_pos rfl,zdf (by rw[← Hs.out];exact hno.elim .inl fun h=>.inr (.inl h))]
   rfl
  have hfrw:Frm (fun k=>k=r) w w1:=Hfd.out.trans hfr (fun _ _ h=>h)
  obtain⟨Hno,Hfr,Hnone,Hfrw⟩:=hd4 hno hfr hnone hfrw;clear hno hfr hnone hfrw
  go_wp2_with fail
  exact⟨rfl,zb9 Hnone.out rfl Hfrw.out⟩
 go_simp
 refine HT1.out.mono ?_
 rintro e w1 ⟨⟨hi2,hok,rfl,hbx⟩ | ⟨hno,j,rfl⟩,hfr⟩
 ·have hfr1:Frm (fun k=>k=r) w w1:=Hfd.out.trans hfr (fun _ _ h=>h)
  have hS1:=Hkeep.out _ hfr1
  obtain⟨Hi2,Hok,Hbx,Hfr,Hfr1⟩:=hd5 hi2 hok hbx hfr hfr1;clear hi2 hok hbx hfr hfr1
  go_wp2_with fail
  refine hK.out _ _ trivial (fun hHeld=>?_)
  clear hK K
  try simp only[Act.put,lA,lB,lC]
  refine wpAnyH_ready (rs:=[4,7]) (by kernel_rfl) (by simp) ?_
  refine AllReadyH.cons rfl (fun K hK=>?_) (AllReadyH.cons rfl (fun K hK=>?_) AllReadyH.nil)
  ·go_simp
   refine hK.out _ _ trivial (fun hHeld=>?_)
   clear hK K
   try simp only[Act.put,lA,lB,lC]
   obtain⟨H1,L1⟩:=Hto.out _ Hfr1.out
   obtain⟨⟨cur,hcur⟩,-⟩:=L1.cells
   obtain⟨css,hr⟩:=L1.last.prov
   have hne:v4.ownBlock≠some pb:=fun e=>by
    have e1:=hr.tag pb e
    have e2:=Hpb1.out
    omega
   have hvl:∀ k,v4.ownBlock=some k→Live (zah t w.heap.size 3 k)∧¬ Ty w1 k:=fun k hk=>⟨by have:=hr.tag k hk;unfold Live;omega,zaq hr (by decide) hk⟩
   have hpt:¬ Ty w1 pb:=zb5 hcur (by decide)
   have hB:B≤w1.heap.size:=Nat.le_trans hBw Hfr1.out.size
   have hrow:=hr.row
   rw[← Hm.out,Hrv0.out] at hrow
   have hm7:m≤70000:=by rw[Hm.out];exact Hp.out.2.2.1
   obtain⟨N,hN⟩ : ∃ N,N=css.flatten:=⟨_,rfl⟩
   rw[← hN] at hrow
   have hsz:s.size≤maxLen:=by have:=HC.out.peek_size i;rw[← Hs.out] at this;unfold maxLen;omega
   have hels:Ft w1 (Fx w1 (zah t w.heap.size 3)) (fun W'=>RStr W' [.string s] s):=fun V _ _=>⟨rfl,hsz⟩
   have Hne:=Lib.hid hne
   have Hcur:=Lib.hid hcur
   clear hne hcur
   obtain⟨HH1,HL1,Hr,Hvl,Hpt,HN,Hels,Hrow⟩:=hd8 H1 L1 hr hvl hpt hN hels hrow;clear H1 L1 hr hvl hpt hN hels hrow
   refine wpAnyH_ready (rs:=[7]) (by kernel_rfl) (by simp) ?_
   refine AllReadyH.cons rfl (fun K hK=>?_) AllReadyH.nil
   go_simp
   refine hK.out _ _ trivial (fun hHeld=>?_)
   clear hK K
   try simp only[Act.put,lA,lB,lC]
   refine wpAnyH_ready (rs:=[8]) (by kernel_rfl) (by simp) ?_
   refine AllReadyH.cons rfl (fun K hK=>?_) AllReadyH.nil
   refine zas zdx (.tmp 57) (.tmp 60) rfl B (.slice ra m rc) m N rfl Hrow.out 1 #[.string s] rfl rfl (by simp[Value.oneCell']) (by omega) (by unfold maxLen;omega) hB (fun v' w9 hown9 hg9 hm9=>?_)
   obtain⟨a9,c9,rfl⟩:=za9 hown9
   have hc9:w9.heap[pb]? = some (.cells cur 123 (0,0)):=(hg9.block pb (Array.getElem?_eq_some_iff.1 Hcur.out).1 (fun e=>Hne.out (by rw[Hrv0.out];exact e.symm))).trans Hcur.out
   have d2:=za5 hc9 (ps.length * 8+4)
   have d1:=(World.cell?_of_block (w:=w1) (w':=w9) (a:=⟨pb,ps.length * 8+4,none⟩) (hc9.trans Hcur.out.symm)).trans hS1
   have hL9:=HL1.out.prov_push Hr.out Hels.out (v9:=.slice a9 (m+1) c9) (by rw[← Hm.out,← HN.out];exact hown9) (by rw[Hrv0.out];exact hg9) (by rw[Hrv0.out];exact hm9)
   have hg9':w1.grownBy w9 v4.ownBlock:=by rw[Hrv0.out];exact hg9
   obtain⟨Hown9,Hg9,Hm9,Hc9,HL9,Hg9'⟩:=hd6 hown9 hg9 hm9 hc9 hL9 hg9';clear hown9 hg9 hm9 hc9 hL9 hg9'
   refine hK.out _ _ trivial (fun hHeld=>?_)
   clear hK K
   try simp only[Act.put,lA,lB,lC]
   refine wpAnyH_take (i:=9) (v:=?_) rfl (by kernel_rfl) (by kernel_rfl) (by kernel_rfl) (fun _ _ _ h=>h) (Or.inl ⟨by kernel_rfl,?_⟩) (by assumption) ?_
   rotate_left
   ·(intro w hSw;(try dsimp only at hSw);(try obtain⟨⟩:=hSw);go_simp;try with_reducible rfl)
   try simp only[Act.put,lA,lB,lC]
   refine wpAnyH_take (i:=10) (v:=?_) rfl (by kernel_rfl) (by kernel_rfl) (by kernel_rfl) (fun _ _ _ h=>h) (Or.inl ⟨by kernel_rfl,?_⟩) (by assumption) ?_
   rotate_left
   ·(intro w hSw;(try dsimp only at hSw);(try obtain⟨⟩:=hSw);go_simp;try with_reducible rfl)
   try simp only[Act.put,lA,lB,lC]
   refine wpAnyH_ready (rs:=[11]) (by kernel_rfl) (by simp) ?_
   refine AllReadyH.cons rfl (fun K hK=>?_) AllReadyH.nil
   go_simp
   refine hK.out _ _ trivial (fun hHeld=>?_)
   clear hK K
   try simp only[Act.put,lA,lB,lC]
   refine wpAnyH_done (by kernel_rfl) ?_ _
   go_simp
   go_wp2_with fail
   go_end0
   refine zb1 (v:=v4) (j:=i+1) HH1.out HL9.out Hfr1.out Hg9'.out Ht1.out (fun k hk=>za8 hk) Hvl.out Hpb1.out Hpt.out Hbx.out Hr1.out ?_ ?_ ?_ rfl
   ·intro hj
    rw[Hf.out]
    unfold zax
    rw[if_neg (by decide),if_neg (by decide),if_pos rfl,zex (by omega) (by rw[← Hs.out];exact Hok.out),← Hs.out]
    rfl
   ·intro hj
    rw[Hf.out]
    unfold zax
    rw[if_neg (by decide),if_neg (by decide),if_pos rfl,zdf (.inr (.inr (by omega)))]
    rfl
   have:=Hi2.out
   omega
  obtain⟨H1,L1⟩:=Hto.out _ Hfr1.out
  obtain⟨⟨cur,hcur⟩,-⟩:=L1.cells
  obtain⟨css,hr⟩:=L1.last.prov
  have hne:v4.ownBlock≠some pb:=fun e=>by
   have e1:=hr.tag pb e
   have e2:=Hpb1.out
   omega
  have hvl:∀ k,v4.ownBlock=some k→Live (zah t w.heap.size 3 k)∧¬ Ty w1 k:=fun k hk=>⟨by have:=hr.tag k hk;unfold Live;omega,zaq hr (by decide) hk⟩
  have hpt:¬ Ty w1 pb:=zb5 hcur (by decide)
  have hB:B≤w1.heap.size:=Nat.le_trans hBw Hfr1.out.size
  have hrow:=hr.row
  rw[← Hm.out,Hrv0.out] at hrow
  have hm7:m≤70000:=by rw[Hm.out];exact Hp.out.2.2.1
  obtain⟨N,hN⟩ : ∃ N,N=css.flatten:=⟨_,rfl⟩
  rw[← hN] at hrow
  have hsz:s.size≤maxLen:=by have:=HC.out.peek_size i;rw[← Hs.out] at this;unfold maxLen;omega
  have hels:Ft w1 (Fx w1 (zah t w.heap.size 3)) (fun W'=>RStr W' [.string s] s):=fun V _ _=>⟨rfl,hsz⟩
  have Hne:=Lib.hid hne
  have Hcur:=Lib.hid hcur
  clear hne hcur
  obtain⟨HH1,HL1,Hr,Hvl,Hpt,HN,Hels,Hrow⟩:=hd8 H1 L1 hr hvl hpt hN hels hrow;clear H1 L1 hr hvl hpt hN hels hrow
  go_simp
  refine hK.out _ _ trivial (fun hHeld=>?_)
  clear hK K
  try simp only[Act.put,lA,lB,lC]
  have hS2:=Hkeep.out _ (Hfr1.out.alloc (.cells #[.string s] 9))
  refine wpAnyH_ready (rs:=[4]) (by kernel_rfl) (by simp) ?_
  refine AllReadyH.cons rfl (fun K hK=>?_) AllReadyH.nil
  go_simp
  refine hK.out _ _ trivial (fun hHeld=>?_)
  clear hK K
  try simp only[Act.put,lA,lB,lC]
  clear hS2
  refine wpAnyH_ready (rs:=[8]) (by kernel_rfl) (by simp) ?_
  refine AllReadyH.cons rfl (fun K hK=>?_) AllReadyH.nil
  refine zas zdx (.tmp 57) (.tmp 60) rfl B (.slice ra m rc) m N rfl Hrow.out 1 #[.string s] rfl rfl (by simp[Value.oneCell']) (by omega) (by unfold maxLen;omega) hB (fun v' w9 hown9 hg9 hm9=>?_)
  obtain⟨a9,c9,rfl⟩:=za9 hown9
  have hc9:w9.heap[pb]? = some (.cells cur 123 (0,0)):=(hg9.block pb (Array.getElem?_eq_some_iff.1 Hcur.out).1 (fun e=>Hne.out (by rw[Hrv0.out];exact e.symm))).trans Hcur.out
  have d2:=za5 hc9 (ps.length * 8+4)
  have d1:=(World.cell?_of_block (w:=w1) (w':=w9) (a:=⟨pb,ps.length * 8+4,none⟩) (hc9.trans Hcur.out.symm)).trans hS1
  have hL9:=HL1.out.prov_push Hr.out Hels.out (v9:=.slice a9 (m+1) c9) (by rw[← Hm.out,← HN.out];exact hown9) (by rw[Hrv0.out];exact hg9) (by rw[Hrv0.out];exact hm9)
  have hg9':w1.grownBy w9 v4.ownBlock:=by rw[Hrv0.out];exact hg9
  obtain⟨Hown9,Hg9,Hm9,Hc9,HL9,Hg9'⟩:=hd6 hown9 hg9 hm9 hc9 hL9 hg9';clear hown9 hg9 hm9 hc9 hL9 hg9'
  refine hK.out _ _ trivial (fun hHeld=>?_)
  clear hK K
  try simp only[Act.put,lA,lB,lC]
  refine wpAnyH_take (i:=9) (v:=?_) rfl (by kernel_rfl) (by kernel_rfl) (by kernel_rfl) (fun _ _ _ h=>h) (Or.inl ⟨by kernel_rfl,?_⟩) (by assumption) ?_
  rotate_left
  ·(intro w hSw;(try dsimp only at hSw);(try obtain⟨⟩:=hSw);go_simp;try with_reducible rfl)
  try simp only[Act.put,lA,lB,lC]
  refine wpAnyH_take (i:=10) (v:=?_) rfl (by kernel_rfl) (by kernel_rfl) (by kernel_rfl) (fun _ _ _ h=>h) (Or.inl ⟨by kernel_rfl,?_⟩) (by assumption) ?_
  rotate_left
  ·(intro w hSw;(try dsimp only at hSw);(try obtain⟨⟩:=hSw);go_simp;try with_reducible rfl)
  try simp only[Act.put,lA,lB,lC]
  refine wpAnyH_ready (rs:=[11]) (by kernel_rfl) (by simp) ?_
  refine AllReadyH.cons rfl (fun K hK=>?_) AllReadyH.nil
  go_simp
  refine hK.out _ _ trivial (fun hHeld=>?_)
  clear hK K
  try simp only[Act.put,lA,lB,lC]
  refine wpAnyH_done (by kernel_rfl) ?_ _
  go_simp
  go_wp2_with fail
  go_end0
  refine zb1 (v:=v4) (j:=i+1) HH1.out HL9.out Hfr1.out Hg9'.out Ht1.out (fun k hk=>za8 hk) Hvl.out Hpb1.out Hpt.out Hbx.out Hr1.out ?_ ?_ ?_ rfl
  ·intro hj
   rw[Hf.out]
   unfold zax
   rw[if_neg (by decide),if_neg (by decide),if_pos rfl,zex (by omega) (by rw[← Hs.out];exact Hok.out),← Hs.out]
   rfl
  ·intro hj
   rw[Hf.out]
   unfold zax
   rw[if_neg (by decide),if_neg (by decide),if_pos rfl,zdf (.inr (.inr (by omega)))]
   rfl
  have:=Hi2.out
  omega
 have hnone:zax first line p (zap ws i)=none:=by
  rw[Hf.out]
  unfold zax
  rw[if_neg (by decide),if_neg (by decide),if_pos rfl,zdf (by rw[← Hs.out];exact hno.elim .inl fun h=>.inr (.inl h))]
  rfl
 have hfrw:Frm (fun k=>k=r) w w1:=Hfd.out.trans hfr (fun _ _ h=>h)
 obtain⟨Hno,Hfr,Hnone,Hfrw⟩:=hd4 hno hfr hnone hfrw;clear hno hfr hnone hfrw
 go_wp2_with fail
 exact⟨rfl,zb9 Hnone.out rfl Hfrw.out⟩
theorem zma {w0 w:World} {r:Nat} {a:Option Addr} {n c:Nat} {fin:Int} {ws:List Wd} {i:Nat} {t:Nat→Nat} {B xb pb cap:Nat} {vf:Value} {x:RcpM} {ps:List PkgM} {p:PkgM} {line:Int} {first:ByteArray} (C:RdC w0 r a n c fin ws) (S:RdS w0 r a n c fin i w) (hi1:i≤990)
  (H:RcSt w t B xb (.slice (some ⟨pb,0,none⟩) (ps.length+1) cap) vf x) (hx:x.pk=ps ++ [p]) (tr:t r=10) (hBw:B≤w.heap.size) (hp:FewP p) (hps:ps.length≤70000) (hf:first=zni) :
  Calls Tryz.prog 156 #[rp r,.string first,.int .i64 line,.pointer (some ⟨pb,ps.length * 8,none⟩)] w (zds r a n c fin ws i t B xb (.slice (some ⟨pb,0,none⟩) (ps.length+1) cap) vf x ps p line first w):=by
 have k0:(first.toList == [118,101,114,115,105,111,110])=false:=by rw[zau first [118,101,114,115,105,111,110] zd1 rfl,hf];decide
 have k1:(first.toList == [118,97,114,105,97,110,116])=false:=by rw[zau first [118,97,114,105,97,110,116] zd9 rfl,hf];decide
 have k2:(first.toList == [112,114,111,118,105,100,101,115])=false:=by rw[zau first [112,114,111,118,105,100,101,115] zct rfl,hf];decide
 have k3:(first.toList == [100,101,112,101,110,100,115])=false:=by rw[zau first [100,101,112,101,110,100,115] zda rfl,hf];decide
 have k4:(first.toList == [99,111,110,102,108,105,99,116,115])=false:=by rw[zau first [99,111,110,102,108,105,99,116,115] zd6 rfl,hf];decide
 have k5:(first.toList == [102,105,108,101])=true:=by rw[zau first [102,105,108,101] zni rfl,hf];decide
 have hrw:r < w.heap.size:=(Array.getElem?_eq_some_iff.1 S.box).1
 have hn:=C.len
 have hn1:=C.n1000
 have hlow:=C.low
 obtain⟨dss,v2,v3,v4,v5,v6,v7,L⟩ : ∃ dss v2 v3 v4 v5 v6 v7,zc9 w t B (.slice (some ⟨pb,0,none⟩) (ps.length+1) cap) ps p dss v2 v3 v4 v5 v6 v7:=by
  rcases H.pk with⟨h1,_⟩ | ⟨ps',p',dss,v2,v3,v4,v5,v6,v7,h1,L⟩
  ·rw[hx] at h1
   simp at h1
  rw[hx] at h1
  have e1:=List.append_inj_left' h1 rfl
  have e2:=List.append_inj_right' h1 rfl
  obtain rfl:p=p':=by simpa using e2
  subst e1
  exact⟨dss,v2,v3,v4,v5,v6,v7,L⟩
 have hrt:=zb5 S.box (by decide)
 -- the recipe as it is at a later world,ahead of the store
 have hto:∀ W,Frm (fun k=>k=r) w W→RcSt W (zah t w.heap.size 3) B xb (.slice (some ⟨pb,0,none⟩) (ps.length+1) cap) vf x∧zc9 W (zah t w.heap.size 3) B (.slice (some ⟨pb,0,none⟩) (ps.length+1) cap) ps p dss v2 v3 v4 v5 v6 v7:=fun W hF =>
  ⟨H.to hF (fun k _ hk=>by subst hk;exact⟨by omega,hrt⟩) (fun k hk _=>za8 hk),L.to hF (fun k _ hk=>by subst hk;unfold Live;exact⟨by omega,by omega,by omega,hrt⟩) (fun k hk _=>za8 hk)⟩
 have ht1:∀ k,k < w.heap.size→zah t w.heap.size 3 k=t k:=fun k hk=>za8 hk
 have hr1:zah t w.heap.size 3 r=10:=by rw[za8 hrw,tr]
 have hpb1:zah t w.heap.size 3 pb=1:=by rw[za8 (L.row.lt pb rfl).2,L.tag pb rfl]
 have hT:=fun (W:World) (k:Below w.heap.size w W)=>zeq C (S.to k) (by omega) (enters_of Tryz.func190 (by kernel_rfl) rfl) (ok:=zmh) (fun s W hs _=>path_any s hs W)
 obtain⟨s,hs⟩ : ∃ s,s=zan ws i:=⟨_,rfl⟩
 unfold zbs at hT
 simp only[← hs] at hT
 obtain⟨⟨cur0,hcur0⟩,-,-,g4,-,-,g7⟩:=L.cells
 obtain⟨css0,hr0⟩:=L.last.files
 obtain⟨ra,rc,hrv0⟩:=za9 hr0.row
 rw[hrv0] at g7
 obtain⟨m,hm⟩ : ∃ m,m=p.files.length:=⟨_,rfl⟩
 rw[← hm] at g7 hrv0
 have hkeep:∀ W,Frm (fun k=>k=r) w W→W.cell? ⟨pb,ps.length * 8+7,none⟩=some (.slice ra m rc):=fun W hF=>(hF.cell (p:=⟨pb,ps.length * 8+7,none⟩) (Array.getElem?_eq_some_iff.1 hcur0).1 (fun e=>by
  have h1:pb=r:=e
  have h2:=L.tag pb rfl
  rw[h1,tr] at h2
  cases h2)).trans g7
 clear g4
 have Hkeep:=Lib.hid hkeep
 clear hkeep
 obtain⟨HC,HS,HH,HL,Hx,Hp,Hf,HT,Hs,Hn,Hto,Ht1,Hr1,Hpb1,Hrt,Htr⟩:=hd16 C S H L hx hp hf hT hs hn hto ht1 hr1 hpb1 hrt tr;obtain⟨Hcur0,Hr0,Hrv0,Hm⟩:=hd4 hcur0 hr0 hrv0 hm;clear C S H L hx hp hf hT hs hn hto ht1 hr1 hpb1 hrt tr hcur0 hr0 hrv0 hm
 go_enter Tryz.func156,Tryz.ntmps156
 go_upto_region 25 with (fail)
 have hbd:=Below.drew (Below.refl w.heap.size w)
 have hT1:=HT.out _ hbd
 have hSd:w.drew.cell? ⟨pb,ps.length * 8+7,none⟩=some (.slice ra m rc):=g7
 have hTr:True:=trivial
 refine wp_region_held_drew (S:=fun _=>True) (by kernel_rfl) trivial (fun hHeld=>?_)
 have hfd:Frm (fun k=>k=r) w w.drew:=Frm.drew (Frm.refl _ w)
 generalize w.drew=wd at hbd hT1 hfd hSd ⊢
 clear g7
 obtain⟨Hbd,HT1,Hfd⟩:=hd3 hbd hT1 hfd;clear hbd hT1 hfd
 refine wpAnyH_take (i:=0) (v:=?_) rfl (by kernel_rfl) (by kernel_rfl) (by kernel_rfl) (fun _ _ _ h=>h) (Or.inl ⟨by kernel_rfl,?_⟩) (by assumption) ?_
 rotate_left
 ·(intro w hSw;(try dsimp only at hSw);(try obtain⟨⟩:=hSw);go_simp;try with_reducible rfl)
 try simp only[Act.put,lA,lB,lC]
 refine wpAnyH_take (i:=1) (v:=?_) rfl (by kernel_rfl) (by kernel_rfl) (by kernel_rfl) (fun _ _ _ h=>h) (Or.inl ⟨by kernel_rfl,?_⟩) (by assumption) ?_
 rotate_left
 ·(intro w hSw;(try dsimp only at hSw);(try obtain⟨⟩:=hSw);go_simp;try with_reducible rfl)
 try simp only[Act.put,lA,lB,lC]
 refine wpAnyH_take (i:=2) (v:=?_) rfl (by kernel_rfl) (by kernel_rfl) (by kernel_rfl) (fun _ _ _ h=>h) (Or.inl ⟨by kernel_rfl,?_⟩) (by assumption) ?_
 rotate_left
 ·(intro w hSw;(try dsimp only at hSw);(try obtain⟨⟩:=hSw);go_simp;try with_reducible rfl)
 try simp only[Act.put,lA,lB,lC]
 refine wpAnyH_take (i:=3) (v:=?_) rfl (by kernel_rfl) (by kernel_rfl) (by kernel_rfl) (fun _ _ _ h=>h) (Or.inl ⟨by kernel_rfl,?_⟩) (by assumption) ?_
 rotate_left
 ·(intro w hSw;(try dsimp only at hSw);(try obtain⟨⟩:=hSw);go_simp;try with_reducible rfl)
 try simp only[Act.put,lA,lB,lC]
 refine wpAnyH_take (i:=5) (v:=?_) rfl (by kernel_rfl) (by kernel_rfl) (by kernel_rfl) (fun _ _ _ h=>h) (Or.inl ⟨by kernel_rfl,?_⟩) (by assumption) ?_
 rotate_left
 ·(intro w hSw;(try dsimp only at hSw);(try obtain⟨⟩:=hSw);go_simp;try with_reducible rfl)
 try simp only[Act.put,lA,lB,lC]
 refine wpAnyH_ready (rs:=[4,6]) (by kernel_rfl) (by simp) ?_
 refine AllReadyH.cons rfl (fun K hK=>?_) (AllReadyH.cons rfl (fun K hK=>?_) AllReadyH.nil)
 ·go_simp
  refine hK.out _ _ trivial (fun hHeld=>?_)
  clear hK K
  try simp only[Act.put,lA,lB,lC]
  refine wpAnyH_ready (rs:=[6]) (by kernel_rfl) (by simp) ?_
  refine AllReadyH.cons rfl (fun K hK=>?_) AllReadyH.nil
  go_simp
  refine HT1.out.mono ?_
  rintro e w1 ⟨⟨hi2,hok,rfl,hbx⟩ | ⟨hno,j,rfl⟩,hfr⟩
  ·have hfr1:Frm (fun k=>k=r) w w1:=Hfd.out.trans hfr (fun _ _ h=>h)
   have hS1:=Hkeep.out _ hfr1
   obtain⟨Hi2,Hok,Hbx,Hfr,Hfr1⟩:=hd5 hi2 hok hbx hfr hfr1;clear hi2 hok hbx hfr hfr1
   go_wp2_with fail
   refine hK.out _ _ trivial (fun hHeld=>?_)
   clear hK K
   try simp only[Act.put,lA,lB,lC]
   obtain⟨H1,L1⟩:=Hto.out _ Hfr1.out
   obtain⟨⟨cur,hcur⟩,-⟩:=L1.cells
   obtain⟨css,hr⟩:=L1.last.files
   have hne:v7.ownBlock≠some pb:=fun e=>by
    have e1:=hr.tag pb e
    have e2:=Hpb1.out
    omega
   have hvl:∀ k,v7.ownBlock=some k→Live (zah t w.heap.size 3 k)∧¬ Ty w1 k:=fun k hk=>⟨by have:=hr.tag k hk;unfold Live;omega,zaq hr (by decide) hk⟩
   have hpt:¬ Ty w1 pb:=zb5 hcur (by decide)
   have hB:B≤w1.heap.size:=Nat.le_trans hBw Hfr1.out.size
   have hrow:=hr.row
   rw[← Hm.out,Hrv0.out] at hrow
   have hm7:m≤70000:=by rw[Hm.out];exact Hp.out.2.2.2.2.2
   obtain⟨N,hN⟩ : ∃ N,N=css.flatten:=⟨_,rfl⟩
   rw[← hN] at hrow
   have hsz:s.size≤maxLen:=by have:=HC.out.peek_size i;rw[← Hs.out] at this;unfold maxLen;omega
   have hels:Ft w1 (Fx w1 (zah t w.heap.size 3)) (fun W'=>RStr W' [.string s] s):=fun V _ _=>⟨rfl,hsz⟩
   have Hne:=Lib.hid hne
   have Hcur:=Lib.hid hcur
   clear hne hcur
   obtain⟨HH1,HL1,Hr,Hvl,Hpt,HN,Hels,Hrow⟩:=hd8 H1 L1 hr hvl hpt hN hels hrow;clear H1 L1 hr hvl hpt hN hels hrow
   refine wpAnyH_ready (rs:=[7]) (by kernel_rfl) (by simp) ?_
   refine AllReadyH.cons rfl (fun K hK=>?_) AllReadyH.nil
   go_simp
   refine hK.out _ _ trivial (fun hHeld=>?_)
   clear hK K
   try simp only[Act.put,lA,lB,lC]
   refine wpAnyH_ready (rs:=[8]) (by kernel_rfl) (by simp) ?_
   refine AllReadyH.cons rfl (fun K hK=>?_) AllReadyH.nil
   refine zas zdx (.tmp 121) (.tmp 124) rfl B (.slice ra m rc) m N rfl Hrow.out 1 #[.string s] rfl rfl (by simp[Value.oneCell']) (by omega) (by unfold maxLen;omega) hB (fun v' w9 hown9 hg9 hm9=>?_)
   obtain⟨a9,c9,rfl⟩:=za9 hown9
   have hc9:w9.heap[pb]? = some (.cells cur 123 (0,0)):=(hg9.block pb (Array.getElem?_eq_some_iff.1 Hcur.out).1 (fun e=>Hne.out (by rw[Hrv0.out];exact e.symm))).trans Hcur.out
   have d2:=za5 hc9 (ps.length * 8+7)
   have d1:=(World.cell?_of_block (w:=w1) (w':=w9) (a:=⟨pb,ps.length * 8+7,none⟩) (hc9.trans Hcur.out.symm)).trans hS1
   have hL9:=HL1.out.files_push Hr.out Hels.out (v9:=.slice a9 (m+1) c9) (by rw[← Hm.out,← HN.out];exact hown9) (by rw[Hrv0.out];exact hg9) (by rw[Hrv0.out];exact hm9)
   have hg9':w1.grownBy w9 v7.ownBlock:=by rw[Hrv0.out];exact hg9
   obtain⟨Hown9,Hg9,Hm9,Hc9,HL9,Hg9'⟩:=hd6 hown9 hg9 hm9 hc9 hL9 hg9';clear hown9 hg9 hm9 hc9 hL9 hg9'
   refine hK.out _ _ trivial (fun hHeld=>?_)
   clear hK K
   try simp only[Act.put,lA,lB,lC]
   refine wpAnyH_take (i:=9) (v:=?_) rfl (by kernel_rfl) (by kernel_rfl) (by kernel_rfl) (fun _ _ _ h=>h) (Or.inl ⟨by kernel_rfl,?_⟩) (by assumption) ?_
   rotate_left
   ·(intro w hSw;(try dsimp only at hSw);(try obtain⟨⟩:=hSw);go_simp;try with_reducible rfl)
   try simp only[Act.put,lA,lB,lC]
   refine wpAnyH_take (i:=10) (v:=?_) rfl (by kernel_rfl) (by kernel_rfl) (by kernel_rfl) (fun _ _ _ h=>h) (Or.inl ⟨by kernel_rfl,?_⟩) (by assumption) ?_
   rotate_left
   ·(intro w hSw;(try dsimp only at hSw);(try obtain⟨⟩:=hSw);go_simp;try with_reducible rfl)
   try simp only[Act.put,lA,lB,lC]
   refine wpAnyH_ready (rs:=[11]) (by kernel_rfl) (by simp) ?_
   refine AllReadyH.cons rfl (fun K hK=>?_) AllReadyH.nil
   go_simp
   refine hK.out _ _ trivial (fun hHeld=>?_)
   clear hK K
   try simp only[Act.put,lA,lB,lC]
   refine wpAnyH_done (by kernel_rfl) ?_ _
   go_simp
   go_wp2_with fail
   go_end0
   refine zb1 (v:=v7) (j:=i+1) HH1.out HL9.out Hfr1.out Hg9'.out Ht1.out (fun k hk=>za8 hk) Hvl.out Hpb1.out Hpt.out Hbx.out Hr1.out ?_ ?_ ?_ rfl
   ·intro hj
    rw[Hf.out]
    unfold zax
    rw[if_neg (by decide),if_neg (by decide),if_neg (by decide),if_neg (by decide),if_neg (by decide),if_pos rfl,zex (by omega) (by rw[← Hs.out];exact Hok.out),← Hs.out]
    rfl
   ·intro hj
    rw[Hf.out]
    unfold zax
    rw[if_neg (by decide),if_neg (by decide),if_neg (by decide),if_neg (by decide),if_neg (by decide),if_pos rfl,zdf (.inr (.inr (by omega)))]
    rfl
   have:=Hi2.out
   omega
  have hnone:zax first line p (zap ws i)=none:=by
   rw[Hf.out]
   unfold zax
   rw[if_neg (by decide),if_neg (by decide),if_neg (by decide),if_neg (by decide),if_neg (by decide),if_pos rfl,zdf (by rw[← Hs.out];exact hno.elim .inl fun h=>.inr (.inl h))]
   rfl
  have hfrw:Frm (fun k=>k=r) w w1:=Hfd.out.trans hfr (fun _ _ h=>h)
  obtain⟨Hno,Hfr,Hnone,Hfrw⟩:=hd4 hno hfr hnone hfrw;clear hno hfr hnone hfrw
  go_wp2_with fail
  exact⟨rfl,zb9 Hnone.out rfl Hfrw.out⟩
 go_simp
 refine HT1.out.mono ?_
 rintro e w1 ⟨⟨hi2,hok,rfl,hbx⟩ | ⟨hno,j,rfl⟩,hfr⟩
 ·have hfr1:Frm (fun k=>k=r) w w1:=Hfd.out.trans hfr (fun _ _ h=>h)
  have hS1:=Hkeep.out _ hfr1
  obtain⟨Hi2,Hok,Hbx,Hfr,Hfr1⟩:=hd5 hi2 hok hbx hfr hfr1;clear hi2 hok hbx hfr hfr1
  go_wp2_with fail
  refine hK.out _ _ trivial (fun hHeld=>?_)
  clear hK K
  try simp only[Act.put,lA,lB,lC]
  refine wpAnyH_ready (rs:=[4,7]) (by kernel_rfl) (by simp) ?_
  refine AllReadyH.cons rfl (fun K hK=>?_) (AllReadyH.cons rfl (fun K hK=>?_) AllReadyH.nil)
  ·go_simp
   refine hK.out _ _ trivial (fun hHeld=>?_)
   clear hK K
   try simp only[Act.put,lA,lB,lC]
   obtain⟨H1,L1⟩:=Hto.out _ Hfr1.out
   obtain⟨⟨cur,hcur⟩,-⟩:=L1.cells
   obtain⟨css,hr⟩:=L1.last.files
   have hne:v7.ownBlock≠some pb:=fun e=>by
    have e1:=hr.tag pb e
    have e2:=Hpb1.out
    omega
   have hvl:∀ k,v7.ownBlock=some k→Live (zah t w.heap.size 3 k)∧¬ Ty w1 k:=fun k hk=>⟨by have:=hr.tag k hk;unfold Live;omega,zaq hr (by decide) hk⟩
   have hpt:¬ Ty w1 pb:=zb5 hcur (by decide)
   have hB:B≤w1.heap.size:=Nat.le_trans hBw Hfr1.out.size
   have hrow:=hr.row
   rw[← Hm.out,Hrv0.out] at hrow
   have hm7:m≤70000:=by rw[Hm.out];exact Hp.out.2.2.2.2.2
   obtain⟨N,hN⟩ : ∃ N,N=css.flatten:=⟨_,rfl⟩
   rw[← hN] at hrow
   have hsz:s.size≤maxLen:=by have:=HC.out.peek_size i;rw[← Hs.out] at this;unfold maxLen;omega
   have hels:Ft w1 (Fx w1 (zah t w.heap.size 3)) (fun W'=>RStr W' [.string s] s):=fun V _ _=>⟨rfl,hsz⟩
   have Hne:=Lib.hid hne
   have Hcur:=Lib.hid hcur
   clear hne hcur
   obtain⟨HH1,HL1,Hr,Hvl,Hpt,HN,Hels,Hrow⟩:=hd8 H1 L1 hr hvl hpt hN hels hrow;clear H1 L1 hr hvl hpt hN hels hrow
   refine wpAnyH_ready (rs:=[7]) (by kernel_rfl) (by simp) ?_
   refine AllReadyH.cons rfl (fun K hK=>?_) AllReadyH.nil
   go_simp
   refine hK.out _ _ trivial (fun hHeld=>?_)
   clear hK K
   try simp only[Act.put,lA,lB,lC]
   refine wpAnyH_ready (rs:=[8]) (by kernel_rfl) (by simp) ?_
   refine AllReadyH.cons rfl (fun K hK=>?_) AllReadyH.nil
   refine zas zdx (.tmp 121) (.tmp 124) rfl B (.slice ra m rc) m N rfl Hrow.out 1 #[.string s] rfl rfl (by simp[Value.oneCell']) (by omega) (by unfold maxLen;omega) hB (fun v' w9 hown9 hg9 hm9=>?_)
   obtain⟨a9,c9,rfl⟩:=za9 hown9
   have hc9:w9.heap[pb]? = some (.cells cur 123 (0,0)):=(hg9.block pb (Array.getElem?_eq_some_iff.1 Hcur.out).1 (fun e=>Hne.out (by rw[Hrv0.out];exact e.symm))).trans Hcur.out
   have d2:=za5 hc9 (ps.length * 8+7)
   have d1:=(World.cell?_of_block (w:=w1) (w':=w9) (a:=⟨pb,ps.length * 8+7,none⟩) (hc9.trans Hcur.out.symm)).trans hS1
   have hL9:=HL1.out.files_push Hr.out Hels.out (v9:=.slice a9 (m+1) c9) (by rw[← Hm.out,← HN.out];exact hown9) (by rw[Hrv0.out];exact hg9) (by rw[Hrv0.out];exact hm9)
   have hg9':w1.grownBy w9 v7.ownBlock:=by rw[Hrv0.out];exact hg9
   obtain⟨Hown9,Hg9,Hm9,Hc9,HL9,Hg9'⟩:=hd6 hown9 hg9 hm9 hc9 hL9 hg9';clear hown9 hg9 hm9 hc9 hL9 hg9'
   refine hK.out _ _ trivial (fun hHeld=>?_)
   clear hK K
   try simp only[Act.put,lA,lB,lC]
   refine wpAnyH_take (i:=9) (v:=?_) rfl (by kernel_rfl) (by kernel_rfl) (by kernel_rfl) (fun _ _ _ h=>h) (Or.inl ⟨by kernel_rfl,?_⟩) (by assumption) ?_
   rotate_left
   ·(intro w hSw;(try dsimp only at hSw);(try obtain⟨⟩:=hSw);go_simp;try with_reducible rfl)
   try simp only[Act.put,lA,lB,lC]
   refine wpAnyH_take (i:=10) (v:=?_) rfl (by kernel_rfl) (by kernel_rfl) (by kernel_rfl) (fun _ _ _ h=>h) (Or.inl ⟨by kernel_rfl,?_⟩) (by assumption) ?_
   rotate_left
   ·(intro w hSw;(try dsimp only at hSw);(try obtain⟨⟩:=hSw);go_simp;try with_reducible rfl)
   try simp only[Act.put,lA,lB,lC]
   refine wpAnyH_ready (rs:=[11]) (by kernel_rfl) (by simp) ?_
   refine AllReadyH.cons rfl (fun K hK=>?_) AllReadyH.nil
   go_simp
   refine hK.out _ _ trivial (fun hHeld=>?_)
   clear hK K
   try simp only[Act.put,lA,lB,lC]
   refine wpAnyH_done (by kernel_rfl) ?_ _
   go_simp
   go_wp2_with fail
   go_end0
   refine zb1 (v:=v7) (j:=i+1) HH1.out HL9.out Hfr1.out Hg9'.out Ht1.out (fun k hk=>za8 hk) Hvl.out Hpb1.out Hpt.out Hbx.out Hr1.out ?_ ?_ ?_ rfl
   ·intro hj
    rw[Hf.out]
    unfold zax
    rw[if_neg (by decide),if_neg (by decide),if_neg (by decide),if_neg (by decide),if_neg (by decide),if_pos rfl,zex (by omega) (by rw[← Hs.out];exact Hok.out),← Hs.out]
    rfl
   ·intro hj
    rw[Hf.out]
    unfold zax
    rw[if_neg (by decide),if_neg (by decide),if_neg (by decide),if_neg (by decide),if_neg (by decide),if_pos rfl,zdf (.inr (.inr (by omega)))]
    rfl
   have:=Hi2.out
   omega
  obtain⟨H1,L1⟩:=Hto.out _ Hfr1.out
  obtain⟨⟨cur,hcur⟩,-⟩:=L1.cells
  obtain⟨css,hr⟩:=L1.last.files
  have hne:v7.ownBlock≠some pb:=fun e=>by
   have e1:=hr.tag pb e
   have e2:=Hpb1.out
   omega
  have hvl:∀ k,v7.ownBlock=some k→Live (zah t w.heap.size 3 k)∧¬ Ty w1 k:=fun k hk=>⟨by have:=hr.tag k hk;unfold Live;omega,zaq hr (by decide) hk⟩
  have hpt:¬ Ty w1 pb:=zb5 hcur (by decide)
  have hB:B≤w1.heap.size:=Nat.le_trans hBw Hfr1.out.size
  have hrow:=hr.row
  rw[← Hm.out,Hrv0.out] at hrow
  have hm7:m≤70000:=by rw[Hm.out];exact Hp.out.2.2.2.2.2
  obtain⟨N,hN⟩ : ∃ N,N=css.flatten:=⟨_,rfl⟩
  rw[← hN] at hrow
  have hsz:s.size≤maxLen:=by have:=HC.out.peek_size i;rw[← Hs.out] at this;unfold maxLen;omega
  have hels:Ft w1 (Fx w1 (zah t w.heap.size 3)) (fun W'=>RStr W' [.string s] s):=fun V _ _=>⟨rfl,hsz⟩
  have Hne:=Lib.hid hne
  have Hcur:=Lib.hid hcur
  clear hne hcur
  obtain⟨HH1,HL1,Hr,Hvl,Hpt,HN,Hels,Hrow⟩:=hd8 H1 L1 hr hvl hpt hN hels hrow;clear H1 L1 hr hvl hpt hN hels hrow
  go_simp
  refine hK.out _ _ trivial (fun hHeld=>?_)
  clear hK K
  try simp only[Act.put,lA,lB,lC]
  have hS2:=Hkeep.out _ (Hfr1.out.alloc (.cells #[.string s] 9))
  refine wpAnyH_ready (rs:=[4]) (by kernel_rfl) (by simp) ?_
  refine AllReadyH.cons rfl (fun K hK=>?_) AllReadyH.nil
  go_simp
  refine hK.out _ _ trivial (fun hHeld=>?_)
  clear hK K
  try simp only[Act.put,lA,lB,lC]
  clear hS2
  refine wpAnyH_ready (rs:=[8]) (by kernel_rfl) (by simp) ?_
  refine AllReadyH.cons rfl (fun K hK=>?_) AllReadyH.nil
  refine zas zdx (.tmp 121) (.tmp 124) rfl B (.slice ra m rc) m N rfl Hrow.out 1 #[.string s] rfl rfl (by simp[Value.oneCell']) (by omega) (by unfold maxLen;omega) hB (fun v' w9 hown9 hg9 hm9=>?_)
  obtain⟨a9,c9,rfl⟩:=za9 hown9
  have hc9:w9.heap[pb]? = some (.cells cur 123 (0,0)):=(hg9.block pb (Array.getElem?_eq_some_iff.1 Hcur.out).1 (fun e=>Hne.out (by rw[Hrv0.out];exact e.symm))).trans Hcur.out
  have d2:=za5 hc9 (ps.length * 8+7)
  have d1:=(World.cell?_of_block (w:=w1) (w':=w9) (a:=⟨pb,ps.length * 8+7,none⟩) (hc9.trans Hcur.out.symm)).trans hS1
  have hL9:=HL1.out.files_push Hr.out Hels.out (v9:=.slice a9 (m+1) c9) (by rw[← Hm.out,← HN.out];exact hown9) (by rw[Hrv0.out];exact hg9) (by rw[Hrv0.out];exact hm9)
  have hg9':w1.grownBy w9 v7.ownBlock:=by rw[Hrv0.out];exact hg9
  obtain⟨Hown9,Hg9,Hm9,Hc9,HL9,Hg9'⟩:=hd6 hown9 hg9 hm9 hc9 hL9 hg9';clear hown9 hg9 hm9 hc9 hL9 hg9'
  refine hK.out _ _ trivial (fun hHeld=>?_)
  clear hK K
  try simp only[Act.put,lA,lB,lC]
  refine wpAnyH_take (i:=9) (v:=?_) rfl (by kernel_rfl) (by kernel_rfl) (by kernel_rfl) (fun _ _ _ h=>h) (Or.inl ⟨by kernel_rfl,?_⟩) (by assumption) ?_
  rotate_left
  ·(intro w hSw;(try dsimp only at hSw);(try obtain⟨⟩:=hSw);go_simp;try with_reducible rfl)
  try simp only[Act.put,lA,lB,lC]
  refine wpAnyH_take (i:=10) (v:=?_) rfl (by kernel_rfl) (by kernel_rfl) (by kernel_rfl) (fun _ _ _ h=>h) (Or.inl ⟨by kernel_rfl,?_⟩) (by assumption) ?_
  rotate_left
  ·(intro w hSw;(try dsimp only at hSw);(try obtain⟨⟩:=hSw);go_simp;try with_reducible rfl)
  try simp only[Act.put,lA,lB,lC]
  refine wpAnyH_ready (rs:=[11]) (by kernel_rfl) (by simp) ?_
  refine AllReadyH.cons rfl (fun K hK=>?_) AllReadyH.nil
  go_simp
  refine hK.out _ _ trivial (fun hHeld=>?_)
  clear hK K
  try simp only[Act.put,lA,lB,lC]
  refine wpAnyH_done (by kernel_rfl) ?_ _
  go_simp
  go_wp2_with fail
  go_end0
  refine zb1 (v:=v7) (j:=i+1) HH1.out HL9.out Hfr1.out Hg9'.out Ht1.out (fun k hk=>za8 hk) Hvl.out Hpb1.out Hpt.out Hbx.out Hr1.out ?_ ?_ ?_ rfl
  ·intro hj
   rw[Hf.out]
   unfold zax
   rw[if_neg (by decide),if_neg (by decide),if_neg (by decide),if_neg (by decide),if_neg (by decide),if_pos rfl,zex (by omega) (by rw[← Hs.out];exact Hok.out),← Hs.out]
   rfl
  ·intro hj
   rw[Hf.out]
   unfold zax
   rw[if_neg (by decide),if_neg (by decide),if_neg (by decide),if_neg (by decide),if_neg (by decide),if_pos rfl,zdf (.inr (.inr (by omega)))]
   rfl
  have:=Hi2.out
  omega
 have hnone:zax first line p (zap ws i)=none:=by
  rw[Hf.out]
  unfold zax
  rw[if_neg (by decide),if_neg (by decide),if_neg (by decide),if_neg (by decide),if_neg (by decide),if_pos rfl,zdf (by rw[← Hs.out];exact hno.elim .inl fun h=>.inr (.inl h))]
  rfl
 have hfrw:Frm (fun k=>k=r) w w1:=Hfd.out.trans hfr (fun _ _ h=>h)
 obtain⟨Hno,Hfr,Hnone,Hfrw⟩:=hd4 hno hfr hnone hfrw;clear hno hfr hnone hfrw
 go_wp2_with fail
 exact⟨rfl,zb9 Hnone.out rfl Hfrw.out⟩
end

section
open Go.Shelf Go.RowKit Go.Lib VerN VarM
open LexM (Wd)
attribute [local go_sem ↓] Go.wp_at_zero Go.wp_at_succ
theorem zei {ok:ByteArray→Bool} {l r:List ByteArray} (h:zdv ok l=some r):r=l:=by
 unfold zdv at h
 split at h
 ·cases h;rfl
 cases h
theorem zkg {W:World} {B:Nat} {v:Value} {l:List ByteArray} (h:W.ownsRow B 9 1 v l.length (l.map Value.string)) (hz:∀ x∈l,x.size≤maxLen):Ft W (fun k=>v.ownBlock=some k) fun W'=>RTs W' [v] l:=by
 intro V _ hb
 refine own_texts (B:=B) (n:=l.length) ?_ hz
 refine⟨h.1,?_⟩
 rcases h.2 with hn | ⟨g,cap,cur,rfl,hg,hgg,rest⟩
 ·exact .inl hn
 exact .inr ⟨g,cap,cur,rfl,hg,by rw[hb g (Array.getElem?_eq_some_iff.1 hgg).1 rfl];exact hgg,rest⟩
theorem zo1 {w0 w:World} {r:Nat} {a:Option Addr} {n c:Nat} {fin:Int} {ws:List Wd} {i:Nat} {t:Nat→Nat} {B xb pb cap:Nat} {vf:Value} {x:RcpM} {ps:List PkgM} {p:PkgM} {line:Int} {first:ByteArray} (C:RdC w0 r a n c fin ws) (S:RdS w0 r a n c fin i w) (hi1:i≤990)
  (H:RcSt w t B xb (.slice (some ⟨pb,0,none⟩) (ps.length+1) cap) vf x) (hx:x.pk=ps ++ [p]) (tr:t r=10) (hBw:B≤w.heap.size) (hp:FewP p) (hps:ps.length≤70000) (hf:first=zd9) :
  Calls Tryz.prog 156 #[rp r,.string first,.int .i64 line,.pointer (some ⟨pb,ps.length * 8,none⟩)] w (zds r a n c fin ws i t B xb (.slice (some ⟨pb,0,none⟩) (ps.length+1) cap) vf x ps p line first w):=by
 have k0:(first.toList == [118,101,114,115,105,111,110])=false:=by rw[zau first [118,101,114,115,105,111,110] zd1 rfl,hf];decide
 have k1:(first.toList == [118,97,114,105,97,110,116])=true:=by rw[zau first [118,97,114,105,97,110,116] zd9 rfl,hf];decide
 have hrw:r < w.heap.size:=(Array.getElem?_eq_some_iff.1 S.box).1
 have hn:=C.len
 have hn1:=C.n1000
 have hlow:=C.low
 obtain⟨dss,v2,v3,v4,v5,v6,v7,L⟩ : ∃ dss v2 v3 v4 v5 v6 v7,zc9 w t B (.slice (some ⟨pb,0,none⟩) (ps.length+1) cap) ps p dss v2 v3 v4 v5 v6 v7:=by
  rcases H.pk with⟨h1,_⟩ | ⟨ps',p',dss,v2,v3,v4,v5,v6,v7,h1,L⟩
  ·rw[hx] at h1
   simp at h1
  rw[hx] at h1
  have e1:=List.append_inj_left' h1 rfl
  have e2:=List.append_inj_right' h1 rfl
  obtain rfl:p=p':=by simpa using e2
  subst e1
  exact⟨dss,v2,v3,v4,v5,v6,v7,L⟩
 have hrt:=zb5 S.box (by decide)
 -- the recipe as it is at a later world,ahead of the store
 have hto:∀ W,Frm (fun k=>k=r) w W→RcSt W (zah t w.heap.size 3) B xb (.slice (some ⟨pb,0,none⟩) (ps.length+1) cap) vf x∧zc9 W (zah t w.heap.size 3) B (.slice (some ⟨pb,0,none⟩) (ps.length+1) cap) ps p dss v2 v3 v4 v5 v6 v7:=fun W hF =>
  ⟨H.to hF (fun k _ hk=>by subst hk;exact⟨by omega,hrt⟩) (fun k hk _=>za8 hk),L.to hF (fun k _ hk=>by subst hk;unfold Live;exact⟨by omega,by omega,by omega,hrt⟩) (fun k hk _=>za8 hk)⟩
 have ht1:∀ k,k < w.heap.size→zah t w.heap.size 3 k=t k:=fun k hk=>za8 hk
 have hr1:zah t w.heap.size 3 r=10:=by rw[za8 hrw,tr]
 have hpb1:zah t w.heap.size 3 pb=1:=by rw[za8 (L.row.lt pb rfl).2,L.tag pb rfl]
 have hT:=zeq C S (by omega) (enters_of Tryz.func153 (by kernel_rfl) rfl) (ok:=zcw) (fun s W hs _=>zf5 s hs W)
 obtain⟨s,hs⟩ : ∃ s,s=zan ws i:=⟨_,rfl⟩
 unfold zbs at hT
 rw[← hs] at hT
 have hNm:=fun (W:World) (S:RdS w0 r a n c fin (i+1) W)=>zmj C S (by omega) (enters_of Tryz.func189 (by kernel_rfl) rfl) (ok:=zl3) (fun s W hs _=>znj s hs W)
 unfold zg3 at hNm
 obtain⟨⟨cur0,hcur0⟩,-,g3,-,-,-,-⟩:=L.cells
 obtain⟨css0,hr0⟩:=L.last.vars
 obtain⟨ra,rc,hrv0⟩:=za9 hr0.row
 rw[hrv0] at g3
 obtain⟨m,hm⟩ : ∃ m,m=p.vars.length:=⟨_,rfl⟩
 rw[← hm] at g3 hrv0
 have hkeep:∀ W,Frm (fun k=>k=r) w W→W.cell? ⟨pb,ps.length * 8+3,none⟩=some (.slice ra m rc):=fun W hF=>(hF.cell (p:=⟨pb,ps.length * 8+3,none⟩) (Array.getElem?_eq_some_iff.1 hcur0).1 (fun e=>by
  have h1:pb=r:=e
  have h2:=L.tag pb rfl
  rw[h1,tr] at h2
  cases h2)).trans g3
 clear g3
 have Hkeep:=Lib.hid hkeep
 clear hkeep
 obtain⟨HC,HS,HH,HL,Hx,Hp,Hf,HT,Hs,Hn,Hto,Ht1,Hr1,Hpb1,Hrt,Htr⟩:=hd16 C S H L hx hp hf hT hs hn hto ht1 hr1 hpb1 hrt tr;obtain⟨Hcur0,Hr0,Hrv0,Hm,HNm⟩:=hd5 hcur0 hr0 hrv0 hm hNm;clear C S H L hx hp hf hT hs hn hto ht1 hr1 hpb1 hrt tr hcur0 hr0 hrv0 hm hNm
 go_enter Tryz.func156,Tryz.ntmps156
 go_wp2_with fail
 refine HT.out.mono ?_
 rintro e wa ⟨⟨hia,hoka,rfl,hbxa⟩ | ⟨hno,j,rfl⟩,hfra⟩
 ·have hsta:=zee HS.out hlow hfra hbxa
  have hSa:=Hkeep.out _ hfra
  obtain⟨Hia,Hoka,Hbxa,Hfra,Hsta⟩:=hd5 hia hoka hbxa hfra hsta;clear hia hoka hbxa hfra hsta
  go_upto_region 9 with (fail)
  have hbd:=Below.drew (Below.refl wa.heap.size wa)
  have hT1:=HNm.out _ (Hsta.out.to hbd)
  have hSd:wa.drew.cell? ⟨pb,ps.length * 8+3,none⟩=some (.slice ra m rc):=hSa
  have hTr:True:=trivial
  refine wp_region_held_drew (S:=fun _=>True) (by kernel_rfl) trivial (fun hHeld=>?_)
  have hfd:Frm (fun k=>k=r) w wa.drew:=Frm.drew Hfra.out
  generalize wa.drew=wd at hbd hT1 hfd hSd ⊢
  clear hSa
  obtain⟨Hbd,HT1,Hfd⟩:=hd3 hbd hT1 hfd;clear hbd hT1 hfd
  refine wpAnyH_take (i:=0) (v:=?_) rfl (by kernel_rfl) (by kernel_rfl) (by kernel_rfl) (fun _ _ _ h=>h) (Or.inl ⟨by kernel_rfl,?_⟩) (by assumption) ?_
  rotate_left
  ·(intro w hSw;(try dsimp only at hSw);(try obtain⟨⟩:=hSw);go_simp;try with_reducible rfl)
  try simp only[Act.put,lA,lB,lC]
  refine wpAnyH_take (i:=1) (v:=?_) rfl (by kernel_rfl) (by kernel_rfl) (by kernel_rfl) (fun _ _ _ h=>h) (Or.inl ⟨by kernel_rfl,?_⟩) (by assumption) ?_
  rotate_left
  ·(intro w hSw;(try dsimp only at hSw);(try obtain⟨⟩:=hSw);go_simp;try with_reducible rfl)
  try simp only[Act.put,lA,lB,lC]
  refine wpAnyH_take (i:=2) (v:=?_) rfl (by kernel_rfl) (by kernel_rfl) (by kernel_rfl) (fun _ _ _ h=>h) (Or.inl ⟨by kernel_rfl,?_⟩) (by assumption) ?_
  rotate_left
  ·(intro w hSw;(try dsimp only at hSw);(try obtain⟨⟩:=hSw);go_simp;try with_reducible rfl)
  try simp only[Act.put,lA,lB,lC]
  refine wpAnyH_take (i:=3) (v:=?_) rfl (by kernel_rfl) (by kernel_rfl) (by kernel_rfl) (fun _ _ _ h=>h) (Or.inl ⟨by kernel_rfl,?_⟩) (by assumption) ?_
  rotate_left
  ·(intro w hSw;(try dsimp only at hSw);(try obtain⟨⟩:=hSw);go_simp;try with_reducible rfl)
  try simp only[Act.put,lA,lB,lC]
  refine wpAnyH_take (i:=5) (v:=?_) rfl (by kernel_rfl) (by kernel_rfl) (by kernel_rfl) (fun _ _ _ h=>h) (Or.inl ⟨by kernel_rfl,?_⟩) (by assumption) ?_
  rotate_left
  ·(intro w hSw;(try dsimp only at hSw);(try obtain⟨⟩:=hSw);go_simp;try with_reducible rfl)
  try simp only[Act.put,lA,lB,lC]
  refine wpAnyH_take (i:=6) (v:=?_) rfl (by kernel_rfl) (by kernel_rfl) (by kernel_rfl) (fun _ _ _ h=>h) (Or.inl ⟨by kernel_rfl,?_⟩) (by assumption) ?_
  rotate_left
  ·(intro w hSw;(try dsimp only at hSw);(try obtain⟨⟩:=hSw);go_simp;try with_reducible rfl)
  try simp only[Act.put,lA,lB,lC]
  refine wpAnyH_ready (rs:=[4,7]) (by kernel_rfl) (by simp) ?_
  refine AllReadyH.cons rfl (fun K hK=>?_) (AllReadyH.cons rfl (fun K hK=>?_) AllReadyH.nil)
  ·go_simp
   refine hK.out _ _ trivial (fun hHeld=>?_)
   clear hK K
   try simp only[Act.put,lA,lB,lC]
   refine wpAnyH_ready (rs:=[7]) (by kernel_rfl) (by simp) ?_
   refine AllReadyH.cons rfl (fun K hK=>?_) AllReadyH.nil
   go_simp
   refine HT1.out.mono ?_
   rintro e w1 ⟨⟨vv,l,hnl,rfl,hown,hbx⟩ | ⟨hnl,j,rfl⟩,hfr⟩
   ·have hfr1:Frm (fun k=>k=r) w w1:=Hfd.out.trans hfr (fun _ _ h=>h)
    have hS1:=Hkeep.out _ hfr1
    obtain⟨la,lc,rfl⟩:=za9 hown
    obtain⟨ln,hln⟩ : ∃ k,k=l.length:=⟨_,rfl⟩
    rw[← hln] at hown ⊢
    have hll:=(zei hnl).symm
    have hlz:∀ x∈l,x.size≤maxLen:=fun x hx=>by
     rw[← hll] at hx
     obtain⟨j,hj,rfl⟩:=List.getElem_of_mem hx
     have hjl:i+1+j < ws.length:=by rw[zcu] at hj;omega
     have e:=zdt hjl
     rw[List.getElem?_eq_getElem hj] at e
     rw[Option.some.inj e]
     have:=HC.out.peek_size (i+1+j)
     unfold maxLen
     omega
    have hwd:=Hfd.out.size
    obtain⟨Hnl,Hbx,Hfr,Hfr1,Hown,Hln,Hll,Hlz⟩:=hd8 hnl hbx hfr hfr1 hown hln hll hlz;clear hnl hbx hfr hfr1 hown hln hll hlz
    go_wp2_with fail
    refine hK.out _ _ trivial (fun hHeld=>?_)
    clear hK K
    try simp only[Act.put,lA,lB,lC]
    refine wpAnyH_take (i:=8) (v:=?_) rfl (by kernel_rfl) (by kernel_rfl) (by kernel_rfl) (fun _ _ _ h=>h) (Or.inl ⟨by kernel_rfl,?_⟩) (by assumption) ?_
    rotate_left
    ·(intro w hSw;(try dsimp only at hSw);(try obtain⟨⟩:=hSw);go_simp;try with_reducible rfl)
    try simp only[Act.put,lA,lB,lC]
    obtain⟨H1,L1⟩:=Hto.out _ Hfr1.out
    obtain⟨⟨cur,hcur⟩,-⟩:=L1.cells
    obtain⟨css,hr⟩:=L1.last.vars
    have hne:v3.ownBlock≠some pb:=fun e=>by
     have e1:=hr.tag pb e
     have e2:=Hpb1.out
     omega
    have hvl:∀ k,v3.ownBlock=some k→Live (zah t w.heap.size 3 k)∧¬ Ty w1 k:=fun k hk=>⟨by have:=hr.tag k hk;unfold Live;omega,zaq hr (by decide) hk⟩
    have hpt:¬ Ty w1 pb:=zb5 hcur (by decide)
    have hB:B≤w1.heap.size:=Nat.le_trans hBw Hfr1.out.size
    have hrow:=hr.row
    rw[← Hm.out,Hrv0.out] at hrow
    have hm7:m≤70000:=by rw[Hm.out];exact Hp.out.2.1
    obtain⟨N,hN⟩ : ∃ N,N=css.flatten:=⟨_,rfl⟩
    rw[← hN] at hrow
    have hels:Ft w1 (Fx w1 (zah t w.heap.size 3)) (fun W'=>zic W' [.string s,.slice la ln lc] (s,l)):=((zkg (by rw[← Hln.out];exact Hown.out) Hlz.out).mono fun k hk hkv=>.inl (by
     have:=(Hown.out.lt k hkv).1
     exact zbl (by omega))).imp fun V hV=>⟨_,rfl,hV⟩
    have Hne:=Lib.hid hne
    have Hcur:=Lib.hid hcur
    clear hne hcur
    obtain⟨HH1,HL1,Hr,Hvl,Hpt,HN,Hels,Hrow⟩:=hd8 H1 L1 hr hvl hpt hN hels hrow;clear H1 L1 hr hvl hpt hN hels hrow
    refine wpAnyH_ready (rs:=[9]) (by kernel_rfl) (by simp) ?_
    refine AllReadyH.cons rfl (fun K hK=>?_) AllReadyH.nil
    go_simp
    refine hK.out _ _ trivial (fun hHeld=>?_)
    clear hK K
    try simp only[Act.put,lA,lB,lC]
    refine wpAnyH_ready (rs:=[10]) (by kernel_rfl) (by simp) ?_
    refine AllReadyH.cons rfl (fun K hK=>?_) AllReadyH.nil
    refine zas zli (.tmp 42) (.tmp 47) rfl B (.slice ra m rc) m N rfl Hrow.out 1 #[.string s,.slice la ln lc] rfl rfl (by simp[Value.oneCell']) (by omega) (by unfold maxLen;omega) hB (fun v' w9 hown9 hg9 hm9=>?_)
    obtain⟨a9,c9,rfl⟩:=za9 hown9
    have hc9:w9.heap[pb]? = some (.cells cur 123 (0,0)):=(hg9.block pb (Array.getElem?_eq_some_iff.1 Hcur.out).1 (fun e=>Hne.out (by rw[Hrv0.out];exact e.symm))).trans Hcur.out
    have d2:=za5 hc9 (ps.length * 8+3)
    have d1:=(World.cell?_of_block (w:=w1) (w':=w9) (a:=⟨pb,ps.length * 8+3,none⟩) (hc9.trans Hcur.out.symm)).trans hS1
    have hL9:=HL1.out.vars_push Hr.out Hels.out (v9:=.slice a9 (m+1) c9) (by rw[← Hm.out,← HN.out];exact hown9) (by rw[Hrv0.out];exact hg9) (by rw[Hrv0.out];exact hm9)
    have hg9':w1.grownBy w9 v3.ownBlock:=by rw[Hrv0.out];exact hg9
    obtain⟨Hown9,Hg9,Hm9,Hc9,HL9,Hg9'⟩:=hd6 hown9 hg9 hm9 hc9 hL9 hg9';clear hown9 hg9 hm9 hc9 hL9 hg9'
    refine hK.out _ _ trivial (fun hHeld=>?_)
    clear hK K
    try simp only[Act.put,lA,lB,lC]
    refine wpAnyH_take (i:=11) (v:=?_) rfl (by kernel_rfl) (by kernel_rfl) (by kernel_rfl) (fun _ _ _ h=>h) (Or.inl ⟨by kernel_rfl,?_⟩) (by assumption) ?_
    rotate_left
    ·(intro w hSw;(try dsimp only at hSw);(try obtain⟨⟩:=hSw);go_simp;try with_reducible rfl)
    try simp only[Act.put,lA,lB,lC]
    refine wpAnyH_take (i:=12) (v:=?_) rfl (by kernel_rfl) (by kernel_rfl) (by kernel_rfl) (fun _ _ _ h=>h) (Or.inl ⟨by kernel_rfl,?_⟩) (by assumption) ?_
    rotate_left
    ·(intro w hSw;(try dsimp only at hSw);(try obtain⟨⟩:=hSw);go_simp;try with_reducible rfl)
    try simp only[Act.put,lA,lB,lC]
    refine wpAnyH_ready (rs:=[13]) (by kernel_rfl) (by simp) ?_
    refine AllReadyH.cons rfl (fun K hK=>?_) AllReadyH.nil
    go_simp
    refine hK.out _ _ trivial (fun hHeld=>?_)
    clear hK K
    try simp only[Act.put,lA,lB,lC]
    refine wpAnyH_done (by kernel_rfl) ?_ _
    go_simp
    go_wp2_with fail
    go_end0
    refine zb1 (v:=v3) (j:=ws.length) HH1.out HL9.out Hfr1.out Hg9'.out Ht1.out (fun k hk=>za8 hk) Hvl.out Hpb1.out Hpt.out Hbx.out Hr1.out ?_ ?_ (Nat.le_refl _) rfl
    ·intro _
     rw[Hf.out]
     unfold zax
     rw[if_neg (by decide),if_pos rfl,ze6 Hia.out,if_pos (by rw[← Hs.out];exact Hoka.out),Hnl.out,← Hs.out]
     rfl
    intro hj
    exact absurd hj (by omega)
   have hnone:zax first line p (zap ws i)=none:=by
    rw[Hf.out]
    unfold zax
    rw[if_neg (by decide),if_pos rfl,ze6 Hia.out,hnl]
    split <;> rfl
   have hfrw:Frm (fun k=>k=r) w w1:=Hfd.out.trans hfr (fun _ _ h=>h)
   obtain⟨Hnl,Hfr,Hnone,Hfrw⟩:=hd4 hnl hfr hnone hfrw;clear hnl hfr hnone hfrw
   go_wp2_with fail
   exact⟨rfl,zb9 Hnone.out rfl Hfrw.out⟩
  go_simp
  refine HT1.out.mono ?_
  rintro e w1 ⟨⟨vv,l,hnl,rfl,hown,hbx⟩ | ⟨hnl,j,rfl⟩,hfr⟩
  ·have hfr1:Frm (fun k=>k=r) w w1:=Hfd.out.trans hfr (fun _ _ h=>h)
   have hS1:=Hkeep.out _ hfr1
   obtain⟨la,lc,rfl⟩:=za9 hown
   obtain⟨ln,hln⟩ : ∃ k,k=l.length:=⟨_,rfl⟩
   rw[← hln] at hown ⊢
   have hll:=(zei hnl).symm
   have hlz:∀ x∈l,x.size≤maxLen:=fun x hx=>by
    rw[← hll] at hx
    obtain⟨j,hj,rfl⟩:=List.getElem_of_mem hx
    have hjl:i+1+j < ws.length:=by rw[zcu] at hj;omega
    have e:=zdt hjl
    rw[List.getElem?_eq_getElem hj] at e
    rw[Option.some.inj e]
    have:=HC.out.peek_size (i+1+j)
    unfold maxLen
    omega
   have hwd:=Hfd.out.size
   obtain⟨Hnl,Hbx,Hfr,Hfr1,Hown,Hln,Hll,Hlz⟩:=hd8 hnl hbx hfr hfr1 hown hln hll hlz;clear hnl hbx hfr hfr1 hown hln hll hlz
   go_wp2_with fail
   refine hK.out _ _ trivial (fun hHeld=>?_)
   clear hK K
   try simp only[Act.put,lA,lB,lC]
   refine wpAnyH_take (i:=8) (v:=?_) rfl (by kernel_rfl) (by kernel_rfl) (by kernel_rfl) (fun _ _ _ h=>h) (Or.inl ⟨by kernel_rfl,?_⟩) (by assumption) ?_
   rotate_left
   ·(intro w hSw;(try dsimp only at hSw);(try obtain⟨⟩:=hSw);go_simp;try with_reducible rfl)
   try simp only[Act.put,lA,lB,lC]
   refine wpAnyH_ready (rs:=[4,9]) (by kernel_rfl) (by simp) ?_
   refine AllReadyH.cons rfl (fun K hK=>?_) (AllReadyH.cons rfl (fun K hK=>?_) AllReadyH.nil)
   ·go_simp
    refine hK.out _ _ trivial (fun hHeld=>?_)
    clear hK K
    try simp only[Act.put,lA,lB,lC]
    obtain⟨H1,L1⟩:=Hto.out _ Hfr1.out
    obtain⟨⟨cur,hcur⟩,-⟩:=L1.cells
    obtain⟨css,hr⟩:=L1.last.vars
    have hne:v3.ownBlock≠some pb:=fun e=>by
     have e1:=hr.tag pb e
     have e2:=Hpb1.out
     omega
    have hvl:∀ k,v3.ownBlock=some k→Live (zah t w.heap.size 3 k)∧¬ Ty w1 k:=fun k hk=>⟨by have:=hr.tag k hk;unfold Live;omega,zaq hr (by decide) hk⟩
    have hpt:¬ Ty w1 pb:=zb5 hcur (by decide)
    have hB:B≤w1.heap.size:=Nat.le_trans hBw Hfr1.out.size
    have hrow:=hr.row
    rw[← Hm.out,Hrv0.out] at hrow
    have hm7:m≤70000:=by rw[Hm.out];exact Hp.out.2.1
    obtain⟨N,hN⟩ : ∃ N,N=css.flatten:=⟨_,rfl⟩
    rw[← hN] at hrow
    have hels:Ft w1 (Fx w1 (zah t w.heap.size 3)) (fun W'=>zic W' [.string s,.slice la ln lc] (s,l)):=((zkg (by rw[← Hln.out];exact Hown.out) Hlz.out).mono fun k hk hkv=>.inl (by
     have:=(Hown.out.lt k hkv).1
     exact zbl (by omega))).imp fun V hV=>⟨_,rfl,hV⟩
    have Hne:=Lib.hid hne
    have Hcur:=Lib.hid hcur
    clear hne hcur
    obtain⟨HH1,HL1,Hr,Hvl,Hpt,HN,Hels,Hrow⟩:=hd8 H1 L1 hr hvl hpt hN hels hrow;clear H1 L1 hr hvl hpt hN hels hrow
    refine wpAnyH_ready (rs:=[9]) (by kernel_rfl) (by simp) ?_
    refine AllReadyH.cons rfl (fun K hK=>?_) AllReadyH.nil
    go_simp
    refine hK.out _ _ trivial (fun hHeld=>?_)
    clear hK K
    try simp only[Act.put,lA,lB,lC]
    refine wpAnyH_ready (rs:=[10]) (by kernel_rfl) (by simp) ?_
    refine AllReadyH.cons rfl (fun K hK=>?_) AllReadyH.nil
    refine zas zli (.tmp 42) (.tmp 47) rfl B (.slice ra m rc) m N rfl Hrow.out 1 #[.string s,.slice la ln lc] rfl rfl (by simp[Value.oneCell']) (by omega) (by unfold maxLen;omega) hB (fun v' w9 hown9 hg9 hm9=>?_)
    obtain⟨a9,c9,rfl⟩:=za9 hown9
    have hc9:w9.heap[pb]? = some (.cells cur 123 (0,0)):=(hg9.block pb (Array.getElem?_eq_some_iff.1 Hcur.out).1 (fun e=>Hne.out (by rw[Hrv0.out];exact e.symm))).trans Hcur.out
    have d2:=za5 hc9 (ps.length * 8+3)
    have d1:=(World.cell?_of_block (w:=w1) (w':=w9) (a:=⟨pb,ps.length * 8+3,none⟩) (hc9.trans Hcur.out.symm)).trans hS1
    have hL9:=HL1.out.vars_push Hr.out Hels.out (v9:=.slice a9 (m+1) c9) (by rw[← Hm.out,← HN.out];exact hown9) (by rw[Hrv0.out];exact hg9) (by rw[Hrv0.out];exact hm9)
    have hg9':w1.grownBy w9 v3.ownBlock:=by rw[Hrv0.out];exact hg9
    obtain⟨Hown9,Hg9,Hm9,Hc9,HL9,Hg9'⟩:=hd6 hown9 hg9 hm9 hc9 hL9 hg9';clear hown9 hg9 hm9 hc9 hL9 hg9'
    refine hK.out _ _ trivial (fun hHeld=>?_)
    clear hK K
    try simp only[Act.put,lA,lB,lC]
    refine wpAnyH_take (i:=11) (v:=?_) rfl (by kernel_rfl) (by kernel_rfl) (by kernel_rfl) (fun _ _ _ h=>h) (Or.inl ⟨by kernel_rfl,?_⟩) (by assumption) ?_
    rotate_left
    ·(intro w hSw;(try dsimp only at hSw);(try obtain⟨⟩:=hSw);go_simp;try with_reducible rfl)
    try simp only[Act.put,lA,lB,lC]
    refine wpAnyH_take (i:=12) (v:=?_) rfl (by kernel_rfl) (by kernel_rfl) (by kernel_rfl) (fun _ _ _ h=>h) (Or.inl ⟨by kernel_rfl,?_⟩) (by assumption) ?_
    rotate_left
    ·(intro w hSw;(try dsimp only at hSw);(try obtain⟨⟩:=hSw);go_simp;try with_reducible rfl)
    try simp only[Act.put,lA,lB,lC]
    refine wpAnyH_ready (rs:=[13]) (by kernel_rfl) (by simp) ?_
    refine AllReadyH.cons rfl (fun K hK=>?_) AllReadyH.nil
    go_simp
    refine hK.out _ _ trivial (fun hHeld=>?_)
    clear hK K
    try simp only[Act.put,lA,lB,lC]
    refine wpAnyH_done (by kernel_rfl) ?_ _
    go_simp
    go_wp2_with fail
    go_end0
    refine zb1 (v:=v3) (j:=ws.length) HH1.out HL9.out Hfr1.out Hg9'.out Ht1.out (fun k hk=>za8 hk) Hvl.out Hpb1.out Hpt.out Hbx.out Hr1.out ?_ ?_ (Nat.le_refl _) rfl
    ·intro _
     rw[Hf.out]
     unfold zax
     rw[if_neg (by decide),if_pos rfl,ze6 Hia.out,if_pos (by rw[← Hs.out];exact Hoka.out),Hnl.out,← Hs.out]
     rfl
    intro hj
    exact absurd hj (by omega)
   obtain⟨H1,L1⟩:=Hto.out _ Hfr1.out
   obtain⟨⟨cur,hcur⟩,-⟩:=L1.cells
   obtain⟨css,hr⟩:=L1.last.vars
   have hne:v3.ownBlock≠some pb:=fun e=>by
    have e1:=hr.tag pb e
    have e2:=Hpb1.out
    omega
   have hvl:∀ k,v3.ownBlock=some k→Live (zah t w.heap.size 3 k)∧¬ Ty w1 k:=fun k hk=>⟨by have:=hr.tag k hk;unfold Live;omega,zaq hr (by decide) hk⟩
   have hpt:¬ Ty w1 pb:=zb5 hcur (by decide)
   have hB:B≤w1.heap.size:=Nat.le_trans hBw Hfr1.out.size
   have hrow:=hr.row
   rw[← Hm.out,Hrv0.out] at hrow
   have hm7:m≤70000:=by rw[Hm.out];exact Hp.out.2.1
   obtain⟨N,hN⟩ : ∃ N,N=css.flatten:=⟨_,rfl⟩
   rw[← hN] at hrow
   have hels:Ft w1 (Fx w1 (zah t w.heap.size 3)) (fun W'=>zic W' [.string s,.slice la ln lc] (s,l)):=((zkg (by rw[← Hln.out];exact Hown.out) Hlz.out).mono fun k hk hkv=>.inl (by
    have:=(Hown.out.lt k hkv).1
    exact zbl (by omega))).imp fun V hV=>⟨_,rfl,hV⟩
   have Hne:=Lib.hid hne
   have Hcur:=Lib.hid hcur
   clear hne hcur
   obtain⟨HH1,HL1,Hr,Hvl,Hpt,HN,Hels,Hrow⟩:=hd8 H1 L1 hr hvl hpt hN hels hrow;clear H1 L1 hr hvl hpt hN hels hrow
   go_simp
   refine hK.out _ _ trivial (fun hHeld=>?_)
   clear hK K
   try simp only[Act.put,lA,lB,lC]
   have hS2:=Hkeep.out _ (Hfr1.out.alloc (.cells #[.string s,.slice la ln lc] 159))
   refine wpAnyH_ready (rs:=[4]) (by kernel_rfl) (by simp) ?_
   refine AllReadyH.cons rfl (fun K hK=>?_) AllReadyH.nil
   go_simp
   refine hK.out _ _ trivial (fun hHeld=>?_)
   clear hK K
   try simp only[Act.put,lA,lB,lC]
   clear hS2
   refine wpAnyH_ready (rs:=[10]) (by kernel_rfl) (by simp) ?_
   refine AllReadyH.cons rfl (fun K hK=>?_) AllReadyH.nil
   refine zas zli (.tmp 42) (.tmp 47) rfl B (.slice ra m rc) m N rfl Hrow.out 1 #[.string s,.slice la ln lc] rfl rfl (by simp[Value.oneCell']) (by omega) (by unfold maxLen;omega) hB (fun v' w9 hown9 hg9 hm9=>?_)
   obtain⟨a9,c9,rfl⟩:=za9 hown9
   have hc9:w9.heap[pb]? = some (.cells cur 123 (0,0)):=(hg9.block pb (Array.getElem?_eq_some_iff.1 Hcur.out).1 (fun e=>Hne.out (by rw[Hrv0.out];exact e.symm))).trans Hcur.out
   have d2:=za5 hc9 (ps.length * 8+3)
   have d1:=(World.cell?_of_block (w:=w1) (w':=w9) (a:=⟨pb,ps.length * 8+3,none⟩) (hc9.trans Hcur.out.symm)).trans hS1
   have hL9:=HL1.out.vars_push Hr.out Hels.out (v9:=.slice a9 (m+1) c9) (by rw[← Hm.out,← HN.out];exact hown9) (by rw[Hrv0.out];exact hg9) (by rw[Hrv0.out];exact hm9)
   have hg9':w1.grownBy w9 v3.ownBlock:=by rw[Hrv0.out];exact hg9
   obtain⟨Hown9,Hg9,Hm9,Hc9,HL9,Hg9'⟩:=hd6 hown9 hg9 hm9 hc9 hL9 hg9';clear hown9 hg9 hm9 hc9 hL9 hg9'
   refine hK.out _ _ trivial (fun hHeld=>?_)
   clear hK K
   try simp only[Act.put,lA,lB,lC]
   refine wpAnyH_take (i:=11) (v:=?_) rfl (by kernel_rfl) (by kernel_rfl) (by kernel_rfl) (fun _ _ _ h=>h) (Or.inl ⟨by kernel_rfl,?_⟩) (by assumption) ?_
   rotate_left
   ·(intro w hSw;(try dsimp only at hSw);(try obtain⟨⟩:=hSw);go_simp;try with_reducible rfl)
   try simp only[Act.put,lA,lB,lC]
   refine wpAnyH_take (i:=12) (v:=?_) rfl (by kernel_rfl) (by kernel_rfl) (by kernel_rfl) (fun _ _ _ h=>h) (Or.inl ⟨by kernel_rfl,?_⟩) (by assumption) ?_
   rotate_left
   ·(intro w hSw;(try dsimp only at hSw);(try obtain⟨⟩:=hSw);go_simp;try with_reducible rfl)
   try simp only[Act.put,lA,lB,lC]
   refine wpAnyH_ready (rs:=[13]) (by kernel_rfl) (by simp) ?_
   refine AllReadyH.cons rfl (fun K hK=>?_) AllReadyH.nil
   go_simp
   refine hK.out _ _ trivial (fun hHeld=>?_)
   clear hK K
   try simp only[Act.put,lA,lB,lC]
   refine wpAnyH_done (by kernel_rfl) ?_ _
   go_simp
   go_wp2_with fail
   go_end0
   refine zb1 (v:=v3) (j:=ws.length) HH1.out HL9.out Hfr1.out Hg9'.out Ht1.out (fun k hk=>za8 hk) Hvl.out Hpb1.out Hpt.out Hbx.out Hr1.out ?_ ?_ (Nat.le_refl _) rfl
   ·intro _
    rw[Hf.out]
    unfold zax
    rw[if_neg (by decide),if_pos rfl,ze6 Hia.out,if_pos (by rw[← Hs.out];exact Hoka.out),Hnl.out,← Hs.out]
    rfl
   intro hj
   exact absurd hj (by omega)
  have hnone:zax first line p (zap ws i)=none:=by
   rw[Hf.out]
   unfold zax
   rw[if_neg (by decide),if_pos rfl,ze6 Hia.out,hnl]
   split <;> rfl
  have hfrw:Frm (fun k=>k=r) w w1:=Hfd.out.trans hfr (fun _ _ h=>h)
  obtain⟨Hnl,Hfr,Hnone,Hfrw⟩:=hd4 hnl hfr hnone hfrw;clear hnl hfr hnone hfrw
  go_wp2_with fail
  exact⟨rfl,zb9 Hnone.out rfl Hfrw.out⟩
 have hnone:zax first line p (zap ws i)=none:=by
  rw[Hf.out]
  unfold zax
  rw[if_neg (by decide),if_pos rfl]
  by_cases hl:i < ws.length
  ·rw[ze6 hl,if_neg (by rw[← Hs.out,hno.resolve_left (by omega)];simp)]
   rfl
  rw[zaz (by omega)]
  rfl
 obtain⟨Hno,Hfra,Hnone⟩:=hd3 hno hfra hnone;clear hno hfra hnone
 go_wp2_with fail
 exact⟨rfl,zb9 Hnone.out rfl Hfra.out⟩
end

section
open Go.RowKit VerN VarM
open LexM (Wd)
section
variable {W W' : World} {T : Nat → Prop} {P : World → Prop} {t : Nat → Nat}
theorem zhc (h:Ft W (Ty W) P) (hF:Frm T W W') (hT:∀ k,k < W.heap.size→T k→¬ Ty W k):Ft W' (Ty W') P :=
 h.frm hF (fun k k1 k2 kT=>hT k k1 kT k2) fun k k1 k2=>k2.keep hF fun kT=>hT k k1 kT k2
theorem zcz (h:Ft W (Ty W) P) (hb:Below W.heap.size W W'):Ft W' (Ty W') P:=zhc h (Frm.of_below (S:=fun _=>False) hb) fun _ _ h=>h.elim
theorem zpu (h:Ft W (Ty W) P):Ft W (Fx W t) P:=h.mono fun _ _ h=>.inr h
end
theorem spsT_ty {W:World} {v:Value} {L:List BSp} (h:zg2 W v L):Ft W (Ty W) fun W'=>RSps W' [v] L :=
 ((spsT_ft h).mono fun k _ hk=>by obtain⟨cs,fr,h1⟩:=h.2 hk.1 k hk.2;exact⟨cs,_,fr,h1,.inl rfl⟩).imp fun _ h=>h.1
theorem setsT_ty {W:World} {v:Value} {L:List Setg} (h:zel W v L):Ft W (Ty W) fun W'=>zfj W' [v] L :=
 ((setsT_ft h).mono fun k _ hk=>by obtain⟨cs,fr,h1⟩:=h.2 hk.1 k hk.2;exact⟨cs,_,fr,h1,.inr rfl⟩).imp fun _ h=>h.1
theorem zpa {W:World} {v1 v2:Value} {s:Spc3} (h1:zg2 W v1 s.2.1) (h2:zel W v2 s.2.2):Ft W (Ty W) fun W'=>zjv W' (.string s.1) v1 v2 s:=((spsT_ty h1).and (setsT_ty h2)).imp fun _ h=>⟨rfl,h.1,h.2⟩
theorem zm4 (W:World):zfj W [.slice none 0 0] []:=⟨_,0,rfl,Nat.zero_le _,Nat.zero_le _,fun i x hi=>by simp at hi⟩
theorem all_ty (W:World):Ft (W.alloc (.cells #[.string ⟨#[]⟩,.string ⟨#[]⟩] 34)) (Ty (W.alloc (.cells #[.string ⟨#[]⟩,.string ⟨#[]⟩] 34))) fun W'=>zjv W' (.string ⟨#[]⟩) (.slice (some ⟨W.heap.size,0,none⟩) 1 1) (.slice none 0 0) spAll :=
 (spsT_ty (zjs W)).imp fun V h=>⟨rfl,h,zm4 V⟩
theorem none_ty (W:World):Ft W (Ty W) fun W'=>zjv W' (.string ⟨#[]⟩) (.slice none 0 0) (.slice none 0 0) zm1:=fun V _ _=>⟨rfl,zku V,zm4 V⟩
theorem zm5 {ws:List Wd} {i j:Nat} {o:Option (List Setg)} (h:zb7 ws i []=(o,j)) (hi:i≤ws.length):i≤j∧j≤ws.length:=by
 have:=zf4 ws i []
 rw[h] at this
 simp only at this
 omega
theorem zq1 {ws:List Wd} {i j:Nat} {s:Spc3} (h:zd4 ws i=(some s,j)):i < j∧j≤ws.length:=by
 have hi:i < ws.length:=by
  apply Nat.lt_of_not_le
  intro hk
  unfold zd4 at h
  rw[zeg hk,if_neg (by decide),if_neg (by decide),if_neg (by rw[zle];simp)] at h
  cases h
 unfold zd4 at h
 by_cases h1:zan ws i=ziv
 ·rw[if_pos h1] at h
  cases h
  omega
 rw[if_neg h1] at h
 by_cases h2:zfm (zan ws i)=true
 ·rw[if_pos h2] at h
  by_cases h3:zed (zgq (zan ws i))=true
  ·rw[if_pos h3] at h
   have e:(zb7 ws (i+1) []).2=j:=congrArg Prod.snd h
   have:=zm5 (o:=(zb7 ws (i+1) []).1) (j:=j) (by rw[← e]) (by omega)
   omega
  rw[if_neg h3] at h
  cases h
 rw[if_neg h2] at h
 by_cases h3:hasB 61 (zan ws i)=true
 ·rw[if_pos h3] at h
  have e:(zb7 ws i []).2=j:=congrArg Prod.snd h
  have e1:=congrArg Prod.fst h
  have h4:=zm5 (o:=(zb7 ws i []).1) (j:=j) (by rw[← e]) (by omega)
  refine⟨?_,h4.2⟩
  -- a word that has an equals sign is taken or wrong
  cases hw:ze7 ([] ++ [zfu (zan ws i)]) with
  | false =>
   rw[zj2 h3 hw] at e1
   cases e1
  | true =>
   rw[zj1 h3 hw] at e
   have:=zf4 ws (i+1) ([] ++ [zfu (zan ws i)])
   omega
 rw[if_neg h3] at h
 cases h
theorem zgo {ws:List Wd} {i j:Nat} {s:Spc3} (h:ze0 ws i=(some s,j)):zng (zap ws i)=some (s,zap ws j):=by rw[zin,h];rfl
theorem zow {ws:List Wd} {i j:Nat} (h:ze0 ws i=(none,j)):zng (zap ws i)=none:=by rw[zin,h];rfl
theorem zh0 {ws:List Wd} {i j:Nat} {s:Spc3} (h:zd4 ws i=(some s,j)):zon (zap ws i)=some (s,zap ws j):=by rw[zjn,h];rfl
theorem zpz {ws:List Wd} {i j:Nat} (h:zd4 ws i=(none,j)):zon (zap ws i)=none:=by rw[zjn,h];rfl
section
variable {ws : List Wd} {i j j2 : Nat} {s c : Spc3} {n : Int}
theorem depL_end (h:ze0 ws i=(some s,j)) (hj:j=ws.length):depL n (zap ws i)=some (s,spAll,n):=by
 unfold depL
 rw[zgo h,zaz (by omega)]
theorem depL_bad (h:ze0 ws i=(none,j)):depL n (zap ws i)=none:=by
 unfold depL
 rw[zow h]
theorem depL_word (h:ze0 ws i=(some s,j)) (hj:j < ws.length) (hw:zan ws j≠zhh):depL n (zap ws i)=none:=by
 unfold depL
 rw[zgo h,zaj hj]
 simp only
 rw[if_neg hw]
theorem depL_cond (h:ze0 ws i=(some s,j)) (hj:j < ws.length) (hc:zd4 ws (j+1)=(none,j2)):depL n (zap ws i)=none:=by
 unfold depL
 rw[zgo h,zaj hj]
 simp only
 split
 ·rw[zpz hc]
 rfl
theorem depL_yes (h:ze0 ws i=(some s,j)) (hj:j < ws.length) (hw:zan ws j=zhh) (hc:zd4 ws (j+1)=(some c,j2)) (h2:j2=ws.length):depL n (zap ws i)=some (s,c,n):=by
 unfold depL
 rw[zgo h,zaj hj]
 simp only
 rw[if_pos hw,zh0 hc,zaz (by omega)]
theorem depL_more (h:ze0 ws i=(some s,j)) (hj:j < ws.length) (hc:zd4 ws (j+1)=(some c,j2)) (h2:j2 < ws.length):depL n (zap ws i)=none:=by
 unfold depL
 rw[zgo h,zaj hj]
 simp only
 split
 ·rw[zh0 hc,zaj h2]
 rfl
theorem confL_end (h:zd4 ws i=(some s,j)) (hj:j=ws.length):zg1 n (zap ws i)=some (s,zm1,n):=by
 unfold zg1
 rw[zh0 h,zaz (by omega)]
theorem confL_bad (h:zd4 ws i=(none,j)):zg1 n (zap ws i)=none:=by
 unfold zg1
 rw[zpz h]
theorem zre (h:zd4 ws i=(some s,j)) (hj:j < ws.length) (hw:zan ws j≠zq9):zg1 n (zap ws i)=none:=by
 unfold zg1
 rw[zh0 h,zaj hj]
 simp only
 rw[if_neg hw]
theorem zrg (h:zd4 ws i=(some s,j)) (hj:j < ws.length) (hc:ze0 ws (j+1)=(none,j2)):zg1 n (zap ws i)=none:=by
 unfold zg1
 rw[zh0 h,zaj hj]
 simp only
 split
 ·rw[zow hc]
 rfl
theorem confL_yes (h:zd4 ws i=(some s,j)) (hj:j < ws.length) (hw:zan ws j=zq9) (hc:ze0 ws (j+1)=(some c,j2)) (h2:j2=ws.length):zg1 n (zap ws i)=some (s,c,n):=by
 unfold zg1
 rw[zh0 h,zaj hj]
 simp only
 rw[if_pos hw,zgo hc,zaz (by omega)]
theorem zrf (h:zd4 ws i=(some s,j)) (hj:j < ws.length) (hc:ze0 ws (j+1)=(some c,j2)) (h2:j2 < ws.length):zg1 n (zap ws i)=none:=by
 unfold zg1
 rw[zh0 h,zaj hj]
 simp only
 split
 ·rw[zgo hc,zaj h2]
 rfl
end
end
end Go.Proofs.YteailgjiifdgcaaGreatDoor
