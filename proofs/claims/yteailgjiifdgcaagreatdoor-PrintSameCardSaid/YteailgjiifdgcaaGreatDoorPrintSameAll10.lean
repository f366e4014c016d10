/- Walks and plain facts. Texts merged: RpC, RpD, LexW, LexB, LexT, LexL, PnD, PnG. Condition: none beyond what each says. -/
import Derived.Laws.BytesArg
import Derived.Test.YteailgjiifdgcaaGreatDoorPrintSameAll9
set_option linter.unusedVariables false
set_option linter.unusedSimpArgs false
set_option maxRecDepth 10000
set_option maxHeartbeats 4000000
namespace Go.Proofs.YteailgjiifdgcaaGreatDoor
section
open Go.Shelf Go.RowKit Go.Lib VerN VarM
open LexM (Wd)
attribute [local go_sem ↓] Go.wp_at_zero Go.wp_at_succ
def CondPost (r:Nat) (a:Option Addr) (n c:Nat) (fin:Int) (ws:List Wd) (i:Nat) (w:World) (e:Ending) (w':World):Prop :=
 ((∃ s j v1 v2,zce ws i=(some s,j)∧e = .returned (.agg #[.string s.1,v1,v2])∧zgr w' v1 s.2.1∧zfa w' v2 s.2.2∧RBox r (.slice a n c) j fin w')∨(∃ j,zce ws i=(none,j)∧e=zh0 (zez ws fin j)))∧Frm (fun k=>k=r) w w'
theorem zj8 {ws:List Wd} {i:Nat} (h:zb6 ws i=zdd):zce ws i=(some (noT,allV,[]),i+1):=by unfold zce;rw[if_pos h]
theorem condW_bad {ws:List Wd} {i:Nat} (h:zb6 ws i≠zdd) (h1:zgk (zb6 ws i)=true) (h2:zfp (zjf (zb6 ws i))=false):zce ws i=(none,i):=by unfold zce;rw[if_neg h,if_pos h1,if_neg (by rw[h2];simp)]
theorem condW_at {ws:List Wd} {i:Nat} (h:zb6 ws i≠zdd) (h1:zgk (zb6 ws i)=true) (h2:zfp (zjf (zb6 ws i))=true):zce ws i=((zb7 ws (i+1) []).1.map fun l=>(noT,rdV (zjf (zb6 ws i)),l),(zb7 ws (i+1) []).2):=by unfold zce;rw[if_neg h,if_pos h1,if_pos h2]
theorem zq9 {ws:List Wd} {i:Nat} (h:zb6 ws i≠zdd) (h1:zgk (zb6 ws i)=false):(∀ l j,zb7 ws i []=(some l,j)→j≠i→zce ws i=(some (noT,allV,l),j))∧(∀ l j,zb7 ws i []=(some l,j)→j=i→zce ws i=(none,j))∧(∀ j,zb7 ws i []=(none,j)→zce ws i=(none,j)):=by
 unfold zce
 rw[if_neg h,if_neg (by rw[h1];simp)]
 cases hb:hasB 61 (zb6 ws i) with
 | false =>
  rw[ziv hb]
  refine⟨fun l j e hj=>?_,fun l j e hj=>?_,fun j e=>?_⟩
  ·cases e;exact absurd rfl hj
  ·cases e;rfl
  cases e
 | true =>
  rw[if_pos rfl]
  refine⟨fun l j e _=>by rw[e];rfl,fun l j e hj=>?_,fun j e=>by rw[e];rfl⟩
  subst hj
  cases hw:ze2 ([] ++ [zgn (zb6 ws j)]) with
  | false=>rw[zkx hb hw] at e;cases e
  | true =>
   rw[zkw hb hw] at e
   have:=zhc ws (j+1) ([] ++ [zgn (zb6 ws j)])
   rw[e] at this
   simp only at this
   omega
theorem zl5 (s:ByteArray):Lib.hasPrefix s.data.toList [64]=zgk s:=by
 unfold Lib.hasPrefix zgk
 cases h:s.data.toList with
 | nil=>rfl
 | cons c l =>
  by_cases e:c=64
  ·subst e;rfl
  simp[List.isPrefixOf,Ne.symm e,e]
theorem zml {s:ByteArray} (h:zgk s=true):(⟨(Lib.trimPrefix s.data.toList [64]).toArray⟩ : ByteArray)=zjf s:=by
 unfold Lib.trimPrefix
 rw[zl5,if_pos h]
 rfl
theorem zox (s:ByteArray):(zjf s).size≤s.size:=by
 have e:∀ l:List UInt8,(⟨l.toArray⟩ : ByteArray).size=l.length:=fun l=>rfl
 unfold zjf
 rw[e,List.length_drop,Txt.len]
 omega
theorem cond_any {w0 w:World} {r:Nat} {a:Option Addr} {n c:Nat} {fin:Int} {ws:List Wd} {i:Nat} (C:RdC w0 r a n c fin ws) (S:RdS w0 r a n c fin i w) (hi:i≤1000):Calls Tryz.prog 131 #[rp r] w (CondPost r a n c fin ws i w):=by
 have hrw:r < w.heap.size:=(Array.getElem?_eq_some_iff.1 S.box).1
 have hn1:=C.n1000
 obtain⟨s,hs⟩ : ∃ s,s=zb6 ws i:=⟨_,rfl⟩
 have hsz:s.size≤70000:=by rw[hs];exact C.peek_size _
 obtain⟨g,hg⟩ : ∃ k,k=w.heap.size:=⟨_,rfl⟩
 obtain⟨g1,hg1⟩ : ∃ k,k=g+1+1:=⟨_,rfl⟩
 obtain⟨va,hva⟩ : ∃ k:Option Addr,k=some ⟨g+1,0,none⟩:=⟨_,rfl⟩
 obtain⟨w4,hw4⟩ : ∃ W,W=((w.alloc (.cells #[.string ⟨#[]⟩,.slice none 0 0,.slice none 0 0] 51)).alloc (.cells #[.string ⟨#[]⟩,.string ⟨#[]⟩] 34)).alloc (.cells #[.string ⟨#[]⟩,.slice va 1 1,.slice none 0 0] 51):=⟨_,rfl⟩
 have hb4:Below w.heap.size w w4:=by rw[hw4];exact ((za2 _ _).alloc (by simp) _).alloc (by simp;omega) _
 have hJ:WsJ w0 r a n c fin i w g g1 ⟨#[]⟩ va 1 1 allV w4:=by
  refine⟨S.to hb4,Frm.of_below hb4,?_,?_,?_⟩
  ·rw[hw4,hg];exact za0 (za2 _ _) (za0 (za2 _ _) (za5 rfl))
  ·rw[hw4,hg1,hg];exact za5 (by simp)
  rw[hw4,hva,hg]
  have:=zm0 (w.alloc (.cells #[.string ⟨#[]⟩,.slice none 0 0,.slice none 0 0] 51))
  simp only[World.size_alloc] at this
  exact zcv this (za2 _ _)
 have hrg:r < g:=by rw[hg];exact hrw
 have hgg:g < g1:=by rw[hg1];omega
 have hwg:w.heap.size≤g:=Nat.le_of_eq hg.symm
 have hP:=C.peek hJ.st
 rw[← hs] at hP
 have heq:=Txt.eq_dec s ⟨#[42]⟩
 rw[Lib.toList_data (⟨#[42]⟩ : ByteArray)] at heq
 obtain⟨HC,HS,HP,Hs,Hb4,HJ⟩:=hd6 C S hP hs hb4 hJ;clear C S hP hs hb4 hJ
 go_enter Tryz.func131,Tryz.ntmps131
 go_upto_region 2 with (fail)
 rw[← hg,← hva,← hw4,← hg1]
 clear hva hw4 hg hg1
 go_wp2_with fail
 refine HP.out.mono ?_
 rintro e w1 ⟨rfl,q1,rfl⟩
 have hJ1:WsJ w0 r a n c fin i w g g1 ⟨#[]⟩ va 1 1 allV (w4.drewN q1):=⟨HJ.out.st.drewN q1,HJ.out.frm.drewN q1,HJ.out.g0,HJ.out.g1,zcv HJ.out.rd (za9 (Below.refl _ _) q1)⟩
 generalize w4.drewN q1=w5 at hJ1 ⊢
 have HJ1:=hd hJ1;clear hJ1
 by_cases hst:s=zdd
 ·have k1:(s.toList == [42])=true:=by rw[heq];exact decide_eq_true hst
  clear heq
  obtain⟨_,c1',_,c3'⟩:=zbd HJ1.out.st.box
  obtain⟨w6,hw6⟩ : ∃ W,W=w5.setCell ⟨r,1,none⟩ (.int .i64 ((i:Int)+1)):=⟨_,rfl⟩
  have hk0:zav g (.string ⟨#[]⟩) (.slice none 0 0) (.slice none 0 0) w6:=by rw[hw6];exact za6 HJ1.out.g0 (by omega)
  have hk1:zav g1 (.string ⟨#[]⟩) (.slice va 1 1) (.slice none 0 0) w6:=by rw[hw6];exact za6 HJ1.out.g1 (by omega)
  have hon:=HJ1.out.st.on HC.out.low
  rw[← hw6] at hon
  have hf6:Frm (fun k=>k=r) w w6:=by rw[hw6];exact zaq HJ1.out.frm 1 _
  have hT6:Frm (fun k=>k=r∨k=g∨k=g1) w5 w6:=by rw[hw6];exact (Frm.refl _ w5).setCell (p:=⟨r,1,none⟩) (.inr (.inl rfl)) _
  have hvv:=zbi HJ1.out.rd hT6 (zd6 HJ1.out.st.box HJ1.out.g0 HJ1.out.g1)
  obtain⟨_,_,_,f00,f01,f02⟩:=zai hk0
  obtain⟨x10,x11,x12,_,_,_⟩:=zai hk1
  obtain⟨Hst,Hk0,Hk1,Hon,Hf6,HT6,Hvv⟩:=hd7 hst hk0 hk1 hon hf6 hT6 hvv;clear hst hk0 hk1 hon hf6 hT6 hvv
  go_upto_region 4 with (fail)
  rw[← hw6]
  clear hw6
  go_wp2_with fail
  obtain⟨W9,hW9⟩ : ∃ W,W=((w6.setCell ⟨g,0,none⟩ (.string ⟨#[]⟩)).setCell ⟨g,1,none⟩ (.slice va 1 1)).setCell ⟨g,2,none⟩ (.slice none 0 0):=⟨_,rfl⟩
  rw[← hW9]
  have k0:=heap_setCell_same _ g 0 _ _ (.string ⟨#[]⟩) Hk0.out
  have k1:=heap_setCell_same _ g 1 _ _ (.slice va 1 1) k0
  have k2:=heap_setCell_same _ g 2 _ _ (.slice none 0 0) k1
  have hF9:Frm (fun k=>k=r) w W9:=by rw[hW9];exact ((Hf6.out.setCell (p:=⟨g,0,none⟩) (.inl hwg) _).setCell (p:=⟨g,1,none⟩) (.inl hwg) _).setCell (p:=⟨g,2,none⟩) (.inl hwg) _
  have hT9:Frm (fun k=>k=r∨k=g∨k=g1) w6 W9:=by
   rw[hW9]
   exact (((Frm.refl _ w6).setCell (p:=⟨g,0,none⟩) (.inr (.inr (.inl rfl))) _).setCell (p:=⟨g,1,none⟩) (.inr (.inr (.inl rfl))) _).setCell (p:=⟨g,2,none⟩) (.inr (.inr (.inl rfl))) _
  have hb9:RBox r (.slice a n c) (i+1) fin W9:=by rw[hW9];exact za6 (za6 (za6 Hon.out.box (by omega)) (by omega)) (by omega)
  rw[← hW9] at k2
  refine bodyPost_ret (results_cell_row rfl _ _ _ _ _ _ _ rfl k2 Tryz.underlying51 rfl (by kernel_rfl)) rfl ?_
  exact⟨.inl ⟨(noT,allV,[]),i+1,.slice va 1 1,.slice none 0 0,zj8 (by rw[← Hs.out];exact Hst.out),rfl,zbi Hvv.out hT9 (zd6 Hon.out.box Hk0.out Hk1.out),setsT_nil ⟨none,0,rfl,Nat.le_refl _,Nat.zero_le _,fun i x hi=>by simp at hi⟩,hb9⟩,hF9⟩
 have k1:(s.toList == [42])=false:=by rw[heq];exact decide_eq_false hst
 clear heq
 have hst':zb6 ws i≠zdd:=by rw[← Hs.out];exact hst
 obtain⟨_,c1',_,c3'⟩:=zbd HJ1.out.st.box
 have hP2:=HC.out.peek HJ1.out.st
 rw[← Hs.out] at hP2
 have hPre:=fun (W:World)=>Tryz.strings_CutPrefix s ⟨#[64]⟩ W
 simp only[zl5] at hPre
 obtain⟨tx,htx⟩ : ∃ t:ByteArray,t=⟨(Lib.trimPrefix s.data.toList [64]).toArray⟩:=⟨_,rfl⟩
 simp only[← htx] at hPre
 obtain⟨fl,hfl⟩ : ∃ b,b=zgk s:=⟨_,rfl⟩
 simp only[← hfl] at hPre
 obtain⟨Hst,Hst',HP2,Hfl,HPre,Htx⟩:=hd6 hst hst' hP2 hfl hPre htx;clear hst hst' hP2 hfl hPre htx
 go_wp2_with fail
 refine HP2.out.mono ?_
 rintro e w1 ⟨rfl,q2,rfl⟩
 have hJ2:WsJ w0 r a n c fin i w g g1 ⟨#[]⟩ va 1 1 allV (w5.drewN q2):=⟨HJ1.out.st.drewN q2,HJ1.out.frm.drewN q2,HJ1.out.g0,HJ1.out.g1,zcv HJ1.out.rd (za9 (Below.refl _ _) q2)⟩
 generalize w5.drewN q2=w6 at hJ2 ⊢
 have HJ2:=hd hJ2;clear hJ2
 clear c1' c3'
 go_wp2_with fail
 refine (HPre.out _).mono ?_
 rintro e wp ⟨rfl,hwp⟩
 subst hwp
 cases fl with
 | false =>
  have hCw:=zq9 (ws:=ws) (i:=i) Hst'.out (by rw[← Hs.out];exact Hfl.out.symm)
  have hYes:=hCw.1
  have hNil:=hCw.2.1
  have hNo:=hCw.2.2
  have HI:=HJ2
  clear hCw
  obtain⟨HYes,HNil,HNo⟩:=hd3 hYes hNil hNo;clear hYes hNil hNo
  have hSt:=zge HC.out HI.out.st
  have HSt:=hd hSt;clear hSt
  go_wp2_with fail
  refine HSt.out.mono ?_
  rintro e w7 ⟨⟨l,j,v,hse,rfl,hv,hbx⟩ | ⟨j,hse,rfl⟩,hfr⟩
  ·obtain⟨a3,c3,rfl⟩:=zeq hv.1
   have hfw:=HI.out.frm.trans hfr (fun _ _ h=>h)
   obtain⟨z,hz⟩ : ∃ n,n=l.length:=⟨_,rfl⟩
   rw[← hz] at hv ⊢
   have hk0:zav g (.string ⟨#[]⟩) (.slice none 0 0) (.slice none 0 0) w7:=zbz hfr HI.out.g0 (by omega)
   have hk1:zav g1 (.string ⟨#[]⟩) (.slice va 1 1) (.slice none 0 0) w7:=zbz hfr HI.out.g1 (by omega)
   have hst7:RdS w0 r a n c fin j w7:=⟨hbx,HI.out.st.bel.trans (hfr.below (by have:=HI.out.st.bel.size;exact HI.out.st.bel.size) (by rintro k rfl;exact HC.out.low))⟩
   obtain⟨_,_,_,_,_,f12⟩:=zai hk1
   have hvv:=HI.out.rd
   have hge:=zhc ws i []
   rw[hse] at hge
   simp only at hge
   obtain⟨w8,hw8⟩ : ∃ W,W=w7.setCell ⟨g1,2,none⟩ (.slice a3 z c3):=⟨_,rfl⟩
   have hst8:RdS w0 r a n c fin j w8:=by rw[hw8];exact⟨za6 hst7.box (by omega),hst7.bel.setCell (p:=⟨g1,2,none⟩) (by have:=HC.out.low;show w0.heap.size≤g1;omega) _⟩
   have hk08:zav g (.string ⟨#[]⟩) (.slice none 0 0) (.slice none 0 0) w8:=by rw[hw8];exact za6 hk0 (by omega)
   have hk18:zav g1 (.string ⟨#[]⟩) (.slice va 1 1) (.slice a3 z c3) w8:=by rw[hw8];exact heap_setCell_same _ g1 2 _ _ _ hk1
   have hf8:Frm (fun k=>k=r) w w8:=by rw[hw8];exact hfw.setCell (p:=⟨g1,2,none⟩) (.inl (show w.heap.size≤g1 by omega)) _
   have hT8:Frm (fun k=>k=r∨k=g∨k=g1) w7 w8:=by rw[hw8];exact (Frm.refl _ w7).setCell (p:=⟨g1,2,none⟩) (.inr (.inr (.inr rfl))) _
   have hno7:=zd6 hbx hk0 hk1
   have hv8:=zci hv hT8 hno7
   have hvv8:=zbi (zbi hvv (Frm.mono (T:=fun k=>k=r∨k=g∨k=g1) hfr (fun _ _ h=>.inl h)) (zd6 HI.out.st.box HI.out.g0 HI.out.g1)) hT8 hno7
   obtain⟨_,q1,_,_⟩:=zbd hst8.box
   obtain⟨Hse,Hv,Hbx,Hfr,Hfw,Hk0,Hk1,Hst7,Hvv,Hz,Hge,Hst8,Hk08,Hk18,Hf8,HT8⟩:=hd16 hse hv hbx hfr hfw hk0 hk1 hst7 hvv hz hge hst8 hk08 hk18 hf8 hT8;obtain⟨Hno7,Hv8,Hvv8⟩:=hd3 hno7 hv8 hvv8;clear hse hv hbx hfr hfw hk0 hk1 hst7 hvv hz hge hst8 hk08 hk18 hf8 hT8 hno7 hv8 hvv8
   go_upto_region 13 with (fail)
   rw[← hw8]
   clear hw8
   by_cases hji:j=i
   ·have kgt:decide (i < j)=false:=decide_eq_false (by omega)
    have hWn:=HC.out.want Hst8.out
    have HWn:=hd hWn;clear hWn
    go_wp2_with fail
    refine HWn.out.mono ?_
    rintro e w9 ⟨rfl,q5,rfl⟩
    go_wp2_with fail
    exact⟨rfl,.inr ⟨j,HNil.out _ _ Hse.out hji,by rw[hji]⟩,Hf8.out.drewN q5⟩
   obtain⟨x10,x11,x12,_,_,_⟩:=zai Hk18.out
   obtain⟨_,_,_,f00,f01,f02⟩:=zai Hk08.out
   have kgt:decide (i < j)=true:=decide_eq_true (by have:=Hge.out.1;omega)
   go_wp2_with fail
   refine (zgs _ r).mono ?_
   rintro e w9 ⟨rfl,hw9⟩
   subst hw9
   go_wp2_with fail
   obtain⟨W9,hW9⟩ : ∃ W,W=((w9.setCell ⟨g,0,none⟩ (.string ⟨#[]⟩)).setCell ⟨g,1,none⟩ (.slice va 1 1)).setCell ⟨g,2,none⟩ (.slice a3 z c3):=⟨_,rfl⟩
   rw[← hW9]
   have k0:=heap_setCell_same _ g 0 _ _ (.string ⟨#[]⟩) Hk08.out
   have k1:=heap_setCell_same _ g 1 _ _ (.slice va 1 1) k0
   have k2:=heap_setCell_same _ g 2 _ _ (.slice a3 z c3) k1
   have hF9:Frm (fun k=>k=r) w W9:=by rw[hW9];exact ((Hf8.out.setCell (p:=⟨g,0,none⟩) (.inl hwg) _).setCell (p:=⟨g,1,none⟩) (.inl hwg) _).setCell (p:=⟨g,2,none⟩) (.inl hwg) _
   have hT9:Frm (fun k=>k=r∨k=g∨k=g1) w9 W9:=by
    rw[hW9]
    exact (((Frm.refl _ w9).setCell (p:=⟨g,0,none⟩) (.inr (.inr (.inl rfl))) _).setCell (p:=⟨g,1,none⟩) (.inr (.inr (.inl rfl))) _).setCell (p:=⟨g,2,none⟩) (.inr (.inr (.inl rfl))) _
   have hb9:RBox r (.slice a n c) j fin W9:=by rw[hW9];exact za6 (za6 (za6 Hst8.out.box (by omega)) (by omega)) (by omega)
   rw[← hW9] at k2
   have hno8:=zd6 Hst8.out.box Hk08.out Hk18.out
   refine bodyPost_ret (results_cell_row rfl _ _ _ _ _ _ _ rfl k2 Tryz.underlying51 rfl (by kernel_rfl)) rfl ?_
   exact⟨.inl ⟨(noT,allV,l),j,.slice va 1 1,.slice a3 z c3,HYes.out _ _ Hse.out (by have:=Hge.out.1;omega),rfl,zbi Hvv8.out hT9 hno8,zci Hv8.out hT9 hno8,hb9⟩,hF9⟩
  have hfw:=HI.out.frm.trans hfr (fun _ _ h=>h)
  obtain⟨Hse,Hfr,Hfw⟩:=hd3 hse hfr hfw;clear hse hfr hfw
  go_wp2_with fail
  exact⟨rfl,.inr ⟨j,HNo.out _ Hse.out,rfl⟩,Hfw.out⟩
 | true =>
  obtain⟨tl,htl⟩ : ∃ t,t=zjf s:=⟨_,rfl⟩
  obtain rfl:tx=tl:=by rw[Htx.out,htl];exact zml Hfl.out.symm
  have hSet:=set_any tx (by have:=zox s;rw[← htl] at this;omega) (HC.out.dr HJ2.out.st)
  obtain⟨ok,hok⟩ : ∃ b,b=zfp tx:=⟨_,rfl⟩
  unfold SetPost at hSet
  rw[← hok] at hSet
  obtain⟨HSet,Hok,Htl⟩:=hd3 hSet hok htl;clear hSet hok htl
  go_wp2_with fail
  refine HSet.out.mono ?_
  rintro e w8 ⟨a2,n2,c2,rfl,hrd,hb8⟩
  have hg15:=za0 hb8 HJ2.out.g1
  have hg05:=za0 hb8 HJ2.out.g0
  have hst8:=HJ2.out.st.to hb8
  have hfr8:=HJ2.out.frm.trans (Frm.of_below (S:=fun _=>False) hb8) (fun _ _ h=>h.elim)
  obtain⟨Hrd,Hb8,Hg15,Hg05,Hst8,Hfr8⟩:=hd6 hrd hb8 hg15 hg05 hst8 hfr8;clear hrd hb8 hg15 hg05 hst8 hfr8
  cases ok with
  | false =>
   have hBad:=condW_bad (ws:=ws) (i:=i) Hst'.out (by rw[← Hs.out];exact Hfl.out.symm) (by rw[← Hs.out,← Htl.out];exact Hok.out.symm)
   have hWn:=HC.out.want Hst8.out
   obtain⟨HBad,HWn⟩:=hd2 hBad hWn;clear hBad hWn
   go_wp2_with fail
   refine HWn.out.mono ?_
   rintro e w9 ⟨rfl,q5,rfl⟩
   go_wp2_with fail
   exact⟨rfl,.inr ⟨i,HBad.out,rfl⟩,Hfr8.out.drewN q5⟩
  | true =>
   have hAt:=condW_at (ws:=ws) (i:=i) Hst'.out (by rw[← Hs.out];exact Hfl.out.symm) (by rw[← Hs.out,← Htl.out];exact Hok.out.symm)
   rw[← Hs.out,← Htl.out] at hAt
   have hYes:∀ l j,zb7 ws (i+1) []=(some l,j)→j≠i→zce ws i=(some (noT,rdV tx,l),j):=fun l j e _=>by rw[hAt,e];rfl
   have hNo:∀ j,zb7 ws (i+1) []=(none,j)→zce ws i=(none,j):=fun j e=>by rw[hAt,e];rfl
   obtain⟨_,_,_,_,fz1,_⟩:=zai Hg15.out
   obtain⟨_,c1',_,c3'⟩:=zbd Hst8.out.box
   obtain⟨w6,hw6⟩ : ∃ W,W=(w8.setCell ⟨g1,1,none⟩ (.slice a2 n2 c2)).setCell ⟨r,1,none⟩ (.int .i64 ((i:Int)+1)):=⟨_,rfl⟩
   have HI:Go.RowKit.Hid (WsJ w0 r a n c fin (i+1) w g g1 ⟨#[]⟩ a2 n2 c2 (rdV tx) w6):=by
    refine⟨?_,?_,?_,?_,?_⟩
    ·rw[hw6]
     exact RdS.on ⟨za6 Hst8.out.box (by omega),Hst8.out.bel.setCell (p:=⟨g1,1,none⟩) (by have:=HC.out.low;show w0.heap.size≤g1;omega) _⟩ HC.out.low
    ·rw[hw6];exact zaq (Hfr8.out.setCell (p:=⟨g1,1,none⟩) (.inl (by show w.heap.size≤g1;omega)) _) 1 _
    ·rw[hw6];exact za6 (za6 Hg05.out (by omega)) (by omega)
    ·rw[hw6];exact za6 (heap_setCell_same _ g1 1 _ _ _ Hg15.out) (by omega)
    rw[hw6]
    refine zbi (T:=fun k=>k=g1∨k=r) (Hrd.out rfl) ?_ ?_
    ·exact ((Frm.refl _ w8).setCell (p:=⟨g1,1,none⟩) (.inr (.inl rfl)) _).setCell (p:=⟨r,1,none⟩) (.inr (.inr rfl)) _
    rintro k (rfl | rfl)
    ·exact zf6 Hg15.out (by decide) (by decide)
    exact zf6 Hst8.out.box (by decide) (by decide)
   clear hAt
   obtain⟨HYes,HNo⟩:=hd2 hYes hNo;clear hYes hNo
   go_wp2_with fail
   refine (zgs _ r).mono ?_
   rintro e w9 ⟨rfl,hw9⟩
   subst hw9
   go_upto_region 12 with (fail)
   rw[← hw6]
   clear hw6
   have hSt:=zge HC.out HI.out.st
   have HSt:=hd hSt;clear hSt
   go_wp2_with fail
   refine HSt.out.mono ?_
   rintro e w7 ⟨⟨l,j,v,hse,rfl,hv,hbx⟩ | ⟨j,hse,rfl⟩,hfr⟩
   ·obtain⟨a3,c3,rfl⟩:=zeq hv.1
    have hfw:=HI.out.frm.trans hfr (fun _ _ h=>h)
    obtain⟨z,hz⟩ : ∃ n,n=l.length:=⟨_,rfl⟩
    rw[← hz] at hv ⊢
    have hk0:zav g (.string ⟨#[]⟩) (.slice none 0 0) (.slice none 0 0) w7:=zbz hfr HI.out.g0 (by omega)
    have hk1:zav g1 (.string ⟨#[]⟩) (.slice a2 n2 c2) (.slice none 0 0) w7:=zbz hfr HI.out.g1 (by omega)
    have hst7:RdS w0 r a n c fin j w7:=⟨hbx,HI.out.st.bel.trans (hfr.below (by have:=HI.out.st.bel.size;exact HI.out.st.bel.size) (by rintro k rfl;exact HC.out.low))⟩
    obtain⟨_,_,_,_,_,f12⟩:=zai hk1
    have hvv:=HI.out.rd
    have hge:=zhc ws (i+1) []
    rw[hse] at hge
    simp only at hge
    obtain⟨w8,hw8⟩ : ∃ W,W=w7.setCell ⟨g1,2,none⟩ (.slice a3 z c3):=⟨_,rfl⟩
    have hst8:RdS w0 r a n c fin j w8:=by rw[hw8];exact⟨za6 hst7.box (by omega),hst7.bel.setCell (p:=⟨g1,2,none⟩) (by have:=HC.out.low;show w0.heap.size≤g1;omega) _⟩
    have hk08:zav g (.string ⟨#[]⟩) (.slice none 0 0) (.slice none 0 0) w8:=by rw[hw8];exact za6 hk0 (by omega)
    have hk18:zav g1 (.string ⟨#[]⟩) (.slice a2 n2 c2) (.slice a3 z c3) w8:=by rw[hw8];exact heap_setCell_same _ g1 2 _ _ _ hk1
    have hf8:Frm (fun k=>k=r) w w8:=by rw[hw8];exact hfw.setCell (p:=⟨g1,2,none⟩) (.inl (show w.heap.size≤g1 by omega)) _
    have hT8:Frm (fun k=>k=r∨k=g∨k=g1) w7 w8:=by rw[hw8];exact (Frm.refl _ w7).setCell (p:=⟨g1,2,none⟩) (.inr (.inr (.inr rfl))) _
    have hno7:=zd6 hbx hk0 hk1
    have hv8:=zci hv hT8 hno7
    have hvv8:=zbi (zbi hvv (Frm.mono (T:=fun k=>k=r∨k=g∨k=g1) hfr (fun _ _ h=>.inl h)) (zd6 HI.out.st.box HI.out.g0 HI.out.g1)) hT8 hno7
    obtain⟨_,q1,_,_⟩:=zbd hst8.box
    obtain⟨Hse,Hv,Hbx,Hfr,Hfw,Hk0,Hk1,Hst7,Hvv,Hz,Hge,Hst8,Hk08,Hk18,Hf8,HT8⟩:=hd16 hse hv hbx hfr hfw hk0 hk1 hst7 hvv hz hge hst8 hk08 hk18 hf8 hT8;obtain⟨Hno7,Hv8,Hvv8⟩:=hd3 hno7 hv8 hvv8;clear hse hv hbx hfr hfw hk0 hk1 hst7 hvv hz hge hst8 hk08 hk18 hf8 hT8 hno7 hv8 hvv8
    go_upto_region 13 with (fail)
    rw[← hw8]
    clear hw8
    obtain⟨x10,x11,x12,_,_,_⟩:=zai Hk18.out
    obtain⟨_,_,_,f00,f01,f02⟩:=zai Hk08.out
    have kgt:decide (i < j)=true:=decide_eq_true (by have:=Hge.out.1;omega)
    go_wp2_with fail
    refine (zgs _ r).mono ?_
    rintro e w9 ⟨rfl,hw9⟩
    subst hw9
    go_wp2_with fail
    obtain⟨W9,hW9⟩ : ∃ W,W=((w9.setCell ⟨g,0,none⟩ (.string ⟨#[]⟩)).setCell ⟨g,1,none⟩ (.slice a2 n2 c2)).setCell ⟨g,2,none⟩ (.slice a3 z c3):=⟨_,rfl⟩
    rw[← hW9]
    have k0:=heap_setCell_same _ g 0 _ _ (.string ⟨#[]⟩) Hk08.out
    have k1:=heap_setCell_same _ g 1 _ _ (.slice a2 n2 c2) k0
    have k2:=heap_setCell_same _ g 2 _ _ (.slice a3 z c3) k1
    have hF9:Frm (fun k=>k=r) w W9:=by rw[hW9];exact ((Hf8.out.setCell (p:=⟨g,0,none⟩) (.inl hwg) _).setCell (p:=⟨g,1,none⟩) (.inl hwg) _).setCell (p:=⟨g,2,none⟩) (.inl hwg) _
    have hT9:Frm (fun k=>k=r∨k=g∨k=g1) w9 W9:=by
     rw[hW9]
     exact (((Frm.refl _ w9).setCell (p:=⟨g,0,none⟩) (.inr (.inr (.inl rfl))) _).setCell (p:=⟨g,1,none⟩) (.inr (.inr (.inl rfl))) _).setCell (p:=⟨g,2,none⟩) (.inr (.inr (.inl rfl))) _
    have hb9:RBox r (.slice a n c) j fin W9:=by rw[hW9];exact za6 (za6 (za6 Hst8.out.box (by omega)) (by omega)) (by omega)
    rw[← hW9] at k2
    have hno8:=zd6 Hst8.out.box Hk08.out Hk18.out
    refine bodyPost_ret (results_cell_row rfl _ _ _ _ _ _ _ rfl k2 Tryz.underlying51 rfl (by kernel_rfl)) rfl ?_
    exact⟨.inl ⟨(noT,(rdV tx),l),j,.slice a2 n2 c2,.slice a3 z c3,HYes.out _ _ Hse.out (by have:=Hge.out.1;omega),rfl,zbi Hvv8.out hT9 hno8,zci Hv8.out hT9 hno8,hb9⟩,hF9⟩
   have hfw:=HI.out.frm.trans hfr (fun _ _ h=>h)
   obtain⟨Hse,Hfr,Hfw⟩:=hd3 hse hfr hfw;clear hse hfr hfw
   go_wp2_with fail
   exact⟨rfl,.inr ⟨j,HNo.out _ Hse.out,rfl⟩,Hfw.out⟩
end

section
open Go.Shelf Go.RowKit Go.Lib VerN VarM
open LexM (Wd)
attribute [local go_sem ↓] Go.wp_at_zero Go.wp_at_succ
def TakenAc (r sb:Nat) (a:Option Addr) (n c:Nat) (fin:Int) (ws:List Wd) (w w':World):Prop :=
 ∃ s j b1 n1 c1 b2 n2 c2,zce ws 0=(some s,j)∧zav sb (.string s.1) (.slice b1 n1 c1) (.slice b2 n2 c2) w'∧zgr w' (.slice b1 n1 c1) s.2.1∧zfa w' (.slice b2 n2 c2) s.2.2∧RBox r (.slice a n c) j fin w'∧Frm (fun k=>k=r∨k=sb) w w'
def TakenBc (r sb:Nat) (fin:Int) (ws:List Wd) (w:World) (col:Int) (w':World):Prop :=
 ∃ j,zce ws 0=(none,j)∧col=zez ws fin j∧Frm (fun k=>k=r∨k=sb) w w'
abbrev fCond:Value:=.func (.func 131) #[] #[]
theorem one1c_any {w0 w:World} {r tb rb sb cb:Nat} {a:Option Addr} {n c:Nat} {fin:Int} {ws:List Wd} (C:RdC w0 r a n c fin ws) (S:RdS w0 r a n c fin 0 w)
  (ht:w.heap[tb]? = some (.cells #[fCond] 187 (0,0))) (hr:w.heap[rb]? = some (.cells #[rp r] 135 (0,0))) (hs:zav sb (.string ⟨#[]⟩) (.slice none 0 0) (.slice none 0 0) w)
  (hc:w.heap[cb]? = some (.cells #[.int .i64 0] 3 (0,0))) (n1:cb≠r) (n2:cb≠sb) (n3:r≠sb) :
  Calls Tryz.prog 180 #[.pointer (some ⟨tb,0,none⟩),.pointer (some ⟨rb,0,none⟩),.pointer (some ⟨sb,0,none⟩)] w fun e w'=>((e = .returned (.tuple #[])∧TakenAc r sb a n c fin ws w w')∨∃ col,e=zh0 col∧TakenBc r sb fin ws w col w')∧w'.heap[cb]? = some (.cells #[.int .i64 0] 3 (0,0)):=by
 have t0:=za1 ht 0
 have r0:=za1 hr 0
 simp only[List.getElem?_toArray,List.getElem?_cons_zero] at t0 r0
 have hW:=cond_any C S (by omega)
 obtain⟨HC,HS,Ht,Hr,Hs,Hc,HW⟩:=hd7 C S ht hr hs hc hW;clear C S ht hr hs hc hW
 go_enter Tryz.func180,Tryz.ntmps180
 go_wp2_with fail
 refine HW.out.mono ?_
 rintro e w1 ⟨⟨s,j,v1,v2,hw,rfl,hv1,hv2,hbx⟩ | ⟨j,hw,rfl⟩,hfr⟩
 ·obtain⟨b1,c1,rfl⟩:=zcw hv1.1
  obtain⟨b2,c2,rfl⟩:=zeq hv2.1
  obtain⟨z1,hz1⟩ : ∃ z,z=s.2.1.length:=⟨_,rfl⟩
  obtain⟨z2,hz2⟩ : ∃ z,z=s.2.2.length:=⟨_,rfl⟩
  rw[← hz1] at hv1 ⊢
  rw[← hz2] at hv2 ⊢
  have hs1:=zbz hfr Hs.out (by omega)
  have hc1:=zbz hfr Hc.out n1
  obtain⟨_,_,_,f0,f1,f2⟩:=zai hs1
  obtain⟨Hw,Hv1,Hv2,Hbx,Hfr,Hs1,Hc1,Hz1,Hz2⟩:=hd9 hw hv1 hv2 hbx hfr hs1 hc1 hz1 hz2;clear hw hv1 hv2 hbx hfr hs1 hc1 hz1 hz2
  go_wp2_with fail
  go_end0
  obtain⟨W8,hW8⟩ : ∃ W,W=((w1.setCell ⟨sb,0,none⟩ (.string s.1)).setCell ⟨sb,1,none⟩ (.slice b1 z1 c1)).setCell ⟨sb,2,none⟩ (.slice b2 z2 c2):=⟨_,rfl⟩
  rw[← hW8]
  have hT8:Frm (fun k=>k=r∨k=sb) w1 W8:=by
   rw[hW8]
   exact (((Frm.refl _ w1).setCell (p:=⟨sb,0,none⟩) (.inr (.inr rfl)) _).setCell (p:=⟨sb,1,none⟩) (.inr (.inr rfl)) _).setCell (p:=⟨sb,2,none⟩) (.inr (.inr rfl)) _
  have k0:=heap_setCell_same _ sb 0 _ _ (.string s.1) Hs1.out
  have k1:=heap_setCell_same _ sb 1 _ _ (.slice b1 z1 c1) k0
  have k2:=heap_setCell_same _ sb 2 _ _ (.slice b2 z2 c2) k1
  have hno:No2 w1 (fun k=>k=r∨k=sb):=by
   rintro k (rfl | rfl)
   ·exact zf6 Hbx.out (by decide) (by decide)
   exact zf6 Hs1.out (by decide) (by decide)
  have hcb:W8.heap[cb]? = some (.cells #[.int .i64 0] 3 (0,0)):=zbz hT8 Hc1.out (by rintro (h | h);exact n1 h;exact n2 h)
  refine⟨.inl ⟨rfl,s,j,b1,z1,c1,b2,z2,c2,Hw.out,by rw[hW8];exact k2,zbi Hv1.out hT8 hno,zci Hv2.out hT8 hno,?_,?_⟩,hcb⟩
  ·rw[hW8];exact za6 (za6 (za6 Hbx.out n3) n3) n3
  exact Frm.trans (T:=fun k=>k=r∨k=sb) (Hfr.out.mono (fun _ _ h=>.inl h)) hT8 (fun _ _ h=>h)
 have hc1:=zbz hfr Hc.out n1
 obtain⟨Hw,Hfr,Hc1⟩:=hd3 hw hfr hc1;clear hw hfr hc1
 go_wp2_with fail
 exact⟨rfl,.inr ⟨_,rfl,j,Hw.out,rfl,Hfr.out.mono (fun _ _ h=>.inl h)⟩,Hc1.out⟩
def zm8 (fin:Int) (ws:List Wd) (w:World) (e:Ending) (w':World):Prop :=
 ((∃ s j b1 n1 c1 b2 n2 c2,zce ws 0=(some s,j)∧e = .returned (.tuple #[.agg #[.string s.1,.slice b1 n1 c1,.slice b2 n2 c2],.int .i64 j,.int .i64 0])∧zgr w' (.slice b1 n1 c1) s.2.1∧zfa w' (.slice b2 n2 c2) s.2.2) ∨
  (∃ j,zce ws 0=(none,j)∧e = .returned (.tuple #[.agg #[.string ⟨#[]⟩,.slice none 0 0,.slice none 0 0],.int .i64 0,.int .i64 (zez ws fin j)])))∧Below w.heap.size w w'
theorem zic {w:World} {a:Option Addr} {n c:Nat} {fin:Int} {ws:List Wd} (hws:RWds w [.slice a n c] ws) (hD:zb1 w) (hn:n≤1000) (hz:∀ x∈ws,x.2.length≤70000) (hcol:∀ j,zez ws fin j≠0):Calls Tryz.prog 130 #[.slice a n c,.int .i64 fin,fCond] w (zm8 fin ws w):=by
 obtain⟨h,hh⟩ : ∃ h,h=w.heap.size:=⟨_,rfl⟩
 obtain⟨W5,hW5⟩ : ∃ W,W=(((((w.alloc (.cells #[fCond] 187)).alloc (.cells #[.string ⟨#[]⟩,.slice none 0 0,.slice none 0 0] 51)).alloc (.cells #[.slice a n c,.int .i64 0,.int .i64 fin] 137)).alloc (.cells #[rp (h+1+1)] 135)).alloc (.cells #[.string ⟨#[]⟩,.slice none 0 0,.slice none 0 0] 51)):=⟨_,rfl⟩
 have hs5:W5.heap.size=h+5:=by rw[hW5,hh];simp
 have k1:∀ {w':World} {o:Obj} {k:Nat} {o':Obj},w'.heap[k]? = some o→(w'.alloc o').heap[k]? = some o:=fun h=>za0 (za2 _ _) h
 have hb5:Below w.heap.size w W5:=by rw[hW5];exact ((((Below.refl _ w).alloc (Nat.le_refl _) _).alloc (by simp) _).alloc (by simp;omega) _).alloc (by simp;omega) _ |>.alloc (by simp;omega) _
 have q0:W5.heap[h]? = some (.cells #[fCond] 187 (0,0)):=by rw[hW5,hh];exact k1 (k1 (k1 (k1 (za5 rfl))))
 have q1:zav (h+1) (.string ⟨#[]⟩) (.slice none 0 0) (.slice none 0 0) W5:=by rw[hW5,hh];exact k1 (k1 (k1 (za5 (by simp))))
 have q2:RBox (h+1+1) (.slice a n c) 0 fin W5:=by rw[hW5,hh];exact k1 (k1 (za5 (by simp)))
 have q3:W5.heap[h+1+1+1]? = some (.cells #[rp (h+1+1)] 135 (0,0)):=by rw[hW5,hh];exact k1 (za5 (by simp))
 have q4:zav (h+1+1+1+1) (.string ⟨#[]⟩) (.slice none 0 0) (.slice none 0 0) W5:=by rw[hW5,hh];exact za5 (by simp)
 have hC:RdC w (h+1+1) a n c fin ws:=⟨hws,hD,by omega,hn,hz⟩
 have hS:RdS w (h+1+1) a n c fin 0 (W5.alloc (.cells #[.int .i64 0] 3)):=⟨k1 q2,hb5.alloc hb5.size _⟩
 have hO:=one1c_any (tb:=h) (rb:=h+1+1+1) (sb:=h+1+1+1+1) (cb:=W5.heap.size) hC hS (k1 q0) (k1 q3) (k1 q4) (heap_alloc_new W5 _) (by omega) (by omega) (by omega)
 have hCa:=zqb (enters_of Tryz.func180 (by kernel_rfl) rfl) (caps:=#[.pointer (some ⟨h,0,none⟩),.pointer (some ⟨h+1+1+1,0,none⟩),.pointer (some ⟨h+1+1+1+1,0,none⟩)]) hO
 have q1':=k1 (o':=.cells #[.int .i64 0] 3) q1
 have q3':=k1 (o':=.cells #[.int .i64 0] 3) q3
 clear q0 q1 q2 q3 q4 hO k1
 have hb6:Below w.heap.size w (W5.alloc (.cells #[.int .i64 0] 3)):=hb5.alloc hb5.size _
 obtain⟨Hws,HD,Hz,Hcol,Hb5,HC,HS,HCa,Hq1',Hq3',Hb6⟩:=hd11 hws hD hz hcol hb5 hC hS hCa q1' q3' hb6;clear hws hD hz hcol hb5 hC hS hCa q1' q3' hb6
 go_enter Tryz.func130,Tryz.ntmps130
 go_upto_region 3 with (fail)
 rw[← hh,← hW5]
 clear hW5
 have hle:w.heap.size≤h:=Nat.le_of_eq hh.symm
 clear hh
 go_wp2_with fail
 refine HCa.out.mono ?_
 rintro e w2 (⟨w1,⟨s,j,b1,n1,c1,b2,n2,c2,hw,hsb,hv1,hv2,hbx,hfr⟩,rfl,rfl⟩ | ⟨col,w1,⟨j,hw,hcl,hfr⟩,rfl,rfl⟩)
 ·have hz6:=hfr.size
  simp only[World.size_alloc] at hz6
  have hcb:w1.heap[W5.heap.size]? = some (.cells #[.int .i64 0] 3 (0,0)):=zbz hfr (heap_alloc_new W5 _) (by omega)
  have hq1:=zbz hfr Hq1'.out (by omega)
  have hq3:=zbz hfr Hq3'.out (by omega)
  obtain⟨W2,hW2⟩ : ∃ W,W=w1.setCell ⟨W5.heap.size,0,none⟩ (.int .i64 0):=⟨_,rfl⟩
  rw[← hW2]
  have x1:zav (h+1) (.string ⟨#[]⟩) (.slice none 0 0) (.slice none 0 0) W2:=by rw[hW2];exact za6 hq1 (by omega)
  have x3:W2.heap[h+1+1+1]? = some (.cells #[rp (h+1+1)] 135 (0,0)):=by rw[hW2];exact za6 hq3 (by omega)
  have x2:RBox (h+1+1) (.slice a n c) j fin W2:=by rw[hW2];exact za6 hbx (by omega)
  have x4:zav (h+1+1+1+1) (.string s.1) (.slice b1 n1 c1) (.slice b2 n2 c2) W2:=by rw[hW2];exact za6 hsb (by omega)
  have y3:=za1 x3 0
  simp only[List.getElem?_toArray,List.getElem?_cons_zero] at y3
  obtain⟨_,y2,_,_⟩:=zbd x2
  obtain⟨z0,z1,z2,_,_,_⟩:=zai x4
  obtain⟨_,_,_,f0,f1,f2⟩:=zai x1
  obtain⟨Hw,Hsb,Hv1,Hv2,Hbx,Hfr,Hcb,Hq1,Hq3,Hx1,Hx2,Hx3,Hx4,HW2,Hz6⟩:=hd15 hw hsb hv1 hv2 hbx hfr hcb hq1 hq3 x1 x2 x3 x4 hW2 hz6;clear hw hsb hv1 hv2 hbx hfr hcb hq1 hq3 x1 x2 x3 x4 hW2 hz6
  go_wp2_with fail
  go_region
  go_wp2_with fail
  obtain⟨W8,hW8⟩ : ∃ W,W=(((W2.setCell ⟨h+1,0,none⟩ (.string s.1)).setCell ⟨h+1,1,none⟩ (.slice b1 n1 c1)).setCell ⟨h+1,2,none⟩ (.slice b2 n2 c2)).drew:=⟨_,rfl⟩
  rw[← hW8]
  have hT8:Frm (fun k=>k=W5.heap.size∨k=h+1) w1 W8:=by
   rw[hW8,HW2.out]
   exact (((((Frm.refl _ w1).setCell (p:=⟨W5.heap.size,0,none⟩) (.inr (.inl rfl)) _).setCell (p:=⟨h+1,0,none⟩) (.inr (.inr rfl)) _).setCell (p:=⟨h+1,1,none⟩) (.inr (.inr rfl)) _).setCell (p:=⟨h+1,2,none⟩) (.inr (.inr rfl)) _).drew
  have k0:=heap_setCell_same _ (h+1) 0 _ _ (.string s.1) Hx1.out
  have k1:=heap_setCell_same _ (h+1) 1 _ _ (.slice b1 n1 c1) k0
  have k2:=heap_setCell_same _ (h+1) 2 _ _ (.slice b2 n2 c2) k1
  have k3:W8.heap[h+1]? = some (.cells #[.string s.1,.slice b1 n1 c1,.slice b2 n2 c2] 51 (0,0)):=by rw[hW8];exact k2
  have hno:No2 w1 (fun k=>k=W5.heap.size∨k=h+1):=by
   rintro k (rfl | rfl)
   ·exact zf6 Hcb.out (by decide) (by decide)
   exact zf6 Hq1.out (by decide) (by decide)
  have hb8:Below w.heap.size w W8:=by
   have b1:Below h (W5.alloc (.cells #[.int .i64 0] 3)) w1:=Hfr.out.below (by simp;omega) (by rintro k (rfl | rfl) <;> omega)
   have b2:Below h w1 W8:=hT8.below (by have:=Hz6.out;omega) (by rintro k (rfl | rfl) <;> omega)
   exact Hb6.out.trans ((b1.trans b2).mono hle)
  refine bodyPost_ret (zd8 rfl rfl rfl rfl k3 Tryz.underlying51 rfl (by kernel_rfl)) rfl ?_
  exact⟨.inl ⟨s,j,b1,n1,c1,b2,n2,c2,Hw.out,rfl,zbi Hv1.out hT8 hno,zci Hv2.out hT8 hno⟩,hb8⟩
 have hz6:=hfr.size
 simp only[World.size_alloc] at hz6
 have hne:(col != 0)=true:=by rw[hcl];simpa using Hcol.out j
 have hq1:=zbz hfr Hq1'.out (by omega)
 obtain⟨W2,hW2⟩ : ∃ W,W=(w1.alloc (.cells #[.int .i64 col] 206)).setCell ⟨W5.heap.size,0,none⟩ (.int .i64 col):=⟨_,rfl⟩
 rw[← hW2]
 have x1:zav (h+1) (.string ⟨#[]⟩) (.slice none 0 0) (.slice none 0 0) W2:=by rw[hW2];exact za6 (za0 (za2 _ _) hq1) (by omega)
 obtain⟨_,_,_,f0,f1,f2⟩:=zai x1
 have hb2:Below w.heap.size w W2:=by
  have b1:Below h (W5.alloc (.cells #[.int .i64 0] 3)) w1:=hfr.below (by simp;omega) (by rintro k (rfl | rfl) <;> omega)
  have b2:Below h w1 W2:=by rw[hW2];exact ((za2 _ _).mono (by omega)).setCell (p:=⟨W5.heap.size,0,none⟩) (by show h≤W5.heap.size;omega) _
  exact Hb6.out.trans ((b1.trans b2).mono hle)
 obtain⟨Hw,Hcl,Hfr,Hq1,Hx1,HW2,Hz6,Hb2⟩:=hd8 hw hcl hfr hq1 x1 hW2 hz6 hb2;clear hw hcl hfr hq1 x1 hW2 hz6 hb2
 go_wp2_with fail
 have k0:=heap_setCell_same _ (h+1) 0 _ _ (.string ⟨#[]⟩) Hx1.out
 have k1:=heap_setCell_same _ (h+1) 1 _ _ (.slice none 0 0) k0
 have k2:=heap_setCell_same _ (h+1) 2 _ _ (.slice none 0 0) k1
 have hb8:=((Hb2.out.setCell (p:=⟨h+1,0,none⟩) (by show w.heap.size≤h+1;omega) (.string ⟨#[]⟩)).setCell (p:=⟨h+1,1,none⟩) (by show w.heap.size≤h+1;omega) (.slice none 0 0)).setCell (p:=⟨h+1,2,none⟩) (by show w.heap.size≤h+1;omega) (.slice none 0 0)
 refine bodyPost_ret (zd8 rfl rfl rfl rfl k2 Tryz.underlying51 rfl (by kernel_rfl)) rfl ?_
 refine⟨.inr ⟨j,Hw.out,by rw[← Hcl.out];rfl⟩,hb8⟩
theorem zid {w:World} {a:Option Addr} {n c:Nat} {fin:Int} {ws:List Wd} (hws:RWds w [.slice a n c] ws) (hD:zb1 w) (hn:n≤1000) (hz:∀ x∈ws,x.2.length≤70000) (hcol:∀ j,zez ws fin j≠0):Calls Tryz.prog 75 #[.slice a n c,.int .i64 fin] w (zm8 fin ws w):=by
 obtain⟨g,hg⟩ : ∃ g,g=w.heap.size:=⟨_,rfl⟩
 obtain⟨W1,hW1⟩ : ∃ W,W=w.alloc (.cells #[.string ⟨#[]⟩,.slice none 0 0,.slice none 0 0] 51):=⟨_,rfl⟩
 have hb1:Below w.heap.size w W1:=by rw[hW1];exact za2 _ _
 have hbx:zav g (.string ⟨#[]⟩) (.slice none 0 0) (.slice none 0 0) W1:=by rw[hW1,hg];exact heap_alloc_new _ _
 have hO:=zic (za3 zji _ _ _ _ hws hb1) (hD.below hb1) hn hz hcol
 have hle:w.heap.size≤g:=Nat.le_of_eq hg.symm
 obtain⟨Hws,HD,Hz,Hcol,HO,Hb1,Hbx⟩:=hd7 hws hD hz hcol hO hb1 hbx;clear hws hD hz hcol hO hb1 hbx
 go_enter Tryz.func75,Tryz.ntmps75
 go_upto_region 1 with (fail)
 rw[← hW1,← hg]
 clear hW1 hg
 go_wp2_with fail
 refine HO.out.mono ?_
 rintro e w2 ⟨⟨s,j,b1,n1,c1,b2,n2,c2,hw,rfl,hv1,hv2⟩ | ⟨j,hw,rfl⟩,hb⟩
 ·have x1:=za0 hb Hbx.out
  have hb2:=Hb1.out.trans (hb.mono Hb1.out.size)
  obtain⟨_,_,_,f0,f1,f2⟩:=zai x1
  obtain⟨Hw,Hv1,Hv2,Hb,Hx1,Hb2⟩:=hd6 hw hv1 hv2 hb x1 hb2;clear hw hv1 hv2 hb x1 hb2
  go_wp2_with fail
  have k0:=heap_setCell_same _ g 0 _ _ (.string s.1) Hx1.out
  have k1:=heap_setCell_same _ g 1 _ _ (.slice b1 n1 c1) k0
  have k2:=heap_setCell_same _ g 2 _ _ (.slice b2 n2 c2) k1
  have hT:Frm (fun k=>k=g) w2 (((w2.setCell ⟨g,0,none⟩ (.string s.1)).setCell ⟨g,1,none⟩ (.slice b1 n1 c1)).setCell ⟨g,2,none⟩ (.slice b2 n2 c2)):=zaq (zaq (zaq (Frm.refl _ _) 0 _) 1 _) 2 _
  have hno:No2 w2 (fun k=>k=g):=by
   rintro k rfl
   exact zf6 Hx1.out (by decide) (by decide)
  have hb8:=((Hb2.out.setCell (p:=⟨g,0,none⟩) hle (.string s.1)).setCell (p:=⟨g,1,none⟩) hle (.slice b1 n1 c1)).setCell (p:=⟨g,2,none⟩) hle (.slice b2 n2 c2)
  refine bodyPost_ret (zd8 rfl rfl rfl rfl k2 Tryz.underlying51 rfl (by kernel_rfl)) rfl ?_
  exact⟨.inl ⟨s,j,b1,n1,c1,b2,n2,c2,Hw.out,rfl,zbi Hv1.out hT hno,zci Hv2.out hT hno⟩,hb8⟩
 have x1:=za0 hb Hbx.out
 have hb2:=Hb1.out.trans (hb.mono Hb1.out.size)
 obtain⟨_,_,_,f0,f1,f2⟩:=zai x1
 obtain⟨col,hcl⟩ : ∃ x,x=zez ws fin j:=⟨_,rfl⟩
 rw[← hcl]
 obtain⟨Hw,Hcl,Hb,Hx1,Hb2⟩:=hd5 hw hcl hb x1 hb2;clear hw hcl hb x1 hb2
 go_wp2_with fail
 have k0:=heap_setCell_same _ g 0 _ _ (.string ⟨#[]⟩) Hx1.out
 have k1:=heap_setCell_same _ g 1 _ _ (.slice none 0 0) k0
 have k2:=heap_setCell_same _ g 2 _ _ (.slice none 0 0) k1
 have hb8:=((Hb2.out.setCell (p:=⟨g,0,none⟩) hle (.string ⟨#[]⟩)).setCell (p:=⟨g,1,none⟩) hle (.slice none 0 0)).setCell (p:=⟨g,2,none⟩) hle (.slice none 0 0)
 refine bodyPost_ret (zd8 rfl rfl rfl rfl k2 Tryz.underlying51 rfl (by kernel_rfl)) rfl ?_
 exact⟨.inr ⟨j,Hw.out,by rw[← Hcl.out];rfl⟩,hb8⟩
end

section
open Go.RowKit
open LexM (Bs Wd Ln St)
theorem ofNat_toNat (c:UInt8):UInt8.ofNat ((c.toNat:Int)).toNat=c:=by simp
theorem strOf (s:Bs):strOfNums (s.map fun c=>((c.toNat:Int)))=⟨s.toArray⟩:=by
 unfold strOfNums
 congr 2
 rw[List.map_map]
 conv=>rhs;rw[← List.map_id s]
 apply List.map_congr_left
 intro c _
 simp
theorem zq8 {w:World} {B:Nat} {v:Value} {s:Bs} (h:w.ownsRow B 5 1 v s.length (zgi s)) (hs:s≠[]):(convert 142 9 v).run Tryz.prog w = .ok (bv s) w:=by
 have hpos:=List.length_pos_iff.2 hs
 obtain⟨g,cap,rfl,_,_,hn,hm,hc⟩:=zda h hpos
 have:=run_convert_bytes_arg (P:=Tryz.prog) (w:=w) 142 5 Tryz.underlying142 Tryz.underlying5 g 0 s.length cap (s.map fun c=>((c.toNat:Int))) (by simp) (fun i hi=>by
  have h1:(zgi s)[i]? = some (.int .u8 (s[i].toNat:Int)):=by simp[zgi,hi]
  rw[Nat.zero_add,hc i _ h1]
  simp[List.getD,hi]) 9 Tryz.underlying9
 rw[this,strOf]
theorem zb2.setEnds {w0 w:World} {x:Nat} {s:St} {wv sv ov:Value} {rv:List Value} (h:zb2 w0 x s wv sv ov rv w) :
  zb2 w0 x { s with frm:=0,word:=[] } (.slice none 0 0) sv ov rv ((w.setCell ⟨x,2,none⟩ (.int .i64 0)).setCell ⟨x,4,none⟩ (.slice none 0 0)):=by
 have f1:Frm (fun k=>k=x) w (w.setCell ⟨x,2,none⟩ (.int .i64 0)):=Frm.setCell (S:=fun k=>k=x) (Frm.refl _ _) (p:=⟨x,2,none⟩) (.inr rfl) _
 have f2:=Frm.setCell f1 (p:=⟨x,4,none⟩) (.inr rfl) (.slice none 0 0)
 refine h.to f2 ?_ (.inr ⟨rfl,rfl⟩) (.inl ⟨rfl,rfl⟩) rfl
 have h1:=heap_setCell_same w x 2 _ _ (.int .i64 0) h.cells
 rw[heap_setCell_same _ x 4 _ _ (.slice none 0 0) h1]
 rfl
abbrev lexp (x:Nat):Value:=.pointer (some ⟨x,0,none⟩)
def zfj (w0:World) (x:Nat) (s:St) (e:Ending) (w':World):Prop:=e = .returned (.tuple #[])∧∃ wv sv ov rv,zb2 w0 x s wv sv ov rv w'
theorem zjz {w0 w:World} {x:Nat} {s s':St} {wv sv ov:Value} {rv:List Value} (h:zb2 w0 x s' wv sv ov rv w) (e:s'=s):zfj w0 x s (.returned (.tuple #[])) w:=⟨rfl,wv,sv,ov,rv,e ▸ h⟩
theorem ends_some {w0 w:World} {x:Nat} {s:St} {wv sv ov:Value} {rv:List Value} (h:zb2 w0 x s wv sv ov rv w) {m:Nat} (hm:m≤1000000) (hs:Small s m) (hf:0 < s.frm) :
  Calls Tryz.prog 176 #[lexp x] w (zfj w0 x (LexM.ends s)):=by
 have hne:=hs.begun hf
 have hwl:=hs.words
 have hB:=h.bel.size
 have hcv:(convert 142 9 wv).run Tryz.prog w.drew = .ok (bv s.word) w.drew:=zq8 (w:=w.drew) h.word hne
 have hnx:=zae h.words h.cells (by decide)
 have c2:=za1 h.cells 2
 have c4:=za1 h.cells 4
 have c5:=za1 h.cells 5
 simp only[zal,List.getElem?_toArray,List.getElem?_cons_succ,List.getElem?_cons_zero] at c2 c4 c5
 have a5:∀ o:Obj,(w.alloc o).cell? ⟨x,5,none⟩=some sv:=fun o=>((Frm.refl _ w).alloc o).keep c5
 have hwd:(w.drew).ownsRow w0.heap.size 64 2 sv s.words.length (s.words.flatMap zch):=h.words
 have hBd:w0.heap.size≤w.drew.heap.size:=hB
 obtain⟨Hh,Hwd,Hnx,Hs⟩:=hd4 h hwd hnx hs;clear h hwd hnx hs
 go_enter Tryz.func176,Tryz.ntmps176
 go_wp2_with fail
 go_region_law (refine zby elem_word (w:=w.drew) rfl (.tmp 11) (.tmp 22) rfl w0.heap.size sv s.words.length (s.words.flatMap zch) rfl Hwd.out 1 (by decide) #[.int .i64 s.frm,bv s.word] rfl rfl (by simp[Value.oneCell',bv]) (by omega) (by unfold maxLen;omega) hBd ?_;intro g8 c8 w8 hown8 hg8 hm8;have hc8:=zbh Hh.out.cells ((Frm.drew (Frm.refl _ w)).grown hg8 (S:=fun k=>sv.ownBlock=some k) (fun k hk=>.inr hk)) Hnx.out;have d5:=za1 hc8 5;have e5:=za7 hc8 5;simp only[zal,List.getElem?_toArray,List.getElem?_cons_succ,List.getElem?_cons_zero] at d5)
 all_goals
  have hP:=Hh.out.pushWord (s.frm,s.word) hown8 (zj2 hg8) (fun k hk=>hm8 k hk)
  obtain⟨w9,hw9⟩ : ∃ w9,w9=w8.setCell ⟨x,5,none⟩ (.slice (some ⟨g8,0,none⟩) (s.words.length+1) c8):=⟨_,rfl⟩
  rw[← hw9] at hP ⊢
  have z2:=za7 hP.cells 2
  have z4:=za7 hP.cells 4
  have y2:=za1 hP.cells 2
  have y4:=za1 hP.cells 4
  simp only[zal,List.getElem?_toArray,List.getElem?_cons_succ,List.getElem?_cons_zero] at y2 y4
  have hL:=hP.setEnds
  obtain⟨HP,HL⟩:=hd2 hP hL;clear hP hL
  clear hown8 hg8 hm8 hc8 d5 e5 hw9 c2 c4 c5 a5 hcv
  go_wp2_with fail
  go_end0
  exact zjz HL.out (by unfold LexM.ends;rw[if_pos hf])
theorem ends_none {w0 w:World} {x:Nat} {s:St} {wv sv ov:Value} {rv:List Value} (h:zb2 w0 x s wv sv ov rv w) (hf:¬ 0 < s.frm) :
  Calls Tryz.prog 176 #[lexp x] w (zfj w0 x (LexM.ends s)):=by
 have z2:=za7 h.cells 2
 have z4:=za7 h.cells 4
 have y2:=za1 h.cells 2
 have y4:=za1 h.cells 4
 simp only[zal,List.getElem?_toArray,List.getElem?_cons_succ,List.getElem?_cons_zero] at y2 y4
 have hL:=h.setEnds
 obtain⟨Hh,HL⟩:=hd2 h hL;clear h hL
 go_enter Tryz.func176,Tryz.ntmps176
 go_wp2_with fail
 go_end0
 exact zjz HL.out (by unfold LexM.ends;rw[if_neg (by omega)])
theorem zgy {w0 w:World} {x:Nat} {s:St} {wv sv ov:Value} {rv:List Value} (h:zb2 w0 x s wv sv ov rv w) {m:Nat} (hm:m≤1000000) (hs:Small s m) :
  Calls Tryz.prog 176 #[lexp x] w (zfj w0 x (LexM.ends s)):=by
 by_cases hf:0 < s.frm
 ·exact ends_some h hm hs hf
 exact ends_none h hf
end

section
open Go.RowKit
open LexM (Bs Wd Ln St)
theorem ends_len (s:St) (m:Nat) (h:s.words.length≤m):(LexM.ends s).words.length≤m+1:=by
 unfold LexM.ends
 dsimp only
 split <;> (try simp) <;> omega
theorem zng {w0 w:World} {x:Nat} {s:St} {wv sv ov:Value} {rv:List Value} (h:zb2 w0 x s wv sv ov rv w) {m:Nat} (hm:m≤1000000) (hs:Small s m) (hw:(LexM.ends s).words≠[]) :
  Calls Tryz.prog 127 #[lexp x] w (zfj w0 x (LexM.breaks s)):=by
 have HE:=Lib.hid (zgy h hm hs)
 have hso:=hs.out
 have hsl:=hs.line
 have hlen:=ends_len s m hs.words
 have hpos:=List.length_pos_iff.2 hw
 obtain⟨Hh,Hs,Hw⟩:=hd3 h hs hw;clear h hs hw
 go_enter Tryz.func127,Tryz.ntmps127
 go_wp2_with fail
 refine HE.out.mono ?_
 rintro e w1 ⟨rfl,wv1,sv1,ov1,rv1,h1⟩
 have hB:=h1.bel.size
 have hnx:=zae h1.out h1.cells (by decide)
 obtain⟨sa,sc,rfl⟩:=zaj h1.words
 have c0:=za1 h1.cells 0
 have c5:=za1 h1.cells 5
 have c6:=za1 h1.cells 6
 simp only[zal,LexM.ends,List.getElem?_toArray,List.getElem?_cons_succ,List.getElem?_cons_zero] at c0 c5 c6
 obtain⟨ws,hws⟩ : ∃ ws,ws=(LexM.ends s).words:=⟨_,rfl⟩
 have c5':w1.cell? ⟨x,5,none⟩=some (.slice sa ws.length sc):=by rw[hws];exact c5
 rw[← hws] at hpos hlen
 have a6:∀ o:Obj,(w1.alloc o).cell? ⟨x,6,none⟩=some ov1:=fun o=>((Frm.refl _ w1).alloc o).keep c6
 have hwd:(w1.drew).ownsRow w0.heap.size 62 2 ov1 s.out.length (zef s.out rv1):=h1.out
 have hBd:w0.heap.size≤w1.drew.heap.size:=hB
 obtain⟨H1,Hwd,Hnx,Hws⟩:=hd4 h1 hwd hnx hws;clear h1 hwd hnx hws
 clear c5
 go_wp2_with fail
 go_region_law (refine zby elem_line (w:=w1.drew) rfl (.tmp 14) (.tmp 24) rfl w0.heap.size ov1 s.out.length (zef s.out rv1) rfl Hwd.out 1 (by decide) #[.int .i64 s.line,.slice sa ws.length sc] rfl rfl (by simp[Value.oneCell']) (by omega) (by unfold maxLen;omega) hBd ?_;intro g8 c8 w8 hown8 hg8 hm8;have hc8:=zbh H1.out.cells ((Frm.drew (Frm.refl _ w1)).grown hg8 (S:=fun k=>ov1.ownBlock=some k) (fun k hk=>.inr hk)) Hnx.out;have d6:=za1 hc8 6;have e6:=za7 hc8 6;simp only[zal,LexM.ends,List.getElem?_toArray,List.getElem?_cons_succ,List.getElem?_cons_zero] at d6)
 all_goals
  have d0:=za1 hc8 0
  have d1:=za1 hc8 1
  have d3:=za1 hc8 3
  have d5:=za1 hc8 5
  have e0:=za7 hc8 0
  have e1:=za7 hc8 1
  have e3:=za7 hc8 3
  have e5:=za7 hc8 5
  simp only[zal,LexM.ends,List.getElem?_toArray,List.getElem?_cons_succ,List.getElem?_cons_zero] at d0 d1 d3 d5
  have hcells:=hc8
  have hl1 : -9223372036854775808≤s.line+1∧s.line+1≤9223372036854775807:=by omega
  obtain⟨Hown8,Hg8,Hcells⟩:=hd3 hown8 hg8 hcells;clear hown8 hg8 hcells
  clear hm8 hc8 c0 c5' c6 a6
  go_wp2_with fail
  go_end0
  have hS:LexM.breaks s = { (LexM.ends s) with out:=s.out ++ [(s.line,(LexM.ends s).words)],words:=[],off:=false,line:=s.line+1,col:=0 }:=by
   unfold LexM.breaks
   rw[if_neg Hw.out]
  refine zjz (H1.out.pushLine (s':=LexM.breaks s) (by have:=Hown8.out;rw[Hws.out] at this;exact this) (zj2 Hg8.out) ?_ ?_ ?_ ?_ ?_) rfl
  ·exact zaq (zaq (zaq (zaq (zaq (Frm.refl _ w8) 6 _) 5 _) 3 _) 0 _) 1 _
  ·rw[hS]
   have k0:=heap_setCell_same _ x 6 _ _ (.slice (some ⟨g8,0,none⟩) (s.out.length+1) c8) Hcells.out
   have k1:=heap_setCell_same _ x 5 _ _ (.slice none 0 0) k0
   have k2:=heap_setCell_same _ x 3 _ _ (.bool false) k1
   have k3:=heap_setCell_same _ x 0 _ _ (.int .i64 (s.line+1)) k2
   have k4:=heap_setCell_same _ x 1 _ _ (.int .i64 0) k3
   rw[k4]
   rfl
  ·rw[hS]
  ·rw[hS]
  rw[hS];rfl
theorem znh {w0 w:World} {x:Nat} {s:St} {wv sv ov:Value} {rv:List Value} (h:zb2 w0 x s wv sv ov rv w) {m:Nat} (hm:m≤1000000) (hs:Small s m) (hw:(LexM.ends s).words = []) :
  Calls Tryz.prog 127 #[lexp x] w (zfj w0 x (LexM.breaks s)):=by
 have HE:=Lib.hid (zgy h hm hs)
 have hsl:=hs.line
 obtain⟨Hh,Hs,Hw⟩:=hd3 h hs hw;clear h hs hw
 go_enter Tryz.func127,Tryz.ntmps127
 go_wp2_with fail
 refine HE.out.mono ?_
 rintro e w1 ⟨rfl,wv1,sv1,ov1,rv1,h1⟩
 obtain⟨sa,sc,rfl⟩:=zaj h1.words
 have hcells:=h1.cells
 rw[Hw.out] at hcells
 have d0:=za1 hcells 0
 have d1:=za1 hcells 1
 have d3:=za1 hcells 3
 have d5:=za1 hcells 5
 have e0:=za7 hcells 0
 have e1:=za7 hcells 1
 have e3:=za7 hcells 3
 have e5:=za7 hcells 5
 simp only[zal,LexM.ends,List.getElem?_toArray,List.getElem?_cons_succ,List.getElem?_cons_zero,List.length_nil] at d0 d1 d3 d5
 have hl1 : -9223372036854775808≤s.line+1∧s.line+1≤9223372036854775807:=by omega
 obtain⟨H1,Hcells⟩:=hd2 h1 hcells;clear h1 hcells
 go_wp2_with fail
 go_end0
 have hS:LexM.breaks s = { (LexM.ends s) with out:=s.out,words:=[],off:=false,line:=s.line+1,col:=0 }:=by
  unfold LexM.breaks
  rw[if_pos Hw.out]
 refine zjz (H1.out.to (s':=LexM.breaks s) (wv':=wv1) (sv':=.slice none 0 0) ?_ ?_ (.inl ⟨rfl,?_⟩) (.inr ⟨rfl,?_⟩) ?_) rfl
 ·exact zaq (zaq (zaq (zaq (Frm.refl _ w1) 5 _) 3 _) 0 _) 1 _
 ·rw[hS]
  have k1:=heap_setCell_same _ x 5 _ _ (.slice none 0 0) Hcells.out
  have k2:=heap_setCell_same _ x 3 _ _ (.bool false) k1
  have k3:=heap_setCell_same _ x 0 _ _ (.int .i64 (s.line+1)) k2
  have k4:=heap_setCell_same _ x 1 _ _ (.int .i64 0) k3
  rw[k4]
  rfl
 ·rw[hS]
 ·rw[hS]
 rw[hS];rfl
theorem zja {w0 w:World} {x:Nat} {s:St} {wv sv ov:Value} {rv:List Value} (h:zb2 w0 x s wv sv ov rv w) {m:Nat} (hm:m≤1000000) (hs:Small s m) :
  Calls Tryz.prog 127 #[lexp x] w (zfj w0 x (LexM.breaks s)):=by
 by_cases hw:(LexM.ends s).words = []
 ·exact znh h hm hs hw
 exact zng h hm hs hw
end

section
open Go.RowKit
open LexM (Bs Wd Ln St)
def zkg (w0:World) (x:Nat) (s:St) (v:Value) (e:Ending) (w':World):Prop:=e = .returned v∧∃ wv sv ov rv,zb2 w0 x s wv sv ov rv w'
theorem zca {w0 w:World} {x:Nat} {s s':St} {wv sv ov v v':Value} {rv:List Value} (h:zb2 w0 x s' wv sv ov rv w) (e:s'=s) (hv:v'=v):zkg w0 x s v (.returned v') w:=⟨by rw[hv],wv,sv,ov,rv,e ▸ h⟩
theorem zb2.scal {w0 w:World} {x:Nat} {s:St} {wv sv ov:Value} {rv:List Value} (h:zb2 w0 x s wv sv ov rv w) (i:Nat) (u:Value) (s':St) (hc:((zal s wv sv ov).setIfInBounds i u)=zal s' wv sv ov) (h1:s'.word=s.word) (h2:s'.words=s.words) (h3:s'.out=s.out) :
  zb2 w0 x s' wv sv ov rv (w.setCell ⟨x,i,none⟩ u):=by
 refine h.to (Frm.setCell (S:=fun k=>k=x) (Frm.refl _ _) (p:=⟨x,i,none⟩) (.inr rfl) _) ?_ (.inl ⟨rfl,h1⟩) (.inl ⟨rfl,h2⟩) h3
 rw[heap_setCell_same w x i _ _ u h.cells,hc]
theorem zqd {w0 w:World} {x:Nat} {s:St} {wv sv ov:Value} {rv:List Value} (h:zb2 w0 x s wv sv ov rv w) (hf:¬ 0 < s.frm) :
  Calls Tryz.prog 177 #[lexp x] w (zkg w0 x { s with frm:=s.col } (.bool (LexM.mayBegin s))):=by
 obtain⟨sa,sc,rfl⟩:=zaj h.words
 obtain⟨oa,oc,rfl⟩:=zaj h.out
 have d1:=za1 h.cells 1
 have d2:=za1 h.cells 2
 have d5:=za1 h.cells 5
 have d6:=za1 h.cells 6
 have e2:=za7 h.cells 2
 simp only[zal,List.getElem?_toArray,List.getElem?_cons_succ,List.getElem?_cons_zero] at d1 d2 d5 d6
 have hL:=h.scal 2 (.int .i64 s.col) { s with frm:=s.col } rfl rfl rfl rfl
 obtain⟨Hh,HL⟩:=hd2 h hL;clear h hL
 by_cases h1:s.words.length < 40
 ·by_cases h2:0 < s.words.length
  ·have hb:LexM.mayBegin s=true:=by unfold LexM.mayBegin;simp[h1,h2]
   have Hb:=hd hb;clear hb
   go_enter Tryz.func177,Tryz.ntmps177
   go_wp2_with fail
   go_ret
   exact zca HL.out rfl (by rw[Hb.out];rfl)
  by_cases h3:s.out.length < 2000
  ·have hb:LexM.mayBegin s=true:=by unfold LexM.mayBegin;simp[h1,h3]
   have Hb:=hd hb;clear hb
   go_enter Tryz.func177,Tryz.ntmps177
   go_wp2_with fail
   go_ret
   exact zca HL.out rfl (by rw[Hb.out];exact congrArg Value.bool (decide_eq_true (by omega)))
  have hb:LexM.mayBegin s=false:=by unfold LexM.mayBegin;simp[h2,h3]
  have Hb:=hd hb;clear hb
  go_enter Tryz.func177,Tryz.ntmps177
  go_wp2_with fail
  go_ret
  exact zca HL.out rfl (by rw[Hb.out];exact congrArg Value.bool (decide_eq_false (by omega)))
 have hb:LexM.mayBegin s=false:=by unfold LexM.mayBegin;simp[h1]
 have Hb:=hd hb;clear hb
 go_enter Tryz.func177,Tryz.ntmps177
 go_wp2_with fail
 go_ret
 exact zca HL.out rfl (by rw[Hb.out];rfl)
theorem begins_on {w0 w:World} {x:Nat} {s:St} {wv sv ov:Value} {rv:List Value} (h:zb2 w0 x s wv sv ov rv w) (hf:0 < s.frm) :
  Calls Tryz.prog 177 #[lexp x] w (zkg w0 x s (.bool true)):=by
 have d2:=za1 h.cells 2
 simp only[zal,List.getElem?_toArray,List.getElem?_cons_succ,List.getElem?_cons_zero] at d2
 have Hh:=hd h;clear h
 go_enter Tryz.func177,Tryz.ntmps177
 go_wp2_with fail
 go_ret
 exact zca Hh.out rfl rfl
theorem zjl {s:St} {m:Nat} (h:Small s m):Small (LexM.onward s) (m+1):=by
 obtain⟨a,b,c,d,e,f,g⟩:=h
 refine⟨?_,?_,?_,?_,?_,?_,g⟩ <;> simp only[LexM.onward] <;> omega
theorem zb2.on {w0 w:World} {x:Nat} {s:St} {wv sv ov:Value} {rv:List Value} (h:zb2 w0 x s wv sv ov rv w):zb2 w0 x (LexM.onward s) wv sv ov rv (w.setCell ⟨x,1,none⟩ (.int .i64 (s.col+1))) :=
 h.scal 1 (.int .i64 (s.col+1)) (LexM.onward s) rfl rfl rfl rfl
def zeu (w0:World) (x:Nat) (s:St) (c:UInt8):Ending→World→Prop:=zkg w0 x (LexM.takes s c).1 (.int .i64 (LexM.takes s c).2)
theorem takes_any {w0 w:World} {x:Nat} {s:St} {wv sv ov:Value} {rv:List Value} (h:zb2 w0 x s wv sv ov rv w) {m:Nat} (hm:m < 1000000) (hs:Small s m) (c:UInt8) :
  Calls Tryz.prog 126 #[lexp x,.int .u8 c.toNat] w (zeu w0 x s c):=by
 have hcol:=hs.col
 have hcl:c.toNat < 256:=c.toNat_lt
 have d1:=za1 h.cells 1
 have e1:=za7 h.cells 1
 have h2:=h.on
 have hs2:=zjl hs
 obtain⟨n,hn⟩ : ∃ n,n=c.toNat:=⟨_,rfl⟩
 rw[← hn] at hcl ⊢
 simp only[zal,List.getElem?_toArray,List.getElem?_cons_succ,List.getElem?_cons_zero] at d1
 obtain⟨Hh,H2,Hs,Hs2,Hn⟩:=hd5 h h2 hs hs2 hn;clear h h2 hs hs2 hn
 by_cases h10:n=10
 ·have ht:LexM.takes s c=(LexM.breaks (LexM.onward s),0):=by unfold LexM.takes;rw[if_pos (by rw[← Hn.out];exact h10)]
  have b10:((n:Int) == 10)=true:=by rw[beq_iff_eq];omega
  have HB:=Lib.hid (zja H2.out (by omega) Hs2.out)
  unfold zeu
  rw[ht]
  obtain⟨Ht,H10⟩:=hd2 ht h10;clear ht h10
  go_enter Tryz.func126,Tryz.ntmps126
  go_wp2_with fail
  refine HB.out.mono ?_
  rintro e w1 ⟨rfl,wv1,sv1,ov1,rv1,h1⟩
  have H1:=hd h1;clear h1
  go_wp2_with fail
  go_ret
  exact zca H1.out rfl rfl
 have c10:¬ c.toNat=10:=by rw[← Hn.out];exact h10
 have b10:((n:Int) == 10)=false:=by rw[beq_eq_false_iff_ne];omega
 by_cases hA:n < 32∨126 < n
 ·have ht:LexM.takes s c=(LexM.onward s,3):=by unfold LexM.takes;rw[if_neg c10,if_pos (by rw[← Hn.out];exact hA)]
  unfold zeu
  rw[ht]
  clear ht h10 c10
  by_cases h32:n < 32
  ·clear hA
   go_enter Tryz.func126,Tryz.ntmps126
   go_wp2_with fail
   go_ret
   exact zca H2.out rfl rfl
  have h126:126 < n:=by omega
  clear hA
  go_enter Tryz.func126,Tryz.ntmps126
  go_wp2_with fail
  go_ret
  exact zca H2.out rfl rfl
 have hlo:32≤n:=by omega
 have hhi:n≤126:=by omega
 have cA:¬ (c.toNat < 32∨126 < c.toNat):=by rw[← Hn.out];exact hA
 have d3:=za1 Hh.out.cells 3
 simp only[zal,List.getElem?_toArray,List.getElem?_cons_succ,List.getElem?_cons_zero] at d3
 obtain⟨off,hoff⟩ : ∃ off,off=s.off:=⟨_,rfl⟩
 rw[← hoff] at d3
 clear hA h10
 cases off
 ·have coff:¬ s.off=true:=by rw[← hoff];simp
  clear hoff
  by_cases h35:n=35
  ·have ht:LexM.takes s c=({ LexM.ends (LexM.onward s) with off:=true },0):=by unfold LexM.takes;rw[if_neg c10,if_neg cA,if_neg coff,if_pos (by rw[← Hn.out];exact h35)]
   have b35:((n:Int) == 35)=true:=by rw[beq_iff_eq];omega
   have HE:=Lib.hid (zgy H2.out (by omega) Hs2.out)
   unfold zeu
   rw[ht]
   clear ht c10 cA coff h35
   go_enter Tryz.func126,Tryz.ntmps126
   go_wp2_with fail
   refine HE.out.mono ?_
   rintro e w1 ⟨rfl,wv1,sv1,ov1,rv1,h1⟩
   have e3:=za1 h1.cells 3
   have f3:=za7 h1.cells 3
   simp only[zal,List.getElem?_toArray,List.getElem?_cons_succ,List.getElem?_cons_zero] at e3
   have hX:=h1.scal 3 (.bool true) { LexM.ends (LexM.onward s) with off:=true } rfl rfl rfl rfl
   obtain⟨H1,HX⟩:=hd2 h1 hX;clear h1 hX
   go_wp2_with fail
   go_ret
   exact zca HX.out rfl rfl
  have c35:¬ c.toNat=35:=by rw[← Hn.out];exact h35
  have b35:((n:Int) == 35)=false:=by rw[beq_eq_false_iff_ne];omega
  by_cases h32:n=32
  ·have ht:LexM.takes s c=(LexM.ends (LexM.onward s),0):=by unfold LexM.takes;rw[if_neg c10,if_neg cA,if_neg coff,if_neg c35,if_pos (by rw[← Hn.out];exact h32)]
   have b32:((n:Int) == 32)=true:=by rw[beq_iff_eq];omega
   have HE:=Lib.hid (zgy H2.out (by omega) Hs2.out)
   unfold zeu
   rw[ht]
   clear ht c10 cA coff h35 c35 h32
   go_enter Tryz.func126,Tryz.ntmps126
   go_wp2_with fail
   refine HE.out.mono ?_
   rintro e w1 ⟨rfl,wv1,sv1,ov1,rv1,h1⟩
   have H1:=hd h1;clear h1
   go_wp2_with fail
   go_ret
   exact zca H1.out rfl rfl
  have c32:¬ c.toNat=32:=by rw[← Hn.out];exact h32
  have b32:((n:Int) == 32)=false:=by rw[beq_eq_false_iff_ne];omega
  by_cases hfr:0 < s.frm
  ·have ht:LexM.takes s c=({ LexM.onward s with word:=s.word ++ [c] },0):=by unfold LexM.takes;rw[if_neg c10,if_neg cA,if_neg coff,if_neg c35,if_neg c32,if_pos hfr]
   have HE:=Lib.hid (begins_on H2.out (show 0 < (LexM.onward s).frm from hfr))
   have Ht:=hd ht;clear ht
   clear c10 cA coff h35 c35 h32 c32 hfr
   go_enter Tryz.func126,Tryz.ntmps126
   go_wp2_with fail
   refine HE.out.mono ?_
   rintro e w1 ⟨rfl,wv1,sv1,ov1,rv1,h1⟩
   have e4:=za1 h1.cells 4
   simp only[zal,List.getElem?_toArray,List.getElem?_cons_succ,List.getElem?_cons_zero] at e4
   have hB1:=h1.bel.size
   have hx1:=zae h1.word h1.cells (by decide)
   have how:=h1.word
   have hwl:s.word.length≤m:=Hs.out.word
   obtain⟨H1,Hx1,How⟩:=hd3 h1 hx1 how;clear h1 hx1 how
   go_wp2_with (at_builtin;refine zd4 zln (w:=w1) rfl (.tmp 16) (.tmp 18) rfl w0.heap.size wv1 s.word.length (zgi s.word) rfl How.out 1 (by decide) #[.int .u8 n] rfl rfl (by simp[Value.oneCell']) (by omega) (by unfold maxLen;omega) hB1 ?_)
   intro g8 c8 w8 hown8 hg8 hm8
   have hc8:=zbh H1.out.cells ((Frm.refl _ w1).grown hg8 (S:=fun k=>wv1.ownBlock=some k) (fun k hk=>.inr hk)) Hx1.out
   have k4:=za1 hc8 4
   have f4:=za7 hc8 4
   simp only[zal,List.getElem?_toArray,List.getElem?_cons_succ,List.getElem?_cons_zero] at k4
   have hP:=H1.out.pushByte c (by rw[← Hn.out];exact hown8) hg8
   have HP:=hd hP;clear hP
   clear hown8 hg8 hm8 hc8
   go_wp2_with fail
   go_ret
   exact zca HP.out (by rw[Ht.out];rfl) (by rw[Ht.out];rfl)
  have HE:=Lib.hid (zqd H2.out (show ¬ 0 < (LexM.onward s).frm from hfr))
  by_cases hmb:LexM.mayBegin s=true
  ·have ht:LexM.takes s c=({ LexM.onward s with frm:=s.col+1,word:=s.word ++ [c] },0):=by unfold LexM.takes;rw[if_neg c10,if_neg cA,if_neg coff,if_neg c35,if_neg c32,if_neg hfr,if_pos hmb]
   have hmb2:LexM.mayBegin (LexM.onward s)=true:=hmb
   rw[hmb2] at HE
   have Ht:=hd ht;clear ht
   clear c10 cA coff h35 c35 h32 c32 hfr hmb hmb2
   go_enter Tryz.func126,Tryz.ntmps126
   go_wp2_with fail
   refine HE.out.mono ?_
   rintro e w1 ⟨rfl,wv1,sv1,ov1,rv1,h1⟩
   have e4:=za1 h1.cells 4
   simp only[zal,List.getElem?_toArray,List.getElem?_cons_succ,List.getElem?_cons_zero] at e4
   have hB1:=h1.bel.size
   have hx1:=zae h1.word h1.cells (by decide)
   have how:=h1.word
   have hwl:s.word.length≤m:=Hs.out.word
   obtain⟨H1,Hx1,How⟩:=hd3 h1 hx1 how;clear h1 hx1 how
   go_wp2_with (at_builtin;refine zd4 zln (w:=w1) rfl (.tmp 16) (.tmp 18) rfl w0.heap.size wv1 s.word.length (zgi s.word) rfl How.out 1 (by decide) #[.int .u8 n] rfl rfl (by simp[Value.oneCell']) (by omega) (by unfold maxLen;omega) hB1 ?_)
   intro g8 c8 w8 hown8 hg8 hm8
   have hc8:=zbh H1.out.cells ((Frm.refl _ w1).grown hg8 (S:=fun k=>wv1.ownBlock=some k) (fun k hk=>.inr hk)) Hx1.out
   have k4:=za1 hc8 4
   have f4:=za7 hc8 4
   simp only[zal,List.getElem?_toArray,List.getElem?_cons_succ,List.getElem?_cons_zero] at k4
   have hP:=H1.out.pushByte c (by rw[← Hn.out];exact hown8) hg8
   have HP:=hd hP;clear hP
   clear hown8 hg8 hm8 hc8
   go_wp2_with fail
   go_ret
   exact zca HP.out (by rw[Ht.out];rfl) (by rw[Ht.out];rfl)
  have ht:LexM.takes s c=({ LexM.onward s with frm:=s.col+1 },4):=by unfold LexM.takes;rw[if_neg c10,if_neg cA,if_neg coff,if_neg c35,if_neg c32,if_neg hfr,if_neg hmb]
  have hmb2:LexM.mayBegin (LexM.onward s)=false:=(by simpa using hmb:LexM.mayBegin s=false)
  rw[hmb2] at HE
  have Ht:=hd ht;clear ht
  clear c10 cA coff h35 c35 h32 c32 hfr hmb hmb2
  go_enter Tryz.func126,Tryz.ntmps126
  go_wp2_with fail
  refine HE.out.mono ?_
  rintro e w1 ⟨rfl,wv1,sv1,ov1,rv1,h1⟩
  have H1:=hd h1;clear h1
  go_wp2_with fail
  go_ret
  exact zca H1.out (by rw[Ht.out];rfl) (by rw[Ht.out];rfl)
 have coff:s.off=true:=hoff.symm
 have ht:LexM.takes s c=(LexM.onward s,0):=by unfold LexM.takes;rw[if_neg c10,if_neg cA,if_pos coff]
 unfold zeu
 rw[ht]
 clear ht c10 cA coff hoff
 go_enter Tryz.func126,Tryz.ntmps126
 go_wp2_with fail
 go_ret
 exact zca H2.out rfl rfl
end

section
open Go.RowKit
open LexM (Bs Wd Ln St)
theorem small0:Small LexM.st0 0:=⟨by decide,by decide,by decide,by decide,by decide,by decide,by decide⟩
theorem zj6 {s:St} {m:Nat} (h:Small s m):Small (LexM.ends s) (m+1):=by
 obtain⟨a,b,c,d,e,f,g⟩:=h
 refine⟨?_,?_,?_,?_,?_,?_,?_⟩ <;> unfold LexM.ends <;> dsimp only
 ·omega
 ·omega
 ·omega
 ·simp
 ·split <;> (try simp) <;> omega
 ·omega
 intro h;exact absurd h (by decide)
theorem zlu {s:St} {m:Nat} (h:Small s m):Small (LexM.breaks s) (m+1):=by
 obtain⟨a,b,c,d,e,f,g⟩:=h
 refine⟨?_,?_,?_,?_,?_,?_,?_⟩ <;> unfold LexM.breaks LexM.ends <;> dsimp only
 ·omega
 ·omega
 ·omega
 ·simp
 ·simp
 ·(repeat' split) <;> (try simp) <;> omega
 intro h;exact absurd h (by decide)
theorem Small.mono {s:St} {m k:Nat} (h:Small s m) (hk:m≤k):Small s k:=by
 obtain⟨a,b,c,d,e,f,g⟩:=h
 exact⟨by omega,by omega,by omega,by omega,by omega,by omega,g⟩
theorem zh1 {s:St} {m:Nat} (h:Small s m) (c:UInt8) (h0:(LexM.takes s c).2=0):Small (LexM.takes s c).1 (m+2):=by
 have h1:=zjl h
 unfold LexM.takes at h0 ⊢
 split
 ·exact zlu h1
 rename_i c10
 rw[if_neg c10] at h0
 split
 ·rename_i cA;rw[if_pos cA] at h0;cases h0
 rename_i cA
 rw[if_neg cA] at h0
 split
 ·exact h1.mono (by omega)
 rename_i co
 rw[if_neg co] at h0
 split
 ·obtain⟨a,b,c,d,e,f,g⟩:=zj6 h1
  exact⟨a,b,c,d,e,f,g⟩
 rename_i c35
 rw[if_neg c35] at h0
 split
 ·exact zj6 h1
 rename_i c32
 rw[if_neg c32] at h0
 have hw:=h.word
 have hc:=h.col
 obtain⟨a,b,c,d,e,f,g⟩:=h1
 split
 ·exact⟨by dsimp only;omega,by dsimp only;omega,by dsimp only;omega,by simp;omega,by dsimp only;omega,by dsimp only;omega,fun _=>by simp⟩
 rename_i cf
 rw[if_neg cf] at h0
 split
 ·refine⟨by dsimp only;omega,by dsimp only;omega,by dsimp only;omega,by simp;omega,by dsimp only;omega,by dsimp only;omega,fun _=>by simp⟩
 rename_i cm
 rw[if_neg cm] at h0
 cases h0
theorem run_small (t:Bs):∀ (s:St) (m:Nat),Small s m→(LexM.run s t).2=0→Small (LexM.run s t).1 (m+2 * t.length):=by
 induction t with
 | nil=>intro s m h _;exact h
 | cons c r ih =>
  intro s m h h0
  by_cases hz:(LexM.takes s c).2=0
  ·rw[LexM.run_ok hz] at h0 ⊢
   have:=ih _ _ (zh1 h c hz) h0
   rw[List.length_cons]
   exact this.mono (by omega)
  rw[LexM.run_bad hz] at h0;exact absurd h0 hz
theorem zmk (t:Bs) (c:UInt8) (s:St) (h:(LexM.run s t).2=0):LexM.run s (t ++ [c])=if (LexM.takes (LexM.run s t).1 c).2=0 then ((LexM.takes (LexM.run s t).1 c).1,0) else LexM.takes (LexM.run s t).1 c:=by
 rw[LexM.run_append,if_pos h]
 by_cases hz:(LexM.takes (LexM.run s t).1 c).2=0
 ·rw[LexM.run_ok hz,if_pos hz];rfl
 rw[LexM.run_bad hz,if_neg hz]
theorem run_stop (t r:Bs) (s:St) (h:(LexM.run s t).2≠0):LexM.run s (t ++ r)=LexM.run s t:=by rw[LexM.run_append,if_neg h]
def WdOk (m:Nat) (x:Wd):Prop:=0≤x.1∧x.1≤m∧x.2.length≤m
def LnOk (m:Nat) (x:Ln):Prop:=0≤x.1∧x.1≤m+1∧∀ wd∈x.2,WdOk m wd
structure Fine (s:St) (m:Nat):Prop where
 words:∀ wd∈s.words,WdOk m wd
 out:∀ ln∈s.out,LnOk m ln
theorem WdOk.mono {m k:Nat} {x:Wd} (h:WdOk m x) (hk:m≤k):WdOk k x:=by obtain⟨a,b,c⟩:=h;exact⟨a,by omega,by omega⟩
theorem LnOk.mono {m k:Nat} {x:Ln} (h:LnOk m x) (hk:m≤k):LnOk k x:=by obtain⟨a,b,c⟩:=h;exact⟨a,by omega,fun wd hw=>(c wd hw).mono hk⟩
theorem Fine.mono {s:St} {m k:Nat} (h:Fine s m) (hk:m≤k):Fine s k:=⟨fun wd hw=>(h.words wd hw).mono hk,fun ln hl=>(h.out ln hl).mono hk⟩
theorem zlm {s:St} {m:Nat} (hs:Small s m) (h:Fine s m):Fine (LexM.ends s) m:=by
 refine⟨?_,h.out⟩
 unfold LexM.ends
 dsimp only
 split
 ·intro wd hw
  rcases List.mem_append.1 hw with hw | hw
  ·exact h.words wd hw
  simp at hw
  subst hw
  exact⟨hs.frm.1,hs.frm.2,hs.word⟩
 exact h.words
theorem zi3 {s:St} {m:Nat} (hs:Small s m) (h:Fine s m):Fine (LexM.breaks s) m:=by
 have h1:=zlm hs h
 unfold LexM.breaks
 refine⟨by simp,?_⟩
 dsimp only
 split
 ·exact h.out
 intro ln hl
 rcases List.mem_append.1 hl with hl | hl
 ·exact h.out ln hl
 simp at hl
 subst hl
 exact⟨hs.line.1,hs.line.2,h1.words⟩
theorem zow {s:St} {m:Nat} (hs:Small s m) (h:Fine s m) (c:UInt8):Fine (LexM.takes s c).1 (m+2):=by
 have h1:=zjl hs
 have h2:Fine (LexM.onward s) (m+1):=⟨(h.mono (Nat.le_succ m)).words,(h.mono (Nat.le_succ m)).out⟩
 have h3:=(zlm h1 h2).mono (Nat.le_succ _)
 have h4:=h2.mono (Nat.le_succ (m+1))
 unfold LexM.takes
 split
 ·exact (zi3 h1 h2).mono (Nat.le_succ _)
 split
 ·exact h4
 split
 ·exact h4
 split
 ·exact⟨h3.words,h3.out⟩
 split
 ·exact h3
 split
 ·exact⟨h4.words,h4.out⟩
 split
 ·exact⟨h4.words,h4.out⟩
 exact⟨h4.words,h4.out⟩
theorem run_fine (t:Bs):∀ (s:St) (m:Nat),Small s m→Fine s m→(LexM.run s t).2=0→Fine (LexM.run s t).1 (m+2 * t.length):=by
 induction t with
 | nil=>intro s m _ h _;exact h
 | cons c r ih =>
  intro s m hs h h0
  by_cases hz:(LexM.takes s c).2=0
  ·rw[LexM.run_ok hz] at h0 ⊢
   have:=ih _ _ (zh1 hs c hz) (zow hs h c) h0
   rw[List.length_cons]
   exact this.mono (by omega)
  rw[LexM.run_bad hz] at h0;exact absurd h0 hz
theorem znm {n:Int} (h0:0≤n) (h1:n≤9223372036854775807):(Lit.int .i64 n).wf=true:=by
 simp[Lit.wf,IntKind.min,IntKind.max,IntKind.signed,IntKind.bits]
 omega
theorem rword {w:World} {m:Nat} (hm:m≤10000000) {x:Wd} (h:WdOk m x):RWd w (zch x) x:=by
 obtain⟨a,b,c⟩:=h
 exact⟨rfl,znm a (by omega),by unfold maxLen;omega⟩
theorem zb2.reads {w0 w w':World} {x:Nat} {s:St} {wv sv ov:Value} {rv:List Value} (h:zb2 w0 x s wv sv ov rv w) (hfr:Frm (fun k=>k < w0.heap.size) w w') {m:Nat} (hm:m≤10000000) (hf:Fine s m):RLns w' [ov] s.out:=by
 have hz:(zef s.out rv)=(s.out.zip rv).flatMap fun x=>[.int .i64 x.1.1,x.2]:=rfl
 have hlen:(s.out.zip rv).length=s.out.length:=by simp[h.rlen]
 have h1:=hfr.owns h.out (fun k hk e=>by have:=(h.out.lt k hk).1;omega)
 rw[hz] at h1
 have h2:zad 2 (fun w cs (y:Ln × Value)=>RLn w cs y.1) w' [ov] (s.out.zip rv):=by
  refine zf3 (B:=w0.heap.size) (e:=62) (fun x:Ln × Value=>[.int .i64 x.1.1,x.2]) _ (fun _ _=>rfl) ?_ (by rw[hlen];exact h1)
  intro y hy
  obtain⟨i,hi,rfl⟩:=List.mem_iff_getElem.1 hy
  have hi1:i < s.out.length:=by omega
  have hi2:i < rv.length:=by rw[h.rlen];exact hi1
  rw[List.getElem_zip]
  obtain⟨r0,_⟩:=h.rows i s.out[i] rv[i] (List.getElem?_eq_getElem hi1) (List.getElem?_eq_getElem hi2)
  have r1:=hfr.owns r0 (fun k hk e=>by have:=(r0.lt k hk).1;omega)
  obtain⟨a,b,c⟩:=hf.out _ (List.getElem_mem hi1)
  refine⟨rv[i],rfl,zf3 zch RWd (fun _ _=>rfl) (fun wd hw=>rword hm (c wd hw)) r1,znm (n:=s.out[i].1) a (by omega)⟩
 obtain⟨a,cap,hv,g1,g2,g3⟩:=h2
 rw[hlen] at hv g1
 refine⟨a,cap,hv,g1,g2,fun i ln hi=>?_⟩
 have hi1:=(List.getElem?_eq_some_iff.1 hi).1
 have hi2:i < rv.length:=by rw[h.rlen];exact hi1
 have hzi:(s.out.zip rv)[i]? = some (ln,rv[i]):=by
  rw[List.getElem?_zip_eq_some]
  exact⟨hi,List.getElem?_eq_getElem hi2⟩
 exact g3 i _ hzi
def zfz (w:World) (r:LexM.Res) (e:Ending) (w':World):Prop:=∃ v,e = .returned (.tuple #[v,.agg #[.int .i64 r.at1,.int .i64 r.at2],.int .i64 r.e])∧RLns w' [v] r.lines∧Below w.heap.size w w'
theorem zk0 (s:ByteArray) (hs:s.size≤140737488351232) (w:World) (h:65536 < s.size):Calls Tryz.prog 70 #[.string s] w (zfz w (LexM.lines s.data.toList)):=by
 have hr:LexM.lines s.data.toList=⟨[],0,0,4⟩:=by unfold LexM.lines;rw[if_pos];rw[Array.length_toList];exact h
 rw[hr]
 clear hr
 go_enter Tryz.func70,Tryz.ntmps70
 go_wp2_with fail
 refine bodyPost_ret (v:=.tuple #[.slice none 0 0,.agg #[.int .i64 0,.int .i64 0],.int .i64 4]) (by simp[results,Tryz.results70,go_sem]) rfl ⟨_,rfl,⟨none,0,rfl,Nat.le_refl _,Nat.zero_le _,fun i x hi=>by simp at hi⟩,?_⟩
 exact (Below.refl _ _).alloc (Nat.le_refl _) _
theorem zb2.start (w1:World):zb2 w1 w1.heap.size LexM.st0 (.slice none 0 0) (.slice none 0 0) (.slice none 0 0) [] (w1.alloc (.cells (zal LexM.st0 (.slice none 0 0) (.slice none 0 0) (.slice none 0 0)) 182)) :=
 ⟨heap_alloc_new w1 _,World.ownsRow_nil _ _ _ _,World.ownsRow_nil _ _ _ _,World.ownsRow_nil _ _ _ _,rfl,fun i ln v hi=>by simp[LexM.st0] at hi,(Below.refl _ _).alloc (Nat.le_refl _) _,Nat.le_refl _⟩
def znk (w1:World) (x:Nat) (t:Bs) (k:Nat) (w:World):Prop:=(LexM.run LexM.st0 (t.take k)).2=0∧∃ wv sv ov rv,zb2 w1 x (LexM.run LexM.st0 (t.take k)).1 wv sv ov rv w
theorem byte_at (s:ByteArray) (k:Nat) (h:k < s.size):s.data.toList.take (k+1)=s.data.toList.take k ++ [s[k]]:=by
 rw[List.take_add_one,List.getElem?_eq_getElem (by rw[Array.length_toList];exact h)]
 rfl
theorem zii (s:ByteArray) (w:World) (h:s.size≤65536):Calls Tryz.prog 70 #[.string s] w (zfz w (LexM.lines s.data.toList)):=by
 have hlen:s.data.toList.length=s.size:=by rw[Array.length_toList];rfl
 have hr:LexM.lines s.data.toList=LexM.close (LexM.run LexM.st0 s.data.toList):=by unfold LexM.lines;rw[if_neg];omega
 rw[hr]
 clear hr
 obtain⟨t,ht⟩ : ∃ t,t=s.data.toList:=⟨_,rfl⟩
 rw[← ht] at hlen ⊢
 have h0:=zb2.start (w.alloc (.cells #[.int .i64 0,.int .i64 0] 40))
 simp only[World.size_alloc] at h0
 have hg0:znk (w.alloc (.cells #[.int .i64 0,.int .i64 0] 40)) (w.heap.size+1) t 0 ((w.alloc (.cells #[.int .i64 0,.int .i64 0] 40)).alloc (.cells (zal LexM.st0 (.slice none 0 0) (.slice none 0 0) (.slice none 0 0)) 182)):=⟨rfl,_,_,_,_,h0⟩
 obtain⟨Ht,Hlen,Hg0⟩:=hd3 ht hlen hg0;clear ht hlen hg0
 clear h0
 go_enter Tryz.func70,Tryz.ntmps70
 go_wp2_with fail
 obtain⟨w2,hw2⟩ : ∃ w2,w2=((w.alloc (.cells #[.int .i64 0,.int .i64 0] 40)).alloc (.cells (zal LexM.st0 (.slice none 0 0) (.slice none 0 0) (.slice none 0 0)) 182)):=⟨_,rfl⟩
 rw[← hw2] at Hg0
 have hw3:=hw2
 simp only[zal,LexM.st0] at hw3
 rw[← hw3]
 clear hw2 hw3
 go_loopw [16] (fun i wr=>∃ k:Nat,k≤s.size∧i = .int .i64 k∧znk (w.alloc (.cells #[.int .i64 0,.int .i64 0] 40)) (w.heap.size+1) t k wr) (fun i _=>s.size - (intOf i).toNat)
 case atStart=>exact⟨0,Nat.zero_le _,rfl,Hg0.out⟩
 case round =>
  obtain⟨k,hk,rfl,hg⟩:=hrel
  obtain⟨hz,wv,sv,ov,rv,hL⟩:=hg
  have hS:=run_small (t.take k) LexM.st0 0 small0 hz
  have htl:(t.take k).length≤k:=List.length_take_le _ _
  obtain⟨st,hst⟩ : ∃ st,st=(LexM.run LexM.st0 (t.take k)).1:=⟨_,rfl⟩
  rw[← hst] at hL hS
  by_cases hlt:k < s.size
  ·have hsn:=byte_at s k hlt
   obtain⟨Hz,HL,HS,Hst,Hsn⟩:=hd5 hz hL hS hst hsn;clear hz hL hS hst hsn
   go_wp2_with fail
   refine (takes_any HL.out (by omega) HS.out s[k]).mono ?_
   rintro e w3 ⟨rfl,wv3,sv3,ov3,rv3,h3⟩
   obtain⟨er,her⟩ : ∃ er,er=(LexM.takes st s[k]).2:=⟨_,rfl⟩
   have htk:LexM.run LexM.st0 (t.take (k+1))=if (LexM.takes st s[k]).2=0 then ((LexM.takes st s[k]).1,0) else LexM.takes st s[k]:=by
    rw[Ht.out,Hsn.out,← Ht.out,zmk _ _ _ Hz.out,← Hst.out]
   rw[← her] at htk ⊢
   by_cases he:er=0
   ·have hb:(er != 0)=false:=by rw[he];rfl
    rw[if_pos he] at htk
    have hg:znk (w.alloc (.cells #[.int .i64 0,.int .i64 0] 40)) (w.heap.size+1) t (k+1) w3:=⟨by rw[htk],wv3,sv3,ov3,rv3,by rw[htk];exact h3⟩
    obtain⟨Hg,Htk,Her,He⟩:=hd4 hg htk her he;clear hg htk her he
    clear h3
    go_wp2_with fail
    go_roundw
    case rel=>exact⟨k+1,by omega,by go_num,Hg.out⟩
    case measure=>simp[intOf];omega
   have hb:(er != 0)=true:=by rw[bne_iff_ne];exact he
   rw[if_neg he] at htk
   have hsplit:t=t.take (k+1) ++ t.drop (k+1):=(List.take_append_drop _ _).symm
   have hrun:LexM.run LexM.st0 t=LexM.takes st s[k]:=by
    rw[hsplit,run_stop _ _ _ (by rw[htk];rw[← her];exact he),htk]
   have hcl:LexM.close (LexM.run LexM.st0 t)=⟨[],(LexM.takes st s[k]).1.line,(LexM.takes st s[k]).1.col,er⟩:=by
    rw[hrun];unfold LexM.close;rw[← her,if_neg he]
   have x0:=za1 h3.cells 0
   have x1:=za1 h3.cells 1
   simp only[zal,List.getElem?_toArray,List.getElem?_cons_succ,List.getElem?_cons_zero] at x0 x1
   obtain⟨l3,hl3⟩ : ∃ l3,l3=(LexM.takes st s[k]).1.line:=⟨_,rfl⟩
   obtain⟨c3,hc3⟩ : ∃ c3,c3=(LexM.takes st s[k]).1.col:=⟨_,rfl⟩
   rw[← hl3] at x0 hcl
   rw[← hc3] at x1 hcl
   have hblk:w3.heap[w.heap.size]? = some (.cells #[.int .i64 0,.int .i64 0] 40 (0,0)):=by
    rw[h3.bel.block _ (by simp)];exact heap_alloc_new w _
   have z0:=za1 hblk 0
   have z1:=za1 hblk 1
   have y0:=za7 hblk 0
   have y1:=za7 hblk 1
   simp only[List.getElem?_toArray,List.getElem?_cons_succ,List.getElem?_cons_zero] at z0 z1
   have hbel:=h3.bel
   obtain⟨Hbel,Htk,Her,He,Hrun,Hcl,Hsplit,Hl3,Hc3,H3⟩:=hd10 hbel htk her he hrun hcl hsplit hl3 hc3 h3;clear hbel htk her he hrun hcl hsplit hl3 hc3 h3
   clear hblk
   go_wp2_with fail
   go_region
   all_goals
    go_wp2_with fail
    refine bodyPost_ret (v:=.tuple #[.slice none 0 0,.agg #[.int .i64 l3,.int .i64 c3],.int .i64 er]) (by simp[results,Tryz.results70,go_sem,z0,z1]) rfl ?_
    rw[Hcl.out]
    refine⟨_,rfl,⟨none,0,rfl,Nat.le_refl _,Nat.zero_le _,fun i x hi=>by simp at hi⟩,?_⟩
    exact ((((Below.refl _ _).alloc (Nat.le_refl _) _).trans (Hbel.out.mono (by simp))).setCell (Nat.le_refl _) _).setCell (Nat.le_refl _) _ |>.drew
  obtain rfl:k=s.size:=by omega
  have htake:t.take s.size=t:=List.take_of_length_le (by have:=Hlen.out;omega)
  have hF:=run_fine (t.take s.size) LexM.st0 0 small0 ⟨by simp[LexM.st0],by simp[LexM.st0]⟩ hz
  rw[← hst] at hF
  have hcl:LexM.close (LexM.run LexM.st0 t)=⟨(LexM.breaks st).out,0,0,0⟩:=by
   rw[htake] at hz hst
   unfold LexM.close;rw[if_pos hz,← hst]
  have hF2:=zi3 hS hF
  obtain⟨Hz,HL,HS,Hst,Htake,Hcl,HF,HF2⟩:=hd8 hz hL hS hst htake hcl hF hF2;clear hz hL hS hst htake hcl hF hF2
  go_wp2_with fail
  refine (zja HL.out (by omega) HS.out).mono ?_
  rintro e w3 ⟨rfl,wv3,sv3,ov3,rv3,h3⟩
  have x6:=za1 h3.cells 6
  simp only[zal,List.getElem?_toArray,List.getElem?_cons_succ,List.getElem?_cons_zero] at x6
  have hblk:w3.heap[w.heap.size]? = some (.cells #[.int .i64 0,.int .i64 0] 40 (0,0)):=by
   rw[h3.bel.block _ (by simp)];exact heap_alloc_new w _
  have z0:=za1 hblk 0
  have z1:=za1 hblk 1
  have y0:=za7 hblk 0
  have y1:=za7 hblk 1
  simp only[List.getElem?_toArray,List.getElem?_cons_succ,List.getElem?_cons_zero] at z0 z1
  have hRd:=h3.reads (w':=(w3.setCell ⟨w.heap.size,0,none⟩ (.int .i64 0)).setCell ⟨w.heap.size,1,none⟩ (.int .i64 0)) (Frm.setCell (Frm.setCell (Frm.refl _ _) (p:=⟨w.heap.size,0,none⟩) (.inr (by simp)) _) (p:=⟨w.heap.size,1,none⟩) (.inr (by simp)) _) (by omega) HF2.out
  have hbel:=h3.bel
  obtain⟨Hbel,HRd,H3⟩:=hd3 hbel hRd h3;clear hbel hRd h3
  clear hblk
  go_wp2_with fail
  refine bodyPost_ret (v:=.tuple #[ov3,.agg #[.int .i64 0,.int .i64 0],.int .i64 0]) (by simp[results,Tryz.results70,go_sem,z0,z1]) rfl ?_
  rw[Hcl.out]
  refine⟨_,rfl,?_,?_⟩
  ·exact HRd.out
  exact (((((Below.refl _ _).alloc (Nat.le_refl _) _).trans (Hbel.out.mono (by simp))).setCell (Nat.le_refl _) _).setCell (Nat.le_refl _) _)
theorem zlb (s:ByteArray) (hs:s.size≤140737488351232) (w:World):Calls Tryz.prog 70 #[.string s] w (zfz w (LexM.lines s.data.toList)):=by
 by_cases h:65536 < s.size
 ·exact zk0 s hs w h
 exact zii s w (by omega)
end

section
open Go.Shelf Go.RowKit Go.Lib VerN VarM
open LexM (Wd Ln zkh)
attribute [local go_sem ↓] Go.wp_at_zero Go.wp_at_succ
theorem zif {w:World} {v1 v2:Value} {nm:ByteArray} {L:List BSp} {sets:List Setg} {l:List Tp} (h1:RSps w [v1] L) (h2:zbm w [v2] sets) (hS:Sp (nm,L,sets) l) (hD:zb1 w) :
  Calls Tryz.prog 74 #[.agg #[.string nm,v1,v2],.func (.func 75) #[] #[]] w fun e w'=>e = .returned (.tuple #[.string (zh6 zce (nm,L,sets)).1,.bool (zh6 zce (nm,L,sets)).2])∧Below w.heap.size w w':=by
 have hLt:L=tB l:=hS.sp
 obtain⟨a1,c1,rfl,-,-⟩:=zb8 h1
 obtain⟨a2,c2,rfl,-,-⟩:=zbc h2
 obtain⟨n1,hn1⟩ : ∃ n,n=L.length:=⟨_,rfl⟩
 obtain⟨n2,hn2⟩ : ∃ n,n=sets.length:=⟨_,rfl⟩
 rw[← hn1] at h1 ⊢
 rw[← hn2] at h2 ⊢
 obtain⟨W1,hW1⟩ : ∃ W,W=w.alloc (.cells #[.string nm,.slice a1 n1 c1,.slice a2 n2 c2] 51):=⟨_,rfl⟩
 obtain⟨g,hg⟩ : ∃ g,g=w.heap.size:=⟨_,rfl⟩
 have hb1:Below w.heap.size w W1:=by rw[hW1];exact za2 _ _
 have p0:zav g (.string nm) (.slice a1 n1 c1) (.slice a2 n2 c2) W1:=by rw[hW1,hg];exact heap_alloc_new _ _
 obtain⟨x0,x1,x2,-⟩:=zai p0
 have r1:=za3 zaf _ _ _ _ h1 hb1
 have r2:=za3 zag _ _ _ _ h2 hb1
 have hW:=zie (nm:=nm) (l:=l) (by rw[← hLt];exact r1) r2 (hD.below hb1) hS.l1 hS.sl hS.nm hS.sz
 rw[← hLt] at hW
 obtain⟨hwz,hwl,hwn⟩:=hS.words
 have htz:=hS.text
 have hte:=znt (nm,L,sets)
 obtain⟨s,hs⟩ : ∃ s:Spc3,s=(nm,L,sets):=⟨_,rfl⟩
 rw[← hs] at hW hwz hwl hwn htz hte
 rw[← hs]
 unfold zi7 at hW
 obtain⟨ws,hws⟩ : ∃ l,l=zcf s:=⟨_,rfl⟩
 rw[← hws] at hW hwz hwl hwn hte
 obtain⟨t,ht⟩ : ∃ t,t=zgl s:=⟨_,rfl⟩
 rw[← ht] at htz hte
 have hL:=fun (W:World)=>zlb t (by omega) W
 rw[LexM.lines_eq] at hL
 have hgood:=LexM.doc_good7 t.data.toList
 have hyes:=zks (R:=zce) (s:=s)
 have hno:=specR_no (R:=zce) (s:=s)
 unfold zg9 at hyes hno
 rw[← ht] at hyes hno
 obtain⟨R,hR⟩ : ∃ R,R=LexM.docLines t.data.toList:=⟨_,rfl⟩
 rw[← hR] at hL hgood hyes hno
 obtain⟨e1,he1⟩ : ∃ z,z=R.at1:=⟨_,rfl⟩
 obtain⟨e2,he2⟩ : ∃ z,z=R.at2:=⟨_,rfl⟩
 obtain⟨er,her⟩ : ∃ z,z=R.e:=⟨_,rfl⟩
 obtain⟨ls,hls⟩ : ∃ z,z=R.lines:=⟨_,rfl⟩
 rw[← her,← hls] at hyes hno
 rw[← hls] at hgood
 unfold zfz at hL
 simp only[← he1,← he2,← her,← hls] at hL
 obtain⟨res,hres⟩ : ∃ q,q=zh6 zce s:=⟨_,rfl⟩
 rw[← hres] at hyes hno ⊢
 clear he1 he2 her hls hR
 have htb:t.size≤30000000000:=htz
 obtain⟨H1,H2,HS,HD,Hb1,Hp0,Hr1,Hr2,HW,Hwz,Hwl,Hwn,Htz,Hte,HL,Hgood⟩:=hd16 h1 h2 hS hD hb1 p0 r1 r2 hW hwz hwl hwn htz hte hL hgood;obtain⟨Hyes,Hno,Hres,HLt,Hn1,Hn2,Hs,Hws,Ht⟩:=hd9 hyes hno hres hLt hn1 hn2 hs hws ht;clear h1 h2 hS hD hb1 p0 r1 r2 hW hwz hwl hwn htz hte hL hgood hyes hno hres hLt hn1 hn2 hs hws ht
 go_enter Tryz.func74,Tryz.ntmps74
 go_upto_region 1 with (fail)
 rw[← hW1,← hg]
 clear hW1 hg
 go_wp2_with fail
 refine HW.out.mono ?_
 rintro e w2 ⟨a,c,rfl,hrd,hb2⟩
 obtain⟨aa,cap,hv,hz,hat⟩:=zaw hrd
 have hca:ws.length≤c:=by
  obtain⟨a',cap',hv',hc,_⟩:=hrd
  simp only[List.cons.injEq,and_true,Value.slice.injEq] at hv'
  rw[hv'.2.2]
  exact hc
 obtain⟨rfl,-,rfl⟩:=Value.slice.inj hv
 have hpos:0 < ws.length:=List.length_pos_iff.2 Hwn.out
 obtain⟨bk,o,rfl,hc0,-⟩:=hat 0 hpos
 have hJ:=Tryz.strings_Join bk o c ws ⟨#[32]⟩ w2 (fun j x hj=>by
  obtain⟨hjl,hjx⟩:=List.getElem?_eq_some_iff.1 hj
  obtain⟨b',o',e',h',_⟩:=hat j hjl
  cases e'
  rw[← hjx]
  exact h') (World.block_lt_of_cell? _ _ hc0) (by have:=Hwl.out;omega) hca (by
  have:=Htz.out
  rw[Hte.out,← Txt.len,zdl] at this
  exact Nat.le_trans this (by decide))
 have hjt:(⟨(Lib.join (ws.map (·.data.toList)) (⟨#[32]⟩ : ByteArray).data.toList).toArray⟩ : ByteArray)=t:=by rw[Hte.out];rfl
 rw[hjt] at hJ
 have hbw2:=Hb1.out.trans (hb2.mono Hb1.out.size)
 obtain⟨nw,hnw⟩ : ∃ n,n=ws.length:=⟨_,rfl⟩
 rw[← hnw] at hJ ⊢
 clear hat hv hc0 hz
 obtain⟨Hrd,Hb2,Hca,Hpos,HJ,Hjt,Hbw2,Hnw⟩:=hd8 hrd hb2 hca hpos hJ hjt hbw2 hnw;clear hrd hb2 hca hpos hJ hjt hbw2 hnw
 go_wp2_with fail
 refine HJ.out.mono ?_
 rintro e w3 ⟨rfl,hb3⟩
 have hb13:=Hb2.out.trans (hb3.mono Hb2.out.size)
 have hbw3:=Hb1.out.trans (hb13.mono Hb1.out.size)
 have hL3:=HL.out w3
 obtain⟨Hb3,Hb13,Hbw3,HL3⟩:=hd4 hb3 hb13 hbw3 hL3;clear hb3 hb13 hbw3 hL3
 go_wp2_with fail
 refine HL3.out.mono ?_
 rintro e w4 ⟨v,rfl,hln,hb4⟩
 obtain⟨ad,cp,rfl,-,-,hat⟩:=zn2 hln
 clear hat
 obtain⟨m,hm⟩ : ∃ m,m=ls.length:=⟨_,rfl⟩
 rw[← hm] at hln ⊢
 obtain⟨w5,hw5⟩ : ∃ W,W=w4.alloc (.cells #[.int .i64 e1,.int .i64 e2] 40):=⟨_,rfl⟩
 have hb45:Below w4.heap.size w4 w5:=by rw[hw5];exact za2 _ _
 have hb35:=hb4.trans (hb45.mono hb4.size)
 have hbw5:=Hbw3.out.trans (hb35.mono Hbw3.out.size)
 have hln5:=zkn _ _ _ _ hln hb45
 by_cases he:er=0
 ·have k1:(er != 0)=false:=by rw[he];rfl
  by_cases h1:m=1
  ·subst h1
   obtain⟨ln,hl1⟩ : ∃ x,ls = [x]:=List.length_eq_one_iff.1 hm.symm
   have hg:=Hgood.out.1 ln (by rw[hl1];simp)
   have hwl1:=wt_small hg
   have hTx:=text_any hln5 (by rw[hl1,zjy,List.length_append];simp;omega)
   rw[hl1] at hTx
   obtain⟨lt,hlt⟩ : ∃ x:ByteArray,x=⟨(ltx [ln]).toArray⟩:=⟨_,rfl⟩
   rw[← hlt] at hTx
   have hq:(lt.toList == (t ++ ⟨#[10]⟩ : ByteArray).toList)=decide (wt ln.2=t.data.toList):=by rw[hlt];exact ltx_eq ln t
   obtain⟨eq,heq⟩ : ∃ b,b=decide (wt ln.2=t.data.toList):=⟨_,rfl⟩
   rw[← heq] at hq
   have hlz:lt.size≤100000000:=by rw[hlt];show (ltx [ln]).length≤_;rw[zjy,List.length_append];simp;omega
   rw[hl1] at hln5
   cases eq with
   | false =>
    have hr:res=(noT,false):=Hno.out (by
     rintro⟨-,ln',h2,h3,-⟩
     rw[hl1] at h2
     cases h2
     exact absurd h3 (of_decide_eq_false heq.symm))
    obtain⟨Hln,Hb4,Hb45,Hb35,Hbw5,Hln5,He,Hm,Hl1,Hg,Hwl1,HTx,Hlt,Heq,Hr,Hlz⟩:=hd16 hln hb4 hb45 hb35 hbw5 hln5 he hm hl1 hg hwl1 hTx hlt heq hr hlz;clear hln hb4 hb45 hb35 hbw5 hln5 he hm hl1 hg hwl1 hTx hlt heq hr hlz
    go_upto_region 3 with (fail)
    rw[← hw5]
    clear hw5
    go_wp2_with fail
    refine HTx.out.mono ?_
    rintro e w6 ⟨rfl,hb6⟩
    have Hb6:=hd hb6;clear hb6
    go_wp2_with fail
    go_ret2
    exact⟨by rw[Hr.out];rfl,Hbw5.out.trans (Hb6.out.mono Hbw5.out.size)⟩
   | true =>
    have hwt:wt ln.2=t.data.toList:=of_decide_eq_true heq.symm
    have hb5':=hb35
    have he0:=he
    have hl1':=hl1
    have hwt':=hwt
    obtain⟨Hln,Hb4,Hb45,Hb35,Hbw5,He,Hm,Hlt,Heq,Hlz,Hl1,Hwt⟩:=hd12 hln hb4 hb45 hb35 hbw5 he hm hlt heq hlz hl1 hwt;clear hln hb4 hb45 hb35 hbw5 he hm hlt heq hlz hl1 hwt
    go_upto_region 3 with (fail)
    rw[← hw5]
    clear hw5
    have Hln5:=Lib.hid hln5
    clear hln5
    have HTx:=Lib.hid hTx
    clear hTx
    go_wp2_with fail
    refine HTx.out.mono ?_
    rintro e w6 ⟨rfl,hb6⟩
    have hbw6:=Hbw5.out.trans (hb6.mono Hbw5.out.size)
    have hln6:=zkn _ _ _ _ Hln5.out hb6
    have hp6:=za0 (hb5'.trans (hb6.mono hb5'.size)) (za0 Hb13.out Hp0.out)
    obtain⟨a',c',ha',-,-,hat⟩:=zn2 hln6
    simp only[List.length_singleton,Value.slice.injEq] at ha'
    obtain⟨rfl,-,-⟩:=ha'
    obtain⟨bq,o,rfl,c0,v,c1,hwd⟩:=hat 0 (by simp)
    clear hat c0
    rw[Nat.zero_mul,Nat.add_zero] at c1
    rw[List.getElem_cons_zero] at hwd
    obtain⟨wa,wc,rfl⟩:=wds_shape hwd
    obtain⟨nw,hnw2⟩ : ∃ n,n=ln.2.length:=⟨_,rfl⟩
    rw[← hnw2] at c1 hwd
    have hcol:∀ j,zez ln.2 ((t.size:Int)+1) j≠0:=fun j=>by
     by_cases hj:j < ln.2.length
     ·rw[zog hj]
      have:=(hg.2.2.2 _ (List.getElem_mem hj)).1
      omega
     rw[zoh (by omega)]
     omega
    have hnw40:nw≤40:=by have:=hg.2.2.1;omega
    have hO:=zid (fin:=(t.size:Int)+1) hwd (HD.out.below hbw6) (by omega) (fun x hx=>(hg.2.2.2 x hx).2.2.2) hcol
    obtain⟨fin,hfin⟩ : ∃ f,f=(t.size:Int)+1:=⟨_,rfl⟩
    rw[← hfin] at hO hcol
    obtain⟨Hln6,Hb6,Hbw6,Hp6,Hwd,HO,Hg,Hnw2,Hcol,Hfin⟩:=hd10 hln6 hb6 hbw6 hp6 hwd hO hg hnw2 hcol hfin;clear hln6 hb6 hbw6 hp6 hwd hO hg hnw2 hcol hfin
    go_wp2_with fail
    rw[← Hfin.out]
    refine HO.out.mono ?_
    rintro e w7 ⟨⟨s2,j,b1,m1,d1,b2,m2,d2,hw,rfl,hv1,hv2⟩ | ⟨j,hw,rfl⟩,hb7⟩
    ·have hbw7:=Hbw6.out.trans (hb7.mono Hbw6.out.size)
     obtain⟨w8,hw8⟩ : ∃ W,W=w7.alloc (.cells #[.string s2.1,.slice b1 m1 d1,.slice b2 m2 d2] 51):=⟨_,rfl⟩
     have hb78:Below w7.heap.size w7 w8:=by rw[hw8];exact za2 _ _
     have hb68:=hb7.trans (hb78.mono hb7.size)
     have hbw8:=Hbw6.out.trans (hb68.mono Hbw6.out.size)
     obtain⟨q,hq⟩ : ∃ k,k=w7.heap.size:=⟨_,rfl⟩
     have pq:zav q (.string s2.1) (.slice b1 m1 d1) (.slice b2 m2 d2) w8:=by rw[hw8,hq];exact heap_alloc_new _ _
     have hp8:=za0 hb68 Hp6.out
     obtain⟨y0,y1,y2,-⟩:=zai pq
     clear x0 x1 x2
     obtain⟨x0,x1,x2,-⟩:=zai hp8
     have c8:=cell_later hb68 c1
     have hSame:=zc6 (n:=s2.1) (m:=nm) (zcv hv1 hb78).1 (zmd hv2 hb78).1 (za3 zaf _ _ _ _ H1.out hbw8) (za3 zag _ _ _ _ H2.out hbw8)
     obtain⟨s21,hs21⟩ : ∃ x,x=s2.1:=⟨_,rfl⟩
     rw[← hs21] at hSame y0 hw8 ⊢
     obtain⟨same,hsame⟩ : ∃ b,b=decide ((s21,s2.2.1,s2.2.2)=(nm,L,sets)):=⟨_,rfl⟩
     rw[← hsame] at hSame
     have hsm:same=true↔s2=s:=by
      rw[hsame,decide_eq_true_eq,hs21,Hs.out]
     by_cases hj:j=nw
     ·subst hj
      cases same with
      | true =>
       have hs2:s2=s:=hsm.1 rfl
       have hr:res=(t,true):=Hyes.out ⟨he0,ln,hl1',hwt',by rw[← Hnw2.out,← hs2];exact hw⟩
       obtain⟨Hw,Hv1,Hv2,Hb7,Hbw7,Hb78,Hb68,Hbw8,Hq,Hpq,Hp8,HSame,Hs21,Hsame,Hsm,Hs2⟩:=hd16 hw hv1 hv2 hb7 hbw7 hb78 hb68 hbw8 hq pq hp8 hSame hs21 hsame hsm hs2;have Hr:=hd hr;clear hw hv1 hv2 hb7 hbw7 hb78 hb68 hbw8 hq pq hp8 hSame hs21 hsame hsm hs2 hr
       go_upto_region 6 with (fail)
       rw[← hw8,← Hq.out]
       clear hw8
       go_wp2_with fail
       refine HSame.out.mono ?_
       rintro e w9 ⟨rfl,hb9⟩
       have Hb9:=hd hb9;clear hb9
       go_wp2_with fail
       go_ret2
       exact⟨by rw[Hr.out];rfl,Hbw8.out.trans (Hb9.out.mono Hbw8.out.size)⟩
      | false =>
       have hr:res=(noT,false):=Hno.out (by
        rintro⟨-,ln',h2,-,h4⟩
        rw[hl1'] at h2
        cases h2
        rw[hw] at h4
        have h5:s2=s:=by cases h4;rfl
        exact absurd (hsm.2 h5) (by simp))
       obtain⟨Hw,Hv1,Hv2,Hb7,Hbw7,Hb78,Hb68,Hbw8,Hq,Hpq,Hp8,HSame,Hs21,Hsame,Hsm,Hr⟩:=hd16 hw hv1 hv2 hb7 hbw7 hb78 hb68 hbw8 hq pq hp8 hSame hs21 hsame hsm hr;clear hw hv1 hv2 hb7 hbw7 hb78 hb68 hbw8 hq pq hp8 hSame hs21 hsame hsm hr
       go_upto_region 6 with (fail)
       rw[← hw8,← Hq.out]
       clear hw8
       go_wp2_with fail
       refine HSame.out.mono ?_
       rintro e w9 ⟨rfl,hb9⟩
       have Hb9:=hd hb9;clear hb9
       go_wp2_with fail
       go_ret2
       exact⟨by rw[Hr.out];rfl,Hbw8.out.trans (Hb9.out.mono Hbw8.out.size)⟩
     have k3:((j:Int) != (nw:Int))=true:=by simp;omega
     have hr:res=(noT,false):=Hno.out (by
      rintro⟨-,ln',h2,-,h4⟩
      rw[hl1'] at h2
      cases h2
      rw[hw] at h4
      have h5:j=ln.2.length:=by cases h4;rfl
      exact hj (h5.trans Hnw2.out.symm))
     obtain⟨Hw,Hv1,Hv2,Hb7,Hbw7,Hb78,Hb68,Hbw8,Hq,Hpq,Hp8,HSame,Hs21,Hsame,Hsm,Hj⟩:=hd16 hw hv1 hv2 hb7 hbw7 hb78 hb68 hbw8 hq pq hp8 hSame hs21 hsame hsm hj;have Hr:=hd hr;clear hw hv1 hv2 hb7 hbw7 hb78 hb68 hbw8 hq pq hp8 hSame hs21 hsame hsm hj hr
     go_upto_region 6 with (fail)
     rw[← hw8,← Hq.out]
     clear hw8
     go_wp2_with fail
     go_ret2
     exact⟨by rw[Hr.out];rfl,Hbw8.out⟩
    obtain⟨cl,hcl⟩ : ∃ x,x=zez ln.2 fin j:=⟨_,rfl⟩
    have hne:(cl != 0)=true:=by rw[hcl];simpa using Hcol.out j
    rw[← hcl]
    have hr:res=(noT,false):=Hno.out (by
     rintro⟨-,ln',h2,-,h4⟩
     rw[hl1'] at h2
     cases h2
     rw[hw] at h4
     cases h4)
    have hbw7:=Hbw6.out.trans (hb7.mono Hbw6.out.size)
    obtain⟨w8,hw8⟩ : ∃ W,W=w7.alloc (.cells #[.string ⟨#[]⟩,.slice none 0 0,.slice none 0 0] 51):=⟨_,rfl⟩
    have hb78:Below w7.heap.size w7 w8:=by rw[hw8];exact za2 _ _
    have hbw8:=hbw7.trans (hb78.mono hbw7.size)
    obtain⟨Hw,Hb7,Hbw7,Hb78,Hbw8,Hcl,Hr⟩:=hd7 hw hb7 hbw7 hb78 hbw8 hcl hr;clear hw hb7 hbw7 hb78 hbw8 hcl hr
    go_upto_region 6 with (fail)
    rw[← hw8]
    clear hw8
    go_wp2_with fail
    go_ret2
    exact⟨by rw[Hr.out];rfl,Hbw8.out⟩
  have k2:((m:Int) != 1)=true:=by simp;omega
  have hr:res=(noT,false):=Hno.out (by
   rintro⟨-,ln',h2,-,-⟩
   rw[h2] at hm
   exact h1 hm)
  obtain⟨Hln,Hb4,Hb45,Hb35,Hbw5,Hln5,He,Hm,H1,Hr⟩:=hd10 hln hb4 hb45 hb35 hbw5 hln5 he hm h1 hr;clear hln hb4 hb45 hb35 hbw5 hln5 he hm h1 hr
  go_upto_region 3 with (fail)
  rw[← hw5]
  clear hw5
  go_wp2_with fail
  go_ret2
  exact⟨by rw[Hr.out];rfl,Hbw5.out⟩
 have k1:(er != 0)=true:=by simpa using he
 have hr:res=(noT,false):=Hno.out (fun h=>he h.1)
 obtain⟨Hln,Hb4,Hb45,Hb35,Hbw5,Hln5,He,Hm,Hr⟩:=hd9 hln hb4 hb45 hb35 hbw5 hln5 he hm hr;clear hln hb4 hb45 hb35 hbw5 hln5 he hm hr
 go_upto_region 3 with (fail)
 rw[← hw5]
 clear hw5
 go_wp2_with fail
 go_ret2
 exact⟨by rw[Hr.out];rfl,Hbw5.out⟩
theorem zjq {w:World} {v1 v2:Value} {nm:ByteArray} {L:List BSp} {sets:List Setg} {l:List Tp} (h1:RSps w [v1] L) (h2:zbm w [v2] sets) (hS:Sp (nm,L,sets) l) (hD:zb1 w) :
  Calls Tryz.prog 33 #[.agg #[.string nm,v1,v2]] w fun e w'=>e = .returned (.tuple #[.string (zh6 zce (nm,L,sets)).1,.bool (zh6 zce (nm,L,sets)).2])∧Below w.heap.size w w':=by
 obtain⟨a1,c1,rfl⟩:=zcw h1
 obtain⟨a2,c2,rfl⟩:=zeq h2
 obtain⟨W1,hW1⟩ : ∃ W,W=w.alloc (.cells #[.string nm,.slice a1 L.length c1,.slice a2 sets.length c2] 51):=⟨_,rfl⟩
 obtain⟨g,hg⟩ : ∃ g,g=w.heap.size:=⟨_,rfl⟩
 have hb1:Below w.heap.size w W1:=by rw[hW1];exact za2 _ _
 have p0:zav g (.string nm) (.slice a1 L.length c1) (.slice a2 sets.length c2) W1:=by rw[hW1,hg];exact heap_alloc_new _ _
 have hP:=zif (za3 zaf _ _ _ _ h1 hb1) (za3 zag _ _ _ _ h2 hb1) hS (hD.below hb1)
 obtain⟨n1,hn1⟩ : ∃ n,n=L.length:=⟨_,rfl⟩
 obtain⟨n2,hn2⟩ : ∃ n,n=sets.length:=⟨_,rfl⟩
 rw[← hn1,← hn2] at hP p0 hW1 ⊢
 obtain⟨res,hres⟩ : ∃ q,q=zh6 zce (nm,L,sets):=⟨_,rfl⟩
 rw[← hres] at hP ⊢
 obtain⟨x0,x1,x2,-⟩:=zai p0
 obtain⟨r1,r2⟩:=res
 obtain⟨H1,H2,HS,HD,Hb1,Hp0,HP,Hn1,Hn2,Hres⟩:=hd10 h1 h2 hS hD hb1 p0 hP hn1 hn2 hres;clear h1 h2 hS hD hb1 p0 hP hn1 hn2 hres
 go_enter Tryz.func33,Tryz.ntmps33
 go_upto_region 1 with (fail)
 rw[← hW1,← hg]
 clear hW1 hg
 go_wp2_with fail
 refine HP.out.mono ?_
 rintro e w2 ⟨rfl,hb2⟩
 have Hb2:=hd hb2;clear hb2
 go_wp2_with fail
 go_ret2
 exact⟨rfl,Hb1.out.trans (Hb2.out.mono Hb1.out.size)⟩
end

section
open Go.Shelf Go.RowKit Go.Lib VerN VarM
open LexM (Wd Ln)
attribute [local go_sem ↓] Go.wp_at_zero Go.wp_at_succ
theorem zkr:zgl (noT,allV,[])=zdd:=by
 have hf:zay (noT,allV,[])=noT:=by unfold zay;rw[if_pos rfl]
 unfold zgl
 rw[hf]
 exact if_pos rfl
theorem doc_star:LexM.docLines zdd.data.toList=⟨[(1,[(1,[42])])],0,0,0⟩:=by kernel_rfl
theorem zpa:zh6 zce (noT,allV,[])=(zdd,true):=by
 have h:zg9 zce (zgl (noT,allV,[])) (noT,allV,[]):=by
  rw[zkr]
  unfold zg9
  rw[doc_star]
  refine⟨rfl,_,rfl,rfl,?_⟩
  have hp:zb6 [((1:Int),[(42:UInt8)])] 0=zdd:=by rw[zhi (by decide)];rfl
  exact zj8 hp
 rw[zks h,zkr]
theorem sp_small {s:Spc3} (h:zcc s):∃ l,Sp s l:=by
 obtain⟨h1,h2,⟨h3,h4⟩,h5⟩:=h
 have hex:∀ L:List BSp,(∀ z∈L,z.1.size≤100∧z.2.size≤100)→∃ l:List Tp,L=tB l∧l.length=L.length:=by
  intro L
  induction L with
  | nil=>intro _;exact⟨[],rfl,rfl⟩
  | cons z L ih =>
   intro h
   obtain⟨l,e1,e2⟩:=ih (fun x hx=>h x (by simp[hx]))
   have hz:=h z (by simp)
   exact⟨⟨z,by omega⟩ :: l,by rw[e1];rfl,by simp[e2]⟩
 obtain⟨l,e1,e2⟩:=hex s.2.1 h4
 exact⟨l,e1,by omega,by omega,by omega,fun x hx=>by have:=h5 x hx;omega⟩
theorem zn7 {w:World} (hD:zb1 w):Calls Tryz.prog 32 #[] w fun e w'=>e = .returned (.bool true)∧Below w.heap.size w w':=by
 obtain⟨W1,hW1⟩ : ∃ W,W=w.alloc (.cells #[.string ⟨#[]⟩,.string ⟨#[]⟩] 34):=⟨_,rfl⟩
 have hb1:Below w.heap.size w W1:=by rw[hW1];exact za2 _ _
 have hr:RSps W1 [.slice (some ⟨w.heap.size,0,none⟩) 1 1] allV:=by rw[hW1];exact (zm0 w).1
 have hs:zbm W1 [.slice none 0 0] []:=⟨_,0,rfl,Nat.zero_le _,Nat.zero_le _,fun i x hi=>by simp at hi⟩
 obtain⟨l,hl⟩:=sp_small (s:=(noT,allV,[])) ⟨by decide,by decide,⟨by decide,fun z hz=>by simp[allV] at hz;rw[hz];decide⟩,fun x hx=>by simp at hx⟩
 have hP:=zjq (nm:=noT) hr hs hl (hD.below hb1)
 rw[zpa] at hP
 have e:noT=⟨#[]⟩:=rfl
 have e2:zdd=⟨#[42]⟩:=rfl
 rw[e,e2] at hP
 obtain⟨g,hg⟩ : ∃ g,g=w.heap.size:=⟨_,rfl⟩
 rw[← hg] at hP
 clear e e2
 obtain⟨HD,Hb1,Hr,Hs,Hl,HP⟩:=hd6 hD hb1 hr hs hl hP;clear hD hb1 hr hs hl hP
 go_enter Tryz.func32,Tryz.ntmps32
 go_wp2_with fail
 rw[← hW1,← hg]
 clear hW1 hg
 refine HP.out.mono ?_
 rintro e w2 ⟨rfl,hb2⟩
 have Hb2:=hd hb2;clear hb2
 go_wp2_with fail
 go_ret
 exact⟨rfl,Hb1.out.trans (Hb2.out.mono Hb1.out.size)⟩
end
end Go.Proofs.YteailgjiifdgcaaGreatDoor
