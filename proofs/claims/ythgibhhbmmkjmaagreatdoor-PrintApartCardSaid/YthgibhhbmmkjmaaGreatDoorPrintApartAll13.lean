/- Walks and plain facts. Texts merged: RcE, PtR, RpG, RcG, PnF, RpD, PnD, PnG, LwS. Condition: none beyond what each says. -/
import Derived.Test.YthgibhhbmmkjmaaGreatDoorPrintApartAll12
set_option linter.unusedVariables false
set_option linter.unusedSimpArgs false
set_option maxRecDepth 10000
set_option maxHeartbeats 4000000
namespace Go.Proofs.YthgibhhbmmkjmaaGreatDoor
section
open Go.Shelf Go.RowKit Go.Lib VerN VarM
open LexM (Wd Ln zik)
attribute [local go_sem ↓] Go.wp_at_zero Go.wp_at_succ
abbrev RcBox (k:Nat) (u v:Value) (W:World):Prop:=W.heap[k]? = some (.cells #[u,v] 25 (0,0))
theorem zjk {k:Nat} {u v:Value} {W:World} (h:RcBox k u v W):W.cell? ⟨k,0,none⟩=some u∧W.cell? ⟨k,1,none⟩=some v∧W.frozen? ⟨k,0,none⟩=false∧W.frozen? ⟨k,1,none⟩=false:=⟨za0 h 0,za0 h 1,za8 h 0,za8 h 1⟩
def RcpPost (w:World) (o:Option RcpM) (e:Ending) (w':World):Prop:=∃ a1 n1 c1 a2 n2 c2 x1 x2 er,e = .returned (.tuple #[.agg #[.slice a1 n1 c1,.slice a2 n2 c2],.agg #[.int .i64 x1,.int .i64 x2],.int .i64 er])∧((∃ x,o=some x∧er=0∧zi1 w' (.slice a1 n1 c1) (.slice a2 n2 c2) x)∨(o=none∧er≠0))∧Below w.heap.size w w'
structure PcSt (w:World) (t:Nat→Nat) (vp vf:Value) (x:RcpM) (W:World):Prop where
 st:RcSt W t w.heap.size w.heap.size vp vf x
 low:∀ k,k < w.heap.size→t k=10
 bel:Below w.heap.size w W
theorem pf_shape {W:World} {t:Nat→Nat} {B xb:Nat} {vp vf:Value} {x:RcpM} (h:RcSt W t B xb vp vf x):∃ a1 c1 a2 c2,vp = .slice a1 x.pk.length c1∧vf = .slice a2 x.pf.length c2:=by
 obtain⟨h1,h2⟩:=h.reads
 obtain⟨a1,c1,e1⟩:=zb4 h1
 obtain⟨a2,c2,e2⟩:=zb4 h2
 exact⟨a1,c1,a2,c2,e1,e2⟩
def PcA (r:Nat) (ws:List Wd) (t:Nat→Nat) (B xb:Nat) (x:RcpM) (line:Int) (w W:World):Prop:=∃ y t' vp vf,zc4 line (zam ws 0) x=some y∧RcSt W t' B xb vp vf y∧(∀ k,k < w.heap.size→9 < t k→t' k=t k)∧Frm (fun k=>k=r∨t k≤9) w W
def PcB (r:Nat) (ws:List Wd) (t:Nat→Nat) (x:RcpM) (line:Int) (w:World) (c:Int) (W:World):Prop:=zc4 line (zam ws 0) x=none∧c≠0∧Frm (fun k=>k=r∨t k≤9) w W
theorem ztt (t:ByteArray) (ht:t.size≤140737488351232) {w:World} (hD:zbl w):Calls Tryz.prog 10 #[.string t] w (RcpPost w (zqg t.data.toList)):=by
 have hgood:=LexM.doc_good7 t.data.toList
 have hL:=fun (W:World)=>zj4 t (by omega) W
 rw[LexM.lines_eq] at hL
 obtain⟨R,hR⟩ : ∃ R,R=LexM.docLines t.data.toList:=⟨_,rfl⟩
 have hreq:zqg t.data.toList=if R.e=0 then goL R.lines ⟨[],[]⟩ else none:=by unfold zqg;rw[hR]
 rw[← hR] at hL hgood
 have hlen:t.data.toList.length=t.size:=Txt.len t
 obtain⟨g,hg⟩ : ∃ g,g=w.heap.size:=⟨_,rfl⟩
 obtain⟨W1,hW1⟩ : ∃ W,W=(w.alloc (.cells #[.slice none 0 0,.slice none 0 0] 25)).alloc (.cells #[.int .i64 0,.int .i64 0] 31):=⟨_,rfl⟩
 have hb1:Below w.heap.size w W1:=by rw[hW1];exact (za2 _ _).alloc (by simp) _
 have p0:RcBox g (.slice none 0 0) (.slice none 0 0) W1:=by rw[hW1,hg];exact za1 (za2 _ _) (za9 rfl)
 have p1:WhBox (g+1) 0 0 W1:=by rw[hW1,hg];exact za9 (by simp)
 have hs1:W1.heap.size=g+2:=by rw[hW1,hg];simp
 have hwg:w.heap.size≤g:=Nat.le_of_eq hg.symm
 have hL1:=hL W1
 unfold zgz at hL1
 obtain⟨a1,ha1⟩ : ∃ z,z=R.at1:=⟨_,rfl⟩
 obtain⟨a2,ha2⟩ : ∃ z,z=R.at2:=⟨_,rfl⟩
 obtain⟨er,her⟩ : ∃ z,z=R.e:=⟨_,rfl⟩
 obtain⟨ls,hls⟩ : ∃ z,z=R.lines:=⟨_,rfl⟩
 rw[← her,← hls] at hreq
 rw[← ha1,← ha2,← her,← hls] at hL1
 rw[← hls] at hgood
 clear hL
 obtain⟨HD,Hgood,Hreq,HL1,Hb1,Hp0,Hp1,HR,Hlen,Ha1,Ha2,Her,Hls⟩:=hd13 hD hgood hreq hL1 hb1 p0 p1 hR hlen ha1 ha2 her hls;clear hD hgood hreq hL1 hb1 p0 p1 hR hlen ha1 ha2 her hls
 go_enter Tryz.func10,Tryz.ntmps10
 go_upto_region 1 with (fail)
 rw[← hW1,← hg]
 clear hW1 hg
 go_wp2_with fail
 refine HL1.out.mono ?_
 rintro e w2 ⟨v,rfl,hln,hb2⟩
 obtain⟨ad,cp,rfl⟩ : ∃ a c,v = .slice a ls.length c:=by
  obtain⟨a,cap,hv,_⟩:=hln
  simp only[List.cons.injEq,and_true] at hv
  exact⟨a,cap,hv⟩
 obtain⟨n,hn⟩ : ∃ n,n=ls.length:=⟨_,rfl⟩
 rw[← hn] at hln ⊢
 obtain⟨w3,hw3⟩ : ∃ W,W=w2.alloc (.cells #[.int .i64 a1,.int .i64 a2] 31):=⟨_,rfl⟩
 have hb23:Below w2.heap.size w2 w3:=by rw[hw3];exact za2 _ _
 have hb13:=hb2.trans (hb23.mono hb2.size)
 have hb3:=Hb1.out.trans (hb13.mono Hb1.out.size)
 have hs2:g+2≤w2.heap.size:=by have:=hb2.size;omega
 have p6:WhBox w2.heap.size a1 a2 w3:=by rw[hw3];exact heap_alloc_new _ _
 have p0':=za1 hb13 Hp0.out
 have p1':=za1 hb13 Hp1.out
 have hln3:=zjx _ _ _ _ hln hb23
 have hs3:w3.heap.size=w2.heap.size+1:=by rw[hw3];simp
 obtain⟨x0,x1,_,_⟩:=zjf p6
 obtain⟨_,_,f0,f00⟩:=zjk p0'
 obtain⟨_,_,f1,f2⟩:=zjf p1'
 by_cases he:er=0
 ·have k1:(er != 0)=false:=by rw[he];rfl
  have hq:=Hreq.out
  rw[if_pos he] at hq
  obtain⟨q,hqq⟩ : ∃ q,q=w3.heap.size:=⟨_,rfl⟩
  obtain⟨w4,hw4⟩ : ∃ W,W=w3.alloc (.cells #[.slice none 0 0,.slice none 0 0] 25):=⟨_,rfl⟩
  have hI0:PcSt w3 (fun k=>if k=w3.heap.size then 0 else 10) (.slice none 0 0) (.slice none 0 0) ⟨[],[]⟩ w4 :=
   ⟨RcSt.nil (by rw[hw4];exact heap_alloc_new _ _) (if_pos rfl),fun k hk=>if_neg (by omega),by rw[hw4];exact za2 _ _⟩
  have hn1:n≤70001:=by have:=Hgood.out.2;omega
  clear x0 x1 f0 f00 f1 f2
  obtain⟨Hln,Hb2,Hb23,Hb13,Hb3,Hp6,Hp0',Hp1',Hln3,Hn,Hq,He,HI0,Hs3⟩:=hd14 hln hb2 hb23 hb13 hb3 p6 p0' p1' hln3 hn hq he hI0 hs3;clear hln hb2 hb23 hb13 hb3 p6 p0' p1' hln3 hn hq he hI0 hs3
  go_upto_region 2 with (fail)
  rw[← hw3]
  clear hw3
  go_upto_region 5 with (fail)
  rw[← hw4,← hqq]
  clear hw4
  have Hqq:=Lib.hid hqq
  clear hqq
  go_wp2_with fail
  go_loopw [27] (fun v wr=>∃ (k:Nat) (t1:Nat→Nat) (vp vf:Value) (x:RcpM),k≤n∧v = .int .i64 k∧PcSt w3 t1 vp vf x wr∧zmj k x∧zqg t.data.toList=goL (ls.drop k) x) (fun v _=>n - (RowKit.intOf v).toNat)
  case atStart=>exact⟨0,_,_,_,_,Nat.zero_le _,rfl,HI0.out,small_nil,by rw[List.drop_zero];exact Hq.out⟩
  case round =>
   obtain⟨wo,hwo⟩ : ∃ W,W=wr:=⟨_,rfl⟩
   rw[← hwo] at hrel ⊢
   clear hwo wr
   obtain⟨k,t1,vp,vf,x,hk,rfl,hI,hsm,hgo⟩:=hrel
   have hqs:q < wo.heap.size:=by have:=(Array.getElem?_eq_some_iff.1 hI.st.box).1;rw[Hqq.out];exact this
   by_cases hlt:k < n
   ·have hkl:k < ls.length:=by have:=Hn.out;omega
    obtain⟨l,hl⟩ : ∃ x,x=ls[k]:=⟨_,rfl⟩
    obtain⟨-,-,hat⟩:=lns_at Hln3.out
    obtain⟨b,off,a2',n2,c2,rfl,c0,c1,hwd⟩:=hat k l (by rw[hl];exact List.getElem?_eq_getElem hkl)
    clear hat
    have d0:=cell_later hI.bel c0
    have d1:=cell_later hI.bel c1
    obtain⟨ln,hln0⟩ : ∃ z,z=l.1:=⟨_,rfl⟩
    rw[← hln0] at d0
    have hgx:zik 70000 l:=Hgood.out.1 l (by rw[hl];exact List.getElem_mem hkl)
    have hdr:ls.drop k=l :: ls.drop (k+1):=by rw[hl];exact List.drop_eq_getElem_cons hkl
    rw[hdr] at hgo
    obtain⟨hl1,hne,h40,hgood⟩:=hgx
    obtain⟨ws,hws⟩ : ∃ z,z=l.2:=⟨_,rfl⟩
    rw[← hws] at hwd hne h40 hgood
    obtain⟨hn2,hz2,hat2⟩:=zrr hwd
    have hn0:0 < n2:=by
     rw[hn2]
     exact List.length_pos_iff.2 hne
    obtain⟨y,hy,-⟩:=last_some hn2 hn0
    obtain⟨b2,off2,rfl,d2,d3,-⟩:=hat2 (n2 - 1) y hy
    clear hat2
    have hb2lt:b2 < w3.heap.size:=World.block_lt_of_cell? w3 _ d2
    have hgy:=hgood y (List.mem_of_getElem? hy)
    obtain⟨yc,hyc⟩ : ∃ z,z=y.1:=⟨_,rfl⟩
    obtain⟨yt,hyt⟩ : ∃ z:ByteArray,z=⟨y.2.toArray⟩:=⟨_,rfl⟩
    have hyc1:1≤yc∧yc≤70000:=by rw[hyc];exact⟨hgy.1,hgy.2.1⟩
    have hyz:yt.size≤70000:=by rw[hyt];show y.2.toArray.size≤_;rw[List.size_toArray];exact hgy.2.2.2
    rw[← hyc] at d2
    rw[← hyt] at d3
    obtain⟨m,hm⟩ : ∃ m,m=n2 - 1:=⟨_,rfl⟩
    rw[← hm] at d2 d3
    have j1:IntKind.i64.wrap ((n2:Int) - 1)=((m:Nat):Int):=by rw[show ((n2:Int) - 1)=((m:Nat):Int) by omega];exact IntWalk.i64_in _ (by omega)
    have j2:(0:Int)≤((m:Nat):Int):=by omega
    have j3:((m:Nat):Int) < (n2:Int):=by omega
    have hcap2:n2≤c2:=by
     obtain⟨_,_,hv,hc,_⟩:=hwd
     simp only[List.cons.injEq,and_true,Value.slice.injEq] at hv
     omega
    obtain⟨lb,hlb⟩ : ∃ z,z=wo.heap.size:=⟨_,rfl⟩
    obtain⟨w5,hw5⟩ : ∃ W,W=wo.alloc (.cells #[.int .i64 ln,.slice (some ⟨b2,off2,none⟩) n2 c2] 79):=⟨_,rfl⟩
    have hb5:Below wo.heap.size wo w5:=by rw[hw5];exact za2 _ _
    have hs5:w5.heap.size=lb+1:=by rw[hw5,hlb];simp
    have p10:w5.heap[lb]? = some (.cells #[.int .i64 ln,.slice (some ⟨b2,off2,none⟩) n2 c2] 79 (0,0)):=by rw[hw5,hlb];exact heap_alloc_new _ _
    have hb35:=hI.bel.trans (hb5.mono hI.bel.size)
    have y0:=za0 p10 0
    have y1:=za0 p10 1
    simp only[List.getElem?_toArray,List.getElem?_cons_zero,List.getElem?_cons_succ] at y0 y1
    have d4:=cell_later hb35 d2
    have d5:=cell_later hb35 d3
    obtain⟨w6,hw6⟩ : ∃ W,W=w5.alloc (.cells #[.int .i64 yc,.string yt] 81):=⟨_,rfl⟩
    have hb6:Below w5.heap.size w5 w6:=by rw[hw6];exact za2 _ _
    have hs6:w6.heap.size=lb+2:=by rw[hw6];simp[hs5]
    have p11:w6.heap[lb+1]? = some (.cells #[.int .i64 yc,.string yt] 81 (0,0)):=by rw[hw6,← hs5];exact heap_alloc_new _ _
    have p10a:=za1 hb6 p10
    have z0:=za0 p10a 0
    have z1:=za0 p10a 1
    have z2:=za0 p11 0
    have z3:=za0 p11 1
    simp only[List.getElem?_toArray,List.getElem?_cons_zero,List.getElem?_cons_succ] at z0 z1 z2 z3
    obtain⟨fin,hfin⟩ : ∃ z:Int,z=yc+(yt.size:Int):=⟨_,rfl⟩
    obtain⟨w7,hw7⟩ : ∃ W,W=(w6.alloc (.cells #[.slice (some ⟨b2,off2,none⟩) n2 c2,.int .i64 0,.int .i64 fin] 84)).alloc (.cells #[rp (lb+2)] 82):=⟨_,rfl⟩
    have hb7:Below w6.heap.size w6 w7:=by rw[hw7];exact (za2 _ _).alloc (by simp) _
    have hs7:w7.heap.size=lb+4:=by rw[hw7];simp[hs6]
    have p12:RBox (lb+2) (.slice (some ⟨b2,off2,none⟩) n2 c2) 0 fin w7:=by rw[hw7,← hs6];exact za1 (za2 _ _) (za9 rfl)
    have hfin0:=hfin
    have p13:w7.heap[lb+3]? = some (.cells #[rp (lb+2)] 82 (0,0)):=by rw[hw7];exact za9 (by simp[hs6])
    obtain⟨w8,hw8⟩ : ∃ W,W=w7.alloc (.cells #[.int .i64 0] 3):=⟨_,rfl⟩
    have hb8:Below w7.heap.size w7 w8:=by rw[hw8];exact za2 _ _
    have hbo8:Below wo.heap.size wo w8:=((hb5.trans (hb6.mono (by omega))).trans (hb7.mono (by omega))).trans (hb8.mono (by omega))
    have hb38:=hI.bel.trans (hbo8.mono hI.bel.size)
    have hb37:Below w3.heap.size w3 w7:=hI.bel.trans (((hb5.trans (hb6.mono (by omega))).trans (hb7.mono (by omega))).mono hI.bel.size)
    have q10:=za1 hb8 (za1 hb7 p10a)
    have q12:RBox (lb+2) (.slice (some ⟨b2,off2,none⟩) n2 c2) 0 fin w8:=za1 hb8 p12
    have q13:=za1 hb8 p13
    have q14:w8.heap[w7.heap.size]? = some (.cells #[.int .i64 0] 3 (0,0)):=by rw[hw8];exact heap_alloc_new _ _
    have hst8:RcSt w8 (zac t1 wo.heap.size 10) w3.heap.size w3.heap.size vp vf x:=hI.st.to (Frm.of_below (S:=fun _=>False) hbo8) (fun _ _ h=>h.elim) (fun k hk _=>za4 hk)
    have hz3:=hI.bel.size
    have C:RdC w3 (lb+2) (some ⟨b2,off2,none⟩) n2 c2 fin ws:=⟨hwd,HD.out.below Hb3.out,by omega,by omega,fun z hz=>(hgood z hz).2.2.2⟩
    have S:RdS w3 (lb+2) (some ⟨b2,off2,none⟩) n2 c2 fin 0 w8:=⟨q12,hb38⟩
    have e13:=za0 q13 0
    have e10:=za0 q10 0
    simp only[List.getElem?_toArray,List.getElem?_cons_zero,List.getElem?_cons_succ] at e13 e10
    have htn:∀ k,k < w3.heap.size→zac t1 wo.heap.size 10 k=10:=fun k hk=>by rw[za4 (by omega),hI.low k hk]
    have hC:=zue (line:=ln) C S hn0 hst8 (zbn (by omega)) (fun p hp=>by cases hp;exact⟨by show b2≠lb+2;omega,by show 9 < zac t1 wo.heap.size 10 b2;rw[htn b2 hb2lt];omega⟩) hb38.size hsm (by omega) e13 e10
    have hcol:∀ j,ze0 ws fin j≠0:=fun j=>by
     unfold ze0
     cases hj:ws[j]? with
     | none=>simp only;omega
     | some z =>
      simp only
      have:=(hgood z (List.mem_of_getElem? hj)).1
      omega
    have hK:=zmg (enters_of Tryz.func24 (by kernel_rfl) rfl) (w:=w7) (caps:=#[.pointer (some ⟨lb+3,0,none⟩),.pointer (some ⟨lb,0,none⟩),.pointer (some ⟨w3.heap.size,0,none⟩)])
     (A:=PcA (lb+2) ws (zac t1 wo.heap.size 10) w3.heap.size w3.heap.size x ln w8) (B:=PcB (lb+2) ws (zac t1 wo.heap.size 10) x ln w8) (by
      rw[← hw8]
      refine hC.mono ?_
      rintro e w9 ⟨⟨y',t',vp',vf',rfl,k1,k2,k3⟩ | ⟨k1,j,rfl⟩,hF⟩
      ·exact⟨.inl ⟨rfl,y',t',vp',vf',k1,k2,k3,hF⟩,zav q14 hF (fun h=>by
        rcases h with h | h
        ·omega
        rw[zbn (by omega)] at h;omega)⟩
      exact⟨.inr ⟨_,rfl,k1,hcol j,hF⟩,zav q14 hF (fun h=>by
       rcases h with h | h
       ·omega
       rw[zbn (by omega)] at h;omega)⟩)
    rw[← Hqq.out] at hK
    have hwtx:zc4 l.1 (l.2.map wtx) x=zc4 ln (zam ws 0) x:=by rw[hln0,hws];rfl
    have hcb:lb+4=w7.heap.size:=hs7.symm
    have J1:=Lib.hid j1
    have J2:=Lib.hid j2
    have J3:=Lib.hid j3
    have hgl:g+2 < lb:=by have:=Hs3.out;omega
    have Hfin:=Lib.hid hfin
    clear j1 j2 j3 c0 c1 hfin0 hfin
    obtain⟨HI,Hsm,Hgo,Hl,Hln0,Hl1,Hne,H40,Hgood,Hdr,Hws,Hwd,Hn2,Hz2,Hy,Hgy⟩:=hd16 hI hsm hgo hl hln0 hl1 hne h40 hgood hdr hws hwd hn2 hz2 hy hgy;obtain⟨Hyc,Hyt,Hm,Hb5,Hs5,Hp10,Hb35,Hb6,Hs6,Hp11,Hp10a,Hb7,Hs7,Hp12,Hp13,Hb8⟩:=hd16 hyc hyt hm hb5 hs5 p10 hb35 hb6 hs6 p11 p10a hb7 hs7 p12 p13 hb8;obtain⟨Hbo8,Hb38,Hb37,Hq10,Hq12,Hq13,Hq14,Hst8,HC,HS,HC,Hcol,HK,Hwtx,Htn,Hw8⟩:=hd16 hbo8 hb38 hb37 q10 q12 q13 q14 hst8 C S hC hcol hK hwtx htn hw8;obtain⟨Hz3,Hcb,He13,He10⟩:=hd4 hz3 hcb e13 e10;clear hI hsm hgo hl hln0 hl1 hne h40 hgood hdr hws hwd hn2 hz2 hy hgy hyc hyt hm hb5 hs5 p10 hb35 hb6 hs6 p11 p10a hb7 hs7 p12 p13 hb8 hbo8 hb38 hb37 q10 q12 q13 q14 hst8 C S hC hcol hK hwtx htn hw8 hz3 hcb e13 e10
    clear d2 d3
    have K5:(0:Int)≤(k:Int):=by omega
    have K6:(k:Int) < (n:Int):=by omega
    go_upto_region 8 with (fail)
    rw[← hw5,← hlb]
    have Hlb:=Lib.hid hlb
    clear hw5 d0 d1 hlb
    have j1:=J1.out
    have j2:=J2.out
    have j3:=J3.out
    go_upto_region 9 with (fail)
    rw[← hw6]
    clear hw6 j1 j2 j3 y0 y1 d4 d5
    rw[Hs5.out]
    go_upto_region 10 with (fail)
    rw[Hs6.out,← Hfin.out,← hw7,show lb+2+1=lb+3 from rfl]
    clear hw7 z0 z1 z2 z3
    go_wp2_with fail
    refine HK.out.mono ?_
    rintro e w9 (⟨w1,hA,rfl,rfl⟩ | ⟨c,w1,hB,rfl,rfl⟩)
    ·obtain⟨y2,t2,vp2,vf2,hyl,hst,htk,hF⟩:=hA
     rw[Hqq.out] at hst
     have htc:t2 w7.heap.size=10:=by
      have e:zac t1 wo.heap.size 10 w7.heap.size=10:=zbn (by have:=Hcb.out;have:=Hlb.out;omega)
      rw[htk _ (Array.getElem?_eq_some_iff.1 Hq14.out).1 (by rw[e];omega),e]
     have hcb9:=zav Hq14.out hF (fun h=>by
      rcases h with h | h
      ·have:=Hcb.out;have:=Hlb.out;omega
      rw[zbn (by have:=Hcb.out;have:=Hlb.out;omega)] at h;omega)
     obtain⟨w9,hw9⟩ : ∃ W,W=w1.setCell ⟨w7.heap.size,0,none⟩ (.int .i64 0):=⟨_,rfl⟩
     have hF2:Frm (fun k=>k=w7.heap.size) w1 w9:=by rw[hw9];exact zae (Frm.refl _ _) 0 _
     have hst9:RcSt w9 t2 w3.heap.size w3.heap.size vp2 vf2 y2:=hst.to hF2 (fun z _ e=>by subst e;exact⟨by omega,zb3 hcb9 (by decide)⟩) (fun _ _ _=>rfl)
     have hlow9:∀ z,z < w3.heap.size→t2 z=10:=fun z hz=>by
      have e:=Htn.out z hz
      rw[htk z (Nat.lt_of_lt_of_le hz Hb38.out.size) (by rw[e];omega),e]
     have hF3:Frm (fun z=>(z=lb+2∨zac t1 wo.heap.size 10 z≤9)∨z=w7.heap.size) w8 w9:=(hF.mono fun _ _ h=>.inl h).trans hF2 fun _ _ h=>.inr h
     have hb9:Below w3.heap.size w3 w9:=Hb38.out.trans (hF3.below Hb38.out.size (by
      intro z hz
      apply Nat.le_of_not_lt
      intro hlt
      have e:=Htn.out z hlt
      have:=Hcb.out
      have:=Hlb.out
      have:=Hz3.out
      rcases hz with (hz | hz) | hz <;> omega))
     rw[← hw9]
     clear hw9
     obtain⟨Hyl,Hst,Htk,HF,Htc,Hcb9,HF2,Hst9,Hlow9,HF3,Hb9⟩:=hd11 hyl hst htk hF htc hcb9 hF2 hst9 hlow9 hF3 hb9;clear hyl hst htk hF htc hcb9 hF2 hst9 hlow9 hF3 hb9
     go_wp2_with fail
     go_roundw
     case rel =>
      exact⟨k+1,t2,vp2,vf2,y2,by omega,by go_num,⟨Hst9.out,Hlow9.out,Hb9.out⟩,zqz Hsm.out Hyl.out,by rw[Hgo.out,goL_on (Hwtx.out.trans Hyl.out)]⟩
     case measure=>simp[RowKit.intOf];omega
    obtain⟨hyl,hc0,hF⟩:=hB
    have hcb9:=zav Hq14.out hF (fun h=>by
     rcases h with h | h
     ·have:=Hcb.out;have:=Hlb.out;omega
     rw[zbn (by have:=Hcb.out;have:=Hlb.out;omega)] at h;omega)
    have hcl:=zav Hq10.out hF (fun h=>by
     rcases h with h | h
     ·omega
     rw[zbn (by have:=Hlb.out;omega)] at h;omega)
    have hbw:Below w3.heap.size w3 w1:=Hb38.out.trans (hF.below Hb38.out.size (by
     intro z hz
     apply Nat.le_of_not_lt
     intro hlt
     have e:=Htn.out z hlt
     have:=Hz3.out
     have:=Hlb.out
     rcases hz with hz | hz <;> omega))
    obtain⟨w9,hw9⟩ : ∃ W,W=(w1.alloc (.cells #[.int .i64 c] 120)).setCell ⟨w7.heap.size,0,none⟩ (.int .i64 c):=⟨_,rfl⟩
    have hb9:Below w3.heap.size w3 w9:=by
     rw[hw9]
     refine (hbw.alloc hbw.size _).setCell ?_ _
     show w3.heap.size≤w7.heap.size
     have:=Hcb.out
     have:=Hlb.out
     have:=Hz3.out
     omega
    have hcl9:w9.heap[lb]? = some (.cells #[.int .i64 ln,.slice (some ⟨b2,off2,none⟩) n2 c2] 79 (0,0)):=by
     rw[hw9]
     exact za5 (za1 (za2 _ _) hcl) (by have:=Hcb.out;have:=Hlb.out;omega)
    have z0:=za1 hb9 Hp0'.out
    have z1:=za1 hb9 Hp1'.out
    have hb39:=Hb3.out.trans (hb9.mono Hb3.out.size)
    have t0:=za0 hcl9 0
    simp only[List.getElem?_toArray,List.getElem?_cons_zero,List.getElem?_cons_succ] at t0
    obtain⟨_,_,f0,f00⟩:=zjk z0
    obtain⟨_,_,f1,f2⟩:=zjf z1
    have hne1:¬ lb=g:=by omega
    have hne2:¬ lb=g+1:=by omega
    have hne:(c != 0)=true:=by simpa using hc0
    rw[← hw9]
    clear hw9
    obtain⟨Hyl,Hc0,HF,Hcb9,Hcl,Hbw,Hb9,Hcl9,Hz0,Hz1,Hb39⟩:=hd11 hyl hc0 hF hcb9 hcl hbw hb9 hcl9 z0 z1 hb39;clear hyl hc0 hF hcb9 hcl hbw hb9 hcl9 z0 z1 hb39
    go_wp2_with fail
    go_region
    go_wp2_with fail
    have x0:=za5 (b:=g+1) (i:=1) (u:=.int .i64 c) (za5 (b:=g+1) (i:=0) (u:=.int .i64 ln) (heap_setCell_same _ g 1 _ _ (.slice none 0 0) (heap_setCell_same w9 g 0 _ _ (.slice none 0 0) Hz0.out)) (by omega)) (by omega)
    have x1:=heap_setCell_same _ (g+1) 1 _ _ (.int .i64 c) (heap_setCell_same _ (g+1) 0 _ _ (.int .i64 ln) (za5 (b:=g) (i:=1) (u:=.slice none 0 0) (za5 (b:=g) (i:=0) (u:=.slice none 0 0) Hz1.out (by omega)) (by omega)))
    refine bodyPost_ret (zhx (g:=g) (k:=g+1) rfl rfl rfl rfl x0 x1 Tryz.underlying25 rfl (by kernel_rfl) Tryz.underlying31 rfl (by kernel_rfl)) rfl ?_
    exact⟨_,_,_,_,_,_,_,_,_,rfl,.inr ⟨by rw[Hgo.out,goL_off (Hwtx.out.trans Hyl.out)],by decide⟩,Below.drew ((((Hb39.out.setCell (p:=⟨g,0,none⟩) hwg _).setCell (p:=⟨g,1,none⟩) hwg _).setCell (p:=⟨g+1,0,none⟩) (by show w.heap.size≤g+1;omega) _).setCell (p:=⟨g+1,1,none⟩) (by show w.heap.size≤g+1;omega) _)⟩
   obtain rfl:k=n:=by omega
   have hd:ls.drop k = []:=List.drop_eq_nil_of_le (Nat.le_of_eq Hn.out.symm)
   rw[hd] at hgo
   have z0:=za1 hI.bel Hp0'.out
   have z1:=za1 hI.bel Hp1'.out
   obtain⟨au,cu,bu,du,rfl,rfl⟩:=pf_shape hI.st
   obtain⟨m1,hm1⟩ : ∃ m,m=x.pk.length:=⟨_,rfl⟩
   obtain⟨m2,hm2⟩ : ∃ m,m=x.pf.length:=⟨_,rfl⟩
   rw[← hm1,← hm2] at hI
   have hbx:=hI.st.box
   rw[← Hqq.out] at hbx
   obtain⟨qc,qd,-,-⟩:=zjk hbx
   obtain⟨_,_,f0,f00⟩:=zjk z0
   obtain⟨_,_,f1,f2⟩:=zjf z1
   have hb3o:=Hb3.out.trans (hI.bel.mono Hb3.out.size)
   have hg3:g+1 < w3.heap.size:=by have:=Hs3.out;omega
   obtain⟨HI,Hgo,Hsm,Hz0,Hz1,Hb3o,Hd,Hbx,Hm1,Hm2⟩:=hd10 hI hgo hsm z0 z1 hb3o hd hbx hm1 hm2;clear hI hgo hsm z0 z1 hb3o hd hbx hm1 hm2
   go_wp2_with fail
   have x0:=za5 (b:=g+1) (i:=1) (u:=.int .i64 0) (za5 (b:=g+1) (i:=0) (u:=.int .i64 0) (heap_setCell_same _ g 1 _ _ (.slice bu m2 du) (heap_setCell_same wo g 0 _ _ (.slice au m1 cu) Hz0.out)) (by omega)) (by omega)
   have x1:=heap_setCell_same _ (g+1) 1 _ _ (.int .i64 0) (heap_setCell_same _ (g+1) 0 _ _ (.int .i64 0) (za5 (b:=g) (i:=1) (u:=.slice bu m2 du) (za5 (b:=g) (i:=0) (u:=.slice au m1 cu) Hz1.out (by omega)) (by omega)))
   have hT:Frm (fun z=>z=g∨z=g+1) wo ((((wo.setCell ⟨g,0,none⟩ (.slice au m1 cu)).setCell ⟨g,1,none⟩ (.slice bu m2 du)).setCell ⟨g+1,0,none⟩ (.int .i64 0)).setCell ⟨g+1,1,none⟩ (.int .i64 0)) :=
    ((((Frm.refl _ wo).setCell (p:=⟨g,0,none⟩) (.inr (.inl rfl)) _).setCell (p:=⟨g,1,none⟩) (.inr (.inl rfl)) _).setCell (p:=⟨g+1,0,none⟩) (.inr (.inr rfl)) _).setCell (p:=⟨g+1,1,none⟩) (.inr (.inr rfl)) _
   have hst:=HI.out.st.to (t':=t1) hT (fun z _ hz=>by
    rcases hz with rfl | rfl
    ·exact⟨by rw[HI.out.low _ (by omega)];omega,zb3 Hz0.out (by decide)⟩
    exact⟨by rw[HI.out.low _ (by omega)];omega,zb3 Hz1.out (by decide)⟩) (fun _ _ _=>rfl)
   refine bodyPost_ret (zhx (g:=g) (k:=g+1) rfl rfl rfl rfl x0 x1 Tryz.underlying25 rfl (by kernel_rfl) Tryz.underlying31 rfl (by kernel_rfl)) rfl ?_
   exact⟨_,_,_,_,_,_,_,_,_,rfl,.inl ⟨x,by rw[Hgo.out];rfl,rfl,hst.reads⟩,(((Hb3o.out.setCell (p:=⟨g,0,none⟩) hwg _).setCell (p:=⟨g,1,none⟩) hwg _).setCell (p:=⟨g+1,0,none⟩) (by show w.heap.size≤g+1;omega) _).setCell (p:=⟨g+1,1,none⟩) (by show w.heap.size≤g+1;omega) _⟩
 have k1:(er != 0)=true:=by simpa using he
 have hq:=Hreq.out
 rw[if_neg he] at hq
 obtain⟨Hln,Hb2,Hb23,Hb13,Hb3,Hp6,Hp0',Hp1',Hln3,Hn,Hq⟩:=hd11 hln hb2 hb23 hb13 hb3 p6 p0' p1' hln3 hn hq;clear hln hb2 hb23 hb13 hb3 p6 p0' p1' hln3 hn hq
 go_upto_region 2 with (fail)
 rw[← hw3]
 clear hw3
 go_wp2_with fail
 go_region
 go_wp2_with fail
 have x0:=za5 (b:=g+1) (i:=1) (u:=.int .i64 a2) (za5 (b:=g+1) (i:=0) (u:=.int .i64 a1) (heap_setCell_same _ g 1 _ _ (.slice none 0 0) (heap_setCell_same w3 g 0 _ _ (.slice none 0 0) Hp0'.out)) (by omega)) (by omega)
 have x1:=heap_setCell_same _ (g+1) 1 _ _ (.int .i64 a2) (heap_setCell_same _ (g+1) 0 _ _ (.int .i64 a1) (za5 (b:=g) (i:=1) (u:=.slice none 0 0) (za5 (b:=g) (i:=0) (u:=.slice none 0 0) Hp1'.out (by omega)) (by omega)))
 refine bodyPost_ret (zhx (g:=g) (k:=g+1) rfl rfl rfl rfl x0 x1 Tryz.underlying25 rfl (by kernel_rfl) Tryz.underlying31 rfl (by kernel_rfl)) rfl ?_
 exact⟨_,_,_,_,_,_,_,_,_,rfl,.inr ⟨Hq.out,he⟩,Below.drew ((((Hb3.out.setCell (p:=⟨g,0,none⟩) hwg _).setCell (p:=⟨g,1,none⟩) hwg _).setCell (p:=⟨g+1,0,none⟩) (by show w.heap.size≤g+1;omega) _).setCell (p:=⟨g+1,1,none⟩) (by show w.heap.size≤g+1;omega) _)⟩
end

section
open Go.RowKit Go.Shelf Go.Lib VerN VarM
attribute [local go_sem ↓] Go.wp_at_zero Go.wp_at_succ
theorem flat_at {α β:Type} {f:α→List β} {l:List α} {r:List β} {k j:Nat} {y:β} (hk:k < l.length) (hj:(f l[k])[j]? = some y):(l.flatMap f ++ r)[((l.take k).flatMap f).length+j]? = some y:=by
 have e:l=l.take k ++ l[k] :: l.drop (k+1):=by rw[← List.drop_eq_getElem_cons hk,List.take_append_drop]
 have e2:l.flatMap f=(l.take k).flatMap f ++ (f l[k] ++ (l.drop (k+1)).flatMap f):=by
  have h:=congrArg (List.flatMap f) e
  rw[List.flatMap_append,List.flatMap_cons] at h
  exact h
 have hl:=(List.getElem?_eq_some_iff.1 hj).1
 rw[e2,List.append_assoc,List.getElem?_append_right (by omega),Nat.add_sub_cancel_left,List.append_assoc,List.getElem?_append_left hl]
 exact hj
theorem flat_next {α β:Type} {f:α→List β} {l:List α} {k:Nat} (hk:k < l.length):((l.take (k+1)).flatMap f).length=((l.take k).flatMap f).length+(f l[k]).length:=by
 rw[List.take_succ_eq_append_getElem hk,List.flatMap_append,List.length_append]
 simp
theorem rc_pref {star:Spc3→Bool} {x:RcpM} {k:Nat} (h:k < x.pf.length):(rcLs star x)[(x.pk.flatMap (pkLs star)).length+k]? = some (false,zj2 x.pf[k]):=by
 unfold rcLs
 rw[List.getElem?_append_right (by omega),Nat.add_sub_cancel_left,List.getElem?_map,List.getElem?_eq_getElem h]
 rfl
theorem txT_nil {L:List Tln} (h:txT L = []):L = []:=by
 cases L with
 | nil=>rfl
 | cons x L =>
  exfalso
  have e:txT (x :: L)=lnT x ++ txT L:=rfl
  rw[e] at h
  have h1:=(List.append_eq_nil_iff.1 h).1
  unfold lnT at h1
  simp at h1
set_option linter.unusedVariables false in
theorem zj1 {w:World} {x:RcpM} {a1 a2:Option Addr} {n1 n2 c1 c2:Nat} (h:zi1 w (.slice a1 n1 c1) (.slice a2 n2 c2) x) (hsp:SpR x) (htot:(txT (rcLs zdv x)).length≤4398046511104) (hD:zbl w) :
  Calls Tryz.prog 8 #[.agg #[.slice a1 n1 c1,.slice a2 n2 c2]] w fun e w'=>e = .returned (.tuple #[.string (rcR zdv x).1,.bool (rcR zdv x).2])∧Below w.heap.size w w':=by
 obtain⟨g,hg⟩ : ∃ g,g=w.heap.size:=⟨_,rfl⟩
 obtain⟨w0,hw0⟩ : ∃ W,W=w.alloc (.cells #[.slice a1 n1 c1,.slice a2 n2 c2] 25):=⟨_,rfl⟩
 have hs0:w0.heap.size=g+1:=by rw[hw0,hg];simp
 have hb0:Below w.heap.size w w0:=by rw[hw0];exact za2 _ _
 have p0:w0.heap[g]? = some (.cells #[.slice a1 n1 c1,.slice a2 n2 c2] 25 (0,0)):=by rw[hw0,hg];exact heap_alloc_new _ _
 obtain⟨w1,hw1⟩ : ∃ W,W=w0.alloc (.cells #[.pointer none,.slice none 0 0] 61):=⟨_,rfl⟩
 have hb1:Below w0.heap.size w0 w1:=by rw[hw1];exact za2 _ _
 obtain⟨L,hL⟩ : ∃ L,L=rcLs zdv x:=⟨_,rfl⟩
 have hS1:PkT w0 w1 (g+1) L 0 w1:=⟨by rw[hw1,List.take_zero,← hs0];exact BT.bld_new w0,hb1,BT.keep_refl _⟩
 have hnew:w1.heap[g+1]? = some (.cells #[.pointer none,.slice none 0 0] 61 (0,0)):=by rw[hw1,← hs0];exact heap_alloc_new _ _
 have hpk:zal 8 RPkM w0 [.slice a1 n1 c1] x.pk:=za3 zgb _ _ _ _ h.1 hb0
 have hpf:zal 3 RPfM w0 [.slice a2 n2 c2] x.pf:=za3 zeq _ _ _ _ h.2 hb0
 obtain⟨_,_,e1,hz1,hat1⟩:=zsg hpk
 obtain⟨_,_,e2,hz2,hat2⟩:=zsh hpf
 obtain⟨rfl,hn1,rfl⟩:=Value.slice.inj e1
 obtain⟨rfl,hn2,rfl⟩:=Value.slice.inj e2
 clear e1 e2
 rw[← hn1] at hz1
 rw[← hn2] at hz2
 have hgw:w.heap.size≤g+1:=by omega
 rw[← hL] at htot
 have x0:=za0 p0 0
 have x1:=za0 p0 1
 simp only[List.getElem?_toArray,List.getElem?_cons_zero,List.getElem?_cons_succ] at x0 x1
 have x1:=cell_later hb1 x1
 have x0':=cell_later hb1 x0
 have hRes:∃ q,q=rcR zdv x:=⟨_,rfl⟩
 obtain⟨res,hres⟩:=hRes
 rw[← hres]
 obtain⟨Hh,Hsp,Htot,HD,Hb0,Hp0,HS1,Hnew,Hpk,Hpf,Hat1,Hat2,Hn1,Hn2,Hs0,Hb1⟩:=hd16 h hsp htot hD hb0 p0 hS1 hnew hpk hpf hat1 hat2 hn1 hn2 hs0 hb1;obtain⟨HL,Hz1,Hz2,Hres⟩:=hd4 hL hz1 hz2 hres;clear h hsp htot hD hb0 p0 hS1 hnew hpk hpf hat1 hat2 hn1 hn2 hs0 hb1 hL hz1 hz2 hres
 go_enter Tryz.func8,Tryz.ntmps8
 go_upto_region 1 with (fail)
 rw[← hw0,← hg]
 clear hw0 hg
 go_upto_region 2 with (fail)
 rw[← hw1,Hs0.out]
 clear hw1 x0
 go_wp2_with fail
 go_loopw [16] (fun i wr=>∃ k:Nat,k≤n1∧i = .int .i64 k∧PkT w0 w1 (g+1) L ((x.pk.take k).flatMap (pkLs zdv)).length wr∧(k=0→wr.heap[g+1]? = some (.cells #[.pointer none,.slice none 0 0] 61 (0,0)))) (fun i _=>n1 - (RowKit.intOf i).toNat)
 case atStart=>exact⟨0,Nat.zero_le _,rfl,HS1.out,fun _=>Hnew.out⟩
 case round =>
  obtain⟨k,hk,rfl,hS,hfr⟩:=hrel
  by_cases hlt:k < n1
  ·have hkl:k < x.pk.length:=by have:=Hn1.out;omega
   obtain⟨p,hp⟩ : ∃ p,p=x.pk[k]:=⟨_,rfl⟩
   obtain⟨b,off,b2,c2',b3,c3,b4,c4,b5,c5,b6,c6,b7,c7,rfl,d0,d1,d2,d3,d4,d5,d6,d7,hR⟩:=Hat1.out k p (by rw[hp];exact List.getElem?_eq_getElem hkl)
   have d0:=cell_later hS.bel d0
   have d1:=cell_later hS.bel d1
   have d2:=cell_later hS.bel d2
   have d3:=cell_later hS.bel d3
   have d4:=cell_later hS.bel d4
   have d5:=cell_later hS.bel d5
   have d6:=cell_later hS.bel d6
   have d7:=cell_later hS.bel d7
   obtain⟨m2,hm2⟩ : ∃ z,z=p.rel.length:=⟨_,rfl⟩
   obtain⟨m3,hm3⟩ : ∃ z,z=p.vars.length:=⟨_,rfl⟩
   obtain⟨m4,hm4⟩ : ∃ z,z=p.prov.length:=⟨_,rfl⟩
   obtain⟨m5,hm5⟩ : ∃ z,z=p.dep.length:=⟨_,rfl⟩
   obtain⟨m6,hm6⟩ : ∃ z,z=p.conf.length:=⟨_,rfl⟩
   obtain⟨m7,hm7⟩ : ∃ z,z=p.files.length:=⟨_,rfl⟩
   obtain⟨nm,hnm⟩ : ∃ z,p.name=z:=⟨_,rfl⟩
   obtain⟨li,hli⟩ : ∃ z,p.line=z:=⟨_,rfl⟩
   rw[← hm2] at d2 hR
   rw[← hm3] at d3 hR
   rw[← hm4] at d4 hR
   rw[← hm5] at d5 hR
   rw[← hm6] at d6 hR
   rw[← hm7] at d7 hR
   rw[hnm] at d0
   rw[hli] at d1
   obtain⟨wa,hwa⟩ : ∃ W,W=wr.alloc (.cells #[.string nm,.int .i64 li,.slice b2 m2 c2',.slice b3 m3 c3,.slice b4 m4 c4,.slice b5 m5 c5,.slice b6 m6 c6,.slice b7 m7 c7] 45):=⟨_,rfl⟩
   obtain⟨za,hza⟩ : ∃ z,z=wr.heap.size:=⟨_,rfl⟩
   have hba:Below wr.heap.size wr wa:=by rw[hwa];exact za2 _ _
   have pa:wa.heap[za]? = some (.cells #[.string nm,.int .i64 li,.slice b2 m2 c2',.slice b3 m3 c3,.slice b4 m4 c4,.slice b5 m5 c5,.slice b6 m6 c6,.slice b7 m7 c7] 45 (0,0)):=by rw[hwa,hza];exact heap_alloc_new _ _
   have y0:=za0 pa 0
   have y1:=za0 pa 1
   have y2:=za0 pa 2
   have y3:=za0 pa 3
   have y4:=za0 pa 4
   have y5:=za0 pa 5
   have y6:=za0 pa 6
   have y7:=za0 pa 7
   simp only[List.getElem?_toArray,List.getElem?_cons_zero,List.getElem?_cons_succ] at y0 y1 y2 y3 y4 y5 y6 y7
   have hP:=pack_any (hS.to hba) (li:=li) hnm hR (Hsp.out p (by rw[hp];exact List.getElem_mem hkl)) (fun j y hj=>by rw[HL.out];exact flat_at hkl (by rw[← hp];exact hj)) Htot.out (HD.out.below Hb0.out)
   rw[hp,← flat_next hkl] at hP
   have k5:(0:Int)≤(k:Int):=by omega
   have k6:(k:Int) < (n1:Int):=by omega
   have hkz:k < 9223372036854775807:=by have:=Hz1.out;omega
   obtain⟨HS,Hfr,Hp,HR,Hm2,Hm3,Hm4,Hm5,Hm6,Hm7,Hnm,Hli,Hba,Hpa,HP⟩:=hd15 hS hfr hp hR hm2 hm3 hm4 hm5 hm6 hm7 hnm hli hba pa hP;clear hS hfr hp hR hm2 hm3 hm4 hm5 hm6 hm7 hnm hli hba pa hP
   go_upto_region 5 with (fail)
   rw[← hwa,← hza]
   clear hwa hza d0 d1 d2 d3 d4 d5 d6 d7
   go_wp2_with fail
   refine HP.out.mono ?_
   rintro e wz ⟨rfl,hSz⟩
   have HSz:=hd hSz;clear hSz
   go_wp2_with fail
   go_roundw
   case rel=>exact⟨k+1,by omega,by go_num,HSz.out,fun h=>by omega⟩
   case measure=>simp[RowKit.intOf];omega
  obtain rfl:n1=k:=by omega
  have hall:x.pk.take n1=x.pk:=List.take_of_length_le (Nat.le_of_eq Hn1.out.symm)
  rw[hall] at hS
  have x1:=za0 (za1 hS.bel Hp0.out) 1
  simp only[List.getElem?_toArray,List.getElem?_cons_zero,List.getElem?_cons_succ] at x1
  obtain⟨M,hM⟩ : ∃ M,M=(x.pk.flatMap (pkLs zdv)).length:=⟨_,rfl⟩
  rw[← hM] at hS
  obtain⟨wm,hwm⟩ : ∃ W,W=wr:=⟨_,rfl⟩
  rw[← hwm] at hS hfr x1 ⊢
  clear hwm
  clear hlt hk
  obtain⟨HS,Hfr,Hall,HM⟩:=hd4 hS hfr hall hM;clear hS hfr hall hM
  go_wp2_with fail
  clear x1
  go_loopw [26] (fun i wr=>∃ k:Nat,k≤n2∧i = .int .i64 k∧PkT w0 w1 (g+1) L (M+k) wr∧(n1=0→k=0→wr.heap[g+1]? = some (.cells #[.pointer none,.slice none 0 0] 61 (0,0)))) (fun i _=>n2 - (RowKit.intOf i).toNat)
  case atStart=>exact⟨0,Nat.zero_le _,rfl,HS.out,fun h _=>Hfr.out h⟩
  case round =>
   obtain⟨k,hk,rfl,hS,hfr⟩:=hrel
   by_cases hlt:k < n2
   ·have hkl:k < x.pf.length:=by have:=Hn2.out;omega
    obtain⟨q,hq⟩ : ∃ q,q=x.pf[k]:=⟨_,rfl⟩
    obtain⟨b,off,e1,g1,rfl,d0,d1,d2,hT⟩:=Hat2.out k q (by rw[hq];exact List.getElem?_eq_getElem hkl)
    have d0:=cell_later hS.bel d0
    have d1:=cell_later hS.bel d1
    have d2:=cell_later hS.bel d2
    have hT:=zak hT hS.bel
    have hat:L[M+k]? = some (false,zj2 q):=by rw[HL.out,HM.out,hq];exact rc_pref hkl
    obtain⟨v,l,lk⟩:=q
    dsimp only at d0 d1 d2 hT hat
    obtain⟨nl,hnl⟩ : ∃ n,n=l.length:=⟨_,rfl⟩
    rw[← hnl] at d1 hT
    have hln4:nl≤4398046511104:=by
     have h1:(zj2 (v,l,lk)).length≤(txT L).length+1:=zru hat
     have h2:(zj2 (v,l,lk)).length=l.length+2:=rfl
     have:=Htot.out
     omega
    obtain⟨wa,hwa⟩ : ∃ W,W=wr.alloc (.cells #[.string v,.slice e1 nl g1,.int .i64 lk] 47):=⟨_,rfl⟩
    obtain⟨za,hza⟩ : ∃ z,z=wr.heap.size:=⟨_,rfl⟩
    have hba:Below wr.heap.size wr wa:=by rw[hwa];exact za2 _ _
    have pa:wa.heap[za]? = some (.cells #[.string v,.slice e1 nl g1,.int .i64 lk] 47 (0,0)):=by rw[hwa,hza];exact heap_alloc_new _ _
    have y0:=za0 pa 0
    have y1:=za0 pa 1
    simp only[List.getElem?_toArray,List.getElem?_cons_zero,List.getElem?_cons_succ] at y0 y1
    have hbel:=hba.trans ((za2 wa (.cells #[.string ⟨#[112,114,101,102,101,114]⟩,.string v] 9)).mono hba.size)
    have hown:(wa.alloc (.cells #[.string ⟨#[112,114,101,102,101,114]⟩,.string v] 9)).ownsRow wr.heap.size 9 1 (.slice (some ⟨wa.heap.size,0,none⟩) 2 2) 2 [.string ⟨#[112,114,101,102,101,114]⟩,.string v]:=World.ownsRow_lit _ _ 2 hba.size (by unfold maxLen;omega) (by simp)
    have hbz:wr.heap.size≤(wa.alloc (.cells #[.string ⟨#[112,114,101,102,101,114]⟩,.string v] 9)).heap.size:=hbel.size
    have hnw:=zek (zak hT hbel)
    have y1':=cell_later (za2 wa (.cells #[.string ⟨#[112,114,101,102,101,114]⟩,.string v] 9)) y1
    have k5:(0:Int)≤(k:Int):=by omega
    have k6:(k:Int) < (n2:Int):=by omega
    have hkz:k < 9223372036854775807:=by have:=Hz2.out;omega
    obtain⟨HS,Hfr,Hq,HT,Hat,Hnl,Hba,Hpa,Hbel,Hown,Hbz,Hnw⟩:=hd12 hS hfr hq hT hat hnl hba pa hbel hown hbz hnw;clear hS hfr hq hT hat hnl hba pa hbel hown hbz hnw
    go_upto_region 10 with (fail)
    rw[← hwa,← hza]
    clear hwa hza d0 d1 d2
    go_wp2_with (at_builtin;(refine zbm zdt rfl (.tmp 32) (.tmp 34) rfl wr.heap.size (.slice (some ⟨wa.heap.size,0,none⟩) 2 2) 2 [.string ⟨#[112,114,101,102,101,114]⟩,.string v] rfl Hown.out e1 nl g1 (l.map Value.string) rfl (by rw[List.length_map,Nat.mul_one];exact Hnw.out.1.symm) Hnw.out.2 (by simp[Value.oneCell']) (by omega) (by unfold maxLen;omega) Hbz.out ?_;intro v9 w9 hown9 hg9 hm9;obtain⟨a9,c9,rfl⟩:=zaa hown9;have hb9:=(zch Hbel.out Hown.out (Nat.le_refl _) hg9 Hbz.out:Below wr.heap.size wr w9);obtain⟨Hown9,Hb9⟩:=hd2 hown9 hb9;clear hown9 hg9 hm9 hb9))
    refine (HS.out.line Hb9.out (l:=zco :: v :: l) (by first | exact Hown9.out | simpa using Hown9.out) (by simp) Hat.out (zp7 (zco :: v :: l)) Htot.out).mono ?_
    rintro e wz ⟨rfl,hSz⟩
    have HSz:=hd hSz;clear hSz
    go_wp2_with fail
    go_roundw
    case rel=>exact⟨k+1,by omega,by go_num,HSz.out,fun _ h=>by omega⟩
    case measure=>simp[RowKit.intOf];omega
   obtain rfl:n2=k:=by omega
   have hlen:L.length=M+n2:=by rw[HL.out,HM.out,Hn2.out];unfold rcLs;rw[List.length_append,List.length_map]
   have hld:=hS.bld
   rw[List.take_of_length_le (by omega)] at hld
   obtain⟨s,hs⟩ : ∃ s,s=rcT zdv x:=⟨_,rfl⟩
   have hsd:s=⟨(txT L).toArray⟩:=by rw[hs,HL.out];rfl
   have hStr:Calls Tryz.prog 18 #[.pointer (some ⟨g+1,0,none⟩)] wr fun e w'=>e = .returned (.string s)∧Below (g+1) wr w':=by
    by_cases h0:txT L = []
    ·have hL0:=txT_nil h0
     rw[hL0,List.length_nil] at hlen
     have hM0:M=0:=by omega
     have hN0:n2=0:=by omega
     have hn10:n1=0:=by
      rw[Hn1.out]
      have h1:=HM.out
      rw[hM0] at h1
      cases hq:x.pk with
      | nil=>rfl
      | cons p r =>
       rw[hq,List.flatMap_cons,List.length_append,pk_len] at h1
       omega
     refine (BT.bld_empty wr (hfr hn10 hN0)).mono fun e w' hh=>⟨by rw[hh.1,hsd,h0],hh.2.mono ?_⟩
     have:=(Array.getElem?_eq_some_iff.1 (hfr hn10 hN0)).1
     omega
    refine (BT.bld_done hld h0).mono fun e w' hh=>⟨by rw[hh.1,hsd],?_⟩
    rw[← Hs0.out]
    exact hh.2
   obtain⟨wm2,hwm⟩ : ∃ W,W=wr:=⟨_,rfl⟩
   rw[← hwm] at hS hStr ⊢
   clear hwm
   have hsz:s.size≤4398046511104:=by
    rw[hsd]
    show (txT L).toArray.size≤_
    rw[List.size_toArray]
    exact Htot.out
   clear hlt hk
   obtain⟨HS,Hfr,Hlen,Hld,Hs,Hsd,HStr⟩:=hd7 hS hfr hlen hld hs hsd hStr;clear hS hfr hlen hld hs hsd hStr
   go_wp2_with fail
   refine HStr.out.mono ?_
   rintro e w3 ⟨rfl,hb3⟩
   have hb03:Below w0.heap.size w0 w3:=HS.out.bel.trans (by rw[Hs0.out];exact hb3)
   have hbw3:=Hb0.out.trans (hb03.mono Hb0.out.size)
   have hP:=ztt s (by omega) (HD.out.below hbw3)
   have e2:zqg s.data.toList=zqg (txT (rcLs zdv x)):=by rw[Hsd.out,← HL.out]
   rw[e2] at hP
   unfold RcpPost at hP
   obtain⟨Hb3,Hb03,Hbw3,HP,He2⟩:=hd5 hb3 hb03 hbw3 hP e2;clear hb3 hb03 hbw3 hP e2
   go_wp2_with fail
   refine HP.out.mono ?_
   rintro e w4 ⟨a3,n3,c3,a4,n4,c4,x1,x2,er,rfl,hc,hb4⟩
   obtain⟨w5,hw5⟩ : ∃ W,W=(w4.alloc (.cells #[.slice a3 n3 c3,.slice a4 n4 c4] 25)).alloc (.cells #[.int .i64 x1,.int .i64 x2] 31):=⟨_,rfl⟩
   obtain⟨zy,hzy⟩ : ∃ z,z=w4.heap.size:=⟨_,rfl⟩
   have hb45:Below w4.heap.size w4 w5:=by rw[hw5];exact (za2 _ _).alloc (by simp) _
   have py:w5.heap[zy]? = some (.cells #[.slice a3 n3 c3,.slice a4 n4 c4] 25 (0,0)):=by rw[hw5,hzy];exact za1 (za2 _ _) (za9 rfl)
   have hb35:=hb4.trans (hb45.mono hb4.size)
   have hb05:=Hb03.out.trans (hb35.mono Hb03.out.size)
   have hbw5:=Hb0.out.trans (hb05.mono Hb0.out.size)
   have px:=za1 hb05 Hp0.out
   have y0:=za0 py 0
   have y1:=za0 py 1
   have z0:=za0 px 0
   have z1:=za0 px 1
   simp only[List.getElem?_toArray,List.getElem?_cons_zero,List.getElem?_cons_succ] at y0 y1 z0 z1
   go_upto_region 14 with (fail)
   rw[← hw5,← hzy]
   clear hw5 hzy
   rcases hc with⟨y,hy,rfl,hR⟩ | ⟨ho,her⟩
   ·have k1:((0:Int) != 0)=false:=rfl
    have hSm:=zll (w:=w5) (x:=x) (y:=y) ⟨za3 zgb _ _ _ _ Hh.out.1 hbw5,za3 zeq _ _ _ _ Hh.out.2 hbw5⟩ ⟨za3 zgb _ _ _ _ hR.1 hb45,za3 zeq _ _ _ _ hR.2 hb45⟩
    obtain⟨sm,hsm⟩ : ∃ z,z=zfs x y:=⟨_,rfl⟩
    rw[← hsm] at hSm
    obtain⟨Hb45,Hpy,Hb35,Hb05,Hbw5,Hpx,Hy,HR,HSm,Hsm,Hb4⟩:=hd11 hb45 py hb35 hb05 hbw5 px hy hR hSm hsm hb4;clear hb45 py hb35 hb05 hbw5 px hy hR hSm hsm hb4
    go_wp2_with fail
    refine HSm.out.mono ?_
    rintro e w6 ⟨rfl,hb6⟩
    have hbw6:=Hbw5.out.trans (hb6.mono Hbw5.out.size)
    clear y0 y1 z0 z1
    cases sm with
    | true =>
     have hr:res=(s,true):=by
      rw[Hres.out,rcR_yes ⟨y,Hy.out,(zhs.1 Hsm.out.symm).symm⟩,Hs.out]
     obtain⟨Hb6,Hbw6,Hr⟩:=hd3 hb6 hbw6 hr;clear hb6 hbw6 hr
     go_wp2_with fail
     go_ret2
     exact⟨by rw[Hr.out];rfl,Hbw6.out⟩
    | false =>
     have hr:res=(noT,false):=by
      rw[Hres.out,rcR_no]
      rintro⟨y',hy',hb⟩
      have h1:=Hy.out
      rw[hy'] at h1
      cases h1
      have h2:=zhs.2 hb.symm
      rw[← Hsm.out] at h2
      cases h2
     obtain⟨Hb6,Hbw6,Hr⟩:=hd3 hb6 hbw6 hr;clear hb6 hbw6 hr
     go_wp2_with fail
     go_ret2
     exact⟨by rw[Hr.out];rfl,Hbw6.out⟩
   have k1:(er != 0)=true:=by simpa using her
   have hr:res=(noT,false):=by
    rw[Hres.out,rcR_no]
    rintro⟨y',hy',_⟩
    rw[ho] at hy'
    cases hy'
   obtain⟨Hb45,Hpy,Hb35,Hb05,Hbw5,Hpx,Ho,Her,Hb4,Hr⟩:=hd10 hb45 py hb35 hb05 hbw5 px ho her hb4 hr;clear hb45 py hb35 hb05 hbw5 px ho her hb4 hr
   go_wp2_with fail
   go_ret2
   exact⟨by rw[Hr.out];rfl,Hbw5.out⟩
end

section
open Go.RowKit Go.Shelf Go.Lib VerN
def znp (F:List BSp):Prop:=F.length≤30∧∀ z∈F,z.1.size≤100∧z.2.size≤100
theorem zmx {w:World} {v:Value} {F:List BSp} (h:RSps w [v] F):Calls Tryz.prog 63 #[v] w fun e w'=>(∃ r,e = .returned (.bool r)∧(r=false→znp F))∧w=w':=by
 obtain⟨a,cap,hv,hlen,hop⟩:=zc5 h
 have hat:=zrx (by rw[← hv];exact h)
 subst hv
 obtain⟨q,hq⟩ : ∃ q,q=F.length:=⟨_,rfl⟩
 have hsz:=sps_size h
 rw[← hq] at h hlen ⊢
 by_cases h30:30 < q
 ·have kk:decide ((30:Int) < (q:Int))=true:=decide_eq_true (by omega)
  obtain⟨Hh,Hq,Hat,Hop,Hsz⟩:=hd5 h hq hat hop hsz;clear h hq hat hop hsz
  go_enter Tryz.func63,Tryz.ntmps63
  go_wp2_with fail
  go_ret
  exact⟨⟨_,rfl,fun h=>by cases h⟩,rfl⟩
 have kk:decide ((30:Int) < (q:Int))=false:=decide_eq_false (by omega)
 obtain⟨Hh,Hq,Hat,Hop,Hsz⟩:=hd5 h hq hat hop hsz;clear h hq hat hop hsz
 go_enter Tryz.func63,Tryz.ntmps63
 go_wp2_with fail
 go_loopw [9] (fun i wr=>∃ k:Nat,k≤q∧i = .int .i64 k∧(∀ j (hj:j < F.length),j < k→F[j].1.size≤100∧F[j].2.size≤100)∧wr=w) (fun i _=>q - (RowKit.intOf i).toNat)
 case atStart=>exact⟨0,Nat.zero_le _,rfl,(fun _ _ h=>absurd h (Nat.not_lt_zero _)),rfl⟩
 case round =>
  obtain⟨k,hk,rfl,hno,rfl⟩:=hrel
  by_cases hlt:k < q
  ·have hkF:k < F.length:=by have:=Hq.out;omega
   obtain⟨y,hy⟩ : ∃ y,y=F[k]:=⟨_,rfl⟩
   obtain⟨b,off,rfl,c0,c1⟩:=Hat.out k y (by rw[hy];exact List.getElem?_eq_getElem hkF)
   have hys:=Hsz.out y (by rw[hy];exact List.getElem_mem hkF)
   have hnx:y.1.size≤100→y.2.size≤100→∀ j (hj:j < F.length),j < k+1→F[j].1.size≤100∧F[j].2.size≤100:=fun h h' j hj hjk=>by
    by_cases e:j=k
    ·subst e;rw[← hy];exact⟨h,h'⟩
    exact hno j hj (by omega)
   obtain⟨y1,hy1⟩ : ∃ s,s=y.1:=⟨_,rfl⟩
   obtain⟨y2,hy2⟩ : ∃ s,s=y.2:=⟨_,rfl⟩
   rw[← hy1] at c0 hnx hys
   rw[← hy2] at c1 hnx hys
   unfold maxLen at hys
   have k5:(0:Int)≤(k:Int):=by omega
   have k6:(k:Int) < (q:Int):=by omega
   by_cases h1:100 < y1.size
   ·have e1:decide ((100:Int) < (y1.size:Int))=true:=decide_eq_true (by omega)
    obtain⟨Hno,Hy,Hys,Hnx,Hy1,Hy2⟩:=hd6 hno hy hys hnx hy1 hy2;clear hno hy hys hnx hy1 hy2
    go_wp2_with fail
    go_ret
    exact⟨⟨_,rfl,fun h=>by cases h⟩,rfl⟩
   have e1:decide ((100:Int) < (y1.size:Int))=false:=decide_eq_false (by omega)
   by_cases h2:100 < y2.size
   ·have e2:decide ((100:Int) < (y2.size:Int))=true:=decide_eq_true (by omega)
    obtain⟨Hno,Hy,Hys,Hnx,Hy1,Hy2⟩:=hd6 hno hy hys hnx hy1 hy2;clear hno hy hys hnx hy1 hy2
    go_wp2_with fail
    go_ret
    exact⟨⟨_,rfl,fun h=>by cases h⟩,rfl⟩
   have e2:decide ((100:Int) < (y2.size:Int))=false:=decide_eq_false (by omega)
   have hf:=hnx (by omega) (by omega)
   obtain⟨Hno,Hy,Hys,Hnx,Hy1,Hy2,Hf⟩:=hd7 hno hy hys hnx hy1 hy2 hf;clear hno hy hys hnx hy1 hy2 hf
   go_wp2_with fail
   go_roundw
   case rel=>exact⟨k+1,by omega,by go_num,Hf.out,by first | rfl | trivial⟩
   case measure=>(simp[RowKit.intOf]) <;> omega
  obtain rfl:k=q:=by omega
  have hf:znp F:=⟨by have:=Hq.out;omega,fun z hz=>by
   obtain⟨j,hj,rfl⟩:=List.mem_iff_getElem.1 hz
   exact hno j hj (by have:=Hq.out;omega)⟩
  obtain⟨Hno,Hf⟩:=hd2 hno hf;clear hno hf
  go_wp2_with fail
  go_ret
  exact⟨⟨_,rfl,fun _=>Hf.out⟩,rfl⟩
def zd1 (s:Spc3):Prop:=s.1.size≤100∧s.2.2.length≤20∧znp s.2.1∧∀ x∈s.2.2,x.1.size≤100∧x.2.size≤100
theorem zg1 {w:World} {nm:ByteArray} {u v:Value} {sp:List BSp} {l:List Setg} (hsp:RSps w [u] sp) (h:zcj w [v] l):Calls Tryz.prog 33 #[.agg #[.string nm,u,v]] w fun e w'=>(∃ r,e = .returned (.bool r)∧(r=false→zd1 (nm,sp,l)))∧Below w.heap.size w w':=by
 have hb0:Below w.heap.size w (w.alloc (.cells #[.string nm,u,v] 55)):=za2 _ _
 have hG:=zmx (za3 zan _ _ _ _ hsp hb0)
 obtain⟨W0,hW0⟩ : ∃ W0,W0=w.alloc (.cells #[.string nm,u,v] 55):=⟨_,rfl⟩
 obtain⟨nb,hnb⟩ : ∃ nb,nb=w.heap.size:=⟨_,rfl⟩
 have hbx:W0.heap[nb]? = some (.cells #[.string nm,u,v] 55 (0,0)):=by rw[hW0,hnb];exact heap_alloc_new _ _
 rw[← hW0] at hb0 hG
 obtain⟨ua,uc,rfl,hzu,_⟩:=zc5 hsp
 obtain⟨m,hm⟩ : ∃ m,m=sp.length:=⟨_,rfl⟩
 rw[← hm] at hG hbx hW0 hzu
 obtain⟨a,cap,rfl,hz,g⟩:=zca h
 obtain⟨n,hn⟩ : ∃ n,n=l.length:=⟨_,rfl⟩
 rw[← hn] at hz h hbx hW0
 rw[← hm,← hn]
 have c0:=za0 hbx 0
 have c1:=za0 hbx 1
 have c2:=za0 hbx 2
 simp only[List.getElem?_toArray,List.getElem?_cons_zero,List.getElem?_cons_succ] at c0 c1 c2
 obtain⟨Hh,Hsp,Hg,Hn,Hm,HG,Hb0,Hbx⟩:=hd8 h hsp g hn hm hG hb0 hbx;clear h hsp g hn hm hG hb0 hbx
 go_enter Tryz.func33,Tryz.ntmps33
 go_upto_region 1 with (fail)
 rw[← hW0,← hnb]
 obtain⟨HW0,Hnb⟩:=hd2 hW0 hnb;clear hW0 hnb
 by_cases h1:100 < nm.size
 ·have k1:decide ((100:Int) < (nm.size:Int))=true:=by simp;omega
  go_wp2_with fail
  go_ret
  exact⟨⟨true,rfl,fun h=>by cases h⟩,Hb0.out⟩
 have k1:decide ((100:Int) < (nm.size:Int))=false:=by simp;omega
 by_cases h2:20 < n
 ·have k2:decide ((20:Int) < (n:Int))=true:=by simp;omega
  go_wp2_with fail
  go_ret
  exact⟨⟨true,rfl,fun h=>by cases h⟩,Hb0.out⟩
 have k2:decide ((20:Int) < (n:Int))=false:=by simp;omega
 go_wp2_with fail
 refine HG.out.mono ?_
 rintro e w1 ⟨⟨r,rfl,hsm⟩,rfl⟩
 have Hsm:=hd hsm;clear hsm
 cases r with
 | true =>
  go_wp2_with fail
  go_ret
  exact⟨⟨true,rfl,fun h=>by cases h⟩,Hb0.out⟩
 | false =>
  go_wp2_with fail
  clear k1 k2
  obtain⟨H1,H2⟩:=hd2 h1 h2;clear h1 h2
  go_loopw [22] (fun i wr=>∃ k:Nat,k≤n∧i = .int .i64 k∧(∀ j x,j < k→l[j]? = some x→x.1.size≤100∧x.2.size≤100)∧W0=wr) (fun i _=>n - (intOf i).toNat)
  case atStart=>exact⟨0,Nat.zero_le _,rfl,fun j x h=>by omega,rfl⟩
  case round =>
   obtain⟨k,hk,rfl,hsf,rfl⟩:=hrel
   have Hsf:=hd hsf;clear hsf
   by_cases hlt:k < n
   ·have hkl:k < l.length:=by have:=Hn.out;omega
    obtain⟨b,off,rfl,d0,d1,hs1,hs2⟩:=Hg.out k _ (List.getElem?_eq_getElem hkl)
    obtain⟨x,hx⟩ : ∃ x,x=l[k]:=⟨_,rfl⟩
    rw[← hx] at d0 d1 hs1 hs2
    obtain⟨s,hs⟩ : ∃ s,s=x.1:=⟨_,rfl⟩
    obtain⟨t,ht⟩ : ∃ s,s=x.2:=⟨_,rfl⟩
    rw[← hs] at d0 hs1
    rw[← ht] at d1 hs2
    have e0:=cell_later Hb0.out d0
    have e1:=cell_later Hb0.out d1
    have k5:(0:Int)≤(k:Int):=by omega
    have k6:(k:Int) < (n:Int):=by omega
    have hx':l[k]? = some x:=by rw[hx];exact List.getElem?_eq_getElem hkl
    clear hx hkl d0 d1
    obtain⟨Hx',Hs,Ht⟩:=hd3 hx' hs ht;clear hx' hs ht
    by_cases h100:100 < s.size
    ·have k7:decide ((100:Int) < (s.size:Int))=true:=by simp;omega
     go_wp2_with fail
     go_ret
     exact⟨⟨true,rfl,fun h=>by cases h⟩,Hb0.out⟩
    have k7:decide ((100:Int) < (s.size:Int))=false:=by simp;omega
    by_cases hm20:100 < t.size
    ·have k8:decide ((100:Int) < (t.size:Int))=true:=by simp;omega
     go_wp2_with fail
     go_ret
     exact⟨⟨true,rfl,fun h=>by cases h⟩,Hb0.out⟩
    have k8:decide ((100:Int) < (t.size:Int))=false:=by simp;omega
    go_wp2_with fail
    go_roundw
    case rel =>
     refine⟨k+1,by omega,by go_num,fun j y hj hy=>?_,by first | rfl | trivial⟩
     by_cases e:j=k
     ·subst e
      rw[Hx'.out] at hy
      obtain rfl:=Option.some.inj hy
      rw[← Hs.out,← Ht.out]
      omega
     exact Hsf.out j y (by omega) hy
    case measure=>simp[intOf];omega
   obtain rfl:k=n:=by omega
   go_wp2_with fail
   go_ret
   exact⟨⟨false,rfl,fun _=>⟨by have:=H1.out;show nm.size≤100;omega,by have:=H2.out;have:=Hn.out;show l.length≤20;omega,Hsm.out trivial,fun x hx=>by obtain⟨i,hi,e⟩:=List.getElem_of_mem hx;exact Hsf.out i x (by have:=Hn.out;have hi:i < l.length:=hi;omega) (by rw[← e];exact List.getElem?_eq_getElem hi)⟩⟩,Hb0.out⟩
end

section
open Go.RowKit Go.Shelf Go.Lib VerN VarM
attribute [local go_sem ↓] Go.wp_at_zero Go.wp_at_succ
def zj9 (l:List ByteArray):Prop:=l.length≤50∧∀ x∈l,x.size≤100
structure zno (p:PkgM):Prop where
 name:p.name.size≤100
 rel:p.rel.length≤30∧∀ x∈p.rel,x.1.size≤100
 vars:p.vars.length≤20∧∀ x∈p.vars,x.1.size≤100∧zj9 x.2
 prov:zj9 p.prov
 dep:p.dep.length≤40∧∀ x∈p.dep,zd1 x.1∧zd1 x.2.1
 conf:p.conf.length≤40∧∀ x∈p.conf,zd1 x.1∧zd1 x.2.1
 files:zj9 p.files
def zlb (x:RcpM):Prop:=(x.pk.length≤30∧∀ p∈x.pk,zno p)∧x.pf.length≤20∧∀ q∈x.pf,q.1.size≤100∧zj9 q.2.1
theorem zl7 {α:Type} {P:α→Prop} {l:List α} {n:Nat} (hn:n=l.length) (h:∀ (j:Nat) x,j < n→l[j]? = some x→P x):∀ x∈l,P x:=fun x hx=>by
 obtain⟨i,hi,e⟩:=List.getElem_of_mem hx
 exact h i x (by omega) (by rw[← e];exact List.getElem?_eq_getElem hi)
theorem zg0 {w:World} {a:Option Addr} {n c:Nat} {l:List ByteArray} (h:RTs w [.slice a n c] l):Calls Tryz.prog 14 #[.slice a n c] w fun e w'=>(∃ r,e = .returned (.bool r)∧(r=false→zj9 l))∧w=w':=by
 obtain⟨a',cap,e,hz,g⟩:=zba h
 simp only[Value.slice.injEq] at e
 obtain⟨rfl,hn,rfl⟩:=e
 obtain⟨Hh,Hg,Hn⟩:=hd3 h g hn;clear h g hn
 go_enter Tryz.func14,Tryz.ntmps14
 by_cases h50:50 < n
 ·have k1:decide ((50:Int) < (n:Int))=true:=by simp;omega
  go_wp2_with fail
  go_ret
  exact⟨⟨true,rfl,fun h=>by cases h⟩,rfl⟩
 have k1:decide ((50:Int) < (n:Int))=false:=by simp;omega
 go_wp2_with fail
 have h50':n≤50:=by omega
 clear k1 h50
 go_loopw [9] (fun i wr=>∃ k:Nat,k≤n∧i = .int .i64 k∧(∀ (j:Nat) x,j < k→l[j]? = some x→x.size≤100)∧w=wr) (fun i _=>n - (RowKit.intOf i).toNat)
 case atStart=>exact⟨0,Nat.zero_le _,rfl,fun j x h=>by omega,rfl⟩
 case round =>
  obtain⟨k,hk,rfl,hno,rfl⟩:=hrel
  by_cases hlt:k < n
  ·have hkl:k < l.length:=by have:=Hn.out;omega
   obtain⟨b,off,rfl,d0,hs1⟩:=Hg.out k hkl
   obtain⟨x,hx⟩ : ∃ x,x=l[k]:=⟨_,rfl⟩
   have hx':l[k]? = some x:=by rw[hx];exact List.getElem?_eq_getElem hkl
   rw[← hx] at d0 hs1
   have k5:(0:Int)≤(k:Int):=by omega
   have k6:(k:Int) < (n:Int):=by omega
   clear hx hkl hs1
   by_cases h100:100 < x.size
   ·have k7:decide ((100:Int) < (x.size:Int))=true:=by simp;omega
    obtain⟨Hno,Hx'⟩:=hd2 hno hx';clear hno hx'
    go_wp2_with fail
    go_ret
    exact⟨⟨true,rfl,fun h=>by cases h⟩,rfl⟩
   have k7:decide ((100:Int) < (x.size:Int))=false:=by simp;omega
   obtain⟨Hno,Hx',H100⟩:=hd3 hno hx' h100;clear hno hx' h100
   go_wp2_with fail
   go_roundw
   case rel =>
    refine⟨k+1,by omega,by go_num,fun j y hj hy=>?_,by first | rfl | trivial⟩
    by_cases e:j=k
    ·subst e
     rw[Hx'.out] at hy
     obtain rfl:=Option.some.inj hy
     have:=H100.out
     omega
    exact Hno.out j y (by omega) hy
   case measure=>simp[RowKit.intOf];omega
  obtain rfl:k=n:=by omega
  have Hno:=hd hno;clear hno
  go_wp2_with fail
  go_ret
  exact⟨⟨false,rfl,fun _=>⟨by have:=Hn.out;omega,zl7 Hn.out Hno.out⟩⟩,rfl⟩
set_option linter.unusedVariables false in
theorem zp5 {w:World} {p:PkgM} {nm:ByteArray} {li:Int} {b2:Option Addr} {n2 c2:Nat} {b3:Option Addr} {n3 c3:Nat} {b4:Option Addr} {n4 c4:Nat} {b5:Option Addr} {n5 c5:Nat} {b6:Option Addr} {n6 c6:Nat} {b7:Option Addr} {n7 c7:Nat} (hnp:p.name=nm) (hp:RPkR w (.slice b2 n2 c2) (.slice b3 n3 c3) (.slice b4 n4 c4) (.slice b5 n5 c5) (.slice b6 n6 c6) (.slice b7 n7 c7) p) :
  Calls Tryz.prog 13 #[.agg #[.string nm,.int .i64 li,.slice b2 n2 c2,.slice b3 n3 c3,.slice b4 n4 c4,.slice b5 n5 c5,.slice b6 n6 c6,.slice b7 n7 c7]] w fun e w'=>(∃ r,e = .returned (.bool r)∧(r=false→zno p))∧Below w.heap.size w w':=by
 obtain⟨W0,hW0⟩ : ∃ W0,W0=w.alloc (.cells #[.string nm,.int .i64 li,.slice b2 n2 c2,.slice b3 n3 c3,.slice b4 n4 c4,.slice b5 n5 c5,.slice b6 n6 c6,.slice b7 n7 c7] 45):=⟨_,rfl⟩
 obtain⟨nb,hnb⟩ : ∃ nb,nb=w.heap.size:=⟨_,rfl⟩
 have hb0:Below w.heap.size w W0:=by rw[hW0];exact za2 _ _
 have hbx:W0.heap[nb]? = some (.cells #[.string nm,.int .i64 li,.slice b2 n2 c2,.slice b3 n3 c3,.slice b4 n4 c4,.slice b5 n5 c5,.slice b6 n6 c6,.slice b7 n7 c7] 45 (0,0)):=by rw[hW0,hnb];exact heap_alloc_new _ _
 have hpp:=hp.below hb0
 obtain⟨hn2,hz2,hg2⟩:=zs8 hpp.1
 obtain⟨hn3,hz3,hg3⟩:=zjg hpp.2.1
 obtain⟨hn5,hz5,hg5⟩:=zgs hpp.2.2.2.1
 obtain⟨hn6,hz6,hg6⟩:=zgs hpp.2.2.2.2.1
 have hT4:=zg0 hpp.2.2.1
 have hT7:=zg0 hpp.2.2.2.2.2
 have HbL:=Lib.hid (Below.refl W0.heap.size W0)
 have c0x:=za0 hbx 0
 have c2x:=za0 hbx 2
 have c3x:=za0 hbx 3
 have c4x:=za0 hbx 4
 have c5x:=za0 hbx 5
 have c6x:=za0 hbx 6
 have c7x:=za0 hbx 7
 simp only[List.getElem?_toArray,List.getElem?_cons_zero,List.getElem?_cons_succ] at c0x c2x c3x c4x c5x c6x c7x
 obtain⟨Hp,Hpp,Hn2,Hn3,Hn5,Hn6,Hg2,Hg3,Hg5,Hg6,HT4,HT7,Hb0,Hbx,Hnp⟩:=hd15 hp hpp hn2 hn3 hn5 hn6 hg2 hg3 hg5 hg6 hT4 hT7 hb0 hbx hnp;clear hp hpp hn2 hn3 hn5 hn6 hg2 hg3 hg5 hg6 hT4 hT7 hb0 hbx hnp
 go_enter Tryz.func13,Tryz.ntmps13
 go_upto_region 1 with (fail)
 rw[← hW0,← hnb]
 clear hW0 hnb
 by_cases e0:100 < nm.size
 ·have k0:decide ((100:Int) < (nm.size:Int))=true:=by simp;omega
  go_wp2_with fail
  go_ret
  exact⟨⟨true,rfl,fun h=>by cases h⟩,Hb0.out⟩
 have k0:decide ((100:Int) < (nm.size:Int))=false:=by simp;omega
 by_cases e1:30 < n2
 ·have k1:decide ((30:Int) < (n2:Int))=true:=by simp;omega
  go_wp2_with fail
  go_ret
  exact⟨⟨true,rfl,fun h=>by cases h⟩,Hb0.out⟩
 have k1:decide ((30:Int) < (n2:Int))=false:=by simp;omega
 by_cases e2:20 < n3
 ·have k2:decide ((20:Int) < (n3:Int))=true:=by simp;omega
  go_wp2_with fail
  go_ret
  exact⟨⟨true,rfl,fun h=>by cases h⟩,Hb0.out⟩
 have k2:decide ((20:Int) < (n3:Int))=false:=by simp;omega
 by_cases e3:40 < n5
 ·have k3:decide ((40:Int) < (n5:Int))=true:=by simp;omega
  go_wp2_with fail
  go_ret
  exact⟨⟨true,rfl,fun h=>by cases h⟩,Hb0.out⟩
 have k3:decide ((40:Int) < (n5:Int))=false:=by simp;omega
 by_cases e4:40 < n6
 ·have k4:decide ((40:Int) < (n6:Int))=true:=by simp;omega
  go_wp2_with fail
  go_ret
  exact⟨⟨true,rfl,fun h=>by cases h⟩,Hb0.out⟩
 have k4:decide ((40:Int) < (n6:Int))=false:=by simp;omega
 go_wp2_with fail
 refine HT4.out.mono ?_
 rintro e w1 ⟨⟨r,rfl,hs4⟩,rfl⟩
 have Hs4:=hd hs4;clear hs4
 cases r with
 | true =>
  go_wp2_with fail
  go_ret
  exact⟨⟨true,rfl,fun h=>by cases h⟩,Hb0.out⟩
 | false =>
  go_wp2_with fail
  refine HT7.out.mono ?_
  rintro e w1 ⟨⟨r,rfl,hs7⟩,rfl⟩
  have Hs7:=hd hs7;clear hs7
  cases r with
  | true =>
   go_wp2_with fail
   go_ret
   exact⟨⟨true,rfl,fun h=>by cases h⟩,Hb0.out⟩
  | false =>
   go_wp2_with fail
   clear c0x c2x c3x c4x c5x c6x c7x k0 k1 k2 k3 k4
   go_loopw [48] (fun i wr=>∃ k:Nat,k≤n2∧i = .int .i64 k∧(∀ (j:Nat) x,j < k→p.rel[j]? = some x→x.1.size≤100)∧Below W0.heap.size W0 wr) (fun i _=>n2 - (RowKit.intOf i).toNat)
   case atStart=>exact⟨0,Nat.zero_le _,rfl,fun j x h=>by omega,HbL.out⟩
   case round =>
    obtain⟨k,hk,rfl,hno,hbr⟩:=hrel
    have px:=za0 (za1 hbr Hbx.out) 2
    simp only[List.getElem?_toArray,List.getElem?_cons_zero,List.getElem?_cons_succ] at px
    by_cases hlt:k < n2
    ·have hkl:k < p.rel.length:=by have:=Hn2.out;omega
     obtain⟨x,hx⟩ : ∃ x,x=p.rel[k]:=⟨_,rfl⟩
     have hx':p.rel[k]? = some x:=by rw[hx];exact List.getElem?_eq_getElem hkl
     have k5:(0:Int)≤(k:Int):=by omega
     have k6:(k:Int) < (n2:Int):=by omega
     clear hx
     obtain⟨b,off,rfl,d0,-⟩:=Hg2.out k x hx'
     obtain⟨s,hs⟩ : ∃ s,s=x.1:=⟨_,rfl⟩
     rw[← hs] at d0
     have d0:=cell_later hbr d0
     by_cases h100:100 < s.size
     ·have k7:decide ((100:Int) < (s.size:Int))=true:=by simp;omega
      obtain⟨Hno,Hbr,Hx',Hs⟩:=hd4 hno hbr hx' hs;clear hno hbr hx' hs
      go_wp2_with fail
      go_ret
      exact⟨⟨true,rfl,fun h=>by cases h⟩,Hb0.out.trans (Hbr.out.mono Hb0.out.size)⟩
     have k7:decide ((100:Int) < (s.size:Int))=false:=by simp;omega
     obtain⟨Hno,Hbr,Hx',Hs,H100⟩:=hd5 hno hbr hx' hs h100;clear hno hbr hx' hs h100
     go_wp2_with fail
     go_roundw
     case rel =>
      refine⟨k+1,by omega,by go_num,fun j y hj hy=>?_,Hbr.out⟩
      by_cases e:j=k
      ·subst e
       rw[Hx'.out] at hy
       obtain rfl:=Option.some.inj hy
       rw[← Hs.out]
       have:=H100.out
       omega
      exact Hno.out j y (by omega) hy
     case measure=>simp[RowKit.intOf];omega
    obtain rfl:n2=k:=by omega
    have hall2:=zl7 Hn2.out hno
    clear px
    have px:=za0 (za1 hbr Hbx.out) 3
    simp only[List.getElem?_toArray,List.getElem?_cons_zero,List.getElem?_cons_succ] at px
    replace HbL:=Lib.hid hbr
    obtain⟨Hno,Hbr⟩:=hd2 hno hbr;clear hno hbr
    go_wp2_with fail
    clear px
    go_loopw [63] (fun i wr=>∃ k:Nat,k≤n3∧i = .int .i64 k∧(∀ (j:Nat) x,j < k→p.vars[j]? = some x→x.1.size≤100∧zj9 x.2)∧Below W0.heap.size W0 wr) (fun i _=>n3 - (RowKit.intOf i).toNat)
    case atStart=>exact⟨0,Nat.zero_le _,rfl,fun j x h=>by omega,HbL.out⟩
    case round =>
     obtain⟨k,hk,rfl,hno,hbr⟩:=hrel
     have px:=za0 (za1 hbr Hbx.out) 3
     simp only[List.getElem?_toArray,List.getElem?_cons_zero,List.getElem?_cons_succ] at px
     by_cases hlt:k < n3
     ·have hkl:k < p.vars.length:=by have:=Hn3.out;omega
      obtain⟨x,hx⟩ : ∃ x,x=p.vars[k]:=⟨_,rfl⟩
      have hx':p.vars[k]? = some x:=by rw[hx];exact List.getElem?_eq_getElem hkl
      have k5:(0:Int)≤(k:Int):=by omega
      have k6:(k:Int) < (n3:Int):=by omega
      clear hx
      obtain⟨b,off,ua,uc,rfl,d0,d1,hu⟩:=Hg3.out k x hx'
      obtain⟨s,hs⟩ : ∃ s,s=x.1:=⟨_,rfl⟩
      obtain⟨un,hun⟩ : ∃ s,s=x.2.length:=⟨_,rfl⟩
      rw[← hs] at d0
      rw[← hun] at d1 hu
      have hT:=zg0 (zak hu hbr)
      have d0:=cell_later hbr d0
      have d1:=cell_later hbr d1
      by_cases h100:100 < s.size
      ·have k7:decide ((100:Int) < (s.size:Int))=true:=by simp;omega
       obtain⟨Hno,Hbr,Hx',Hs,HT,Hu,Hun⟩:=hd7 hno hbr hx' hs hT hu hun;clear hno hbr hx' hs hT hu hun
       go_wp2_with fail
       go_ret
       exact⟨⟨true,rfl,fun h=>by cases h⟩,Hb0.out.trans (Hbr.out.mono Hb0.out.size)⟩
      have k7:decide ((100:Int) < (s.size:Int))=false:=by simp;omega
      obtain⟨Hno,Hbr,Hx',Hs,H100,HT,Hu,Hun⟩:=hd8 hno hbr hx' hs h100 hT hu hun;clear hno hbr hx' hs h100 hT hu hun
      go_wp2_with fail
      refine HT.out.mono ?_
      rintro e w1 ⟨⟨r,rfl,hsm⟩,rfl⟩
      have Hsm:=hd hsm;clear hsm
      cases r with
      | true =>
       go_wp2_with fail
       go_ret
       exact⟨⟨true,rfl,fun h=>by cases h⟩,Hb0.out.trans (Hbr.out.mono Hb0.out.size)⟩
      | false =>
       go_wp2_with fail
       go_roundw
       case rel =>
        refine⟨k+1,by omega,by go_num,fun j y hj hy=>?_,Hbr.out⟩
        by_cases e:j=k
        ·subst e
         rw[Hx'.out] at hy
         obtain rfl:=Option.some.inj hy
         have:=H100.out
         exact⟨by rw[← Hs.out];omega,Hsm.out (by first | exact rfl | exact trivial)⟩
        exact Hno.out j y (by omega) hy
       case measure=>simp[RowKit.intOf];omega
     obtain rfl:n3=k:=by omega
     have hall3:=zl7 Hn3.out hno
     clear px
     have px:=za0 (za1 hbr Hbx.out) 5
     simp only[List.getElem?_toArray,List.getElem?_cons_zero,List.getElem?_cons_succ] at px
     replace HbL:=Lib.hid hbr
     obtain⟨Hno,Hbr⟩:=hd2 hno hbr;clear hno hbr
     go_wp2_with fail
     clear px
     go_loopw [87] (fun i wr=>∃ k:Nat,k≤n5∧i = .int .i64 k∧(∀ (j:Nat) x,j < k→p.dep[j]? = some x→zd1 x.1∧zd1 x.2.1)∧Below W0.heap.size W0 wr) (fun i _=>n5 - (RowKit.intOf i).toNat)
     case atStart=>exact⟨0,Nat.zero_le _,rfl,fun j x h=>by omega,HbL.out⟩
     case round =>
      obtain⟨k,hk,rfl,hno,hbr⟩:=hrel
      have px:=za0 (za1 hbr Hbx.out) 5
      simp only[List.getElem?_toArray,List.getElem?_cons_zero,List.getElem?_cons_succ] at px
      by_cases hlt:k < n5
      ·have hkl:k < p.dep.length:=by have:=Hn5.out;omega
       obtain⟨x,hx⟩ : ∃ x,x=p.dep[k]:=⟨_,rfl⟩
       have hx':p.dep[k]? = some x:=by rw[hx];exact List.getElem?_eq_getElem hkl
       have k5:(0:Int)≤(k:Int):=by omega
       have k6:(k:Int) < (n5:Int):=by omega
       clear hx
       obtain⟨b,off,xa1,xc1,xa2,xc2,xa3,xc3,xa4,xc4,rfl,x0,x1,x2,x3,x4,x5,-,⟨rx1,rx2⟩,rx3,rx4⟩:=Hg5.out k x hx'
       obtain⟨xn1,hxn1⟩ : ∃ z,z=x.1.1:=⟨_,rfl⟩
       obtain⟨xz1,hxz1⟩ : ∃ z,z=x.1.2.1.length:=⟨_,rfl⟩
       obtain⟨xz2,hxz2⟩ : ∃ z,z=x.1.2.2.length:=⟨_,rfl⟩
       obtain⟨xn2,hxn2⟩ : ∃ z,z=x.2.1.1:=⟨_,rfl⟩
       obtain⟨xz3,hxz3⟩ : ∃ z,z=x.2.1.2.1.length:=⟨_,rfl⟩
       obtain⟨xz4,hxz4⟩ : ∃ z,z=x.2.1.2.2.length:=⟨_,rfl⟩
       have hG1:=zg1 (nm:=xn1) (za3 zan _ _ _ _ rx1 hbr) (za3 zao _ _ _ _ rx2 hbr)
       have hG2:=fun (W:World) (k:Below W0.heap.size W0 W)=>zg1 (nm:=xn2) (za3 zan _ _ _ _ rx3 k) (za3 zao _ _ _ _ rx4 k)
       have hc2:∀ W,Below W0.heap.size W0 W→W.cell? ⟨b,off+k * 7+3,none⟩=some (.string x.2.1.1)∧W.cell? ⟨b,off+k * 7+4,none⟩=some (.slice xa3 x.2.1.2.1.length xc3)∧W.cell? ⟨b,off+k * 7+5,none⟩=some (.slice xa4 x.2.1.2.2.length xc4):=fun W hW=>⟨cell_later hW x3,cell_later hW x4,cell_later hW x5⟩
       have x0:=cell_later hbr x0
       have x1:=cell_later hbr x1
       have x2:=cell_later hbr x2
       rw[hxn1] at hG1
       simp only[hxn2] at hG2
       have hS1:∀ r,(r=false→zd1 (x.1.1,x.1.2.1,x.1.2.2))→r=false→zd1 x.1:=fun _ h=>h
       simp only[← hxn1,← hxz1,← hxz2] at hG1
       rw[← hxn1] at x0
       rw[← hxz1] at x1
       rw[← hxz2] at x2
       simp only[← hxn2,← hxz3,← hxz4] at hG2 hc2
       clear x3 x4 x5
       obtain⟨Hno,Hbr,Hx',HG1,HG2,Hc2,Hrx1,Hrx2,Hrx3,Hrx4,Hxn1,Hxz1,Hxz2,Hxn2,Hxz3,Hxz4⟩:=hd16 hno hbr hx' hG1 hG2 hc2 rx1 rx2 rx3 rx4 hxn1 hxz1 hxz2 hxn2 hxz3 hxz4;clear hno hbr hx' hG1 hG2 hc2 rx1 rx2 rx3 rx4 hxn1 hxz1 hxz2 hxn2 hxz3 hxz4
       go_wp2_with fail
       refine HG1.out.mono ?_
       rintro e w9 ⟨⟨r,rfl,hsm⟩,hb9⟩
       have hbw9:=Hbr.out.trans (hb9.mono Hbr.out.size)
       have hG3:=HG2.out _ hbw9
       obtain⟨x3,x4,x5⟩:=Hc2.out _ hbw9
       have px9:=za0 (za1 hbw9 Hbx.out) 5
       simp only[List.getElem?_toArray,List.getElem?_cons_zero,List.getElem?_cons_succ] at px9
       clear x0 x1 x2 px
       obtain⟨Hsm,Hb9,Hbw9,HG3⟩:=hd4 hsm hb9 hbw9 hG3;clear hsm hb9 hbw9 hG3
       cases r with
       | true =>
        go_wp2_with fail
        go_ret
        exact⟨⟨true,rfl,fun h=>by cases h⟩,Hb0.out.trans (Hbw9.out.mono Hb0.out.size)⟩
       | false =>
        go_wp2_with fail
        refine HG3.out.mono ?_
        rintro e w10 ⟨⟨r,rfl,hsm2⟩,hb10⟩
        have hbw10:=Hbw9.out.trans (hb10.mono Hbw9.out.size)
        obtain⟨Hsm2,Hb10,Hbw10⟩:=hd3 hsm2 hb10 hbw10;clear hsm2 hb10 hbw10
        clear x3 x4 x5 px9
        cases r with
        | true =>
         go_wp2_with fail
         go_ret
         exact⟨⟨true,rfl,fun h=>by cases h⟩,Hb0.out.trans (Hbw10.out.mono Hb0.out.size)⟩
        | false =>
         go_wp2_with fail
         go_roundw
         case rel =>
          refine⟨k+1,by omega,by go_num,fun j y hj hy=>?_,Hbw10.out⟩
          by_cases e:j=k
          ·subst e
           rw[Hx'.out] at hy
           obtain rfl:=Option.some.inj hy
           have h1:=Hsm.out (by first | exact rfl | exact trivial)
           have h2:=Hsm2.out (by first | exact rfl | exact trivial)
           rw[Hxn1.out] at h1
           rw[Hxn2.out] at h2
           exact⟨h1,h2⟩
          exact Hno.out j y (by omega) hy
         case measure=>simp[RowKit.intOf];omega
      obtain rfl:n5=k:=by omega
      have hall5:=zl7 Hn5.out hno
      clear px
      have px:=za0 (za1 hbr Hbx.out) 6
      simp only[List.getElem?_toArray,List.getElem?_cons_zero,List.getElem?_cons_succ] at px
      replace HbL:=Lib.hid hbr
      obtain⟨Hno,Hbr⟩:=hd2 hno hbr;clear hno hbr
      go_wp2_with fail
      clear px
      go_loopw [110] (fun i wr=>∃ k:Nat,k≤n6∧i = .int .i64 k∧(∀ (j:Nat) x,j < k→p.conf[j]? = some x→zd1 x.1∧zd1 x.2.1)∧Below W0.heap.size W0 wr) (fun i _=>n6 - (RowKit.intOf i).toNat)
      case atStart=>exact⟨0,Nat.zero_le _,rfl,fun j x h=>by omega,HbL.out⟩
      case round =>
       obtain⟨k,hk,rfl,hno,hbr⟩:=hrel
       have px:=za0 (za1 hbr Hbx.out) 6
       simp only[List.getElem?_toArray,List.getElem?_cons_zero,List.getElem?_cons_succ] at px
       by_cases hlt:k < n6
       ·have hkl:k < p.conf.length:=by have:=Hn6.out;omega
        obtain⟨x,hx⟩ : ∃ x,x=p.conf[k]:=⟨_,rfl⟩
        have hx':p.conf[k]? = some x:=by rw[hx];exact List.getElem?_eq_getElem hkl
        have k5:(0:Int)≤(k:Int):=by omega
        have k6:(k:Int) < (n6:Int):=by omega
        clear hx
        obtain⟨b,off,xa1,xc1,xa2,xc2,xa3,xc3,xa4,xc4,rfl,x0,x1,x2,x3,x4,x5,-,⟨rx1,rx2⟩,rx3,rx4⟩:=Hg6.out k x hx'
        obtain⟨xn1,hxn1⟩ : ∃ z,z=x.1.1:=⟨_,rfl⟩
        obtain⟨xz1,hxz1⟩ : ∃ z,z=x.1.2.1.length:=⟨_,rfl⟩
        obtain⟨xz2,hxz2⟩ : ∃ z,z=x.1.2.2.length:=⟨_,rfl⟩
        obtain⟨xn2,hxn2⟩ : ∃ z,z=x.2.1.1:=⟨_,rfl⟩
        obtain⟨xz3,hxz3⟩ : ∃ z,z=x.2.1.2.1.length:=⟨_,rfl⟩
        obtain⟨xz4,hxz4⟩ : ∃ z,z=x.2.1.2.2.length:=⟨_,rfl⟩
        have hG1:=zg1 (nm:=xn1) (za3 zan _ _ _ _ rx1 hbr) (za3 zao _ _ _ _ rx2 hbr)
        have hG2:=fun (W:World) (k:Below W0.heap.size W0 W)=>zg1 (nm:=xn2) (za3 zan _ _ _ _ rx3 k) (za3 zao _ _ _ _ rx4 k)
        have hc2:∀ W,Below W0.heap.size W0 W→W.cell? ⟨b,off+k * 7+3,none⟩=some (.string x.2.1.1)∧W.cell? ⟨b,off+k * 7+4,none⟩=some (.slice xa3 x.2.1.2.1.length xc3)∧W.cell? ⟨b,off+k * 7+5,none⟩=some (.slice xa4 x.2.1.2.2.length xc4):=fun W hW=>⟨cell_later hW x3,cell_later hW x4,cell_later hW x5⟩
        have x0:=cell_later hbr x0
        have x1:=cell_later hbr x1
        have x2:=cell_later hbr x2
        rw[hxn1] at hG1
        simp only[hxn2] at hG2
        have hS1:∀ r,(r=false→zd1 (x.1.1,x.1.2.1,x.1.2.2))→r=false→zd1 x.1:=fun _ h=>h
        simp only[← hxn1,← hxz1,← hxz2] at hG1
        rw[← hxn1] at x0
        rw[← hxz1] at x1
        rw[← hxz2] at x2
        simp only[← hxn2,← hxz3,← hxz4] at hG2 hc2
        clear x3 x4 x5
        obtain⟨Hno,Hbr,Hx',HG1,HG2,Hc2,Hrx1,Hrx2,Hrx3,Hrx4,Hxn1,Hxz1,Hxz2,Hxn2,Hxz3,Hxz4⟩:=hd16 hno hbr hx' hG1 hG2 hc2 rx1 rx2 rx3 rx4 hxn1 hxz1 hxz2 hxn2 hxz3 hxz4;clear hno hbr hx' hG1 hG2 hc2 rx1 rx2 rx3 rx4 hxn1 hxz1 hxz2 hxn2 hxz3 hxz4
        go_wp2_with fail
        refine HG1.out.mono ?_
        rintro e w9 ⟨⟨r,rfl,hsm⟩,hb9⟩
        have hbw9:=Hbr.out.trans (hb9.mono Hbr.out.size)
        have hG3:=HG2.out _ hbw9
        obtain⟨x3,x4,x5⟩:=Hc2.out _ hbw9
        have px9:=za0 (za1 hbw9 Hbx.out) 6
        simp only[List.getElem?_toArray,List.getElem?_cons_zero,List.getElem?_cons_succ] at px9
        clear x0 x1 x2 px
        obtain⟨Hsm,Hb9,Hbw9,HG3⟩:=hd4 hsm hb9 hbw9 hG3;clear hsm hb9 hbw9 hG3
        cases r with
        | true =>
         go_wp2_with fail
         go_ret
         exact⟨⟨true,rfl,fun h=>by cases h⟩,Hb0.out.trans (Hbw9.out.mono Hb0.out.size)⟩
        | false =>
         go_wp2_with fail
         refine HG3.out.mono ?_
         rintro e w10 ⟨⟨r,rfl,hsm2⟩,hb10⟩
         have hbw10:=Hbw9.out.trans (hb10.mono Hbw9.out.size)
         obtain⟨Hsm2,Hb10,Hbw10⟩:=hd3 hsm2 hb10 hbw10;clear hsm2 hb10 hbw10
         clear x3 x4 x5 px9
         cases r with
         | true =>
          go_wp2_with fail
          go_ret
          exact⟨⟨true,rfl,fun h=>by cases h⟩,Hb0.out.trans (Hbw10.out.mono Hb0.out.size)⟩
         | false =>
          go_wp2_with fail
          go_roundw
          case rel =>
           refine⟨k+1,by omega,by go_num,fun j y hj hy=>?_,Hbw10.out⟩
           by_cases e:j=k
           ·subst e
            rw[Hx'.out] at hy
            obtain rfl:=Option.some.inj hy
            have h1:=Hsm.out (by first | exact rfl | exact trivial)
            have h2:=Hsm2.out (by first | exact rfl | exact trivial)
            rw[Hxn1.out] at h1
            rw[Hxn2.out] at h2
            exact⟨h1,h2⟩
           exact Hno.out j y (by omega) hy
          case measure=>simp[RowKit.intOf];omega
       obtain rfl:n6=k:=by omega
       have hall6:=zl7 Hn6.out hno
       clear px
       obtain⟨Hno,Hbr⟩:=hd2 hno hbr;clear hno hbr
       go_wp2_with fail
       go_ret
       exact⟨⟨false,rfl,fun _=>⟨by rw[Hnp.out];omega,⟨by have:=Hn2.out;omega,hall2⟩,⟨by have:=Hn3.out;omega,hall3⟩,Hs4.out (by first | exact rfl | exact trivial),⟨by have:=Hn5.out;omega,hall5⟩,⟨by have:=Hn6.out;omega,hall6⟩,Hs7.out (by first | exact rfl | exact trivial)⟩⟩,Hb0.out.trans (Hbr.out.mono Hb0.out.size)⟩
set_option linter.unusedVariables false in
theorem zm8 {w:World} {x0:RcpM} {a1 a2:Option Addr} {n1 n2 c1 c2:Nat} (hp:zi1 w (.slice a1 n1 c1) (.slice a2 n2 c2) x0) :
  Calls Tryz.prog 6 #[.agg #[.slice a1 n1 c1,.slice a2 n2 c2]] w fun e w'=>(∃ r,e = .returned (.bool r)∧(r=false→zlb x0))∧Below w.heap.size w w':=by
 obtain⟨W0,hW0⟩ : ∃ W0,W0=w.alloc (.cells #[.slice a1 n1 c1,.slice a2 n2 c2] 25):=⟨_,rfl⟩
 obtain⟨nb,hnb⟩ : ∃ nb,nb=w.heap.size:=⟨_,rfl⟩
 have hb0:Below w.heap.size w W0:=by rw[hW0];exact za2 _ _
 have hbx:W0.heap[nb]? = some (.cells #[.slice a1 n1 c1,.slice a2 n2 c2] 25 (0,0)):=by rw[hW0,hnb];exact heap_alloc_new _ _
 have hpp:=hp.below hb0
 obtain⟨hn0,hz0,hg0⟩:=pks_at hpp.1
 obtain⟨hn1,hz1,hg1⟩:=pfs_at hpp.2
 have HbL:=Lib.hid (Below.refl W0.heap.size W0)
 have c0x:=za0 hbx 0
 have c1x:=za0 hbx 1
 simp only[List.getElem?_toArray,List.getElem?_cons_zero,List.getElem?_cons_succ] at c0x c1x
 obtain⟨Hp,Hpp,Hn0,Hn1,Hg0,Hg1,Hb0,Hbx⟩:=hd8 hp hpp hn0 hn1 hg0 hg1 hb0 hbx;clear hp hpp hn0 hn1 hg0 hg1 hb0 hbx
 go_enter Tryz.func6,Tryz.ntmps6
 go_upto_region 1 with (fail)
 rw[← hW0,← hnb]
 clear hW0 hnb
 by_cases e0:30 < n1
 ·have k0:decide ((30:Int) < (n1:Int))=true:=by simp;omega
  go_wp2_with fail
  go_ret
  exact⟨⟨true,rfl,fun h=>by cases h⟩,Hb0.out⟩
 have k0:decide ((30:Int) < (n1:Int))=false:=by simp;omega
 by_cases e1:20 < n2
 ·have k1:decide ((20:Int) < (n2:Int))=true:=by simp;omega
  go_wp2_with fail
  go_ret
  exact⟨⟨true,rfl,fun h=>by cases h⟩,Hb0.out⟩
 have k1:decide ((20:Int) < (n2:Int))=false:=by simp;omega
 go_wp2_with fail
 clear c0x c1x k0 k1
 go_loopw [18] (fun i wr=>∃ k:Nat,k≤n1∧i = .int .i64 k∧(∀ (j:Nat) x,j < k→x0.pk[j]? = some x→zno x)∧Below W0.heap.size W0 wr) (fun i _=>n1 - (RowKit.intOf i).toNat)
 case atStart=>exact⟨0,Nat.zero_le _,rfl,fun j x h=>by omega,HbL.out⟩
 case round =>
  obtain⟨k,hk,rfl,hno,hbr⟩:=hrel
  have px:=za0 (za1 hbr Hbx.out) 0
  simp only[List.getElem?_toArray,List.getElem?_cons_zero,List.getElem?_cons_succ] at px
  by_cases hlt:k < n1
  ·have hkl:k < x0.pk.length:=by have:=Hn0.out;omega
   obtain⟨x,hx⟩ : ∃ x,x=x0.pk[k]:=⟨_,rfl⟩
   have hx':x0.pk[k]? = some x:=by rw[hx];exact List.getElem?_eq_getElem hkl
   have k5:(0:Int)≤(k:Int):=by omega
   have k6:(k:Int) < (n1:Int):=by omega
   clear hx
   obtain⟨b,off,q2,s2,q3,s3,q4,s4,q5,s5,q6,s6,q7,s7,rfl,x0,x1,x2,x3,x4,x5,x6,x7,rx⟩:=Hg0.out k x hx'
   obtain⟨z2,hz2⟩ : ∃ z,z=x.rel.length:=⟨_,rfl⟩
   rw[← hz2] at x2
   obtain⟨z3,hz3⟩ : ∃ z,z=x.vars.length:=⟨_,rfl⟩
   rw[← hz3] at x3
   obtain⟨z4,hz4⟩ : ∃ z,z=x.prov.length:=⟨_,rfl⟩
   rw[← hz4] at x4
   obtain⟨z5,hz5⟩ : ∃ z,z=x.dep.length:=⟨_,rfl⟩
   rw[← hz5] at x5
   obtain⟨z6,hz6⟩ : ∃ z,z=x.conf.length:=⟨_,rfl⟩
   rw[← hz6] at x6
   obtain⟨z7,hz7⟩ : ∃ z,z=x.files.length:=⟨_,rfl⟩
   rw[← hz7] at x7
   rw[← hz2,← hz3,← hz4,← hz5,← hz6,← hz7] at rx
   obtain⟨nm,hnm⟩ : ∃ z,z=x.name:=⟨_,rfl⟩
   obtain⟨li,hli⟩ : ∃ z,z=x.line:=⟨_,rfl⟩
   rw[← hnm] at x0
   rw[← hli] at x1
   have hG:=zp5 (li:=li) hnm.symm (rx.below hbr)
   have x0:=cell_later hbr x0
   have x1:=cell_later hbr x1
   have x2:=cell_later hbr x2
   have x3:=cell_later hbr x3
   have x4:=cell_later hbr x4
   have x5:=cell_later hbr x5
   have x6:=cell_later hbr x6
   have x7:=cell_later hbr x7
   obtain⟨Hno,Hbr,Hx',HG,Hrx,Hnm,Hli,Hz2,Hz3,Hz4,Hz5,Hz6,Hz7⟩:=hd13 hno hbr hx' hG rx hnm hli hz2 hz3 hz4 hz5 hz6 hz7;clear hno hbr hx' hG rx hnm hli hz2 hz3 hz4 hz5 hz6 hz7
   go_wp2_with fail
   refine HG.out.mono ?_
   rintro e w9 ⟨⟨r,rfl,hsm⟩,hb9⟩
   have hbw9:=Hbr.out.trans (hb9.mono Hbr.out.size)
   clear x0 x1 x2 x3 x4 x5 x6 x7 px
   obtain⟨Hsm,Hb9,Hbw9⟩:=hd3 hsm hb9 hbw9;clear hsm hb9 hbw9
   cases r with
   | true =>
    go_wp2_with fail
    go_ret
    exact⟨⟨true,rfl,fun h=>by cases h⟩,Hb0.out.trans (Hbw9.out.mono Hb0.out.size)⟩
   | false =>
    go_wp2_with fail
    go_roundw
    case rel =>
     refine⟨k+1,by omega,by go_num,fun j y hj hy=>?_,Hbw9.out⟩
     by_cases e:j=k
     ·subst e
      rw[Hx'.out] at hy
      obtain rfl:=Option.some.inj hy
      exact Hsm.out (by first | exact rfl | exact trivial)
     exact Hno.out j y (by omega) hy
    case measure=>simp[RowKit.intOf];omega
  obtain rfl:n1=k:=by omega
  have hall0:=zl7 Hn0.out hno
  clear px
  have px:=za0 (za1 hbr Hbx.out) 1
  simp only[List.getElem?_toArray,List.getElem?_cons_zero,List.getElem?_cons_succ] at px
  replace HbL:=Lib.hid hbr
  obtain⟨Hno,Hbr⟩:=hd2 hno hbr;clear hno hbr
  go_wp2_with fail
  clear px
  go_loopw [31] (fun i wr=>∃ k:Nat,k≤n2∧i = .int .i64 k∧(∀ (j:Nat) x,j < k→x0.pf[j]? = some x→x.1.size≤100∧zj9 x.2.1)∧Below W0.heap.size W0 wr) (fun i _=>n2 - (RowKit.intOf i).toNat)
  case atStart=>exact⟨0,Nat.zero_le _,rfl,fun j x h=>by omega,HbL.out⟩
  case round =>
   obtain⟨k,hk,rfl,hno,hbr⟩:=hrel
   have px:=za0 (za1 hbr Hbx.out) 1
   simp only[List.getElem?_toArray,List.getElem?_cons_zero,List.getElem?_cons_succ] at px
   by_cases hlt:k < n2
   ·have hkl:k < x0.pf.length:=by have:=Hn1.out;omega
    obtain⟨x,hx⟩ : ∃ x,x=x0.pf[k]:=⟨_,rfl⟩
    have hx':x0.pf[k]? = some x:=by rw[hx];exact List.getElem?_eq_getElem hkl
    have k5:(0:Int)≤(k:Int):=by omega
    have k6:(k:Int) < (n2:Int):=by omega
    clear hx
    obtain⟨b,off,ua,uc,rfl,d0,d1,-,hu⟩:=Hg1.out k x hx'
    obtain⟨s,hs⟩ : ∃ s,s=x.1:=⟨_,rfl⟩
    obtain⟨un,hun⟩ : ∃ s,s=x.2.1.length:=⟨_,rfl⟩
    rw[← hs] at d0
    rw[← hun] at d1 hu
    have hT:=zg0 (zak hu hbr)
    have d0:=cell_later hbr d0
    have d1:=cell_later hbr d1
    by_cases h100:100 < s.size
    ·have k7:decide ((100:Int) < (s.size:Int))=true:=by simp;omega
     obtain⟨Hno,Hbr,Hx',Hs,HT,Hu,Hun⟩:=hd7 hno hbr hx' hs hT hu hun;clear hno hbr hx' hs hT hu hun
     go_wp2_with fail
     go_ret
     exact⟨⟨true,rfl,fun h=>by cases h⟩,Hb0.out.trans (Hbr.out.mono Hb0.out.size)⟩
    have k7:decide ((100:Int) < (s.size:Int))=false:=by simp;omega
    obtain⟨Hno,Hbr,Hx',Hs,H100,HT,Hu,Hun⟩:=hd8 hno hbr hx' hs h100 hT hu hun;clear hno hbr hx' hs h100 hT hu hun
    go_wp2_with fail
    refine HT.out.mono ?_
    rintro e w1 ⟨⟨r,rfl,hsm⟩,rfl⟩
    have Hsm:=hd hsm;clear hsm
    cases r with
    | true =>
     go_wp2_with fail
     go_ret
     exact⟨⟨true,rfl,fun h=>by cases h⟩,Hb0.out.trans (Hbr.out.mono Hb0.out.size)⟩
    | false =>
     go_wp2_with fail
     go_roundw
     case rel =>
      refine⟨k+1,by omega,by go_num,fun j y hj hy=>?_,Hbr.out⟩
      by_cases e:j=k
      ·subst e
       rw[Hx'.out] at hy
       obtain rfl:=Option.some.inj hy
       have:=H100.out
       exact⟨by rw[← Hs.out];omega,Hsm.out (by first | exact rfl | exact trivial)⟩
      exact Hno.out j y (by omega) hy
     case measure=>simp[RowKit.intOf];omega
   obtain rfl:n2=k:=by omega
   have hall1:=zl7 Hn1.out hno
   clear px
   obtain⟨Hno,Hbr⟩:=hd2 hno hbr;clear hno hbr
   go_wp2_with fail
   go_ret
   exact⟨⟨false,rfl,fun _=>⟨⟨by have:=Hn0.out;omega,hall0⟩,by have:=Hn1.out;omega,hall1⟩⟩,Hb0.out.trans (Hbr.out.mono Hb0.out.size)⟩
end

section
open Go.Shelf Go.RowKit Go.Lib VerN VarM
attribute [local go_sem ↓] Go.wp_at_zero Go.wp_at_succ
theorem fold_next {sets:List Setg} {k:Nat} (h:k < sets.length) (o:ByteArray):(sets.take (k+1)).foldl zfo o=zfo ((sets.take k).foldl zfo o) sets[k]:=by
 rw[List.take_succ_eq_append_getElem h,List.foldl_append]
 rfl
theorem zp6 {sets:List Setg} (h:∀ x∈sets,x.1.size≤9000∧x.2.size≤9000):∀ (k:Nat) (o:ByteArray),k≤sets.length→((sets.take k).foldl zfo o).size≤o.size+18002 * k
 | 0,o,_=>by simp
 | k+1,o,hk=>by
  have h1:=zp6 h k o (by omega)
  have h2:=h _ (List.getElem_mem (show k < sets.length by omega))
  rw[fold_next (show k < sets.length by omega)]
  have h3:(zfo ((sets.take k).foldl zfo o) sets[k]).size≤((sets.take k).foldl zfo o).size+1+sets[k].1.size+1+sets[k].2.size:=by
   unfold zfo
   rw[zg4,zg4,zg4]
   have e1:(⟨#[61]⟩ : ByteArray).size=1:=rfl
   have e2:(⟨#[32]⟩ : ByteArray).size=1:=rfl
   split
   ·omega
   rw[zg4];omega
  omega
end

section
open Go.Shelf Go.RowKit Go.Lib VerN VarM
open LexM (Wd)
attribute [local go_sem ↓] Go.wp_at_zero Go.wp_at_succ
def TakenAc (r sb:Nat) (a:Option Addr) (n c:Nat) (fin:Int) (ws:List Wd) (w w':World):Prop :=
 ∃ s j b1 n1 c1 b2 n2 c2,zbx ws 0=(some s,j)∧zbb sb (.string s.1) (.slice b1 n1 c1) (.slice b2 n2 c2) w'∧zgv w' (.slice b1 n1 c1) s.2.1∧zez w' (.slice b2 n2 c2) s.2.2∧RBox r (.slice a n c) j fin w'∧Frm (fun k=>k=r∨k=sb) w w'
def TakenBc (r sb:Nat) (fin:Int) (ws:List Wd) (w:World) (col:Int) (w':World):Prop :=
 ∃ j,zbx ws 0=(none,j)∧col=ze0 ws fin j∧Frm (fun k=>k=r∨k=sb) w w'
abbrev fCond:Value:=.func (.func 66) #[] #[]
theorem one1c_any {w0 w:World} {r tb rb sb cb:Nat} {a:Option Addr} {n c:Nat} {fin:Int} {ws:List Wd} (C:RdC w0 r a n c fin ws) (S:RdS w0 r a n c fin 0 w)
  (ht:w.heap[tb]? = some (.cells #[fCond] 141 (0,0))) (hr:w.heap[rb]? = some (.cells #[rp r] 82 (0,0))) (hs:zbb sb (.string ⟨#[]⟩) (.slice none 0 0) (.slice none 0 0) w)
  (hc:w.heap[cb]? = some (.cells #[.int .i64 0] 3 (0,0))) (n1:cb≠r) (n2:cb≠sb) (n3:r≠sb) :
  Calls Tryz.prog 95 #[.pointer (some ⟨tb,0,none⟩),.pointer (some ⟨rb,0,none⟩),.pointer (some ⟨sb,0,none⟩)] w fun e w'=>((e = .returned (.tuple #[])∧TakenAc r sb a n c fin ws w w')∨∃ col,e=zee col∧TakenBc r sb fin ws w col w')∧w'.heap[cb]? = some (.cells #[.int .i64 0] 3 (0,0)):=by
 have t0:=za0 ht 0
 have r0:=za0 hr 0
 simp only[List.getElem?_toArray,List.getElem?_cons_zero] at t0 r0
 have hW:=znm C S (by omega)
 obtain⟨HC,HS,Ht,Hr,Hs,Hc,HW⟩:=hd7 C S ht hr hs hc hW;clear C S ht hr hs hc hW
 go_enter Tryz.func95,Tryz.ntmps95
 go_wp2_with fail
 refine HW.out.mono ?_
 rintro e w1 ⟨⟨s,j,v1,v2,hw,rfl,hv1,hv2,hbx⟩ | ⟨j,hw,rfl⟩,hfr⟩
 ·obtain⟨b1,c1,rfl⟩:=zcq hv1.1
  obtain⟨b2,c2,rfl⟩:=zcm hv2.1
  obtain⟨z1,hz1⟩ : ∃ z,z=s.2.1.length:=⟨_,rfl⟩
  obtain⟨z2,hz2⟩ : ∃ z,z=s.2.2.length:=⟨_,rfl⟩
  rw[← hz1] at hv1 ⊢
  rw[← hz2] at hv2 ⊢
  have hs1:=zbd hfr Hs.out (by omega)
  have hc1:=zbd hfr Hc.out n1
  obtain⟨_,_,_,f0,f1,f2⟩:=zaq hs1
  obtain⟨Hw,Hv1,Hv2,Hbx,Hfr,Hs1,Hc1,Hz1,Hz2⟩:=hd9 hw hv1 hv2 hbx hfr hs1 hc1 hz1 hz2;clear hw hv1 hv2 hbx hfr hs1 hc1 hz1 hz2
  go_wp2_with fail
  go_end0
  obtain⟨W8,hW8⟩ : ∃ W,W=((w1.setCell ⟨sb,0,none⟩ (.string s.1)).setCell ⟨sb,1,none⟩ (.slice b1 z1 c1)).setCell ⟨sb,2,none⟩ (.slice b2 z2 c2):=⟨_,rfl⟩
  rw[← hW8]
  have hT8:Frm (fun k=>k=r∨k=sb) w1 W8:=by
   rw[hW8]
   exact (((Frm.refl _ w1).setCell (p:=⟨sb,0,none⟩) (.inr (.inr rfl)) _).setCell (p:=⟨sb,1,none⟩) (.inr (.inr rfl)) _).setCell (p:=⟨sb,2,none⟩) (.inr (.inr rfl)) _
  have k0:=heap_setCell_same _ sb 0 _ _ (.string s.1) Hs1.out
  have k1:=heap_setCell_same _ sb 1 _ _ (.slice b1 z1 c1) k0
  have k2:=heap_setCell_same _ sb 2 _ _ (.slice b2 z2 c2) k1
  have hno:No2 w1 (fun k=>k=r∨k=sb):=by
   rintro k (rfl | rfl)
   ·exact zgm Hbx.out (by decide) (by decide)
   exact zgm Hs1.out (by decide) (by decide)
  have hcb:W8.heap[cb]? = some (.cells #[.int .i64 0] 3 (0,0)):=zbd hT8 Hc1.out (by rintro (h | h);exact n1 h;exact n2 h)
  refine⟨.inl ⟨rfl,s,j,b1,z1,c1,b2,z2,c2,Hw.out,by rw[hW8];exact k2,zbv Hv1.out hT8 hno,zcv Hv2.out hT8 hno,?_,?_⟩,hcb⟩
  ·rw[hW8];exact za5 (za5 (za5 Hbx.out n3) n3) n3
  exact Frm.trans (T:=fun k=>k=r∨k=sb) (Hfr.out.mono (fun _ _ h=>.inl h)) hT8 (fun _ _ h=>h)
 have hc1:=zbd hfr Hc.out n1
 obtain⟨Hw,Hfr,Hc1⟩:=hd3 hw hfr hc1;clear hw hfr hc1
 go_wp2_with fail
 exact⟨rfl,.inr ⟨_,rfl,j,Hw.out,rfl,Hfr.out.mono (fun _ _ h=>.inl h)⟩,Hc1.out⟩
def zpx (fin:Int) (ws:List Wd) (w:World) (e:Ending) (w':World):Prop :=
 ((∃ s j b1 n1 c1 b2 n2 c2,zbx ws 0=(some s,j)∧e = .returned (.tuple #[.agg #[.string s.1,.slice b1 n1 c1,.slice b2 n2 c2],.int .i64 j,.int .i64 0])∧zgv w' (.slice b1 n1 c1) s.2.1∧zez w' (.slice b2 n2 c2) s.2.2) ∨
  (∃ j,zbx ws 0=(none,j)∧e = .returned (.tuple #[.agg #[.string ⟨#[]⟩,.slice none 0 0,.slice none 0 0],.int .i64 0,.int .i64 (ze0 ws fin j)])))∧Below w.heap.size w w'
theorem zli {w:World} {a:Option Addr} {n c:Nat} {fin:Int} {ws:List Wd} (hws:RWds w [.slice a n c] ws) (hD:zbl w) (hn:n≤1000) (hz:∀ x∈ws,x.2.length≤70000) (hcol:∀ j,ze0 ws fin j≠0):Calls Tryz.prog 65 #[.slice a n c,.int .i64 fin,fCond] w (zpx fin ws w):=by
 obtain⟨h,hh⟩ : ∃ h,h=w.heap.size:=⟨_,rfl⟩
 obtain⟨W5,hW5⟩ : ∃ W,W=(((((w.alloc (.cells #[fCond] 141)).alloc (.cells #[.string ⟨#[]⟩,.slice none 0 0,.slice none 0 0] 55)).alloc (.cells #[.slice a n c,.int .i64 0,.int .i64 fin] 84)).alloc (.cells #[rp (h+1+1)] 82)).alloc (.cells #[.string ⟨#[]⟩,.slice none 0 0,.slice none 0 0] 55)):=⟨_,rfl⟩
 have hs5:W5.heap.size=h+5:=by rw[hW5,hh];simp
 have k1:∀ {w':World} {o:Obj} {k:Nat} {o':Obj},w'.heap[k]? = some o→(w'.alloc o').heap[k]? = some o:=fun h=>za1 (za2 _ _) h
 have hb5:Below w.heap.size w W5:=by rw[hW5];exact ((((Below.refl _ w).alloc (Nat.le_refl _) _).alloc (by simp) _).alloc (by simp;omega) _).alloc (by simp;omega) _ |>.alloc (by simp;omega) _
 have q0:W5.heap[h]? = some (.cells #[fCond] 141 (0,0)):=by rw[hW5,hh];exact k1 (k1 (k1 (k1 (za9 rfl))))
 have q1:zbb (h+1) (.string ⟨#[]⟩) (.slice none 0 0) (.slice none 0 0) W5:=by rw[hW5,hh];exact k1 (k1 (k1 (za9 (by simp))))
 have q2:RBox (h+1+1) (.slice a n c) 0 fin W5:=by rw[hW5,hh];exact k1 (k1 (za9 (by simp)))
 have q3:W5.heap[h+1+1+1]? = some (.cells #[rp (h+1+1)] 82 (0,0)):=by rw[hW5,hh];exact k1 (za9 (by simp))
 have q4:zbb (h+1+1+1+1) (.string ⟨#[]⟩) (.slice none 0 0) (.slice none 0 0) W5:=by rw[hW5,hh];exact za9 (by simp)
 have hC:RdC w (h+1+1) a n c fin ws:=⟨hws,hD,by omega,hn,hz⟩
 have hS:RdS w (h+1+1) a n c fin 0 (W5.alloc (.cells #[.int .i64 0] 3)):=⟨k1 q2,hb5.alloc hb5.size _⟩
 have hO:=one1c_any (tb:=h) (rb:=h+1+1+1) (sb:=h+1+1+1+1) (cb:=W5.heap.size) hC hS (k1 q0) (k1 q3) (k1 q4) (heap_alloc_new W5 _) (by omega) (by omega) (by omega)
 have hCa:=zmg (enters_of Tryz.func95 (by kernel_rfl) rfl) (caps:=#[.pointer (some ⟨h,0,none⟩),.pointer (some ⟨h+1+1+1,0,none⟩),.pointer (some ⟨h+1+1+1+1,0,none⟩)]) hO
 have q1':=k1 (o':=.cells #[.int .i64 0] 3) q1
 have q3':=k1 (o':=.cells #[.int .i64 0] 3) q3
 clear q0 q1 q2 q3 q4 hO k1
 have hb6:Below w.heap.size w (W5.alloc (.cells #[.int .i64 0] 3)):=hb5.alloc hb5.size _
 obtain⟨Hws,HD,Hz,Hcol,Hb5,HC,HS,HCa,Hq1',Hq3',Hb6⟩:=hd11 hws hD hz hcol hb5 hC hS hCa q1' q3' hb6;clear hws hD hz hcol hb5 hC hS hCa q1' q3' hb6
 go_enter Tryz.func65,Tryz.ntmps65
 go_upto_region 3 with (fail)
 rw[← hh,← hW5]
 clear hW5
 have hle:w.heap.size≤h:=Nat.le_of_eq hh.symm
 clear hh
 go_wp2_with fail
 refine HCa.out.mono ?_
 rintro e w2 (⟨w1,⟨s,j,b1,n1,c1,b2,n2,c2,hw,hsb,hv1,hv2,hbx,hfr⟩,rfl,rfl⟩ | ⟨col,w1,⟨j,hw,hcl,hfr⟩,rfl,rfl⟩)
 ·have hz6:=hfr.size
  simp only[World.size_alloc] at hz6
  have hcb:w1.heap[W5.heap.size]? = some (.cells #[.int .i64 0] 3 (0,0)):=zbd hfr (heap_alloc_new W5 _) (by omega)
  have hq1:=zbd hfr Hq1'.out (by omega)
  have hq3:=zbd hfr Hq3'.out (by omega)
  obtain⟨W2,hW2⟩ : ∃ W,W=w1.setCell ⟨W5.heap.size,0,none⟩ (.int .i64 0):=⟨_,rfl⟩
  rw[← hW2]
  have x1:zbb (h+1) (.string ⟨#[]⟩) (.slice none 0 0) (.slice none 0 0) W2:=by rw[hW2];exact za5 hq1 (by omega)
  have x3:W2.heap[h+1+1+1]? = some (.cells #[rp (h+1+1)] 82 (0,0)):=by rw[hW2];exact za5 hq3 (by omega)
  have x2:RBox (h+1+1) (.slice a n c) j fin W2:=by rw[hW2];exact za5 hbx (by omega)
  have x4:zbb (h+1+1+1+1) (.string s.1) (.slice b1 n1 c1) (.slice b2 n2 c2) W2:=by rw[hW2];exact za5 hsb (by omega)
  have y3:=za0 x3 0
  simp only[List.getElem?_toArray,List.getElem?_cons_zero] at y3
  obtain⟨_,y2,_,_⟩:=zb6 x2
  obtain⟨z0,z1,z2,_,_,_⟩:=zaq x4
  obtain⟨_,_,_,f0,f1,f2⟩:=zaq x1
  obtain⟨Hw,Hsb,Hv1,Hv2,Hbx,Hfr,Hcb,Hq1,Hq3,Hx1,Hx2,Hx3,Hx4,HW2,Hz6⟩:=hd15 hw hsb hv1 hv2 hbx hfr hcb hq1 hq3 x1 x2 x3 x4 hW2 hz6;clear hw hsb hv1 hv2 hbx hfr hcb hq1 hq3 x1 x2 x3 x4 hW2 hz6
  go_wp2_with fail
  go_region
  go_wp2_with fail
  obtain⟨W8,hW8⟩ : ∃ W,W=(((W2.setCell ⟨h+1,0,none⟩ (.string s.1)).setCell ⟨h+1,1,none⟩ (.slice b1 n1 c1)).setCell ⟨h+1,2,none⟩ (.slice b2 n2 c2)).drew:=⟨_,rfl⟩
  rw[← hW8]
  have hT8:Frm (fun k=>k=W5.heap.size∨k=h+1) w1 W8:=by
   rw[hW8,HW2.out]
   exact (((((Frm.refl _ w1).setCell (p:=⟨W5.heap.size,0,none⟩) (.inr (.inl rfl)) _).setCell (p:=⟨h+1,0,none⟩) (.inr (.inr rfl)) _).setCell (p:=⟨h+1,1,none⟩) (.inr (.inr rfl)) _).setCell (p:=⟨h+1,2,none⟩) (.inr (.inr rfl)) _).drew
  have k0:=heap_setCell_same _ (h+1) 0 _ _ (.string s.1) Hx1.out
  have k1:=heap_setCell_same _ (h+1) 1 _ _ (.slice b1 n1 c1) k0
  have k2:=heap_setCell_same _ (h+1) 2 _ _ (.slice b2 n2 c2) k1
  have k3:W8.heap[h+1]? = some (.cells #[.string s.1,.slice b1 n1 c1,.slice b2 n2 c2] 55 (0,0)):=by rw[hW8];exact k2
  have hno:No2 w1 (fun k=>k=W5.heap.size∨k=h+1):=by
   rintro k (rfl | rfl)
   ·exact zgm Hcb.out (by decide) (by decide)
   exact zgm Hq1.out (by decide) (by decide)
  have hb8:Below w.heap.size w W8:=by
   have b1:Below h (W5.alloc (.cells #[.int .i64 0] 3)) w1:=Hfr.out.below (by simp;omega) (by rintro k (rfl | rfl) <;> omega)
   have b2:Below h w1 W8:=hT8.below (by have:=Hz6.out;omega) (by rintro k (rfl | rfl) <;> omega)
   exact Hb6.out.trans ((b1.trans b2).mono hle)
  refine bodyPost_ret (zf8 rfl rfl rfl rfl k3 Tryz.underlying55 rfl (by kernel_rfl)) rfl ?_
  exact⟨.inl ⟨s,j,b1,n1,c1,b2,n2,c2,Hw.out,rfl,zbv Hv1.out hT8 hno,zcv Hv2.out hT8 hno⟩,hb8⟩
 have hz6:=hfr.size
 simp only[World.size_alloc] at hz6
 have hne:(col != 0)=true:=by rw[hcl];simpa using Hcol.out j
 have hq1:=zbd hfr Hq1'.out (by omega)
 obtain⟨W2,hW2⟩ : ∃ W,W=(w1.alloc (.cells #[.int .i64 col] 120)).setCell ⟨W5.heap.size,0,none⟩ (.int .i64 col):=⟨_,rfl⟩
 rw[← hW2]
 have x1:zbb (h+1) (.string ⟨#[]⟩) (.slice none 0 0) (.slice none 0 0) W2:=by rw[hW2];exact za5 (za1 (za2 _ _) hq1) (by omega)
 obtain⟨_,_,_,f0,f1,f2⟩:=zaq x1
 have hb2:Below w.heap.size w W2:=by
  have b1:Below h (W5.alloc (.cells #[.int .i64 0] 3)) w1:=hfr.below (by simp;omega) (by rintro k (rfl | rfl) <;> omega)
  have b2:Below h w1 W2:=by rw[hW2];exact ((za2 _ _).mono (by omega)).setCell (p:=⟨W5.heap.size,0,none⟩) (by show h≤W5.heap.size;omega) _
  exact Hb6.out.trans ((b1.trans b2).mono hle)
 obtain⟨Hw,Hcl,Hfr,Hq1,Hx1,HW2,Hz6,Hb2⟩:=hd8 hw hcl hfr hq1 x1 hW2 hz6 hb2;clear hw hcl hfr hq1 x1 hW2 hz6 hb2
 go_wp2_with fail
 have k0:=heap_setCell_same _ (h+1) 0 _ _ (.string ⟨#[]⟩) Hx1.out
 have k1:=heap_setCell_same _ (h+1) 1 _ _ (.slice none 0 0) k0
 have k2:=heap_setCell_same _ (h+1) 2 _ _ (.slice none 0 0) k1
 have hb8:=((Hb2.out.setCell (p:=⟨h+1,0,none⟩) (by show w.heap.size≤h+1;omega) (.string ⟨#[]⟩)).setCell (p:=⟨h+1,1,none⟩) (by show w.heap.size≤h+1;omega) (.slice none 0 0)).setCell (p:=⟨h+1,2,none⟩) (by show w.heap.size≤h+1;omega) (.slice none 0 0)
 refine bodyPost_ret (zf8 rfl rfl rfl rfl k2 Tryz.underlying55 rfl (by kernel_rfl)) rfl ?_
 refine⟨.inr ⟨j,Hw.out,by rw[← Hcl.out];rfl⟩,hb8⟩
theorem zlj {w:World} {a:Option Addr} {n c:Nat} {fin:Int} {ws:List Wd} (hws:RWds w [.slice a n c] ws) (hD:zbl w) (hn:n≤1000) (hz:∀ x∈ws,x.2.length≤70000) (hcol:∀ j,ze0 ws fin j≠0):Calls Tryz.prog 35 #[.slice a n c,.int .i64 fin] w (zpx fin ws w):=by
 obtain⟨g,hg⟩ : ∃ g,g=w.heap.size:=⟨_,rfl⟩
 obtain⟨W1,hW1⟩ : ∃ W,W=w.alloc (.cells #[.string ⟨#[]⟩,.slice none 0 0,.slice none 0 0] 55):=⟨_,rfl⟩
 have hb1:Below w.heap.size w W1:=by rw[hW1];exact za2 _ _
 have hbx:zbb g (.string ⟨#[]⟩) (.slice none 0 0) (.slice none 0 0) W1:=by rw[hW1,hg];exact heap_alloc_new _ _
 have hO:=zli (za3 zmp _ _ _ _ hws hb1) (hD.below hb1) hn hz hcol
 have hle:w.heap.size≤g:=Nat.le_of_eq hg.symm
 obtain⟨Hws,HD,Hz,Hcol,HO,Hb1,Hbx⟩:=hd7 hws hD hz hcol hO hb1 hbx;clear hws hD hz hcol hO hb1 hbx
 go_enter Tryz.func35,Tryz.ntmps35
 go_upto_region 1 with (fail)
 rw[← hW1,← hg]
 clear hW1 hg
 go_wp2_with fail
 refine HO.out.mono ?_
 rintro e w2 ⟨⟨s,j,b1,n1,c1,b2,n2,c2,hw,rfl,hv1,hv2⟩ | ⟨j,hw,rfl⟩,hb⟩
 ·have x1:=za1 hb Hbx.out
  have hb2:=Hb1.out.trans (hb.mono Hb1.out.size)
  obtain⟨_,_,_,f0,f1,f2⟩:=zaq x1
  obtain⟨Hw,Hv1,Hv2,Hb,Hx1,Hb2⟩:=hd6 hw hv1 hv2 hb x1 hb2;clear hw hv1 hv2 hb x1 hb2
  go_wp2_with fail
  have k0:=heap_setCell_same _ g 0 _ _ (.string s.1) Hx1.out
  have k1:=heap_setCell_same _ g 1 _ _ (.slice b1 n1 c1) k0
  have k2:=heap_setCell_same _ g 2 _ _ (.slice b2 n2 c2) k1
  have hT:Frm (fun k=>k=g) w2 (((w2.setCell ⟨g,0,none⟩ (.string s.1)).setCell ⟨g,1,none⟩ (.slice b1 n1 c1)).setCell ⟨g,2,none⟩ (.slice b2 n2 c2)):=zae (zae (zae (Frm.refl _ _) 0 _) 1 _) 2 _
  have hno:No2 w2 (fun k=>k=g):=by
   rintro k rfl
   exact zgm Hx1.out (by decide) (by decide)
  have hb8:=((Hb2.out.setCell (p:=⟨g,0,none⟩) hle (.string s.1)).setCell (p:=⟨g,1,none⟩) hle (.slice b1 n1 c1)).setCell (p:=⟨g,2,none⟩) hle (.slice b2 n2 c2)
  refine bodyPost_ret (zf8 rfl rfl rfl rfl k2 Tryz.underlying55 rfl (by kernel_rfl)) rfl ?_
  exact⟨.inl ⟨s,j,b1,n1,c1,b2,n2,c2,Hw.out,rfl,zbv Hv1.out hT hno,zcv Hv2.out hT hno⟩,hb8⟩
 have x1:=za1 hb Hbx.out
 have hb2:=Hb1.out.trans (hb.mono Hb1.out.size)
 obtain⟨_,_,_,f0,f1,f2⟩:=zaq x1
 obtain⟨col,hcl⟩ : ∃ x,x=ze0 ws fin j:=⟨_,rfl⟩
 rw[← hcl]
 obtain⟨Hw,Hcl,Hb,Hx1,Hb2⟩:=hd5 hw hcl hb x1 hb2;clear hw hcl hb x1 hb2
 go_wp2_with fail
 have k0:=heap_setCell_same _ g 0 _ _ (.string ⟨#[]⟩) Hx1.out
 have k1:=heap_setCell_same _ g 1 _ _ (.slice none 0 0) k0
 have k2:=heap_setCell_same _ g 2 _ _ (.slice none 0 0) k1
 have hb8:=((Hb2.out.setCell (p:=⟨g,0,none⟩) hle (.string ⟨#[]⟩)).setCell (p:=⟨g,1,none⟩) hle (.slice none 0 0)).setCell (p:=⟨g,2,none⟩) hle (.slice none 0 0)
 refine bodyPost_ret (zf8 rfl rfl rfl rfl k2 Tryz.underlying55 rfl (by kernel_rfl)) rfl ?_
 exact⟨.inr ⟨j,Hw.out,by rw[← Hcl.out];rfl⟩,hb8⟩
end

section
open Go.Shelf Go.RowKit Go.Lib VerN VarM
open LexM (Wd Ln zik)
attribute [local go_sem ↓] Go.wp_at_zero Go.wp_at_succ
theorem zlk {w:World} {v1 v2:Value} {nm:ByteArray} {L:List BSp} {sets:List Setg} {l:List Tp} (h1:RSps w [v1] L) (h2:zcj w [v2] sets) (hS:Sp (nm,L,sets) l) (hD:zbl w) :
  Calls Tryz.prog 34 #[.agg #[.string nm,v1,v2],.func (.func 35) #[] #[]] w fun e w'=>e = .returned (.tuple #[.string (zk0 zbx (nm,L,sets)).1,.bool (zk0 zbx (nm,L,sets)).2])∧Below w.heap.size w w':=by
 have hLt:L=tB l:=hS.sp
 obtain⟨a1,c1,rfl,-,-⟩:=zc5 h1
 obtain⟨a2,c2,rfl,-,-⟩:=zca h2
 obtain⟨n1,hn1⟩ : ∃ n,n=L.length:=⟨_,rfl⟩
 obtain⟨n2,hn2⟩ : ∃ n,n=sets.length:=⟨_,rfl⟩
 rw[← hn1] at h1 ⊢
 rw[← hn2] at h2 ⊢
 obtain⟨W1,hW1⟩ : ∃ W,W=w.alloc (.cells #[.string nm,.slice a1 n1 c1,.slice a2 n2 c2] 55):=⟨_,rfl⟩
 obtain⟨g,hg⟩ : ∃ g,g=w.heap.size:=⟨_,rfl⟩
 have hb1:Below w.heap.size w W1:=by rw[hW1];exact za2 _ _
 have p0:zbb g (.string nm) (.slice a1 n1 c1) (.slice a2 n2 c2) W1:=by rw[hW1,hg];exact heap_alloc_new _ _
 obtain⟨x0,x1,x2,-⟩:=zaq p0
 have r1:=za3 zan _ _ _ _ h1 hb1
 have r2:=za3 zao _ _ _ _ h2 hb1
 have hW:=zhj (nm:=nm) (l:=l) (by rw[← hLt];exact r1) r2 (hD.below hb1) hS.l1 hS.sl hS.nm hS.sz
 rw[← hLt] at hW
 obtain⟨hwz,hwl,hwn⟩:=hS.words
 have htz:=hS.text
 have hte:=zms (nm,L,sets)
 obtain⟨s,hs⟩ : ∃ s:Spc3,s=(nm,L,sets):=⟨_,rfl⟩
 rw[← hs] at hW hwz hwl hwn htz hte
 rw[← hs]
 unfold zla at hW
 obtain⟨ws,hws⟩ : ∃ l,l=zbf s:=⟨_,rfl⟩
 rw[← hws] at hW hwz hwl hwn hte
 obtain⟨t,ht⟩ : ∃ t,t=zi5 s:=⟨_,rfl⟩
 rw[← ht] at htz hte
 have hL:=fun (W:World)=>zj4 t (by omega) W
 rw[LexM.lines_eq] at hL
 have hgood:=LexM.doc_good7 t.data.toList
 have hyes:=zo5 (R:=zbx) (s:=s)
 have hno:=specR_no (R:=zbx) (s:=s)
 unfold ziy at hyes hno
 rw[← ht] at hyes hno
 obtain⟨R,hR⟩ : ∃ R,R=LexM.docLines t.data.toList:=⟨_,rfl⟩
 rw[← hR] at hL hgood hyes hno
 obtain⟨e1,he1⟩ : ∃ z,z=R.at1:=⟨_,rfl⟩
 obtain⟨e2,he2⟩ : ∃ z,z=R.at2:=⟨_,rfl⟩
 obtain⟨er,her⟩ : ∃ z,z=R.e:=⟨_,rfl⟩
 obtain⟨ls,hls⟩ : ∃ z,z=R.lines:=⟨_,rfl⟩
 rw[← her,← hls] at hyes hno
 rw[← hls] at hgood
 unfold zgz at hL
 simp only[← he1,← he2,← her,← hls] at hL
 obtain⟨res,hres⟩ : ∃ q,q=zk0 zbx s:=⟨_,rfl⟩
 rw[← hres] at hyes hno ⊢
 clear he1 he2 her hls hR
 have htb:t.size≤30000000000:=htz
 obtain⟨H1,H2,HS,HD,Hb1,Hp0,Hr1,Hr2,HW,Hwz,Hwl,Hwn,Htz,Hte,HL,Hgood⟩:=hd16 h1 h2 hS hD hb1 p0 r1 r2 hW hwz hwl hwn htz hte hL hgood;obtain⟨Hyes,Hno,Hres,HLt,Hn1,Hn2,Hs,Hws,Ht⟩:=hd9 hyes hno hres hLt hn1 hn2 hs hws ht;clear h1 h2 hS hD hb1 p0 r1 r2 hW hwz hwl hwn htz hte hL hgood hyes hno hres hLt hn1 hn2 hs hws ht
 go_enter Tryz.func34,Tryz.ntmps34
 go_upto_region 1 with (fail)
 rw[← hW1,← hg]
 clear hW1 hg
 go_wp2_with fail
 refine HW.out.mono ?_
 rintro e w2 ⟨a,c,rfl,⟨hrd,-⟩,hb2⟩
 obtain⟨aa,cap,hv,hz,hat⟩:=zba hrd
 have hca:ws.length≤c:=by
  obtain⟨a',cap',hv',hc,_⟩:=hrd
  simp only[List.cons.injEq,and_true,Value.slice.injEq] at hv'
  rw[hv'.2.2]
  exact hc
 obtain⟨rfl,-,rfl⟩:=Value.slice.inj hv
 have hpos:0 < ws.length:=List.length_pos_iff.2 Hwn.out
 obtain⟨bk,o,rfl,hc0,-⟩:=hat 0 hpos
 have hJ:=Tryz.strings_Join bk o c ws ⟨#[32]⟩ w2 (fun j x hj=>by
  obtain⟨hjl,hjx⟩:=List.getElem?_eq_some_iff.1 hj
  obtain⟨b',o',e',h',_⟩:=hat j hjl
  cases e'
  rw[← hjx]
  exact h') (World.block_lt_of_cell? _ _ hc0) (by have:=Hwl.out;omega) hca (by
  have:=Htz.out
  rw[Hte.out,← Txt.len,zcx] at this
  exact Nat.le_trans this (by decide))
 have hjt:(⟨(Lib.join (ws.map (·.data.toList)) (⟨#[32]⟩ : ByteArray).data.toList).toArray⟩ : ByteArray)=t:=by rw[Hte.out];rfl
 rw[hjt] at hJ
 have hbw2:=Hb1.out.trans (hb2.mono Hb1.out.size)
 obtain⟨nw,hnw⟩ : ∃ n,n=ws.length:=⟨_,rfl⟩
 rw[← hnw] at hJ ⊢
 clear hat hv hc0 hz
 obtain⟨Hrd,Hb2,Hca,Hpos,HJ,Hjt,Hbw2,Hnw⟩:=hd8 hrd hb2 hca hpos hJ hjt hbw2 hnw;clear hrd hb2 hca hpos hJ hjt hbw2 hnw
 go_wp2_with fail
 refine HJ.out.mono ?_
 rintro e w3 ⟨rfl,hb3⟩
 have hb13:=Hb2.out.trans (hb3.mono Hb2.out.size)
 have hbw3:=Hb1.out.trans (hb13.mono Hb1.out.size)
 have hL3:=HL.out w3
 obtain⟨Hb3,Hb13,Hbw3,HL3⟩:=hd4 hb3 hb13 hbw3 hL3;clear hb3 hb13 hbw3 hL3
 go_wp2_with fail
 refine HL3.out.mono ?_
 rintro e w4 ⟨v,rfl,hln,hb4⟩
 obtain⟨ad,cp,rfl,-,-,hat⟩:=zqy hln
 clear hat
 obtain⟨m,hm⟩ : ∃ m,m=ls.length:=⟨_,rfl⟩
 rw[← hm] at hln ⊢
 obtain⟨w5,hw5⟩ : ∃ W,W=w4.alloc (.cells #[.int .i64 e1,.int .i64 e2] 31):=⟨_,rfl⟩
 have hb45:Below w4.heap.size w4 w5:=by rw[hw5];exact za2 _ _
 have hb35:=hb4.trans (hb45.mono hb4.size)
 have hbw5:=Hbw3.out.trans (hb35.mono Hbw3.out.size)
 have hln5:=zjx _ _ _ _ hln hb45
 by_cases he:er=0
 ·have k1:(er != 0)=false:=by rw[he];rfl
  by_cases h1:m=1
  ·subst h1
   obtain⟨ln,hl1⟩ : ∃ x,ls = [x]:=List.length_eq_one_iff.1 hm.symm
   have hg:=Hgood.out.1 ln (by rw[hl1];simp)
   have hwl1:=wt_small hg
   have hTx:=text_any hln5 (by rw[hl1,zn6,List.length_append];simp;omega)
   rw[hl1] at hTx
   obtain⟨lt,hlt⟩ : ∃ x:ByteArray,x=⟨(ltx [ln]).toArray⟩:=⟨_,rfl⟩
   rw[← hlt] at hTx
   have hq:(lt.toList == (t ++ ⟨#[10]⟩ : ByteArray).toList)=decide (wt ln.2=t.data.toList):=by rw[hlt];exact ltx_eq ln t
   obtain⟨eq,heq⟩ : ∃ b,b=decide (wt ln.2=t.data.toList):=⟨_,rfl⟩
   rw[← heq] at hq
   have hlz:lt.size≤100000000:=by rw[hlt];show (ltx [ln]).length≤_;rw[zn6,List.length_append];simp;omega
   rw[hl1] at hln5
   cases eq with
   | false =>
    have hr:res=(noT,false):=Hno.out (by
     rintro⟨-,ln',h2,h3,-⟩
     rw[hl1] at h2
     cases h2
     exact absurd h3 (of_decide_eq_false heq.symm))
    obtain⟨Hln,Hb4,Hb45,Hb35,Hbw5,Hln5,He,Hm,Hl1,Hg,Hwl1,HTx,Hlt,Heq,Hr,Hlz⟩:=hd16 hln hb4 hb45 hb35 hbw5 hln5 he hm hl1 hg hwl1 hTx hlt heq hr hlz;clear hln hb4 hb45 hb35 hbw5 hln5 he hm hl1 hg hwl1 hTx hlt heq hr hlz
    go_upto_region 3 with (fail)
    rw[← hw5]
    clear hw5
    go_wp2_with fail
    refine HTx.out.mono ?_
    rintro e w6 ⟨rfl,hb6⟩
    have Hb6:=hd hb6;clear hb6
    go_wp2_with fail
    go_ret2
    exact⟨by rw[Hr.out];rfl,Hbw5.out.trans (Hb6.out.mono Hbw5.out.size)⟩
   | true =>
    have hwt:wt ln.2=t.data.toList:=of_decide_eq_true heq.symm
    have hb5':=hb35
    have he0:=he
    have hl1':=hl1
    have hwt':=hwt
    obtain⟨Hln,Hb4,Hb45,Hb35,Hbw5,He,Hm,Hlt,Heq,Hlz,Hl1,Hwt⟩:=hd12 hln hb4 hb45 hb35 hbw5 he hm hlt heq hlz hl1 hwt;clear hln hb4 hb45 hb35 hbw5 he hm hlt heq hlz hl1 hwt
    go_upto_region 3 with (fail)
    rw[← hw5]
    clear hw5
    have Hln5:=Lib.hid hln5
    clear hln5
    have HTx:=Lib.hid hTx
    clear hTx
    go_wp2_with fail
    refine HTx.out.mono ?_
    rintro e w6 ⟨rfl,hb6⟩
    have hbw6:=Hbw5.out.trans (hb6.mono Hbw5.out.size)
    have hln6:=zjx _ _ _ _ Hln5.out hb6
    have hp6:=za1 (hb5'.trans (hb6.mono hb5'.size)) (za1 Hb13.out Hp0.out)
    obtain⟨a',c',ha',-,-,hat⟩:=zqy hln6
    simp only[List.length_singleton,Value.slice.injEq] at ha'
    obtain⟨rfl,-,-⟩:=ha'
    obtain⟨bq,o,rfl,c0,v,c1,hwd⟩:=hat 0 (by simp)
    clear hat c0
    rw[Nat.zero_mul,Nat.add_zero] at c1
    rw[List.getElem_cons_zero] at hwd
    obtain⟨wa,wc,rfl⟩:=znv hwd
    obtain⟨nw,hnw2⟩ : ∃ n,n=ln.2.length:=⟨_,rfl⟩
    rw[← hnw2] at c1 hwd
    have hcol:∀ j,ze0 ln.2 ((t.size:Int)+1) j≠0:=fun j=>by
     by_cases hj:j < ln.2.length
     ·rw[zsx hj]
      have:=(hg.2.2.2 _ (List.getElem_mem hj)).1
      omega
     rw[zsy (by omega)]
     omega
    have hnw40:nw≤40:=by have:=hg.2.2.1;omega
    have hO:=zlj (fin:=(t.size:Int)+1) hwd (HD.out.below hbw6) (by omega) (fun x hx=>(hg.2.2.2 x hx).2.2.2) hcol
    obtain⟨fin,hfin⟩ : ∃ f,f=(t.size:Int)+1:=⟨_,rfl⟩
    rw[← hfin] at hO hcol
    obtain⟨Hln6,Hb6,Hbw6,Hp6,Hwd,HO,Hg,Hnw2,Hcol,Hfin⟩:=hd10 hln6 hb6 hbw6 hp6 hwd hO hg hnw2 hcol hfin;clear hln6 hb6 hbw6 hp6 hwd hO hg hnw2 hcol hfin
    go_wp2_with fail
    rw[← Hfin.out]
    refine HO.out.mono ?_
    rintro e w7 ⟨⟨s2,j,b1,m1,d1,b2,m2,d2,hw,rfl,hv1,hv2⟩ | ⟨j,hw,rfl⟩,hb7⟩
    ·have hbw7:=Hbw6.out.trans (hb7.mono Hbw6.out.size)
     obtain⟨w8,hw8⟩ : ∃ W,W=w7.alloc (.cells #[.string s2.1,.slice b1 m1 d1,.slice b2 m2 d2] 55):=⟨_,rfl⟩
     have hb78:Below w7.heap.size w7 w8:=by rw[hw8];exact za2 _ _
     have hb68:=hb7.trans (hb78.mono hb7.size)
     have hbw8:=Hbw6.out.trans (hb68.mono Hbw6.out.size)
     obtain⟨q,hq⟩ : ∃ k,k=w7.heap.size:=⟨_,rfl⟩
     have pq:zbb q (.string s2.1) (.slice b1 m1 d1) (.slice b2 m2 d2) w8:=by rw[hw8,hq];exact heap_alloc_new _ _
     have hp8:=za1 hb68 Hp6.out
     obtain⟨y0,y1,y2,-⟩:=zaq pq
     clear x0 x1 x2
     obtain⟨x0,x1,x2,-⟩:=zaq hp8
     have c8:=cell_later hb68 c1
     have hSame:=zdk (n:=s2.1) (m:=nm) (zdz hv1 hb78).1 (zq6 hv2 hb78).1 (za3 zan _ _ _ _ H1.out hbw8) (za3 zao _ _ _ _ H2.out hbw8)
     obtain⟨s21,hs21⟩ : ∃ x,x=s2.1:=⟨_,rfl⟩
     rw[← hs21] at hSame y0 hw8 ⊢
     obtain⟨same,hsame⟩ : ∃ b,b=decide ((s21,s2.2.1,s2.2.2)=(nm,L,sets)):=⟨_,rfl⟩
     rw[← hsame] at hSame
     have hsm:same=true↔s2=s:=by
      rw[hsame,decide_eq_true_eq,hs21,Hs.out]
     by_cases hj:j=nw
     ·subst hj
      cases same with
      | true =>
       have hs2:s2=s:=hsm.1 rfl
       have hr:res=(t,true):=Hyes.out ⟨he0,ln,hl1',hwt',by rw[← Hnw2.out,← hs2];exact hw⟩
       obtain⟨Hw,Hv1,Hv2,Hb7,Hbw7,Hb78,Hb68,Hbw8,Hq,Hpq,Hp8,HSame,Hs21,Hsame,Hsm,Hs2⟩:=hd16 hw hv1 hv2 hb7 hbw7 hb78 hb68 hbw8 hq pq hp8 hSame hs21 hsame hsm hs2;have Hr:=hd hr;clear hw hv1 hv2 hb7 hbw7 hb78 hb68 hbw8 hq pq hp8 hSame hs21 hsame hsm hs2 hr
       go_upto_region 6 with (fail)
       rw[← hw8,← Hq.out]
       clear hw8
       go_wp2_with fail
       refine HSame.out.mono ?_
       rintro e w9 ⟨rfl,hb9⟩
       have Hb9:=hd hb9;clear hb9
       go_wp2_with fail
       go_ret2
       exact⟨by rw[Hr.out];rfl,Hbw8.out.trans (Hb9.out.mono Hbw8.out.size)⟩
      | false =>
       have hr:res=(noT,false):=Hno.out (by
        rintro⟨-,ln',h2,-,h4⟩
        rw[hl1'] at h2
        cases h2
        rw[hw] at h4
        have h5:s2=s:=by cases h4;rfl
        exact absurd (hsm.2 h5) (by simp))
       obtain⟨Hw,Hv1,Hv2,Hb7,Hbw7,Hb78,Hb68,Hbw8,Hq,Hpq,Hp8,HSame,Hs21,Hsame,Hsm,Hr⟩:=hd16 hw hv1 hv2 hb7 hbw7 hb78 hb68 hbw8 hq pq hp8 hSame hs21 hsame hsm hr;clear hw hv1 hv2 hb7 hbw7 hb78 hb68 hbw8 hq pq hp8 hSame hs21 hsame hsm hr
       go_upto_region 6 with (fail)
       rw[← hw8,← Hq.out]
       clear hw8
       go_wp2_with fail
       refine HSame.out.mono ?_
       rintro e w9 ⟨rfl,hb9⟩
       have Hb9:=hd hb9;clear hb9
       go_wp2_with fail
       go_ret2
       exact⟨by rw[Hr.out];rfl,Hbw8.out.trans (Hb9.out.mono Hbw8.out.size)⟩
     have k3:((j:Int) != (nw:Int))=true:=by simp;omega
     have hr:res=(noT,false):=Hno.out (by
      rintro⟨-,ln',h2,-,h4⟩
      rw[hl1'] at h2
      cases h2
      rw[hw] at h4
      have h5:j=ln.2.length:=by cases h4;rfl
      exact hj (h5.trans Hnw2.out.symm))
     obtain⟨Hw,Hv1,Hv2,Hb7,Hbw7,Hb78,Hb68,Hbw8,Hq,Hpq,Hp8,HSame,Hs21,Hsame,Hsm,Hj⟩:=hd16 hw hv1 hv2 hb7 hbw7 hb78 hb68 hbw8 hq pq hp8 hSame hs21 hsame hsm hj;have Hr:=hd hr;clear hw hv1 hv2 hb7 hbw7 hb78 hb68 hbw8 hq pq hp8 hSame hs21 hsame hsm hj hr
     go_upto_region 6 with (fail)
     rw[← hw8,← Hq.out]
     clear hw8
     go_wp2_with fail
     go_ret2
     exact⟨by rw[Hr.out];rfl,Hbw8.out⟩
    obtain⟨cl,hcl⟩ : ∃ x,x=ze0 ln.2 fin j:=⟨_,rfl⟩
    have hne:(cl != 0)=true:=by rw[hcl];simpa using Hcol.out j
    rw[← hcl]
    have hr:res=(noT,false):=Hno.out (by
     rintro⟨-,ln',h2,-,h4⟩
     rw[hl1'] at h2
     cases h2
     rw[hw] at h4
     cases h4)
    have hbw7:=Hbw6.out.trans (hb7.mono Hbw6.out.size)
    obtain⟨w8,hw8⟩ : ∃ W,W=w7.alloc (.cells #[.string ⟨#[]⟩,.slice none 0 0,.slice none 0 0] 55):=⟨_,rfl⟩
    have hb78:Below w7.heap.size w7 w8:=by rw[hw8];exact za2 _ _
    have hbw8:=hbw7.trans (hb78.mono hbw7.size)
    obtain⟨Hw,Hb7,Hbw7,Hb78,Hbw8,Hcl,Hr⟩:=hd7 hw hb7 hbw7 hb78 hbw8 hcl hr;clear hw hb7 hbw7 hb78 hbw8 hcl hr
    go_upto_region 6 with (fail)
    rw[← hw8]
    clear hw8
    go_wp2_with fail
    go_ret2
    exact⟨by rw[Hr.out];rfl,Hbw8.out⟩
  have k2:((m:Int) != 1)=true:=by simp;omega
  have hr:res=(noT,false):=Hno.out (by
   rintro⟨-,ln',h2,-,-⟩
   rw[h2] at hm
   exact h1 hm)
  obtain⟨Hln,Hb4,Hb45,Hb35,Hbw5,Hln5,He,Hm,H1,Hr⟩:=hd10 hln hb4 hb45 hb35 hbw5 hln5 he hm h1 hr;clear hln hb4 hb45 hb35 hbw5 hln5 he hm h1 hr
  go_upto_region 3 with (fail)
  rw[← hw5]
  clear hw5
  go_wp2_with fail
  go_ret2
  exact⟨by rw[Hr.out];rfl,Hbw5.out⟩
 have k1:(er != 0)=true:=by simpa using he
 have hr:res=(noT,false):=Hno.out (fun h=>he h.1)
 obtain⟨Hln,Hb4,Hb45,Hb35,Hbw5,Hln5,He,Hm,Hr⟩:=hd9 hln hb4 hb45 hb35 hbw5 hln5 he hm hr;clear hln hb4 hb45 hb35 hbw5 hln5 he hm hr
 go_upto_region 3 with (fail)
 rw[← hw5]
 clear hw5
 go_wp2_with fail
 go_ret2
 exact⟨by rw[Hr.out];rfl,Hbw5.out⟩
theorem zmy {w:World} {v1 v2:Value} {nm:ByteArray} {L:List BSp} {sets:List Setg} {l:List Tp} (h1:RSps w [v1] L) (h2:zcj w [v2] sets) (hS:Sp (nm,L,sets) l) (hD:zbl w) :
  Calls Tryz.prog 15 #[.agg #[.string nm,v1,v2]] w fun e w'=>e = .returned (.tuple #[.string (zk0 zbx (nm,L,sets)).1,.bool (zk0 zbx (nm,L,sets)).2])∧Below w.heap.size w w':=by
 obtain⟨a1,c1,rfl⟩:=zcq h1
 obtain⟨a2,c2,rfl⟩:=zcm h2
 obtain⟨W1,hW1⟩ : ∃ W,W=w.alloc (.cells #[.string nm,.slice a1 L.length c1,.slice a2 sets.length c2] 55):=⟨_,rfl⟩
 obtain⟨g,hg⟩ : ∃ g,g=w.heap.size:=⟨_,rfl⟩
 have hb1:Below w.heap.size w W1:=by rw[hW1];exact za2 _ _
 have p0:zbb g (.string nm) (.slice a1 L.length c1) (.slice a2 sets.length c2) W1:=by rw[hW1,hg];exact heap_alloc_new _ _
 have hP:=zlk (za3 zan _ _ _ _ h1 hb1) (za3 zao _ _ _ _ h2 hb1) hS (hD.below hb1)
 obtain⟨n1,hn1⟩ : ∃ n,n=L.length:=⟨_,rfl⟩
 obtain⟨n2,hn2⟩ : ∃ n,n=sets.length:=⟨_,rfl⟩
 rw[← hn1,← hn2] at hP p0 hW1 ⊢
 obtain⟨res,hres⟩ : ∃ q,q=zk0 zbx (nm,L,sets):=⟨_,rfl⟩
 rw[← hres] at hP ⊢
 obtain⟨x0,x1,x2,-⟩:=zaq p0
 obtain⟨r1,r2⟩:=res
 obtain⟨H1,H2,HS,HD,Hb1,Hp0,HP,Hn1,Hn2,Hres⟩:=hd10 h1 h2 hS hD hb1 p0 hP hn1 hn2 hres;clear h1 h2 hS hD hb1 p0 hP hn1 hn2 hres
 go_enter Tryz.func15,Tryz.ntmps15
 go_upto_region 1 with (fail)
 rw[← hW1,← hg]
 clear hW1 hg
 go_wp2_with fail
 refine HP.out.mono ?_
 rintro e w2 ⟨rfl,hb2⟩
 have Hb2:=hd hb2;clear hb2
 go_wp2_with fail
 go_ret2
 exact⟨rfl,Hb1.out.trans (Hb2.out.mono Hb1.out.size)⟩
end

section
open Go.Shelf Go.RowKit Go.Lib VerN VarM
open LexM (Wd Ln)
attribute [local go_sem ↓] Go.wp_at_zero Go.wp_at_succ
theorem zo3:zi5 (noT,allV,[])=ze7:=by
 have hf:zbk (noT,allV,[])=noT:=by unfold zbk;rw[if_pos rfl]
 unfold zi5
 rw[hf]
 exact if_pos rfl
theorem doc_star:LexM.docLines ze7.data.toList=⟨[(1,[(1,[42])])],0,0,0⟩:=by kernel_rfl
theorem ztq:zk0 zbx (noT,allV,[])=(ze7,true):=by
 have h:ziy zbx (zi5 (noT,allV,[])) (noT,allV,[]):=by
  rw[zo3]
  unfold ziy
  rw[doc_star]
  refine⟨rfl,_,rfl,rfl,?_⟩
  have hp:zag [((1:Int),[(42:UInt8)])] 0=ze7:=by rw[zgl (by decide)];rfl
  exact zme hp
 rw[zo5 h,zo3]
theorem zh4 {s:Spc3} (h:zd1 s):∃ l,Sp s l:=by
 obtain⟨h1,h2,⟨h3,h4⟩,h5⟩:=h
 have hex:∀ L:List BSp,(∀ z∈L,z.1.size≤100∧z.2.size≤100)→∃ l:List Tp,L=tB l∧l.length=L.length:=by
  intro L
  induction L with
  | nil=>intro _;exact⟨[],rfl,rfl⟩
  | cons z L ih =>
   intro h
   obtain⟨l,e1,e2⟩:=ih (fun x hx=>h x (by simp[hx]))
   have hz:=h z (by simp)
   exact⟨⟨z,by omega⟩ :: l,by rw[e1];rfl,by simp[e2]⟩
 obtain⟨l,e1,e2⟩:=hex s.2.1 h4
 exact⟨l,e1,by omega,by omega,by omega,fun x hx=>by have:=h5 x hx;omega⟩
theorem zr6 {w:World} (hD:zbl w):Calls Tryz.prog 7 #[] w fun e w'=>e = .returned (.bool true)∧Below w.heap.size w w':=by
 obtain⟨W1,hW1⟩ : ∃ W,W=w.alloc (.cells #[.string ⟨#[]⟩,.string ⟨#[]⟩] 51):=⟨_,rfl⟩
 have hb1:Below w.heap.size w W1:=by rw[hW1];exact za2 _ _
 have hr:RSps W1 [.slice (some ⟨w.heap.size,0,none⟩) 1 1] allV:=by rw[hW1];exact (zih w).1
 have hs:zcj W1 [.slice none 0 0] []:=⟨_,0,rfl,Nat.zero_le _,Nat.zero_le _,fun i x hi=>by simp at hi⟩
 obtain⟨l,hl⟩:=zh4 (s:=(noT,allV,[])) ⟨by decide,by decide,⟨by decide,fun z hz=>by simp[allV] at hz;rw[hz];decide⟩,fun x hx=>by simp at hx⟩
 have hP:=zmy (nm:=noT) hr hs hl (hD.below hb1)
 rw[ztq] at hP
 have e:noT=⟨#[]⟩:=rfl
 have e2:ze7=⟨#[42]⟩:=rfl
 rw[e,e2] at hP
 obtain⟨g,hg⟩ : ∃ g,g=w.heap.size:=⟨_,rfl⟩
 rw[← hg] at hP
 clear e e2
 obtain⟨HD,Hb1,Hr,Hs,Hl,HP⟩:=hd6 hD hb1 hr hs hl hP;clear hD hb1 hr hs hl hP
 go_enter Tryz.func7,Tryz.ntmps7
 go_wp2_with fail
 rw[← hW1,← hg]
 clear hW1 hg
 refine HP.out.mono ?_
 rintro e w2 ⟨rfl,hb2⟩
 have Hb2:=hd hb2;clear hb2
 go_wp2_with fail
 go_ret
 exact⟨rfl,Hb1.out.trans (Hb2.out.mono Hb1.out.size)⟩
end

section
open Go.Lib VerN VarM
theorem zq0 {s:Spc3} (h:zd1 s):(zi5 s).size≤20369042:=by
 obtain⟨l,hl⟩:=zh4 h
 have h1:=hl.first
 have h2:=zp6 hl.sz s.2.2.length (zbk s) (Nat.le_refl _)
 rw[List.take_length] at h2
 have h3:=h.2.1
 unfold zi5
 split
 ·decide
 omega
theorem zkx (a:ByteArray) (l:List ByteArray):zbr (a :: l)=a.size+1+zbr l:=rfl
theorem zig {s:Spc3} (h:zd1 s):zbr (zbf s)≤20369043:=by
 have h1:=zkk (zo4 s)
 have h2:=zq0 h
 rw[zms] at h2
 rw[Txt.len] at h1
 omega
theorem zmd:∀ {l:List ByteArray},(∀ x∈l,x.size≤100)→zbr l≤101 * l.length
 | [],_=>Nat.le_refl _
 | x :: l,h=>by
  have h1:=zmd (l:=l) fun y hy=>h y (by simp[hy])
  have h2:=h x (by simp)
  rw[zkx,List.length_cons]
  omega
theorem zkw {l:List ByteArray} (h:zj9 l):zbr l≤5050:=by
 have h1:=zmd h.2
 have h2:=h.1
 omega
theorem costL_le {L:List Tln} {C:Nat} (h:∀ m∈L,zbr m.2≤C):zg3 (L.map (·.2))≤C * L.length:=by
 induction L with
 | nil=>exact Nat.zero_le _
 | cons x L ih =>
  have h1:=ih fun m hm=>h m (by simp[hm])
  have h2:=h x (by simp)
  have e:zg3 ((x :: L).map (·.2))=zbr x.2+zg3 (L.map (·.2)):=rfl
  rw[e,List.length_cons,Nat.mul_succ]
  omega
theorem pk_cost {star:Spc3→Bool} {p:PkgM} (h:zno p):(∀ m∈pkLs star p,zbr m.2≤41000000)∧(pkLs star p).length≤231:=by
 constructor
 ·intro m hm
  unfold pkLs at hm
  simp only[List.mem_cons,List.mem_append,List.mem_map] at hm
  rcases hm with rfl | ⟨q,hq,rfl⟩ | ⟨q,hq,rfl⟩ | ⟨q,hq,rfl⟩ | ⟨q,hq,rfl⟩ | ⟨q,hq,rfl⟩ | ⟨q,hq,rfl⟩
  ·have:=h.name
   have e:zbr [zbh,p.name]=8+(p.name.size+1):=rfl
   rw[e]
   omega
  ·have:=h.rel.2 q hq
   have e:zbr (relWs q)=8+(q.1.size+1+zbr (if q.2=true then [wOld] else [])):=rfl
   have e2:zbr (if q.2=true then [wOld] else [])≤4:=by split <;> decide
   rw[e]
   omega
  ·have h1:=(h.vars.2 q hq).1
   have h2:=zkw (h.vars.2 q hq).2
   have e:zbr (zta q)=8+(q.1.size+1+zbr q.2):=rfl
   rw[e]
   omega
  ·have:=h.prov.2 q hq
   have e:zbr [zc7,q]=9+(q.size+1):=rfl
   rw[e]
   omega
  ·have h1:=zig (h.dep.2 q hq).1
   have h2:=zig (h.dep.2 q hq).2
   have e:zbr (depWs star q)=8+zbr (zbf q.1 ++ if star q.2.1=true then [] else zle :: zbf q.2.1):=rfl
   have e2:zbr (if star q.2.1=true then [] else zle :: zbf q.2.1)≤5+zbr (zbf q.2.1):=by
    split
    ·exact Nat.zero_le _
    exact Nat.le_refl _
   rw[e,zky]
   omega
  ·have h1:=zig (h.conf.2 q hq).1
   have h2:=zig (h.conf.2 q hq).2
   have e2:zbr (zkz q)≤10+(zbr (zbf q.1)+(5+zbr (zbf q.2.1))):=by
    unfold zkz
    rw[zkx,zky]
    have e3:zbz.size=9:=rfl
    split
    ·have:zbr []=0:=rfl
     omega
    rw[zkx]
    have e4:zmm.size=4:=rfl
    omega
   show zbr (zkz q)≤_
   omega
  have:=h.files.2 q hq
  have e:zbr [zlf,q]=5+(q.size+1):=rfl
  rw[e]
  omega
 rw[pk_len]
 have h1:=h.rel.1
 have h2:=h.vars.1
 have h3:=h.prov.1
 have h4:=h.dep.1
 have h5:=h.conf.1
 have h6:=h.files.1
 omega
theorem flat_len {α β:Type} {f:α→List β} {C:Nat}:∀ {l:List α},(∀ x∈l,(f x).length≤C)→(l.flatMap f).length≤C * l.length
 | [],_=>Nat.le_refl _
 | x :: l,h=>by
  have h1:=flat_len (l:=l) fun y hy=>h y (by simp[hy])
  have h2:=h x (by simp)
  rw[List.flatMap_cons,List.length_append,List.length_cons,Nat.mul_succ]
  omega
theorem zs0 {star:Spc3→Bool} {x:RcpM} (h:zlb x):(txT (rcLs star x)).length≤4398046511104:=by
 have hc:∀ m∈rcLs star x,zbr m.2≤41000000:=fun m hm=>by
  unfold rcLs at hm
  rcases List.mem_append.1 hm with hm | hm
  ·obtain⟨p,hp,hm⟩:=List.mem_flatMap.1 hm
   exact (pk_cost (h.1.2 p hp)).1 m hm
  obtain⟨q,hq,rfl⟩:=List.mem_map.1 hm
  have h1:=h.2.2 q hq
  have h2:=zkw h1.2
  have h3:=h1.1
  have e:zbr (zj2 q)=7+(q.1.size+1+zbr q.2.1):=rfl
  show zbr (zj2 q)≤_
  rw[e]
  omega
 have hl:(rcLs star x).length≤6950:=by
  have h1:=flat_len (f:=pkLs star) (C:=231) fun p hp=>(pk_cost (star:=star) (h.1.2 p hp)).2
  have h2:=h.1.1
  have h3:=h.2.1
  unfold rcLs
  rw[List.length_append,List.length_map]
  omega
 have h1:=txT_len _ (rcLs_ne (star:=star) (x:=x))
 have h2:=costL_le hc
 have h3:41000000 * (rcLs star x).length≤41000000 * 6950:=Nat.mul_le_mul_left _ hl
 omega
theorem zo9 {x:RcpM} (h:zlb x):SpR x:=fun p hp=>⟨fun d hd=>⟨zh4 ((h.1.2 p hp).dep.2 d hd).1,zh4 ((h.1.2 p hp).dep.2 d hd).2⟩,fun d hd=>⟨zh4 ((h.1.2 p hp).conf.2 d hd).1,zh4 ((h.1.2 p hp).conf.2 d hd).2⟩⟩
end
end Go.Proofs.YthgibhhbmmkjmaaGreatDoor
