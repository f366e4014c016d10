/- Walks and plain facts. Texts merged: PrintSpecs. Condition: none beyond what each says. -/
import Derived.Test.YteailgjiifdgcaaGreatDoorPrintSpecsAll13
set_option linter.unusedVariables false
set_option linter.unusedSimpArgs false
set_option maxRecDepth 10000
set_option maxHeartbeats 4000000
namespace Go.Proofs.YteailgjiifdgcaaGreatDoor
section
theorem hzPrintSpecs2 {p0 p1:Prop} (hp0:p0) (hp1:p1):Go.RowKit.Hid p0∧Go.RowKit.Hid p1:=⟨hp0,hp1⟩
theorem hzPrintSpecs3 {p0 p1 p2:Prop} (hp0:p0) (hp1:p1) (hp2:p2):Go.RowKit.Hid p0∧Go.RowKit.Hid p1∧Go.RowKit.Hid p2:=⟨hp0,hp1,hp2⟩
theorem hzPrintSpecs4 {p0 p1 p2 p3:Prop} (hp0:p0) (hp1:p1) (hp2:p2) (hp3:p3):Go.RowKit.Hid p0∧Go.RowKit.Hid p1∧Go.RowKit.Hid p2∧Go.RowKit.Hid p3:=⟨hp0,hp1,hp2,hp3⟩
theorem hzPrintSpecs5 {p0 p1 p2 p3 p4:Prop} (hp0:p0) (hp1:p1) (hp2:p2) (hp3:p3) (hp4:p4):Go.RowKit.Hid p0∧Go.RowKit.Hid p1∧Go.RowKit.Hid p2∧Go.RowKit.Hid p3∧Go.RowKit.Hid p4:=⟨hp0,hp1,hp2,hp3,hp4⟩
theorem hzPrintSpecs6 {p0 p1 p2 p3 p4 p5:Prop} (hp0:p0) (hp1:p1) (hp2:p2) (hp3:p3) (hp4:p4) (hp5:p5):Go.RowKit.Hid p0∧Go.RowKit.Hid p1∧Go.RowKit.Hid p2∧Go.RowKit.Hid p3∧Go.RowKit.Hid p4∧Go.RowKit.Hid p5:=⟨hp0,hp1,hp2,hp3,hp4,hp5⟩
theorem hzPrintSpecs7 {p0 p1 p2 p3 p4 p5 p6:Prop} (hp0:p0) (hp1:p1) (hp2:p2) (hp3:p3) (hp4:p4) (hp5:p5) (hp6:p6):Go.RowKit.Hid p0∧Go.RowKit.Hid p1∧Go.RowKit.Hid p2∧Go.RowKit.Hid p3∧Go.RowKit.Hid p4∧Go.RowKit.Hid p5∧Go.RowKit.Hid p6:=⟨hp0,hp1,hp2,hp3,hp4,hp5,hp6⟩
theorem hzPrintSpecs8 {p0 p1 p2 p3 p4 p5 p6 p7:Prop} (hp0:p0) (hp1:p1) (hp2:p2) (hp3:p3) (hp4:p4) (hp5:p5) (hp6:p6) (hp7:p7):Go.RowKit.Hid p0∧Go.RowKit.Hid p1∧Go.RowKit.Hid p2∧Go.RowKit.Hid p3∧Go.RowKit.Hid p4∧Go.RowKit.Hid p5∧Go.RowKit.Hid p6∧Go.RowKit.Hid p7:=⟨hp0,hp1,hp2,hp3,hp4,hp5,hp6,hp7⟩
theorem hzPrintSpecs9 {p0 p1 p2 p3 p4 p5 p6 p7 p8:Prop} (hp0:p0) (hp1:p1) (hp2:p2) (hp3:p3) (hp4:p4) (hp5:p5) (hp6:p6) (hp7:p7) (hp8:p8):Go.RowKit.Hid p0∧Go.RowKit.Hid p1∧Go.RowKit.Hid p2∧Go.RowKit.Hid p3∧Go.RowKit.Hid p4∧Go.RowKit.Hid p5∧Go.RowKit.Hid p6∧Go.RowKit.Hid p7∧Go.RowKit.Hid p8:=⟨hp0,hp1,hp2,hp3,hp4,hp5,hp6,hp7,hp8⟩
theorem hzPrintSpecs10 {p0 p1 p2 p3 p4 p5 p6 p7 p8 p9:Prop} (hp0:p0) (hp1:p1) (hp2:p2) (hp3:p3) (hp4:p4) (hp5:p5) (hp6:p6) (hp7:p7) (hp8:p8) (hp9:p9):Go.RowKit.Hid p0∧Go.RowKit.Hid p1∧Go.RowKit.Hid p2∧Go.RowKit.Hid p3∧Go.RowKit.Hid p4∧Go.RowKit.Hid p5∧Go.RowKit.Hid p6∧Go.RowKit.Hid p7∧Go.RowKit.Hid p8∧Go.RowKit.Hid p9:=⟨hp0,hp1,hp2,hp3,hp4,hp5,hp6,hp7,hp8,hp9⟩
theorem hzPrintSpecs14 {p0 p1 p2 p3 p4 p5 p6 p7 p8 p9 p10 p11 p12 p13:Prop} (hp0:p0) (hp1:p1) (hp2:p2) (hp3:p3) (hp4:p4) (hp5:p5) (hp6:p6) (hp7:p7) (hp8:p8) (hp9:p9) (hp10:p10) (hp11:p11) (hp12:p12) (hp13:p13):Go.RowKit.Hid p0∧Go.RowKit.Hid p1∧Go.RowKit.Hid p2∧Go.RowKit.Hid p3∧Go.RowKit.Hid p4∧Go.RowKit.Hid p5∧Go.RowKit.Hid p6∧Go.RowKit.Hid p7∧Go.RowKit.Hid p8∧Go.RowKit.Hid p9∧Go.RowKit.Hid p10∧Go.RowKit.Hid p11∧Go.RowKit.Hid p12∧Go.RowKit.Hid p13:=⟨hp0,hp1,hp2,hp3,hp4,hp5,hp6,hp7,hp8,hp9,hp10,hp11,hp12,hp13⟩
theorem hzPrintSpecs16 {p0 p1 p2 p3 p4 p5 p6 p7 p8 p9 p10 p11 p12 p13 p14 p15:Prop} (hp0:p0) (hp1:p1) (hp2:p2) (hp3:p3) (hp4:p4) (hp5:p5) (hp6:p6) (hp7:p7) (hp8:p8) (hp9:p9) (hp10:p10) (hp11:p11) (hp12:p12) (hp13:p13) (hp14:p14) (hp15:p15):Go.RowKit.Hid p0∧Go.RowKit.Hid p1∧Go.RowKit.Hid p2∧Go.RowKit.Hid p3∧Go.RowKit.Hid p4∧Go.RowKit.Hid p5∧Go.RowKit.Hid p6∧Go.RowKit.Hid p7∧Go.RowKit.Hid p8∧Go.RowKit.Hid p9∧Go.RowKit.Hid p10∧Go.RowKit.Hid p11∧Go.RowKit.Hid p12∧Go.RowKit.Hid p13∧Go.RowKit.Hid p14∧Go.RowKit.Hid p15:=⟨hp0,hp1,hp2,hp3,hp4,hp5,hp6,hp7,hp8,hp9,hp10,hp11,hp12,hp13,hp14,hp15⟩
open Go.Shelf Go.RowKit Go.Lib VerN VarM
open LexM (Wd Ln)
attribute [local go_sem ↓] Go.wp_at_zero Go.wp_at_succ
abbrev LcBox (k:Nat) (v:Value) (x y z:Int) (W:World):Prop:=W.heap[k]? = some (.cells #[v,.int .i64 x,.int .i64 y,.int .i64 z] 58 (0,0))
theorem zgc {k:Nat} {v:Value} {x y z:Int} {W:World} (h:LcBox k v x y z W):W.cell? ⟨k,0,none⟩=some v∧W.cell? ⟨k,3,none⟩=some (.int .i64 z):=⟨za5 h 0,za5 h 3⟩
def wtB (ws:List Wd):ByteArray:=⟨(wt ws).toArray⟩
theorem znb {ws:List Wd} (h:0 < ws.length):wtB (ws.take 0) ++ ⟨ws[0].2.toArray⟩=wtB (ws.take (0+1)):=by
 apply Txt.ext
 rw[Go.Joins.data_append,zg8 ws 0 h]
 show wt (ws.take 0) ++ ws[0].2=wt (ws.take 0 ++ [ws[0]])
 rw[zp9]
 simp
theorem zqr {ws:List Wd} {k:Nat} (h:k < ws.length) (h0:0 < k):wtB (ws.take k) ++ ⟨#[32]⟩ ++ ⟨ws[k].2.toArray⟩=wtB (ws.take (k+1)):=by
 apply Txt.ext
 rw[Go.Joins.data_append,Go.Joins.data_append,zg8 ws k h]
 show wt (ws.take k) ++ [32] ++ ws[k].2=wt (ws.take k ++ [ws[k]])
 rw[zp9,if_neg (by rw[List.length_take];omega),List.append_assoc]
theorem wtB_eq (ws:List Wd) (t:ByteArray):((wtB ws).toList == t.toList)=decide (wt ws=t.data.toList):=by
 rw[Txt.eq_dec]
 refine decide_eq_decide.2 ⟨fun h=>by rw[← h];rfl,fun h=>Txt.ext (by rw[← h];rfl)⟩
theorem zd4 {t:ByteArray} (h:t=noT):t.toList.isEmpty=true:=by rw[h,Txt.no_dec];rfl
theorem zsi {w:World} {v1 v2:Value} {nm:ByteArray} {L:List BSp} {sets:List Setg} (h1:RSps w [v1] L) (h2:zd8 w [v2] sets) (hD:zbk w) :
  Calls Tryz.prog 7 #[.agg #[.string nm,v1,v2],.bool false] w fun e w'=>e = .returned (.bool true)∧Below w.heap.size w w':=by
 have hG1:=fun (W:World) (k:Below w.heap.size w W)=>zkb (nm:=nm) (za6 zat _ _ _ _ h1 k) (za6 zaw _ _ _ _ h2 k)
 have hFx:=fun (W:World) (k:Below w.heap.size w W)=>zke (hD.below k)
 have hC1:=fun (W:World) (k:Below w.heap.size w W) (l:List Tp) (hl:Sp (nm,L,sets) l)=>zf0 (za6 zat _ _ _ _ h1 k) (za6 zaw _ _ _ _ h2 k) hl (hD.below k)
 have hW1:=fun (W:World) (k:Below w.heap.size w W) (l:List Tp) (hl:Sp (nm,L,sets) l)=>zhm (za6 zat _ _ _ _ h1 k) (za6 zaw _ _ _ _ h2 k) hl (hD.below k)
 have hT1:=fun (W:World) (k:Below w.heap.size w W) (l:List Tp) (hl:Sp (nm,L,sets) l)=>zik (za6 zat _ _ _ _ h1 k) (za6 zaw _ _ _ _ h2 k) hl
 obtain⟨a1,c1,rfl⟩:=zbf h1
 obtain⟨a2,c2,rfl⟩:=zc9 h2
 obtain⟨n1,hn1⟩ : ∃ n,n=L.length:=⟨_,rfl⟩
 obtain⟨n2,hn2⟩ : ∃ n,n=sets.length:=⟨_,rfl⟩
 simp only[← hn1,← hn2] at hG1 hC1 hW1 hT1 h1 h2 ⊢
 obtain⟨W1,hW⟩ : ∃ W,W=w.alloc (.cells #[.string nm,.slice a1 n1 c1,.slice a2 n2 c2] 51):=⟨_,rfl⟩
 obtain⟨g,hg⟩ : ∃ g,g=w.heap.size:=⟨_,rfl⟩
 have hb1:Below w.heap.size w W1:=by rw[hW];exact za2 _ _
 have p0:zai g (.string nm) (.slice a1 n1 c1) (.slice a2 n2 c2) W1:=by rw[hW,hg];exact heap_alloc_new _ _
 obtain⟨x0,x1,x2,-⟩:=za4 p0
 obtain⟨s,hse⟩ : ∃ s:Spc3,s=(nm,L,sets):=⟨_,rfl⟩
 simp only[← hse] at hG1 hC1 hW1 hT1
 obtain⟨z1,hz1⟩ : ∃ q,q=zeh zbn s:=⟨_,rfl⟩
 obtain⟨u1,hu1⟩ : ∃ q,q=zeh zbq s:=⟨_,rfl⟩
 obtain⟨t,ht⟩ : ∃ t,t=zfc s:=⟨_,rfl⟩
 simp only[← hz1,← hu1,← ht] at hC1 hW1 hT1
 have hyes:=zfg (R:=zbn) (s:=s)
 have hno:=zj3 (R:=zbn) (s:=s)
 unfold zf8 at hyes hno
 have hgood:=LexM.doc_good7 t.data.toList
 have hLn:=fun (W:World) (k:t.size≤30000000000)=>zir t (by omega) W
 unfold zko at hLn
 simp only[← ht] at hyes hno
 obtain⟨R,hR⟩ : ∃ R,R=LexM.docLines t.data.toList:=⟨_,rfl⟩
 simp only[← hR] at hLn hgood hyes hno
 obtain⟨e1,he1⟩ : ∃ z,z=R.at1:=⟨_,rfl⟩
 obtain⟨e2,he2⟩ : ∃ z,z=R.at2:=⟨_,rfl⟩
 obtain⟨er,her⟩ : ∃ z,z=R.e:=⟨_,rfl⟩
 obtain⟨ls,hls⟩ : ∃ z,z=R.lines:=⟨_,rfl⟩
 simp only[← he1,← he2,← her,← hls] at hLn hgood hyes hno
 clear he1 he2 her hls hR
 rw[← hz1] at hyes hno
 obtain⟨z1,zb1⟩:=z1
 obtain⟨u1,ub1⟩:=u1
 dsimp only at hC1 hW1
 have htz:=fun (l:List Tp) (hl:Sp s l)=>hl.text
 rw[← ht] at htz
 have Hp0:=Lib.hid p0
 clear p0
 obtain⟨H1,H2,HD,HG1,HFx,HC1,HW1,HT1,Hb1,Hn1,Hn2,Hse,Hz1,Hu1,Ht,Hyes⟩:=hzPrintSpecs16 h1 h2 hD hG1 hFx hC1 hW1 hT1 hb1 hn1 hn2 hse hz1 hu1 ht hyes;obtain⟨Hno,Hgood,HLn,Htz⟩:=hzPrintSpecs4 hno hgood hLn htz;clear h1 h2 hD hG1 hFx hC1 hW1 hT1 hb1 hn1 hn2 hse hz1 hu1 ht hyes hno hgood hLn htz
 go_enter Tryz.func7,Tryz.ntmps7
 go_upto_region 1 with (fail)
 rw[← hW,← hg]
 clear hW hg
 go_wp2_with fail
 refine (HG1.out _ Hb1.out).mono ?_
 rintro e w2 ⟨⟨r1,rfl,hr1⟩,hs⟩
 have hb2:=Hb1.out.trans (hs.mono Hb1.out.size)
 have q0:=za0 hs Hp0.out
 clear x0 x1 x2 Hp0
 obtain⟨x0,x1,x2,-⟩:=za4 q0
 have Hp0:=Lib.hid q0
 clear q0
 obtain⟨Hs,Hb2⟩:=hzPrintSpecs2 hs hb2;clear hs hb2
 cases r1 with
 | true =>
  clear hr1
  go_wp2_with fail
  refine (HFx.out _ Hb2.out).mono ?_
  rintro e w3 ⟨rfl,hs⟩
  have hb3:=Hb2.out.trans (hs.mono Hb2.out.size)
  have q0:=za0 hs Hp0.out
  clear x0 x1 x2 Hp0
  obtain⟨x0,x1,x2,-⟩:=za4 q0
  have Hp0:=Lib.hid q0
  clear q0
  obtain⟨Hs,Hb3⟩:=hzPrintSpecs2 hs hb3;clear hs hb3
  go_wp2_with fail
  go_ret
  exact⟨by first | rfl | simp,Hb3.out⟩
 | false =>
  obtain⟨l1,hl1⟩:=zm9 (hr1 rfl)
  clear hr1
  have hC1:=fun W k=>HC1.out W k l1 (Hse.out ▸ hl1)
  have hW1:=fun W k=>HW1.out W k l1 (Hse.out ▸ hl1)
  have hT1:=fun W k=>HT1.out W k l1 (Hse.out ▸ hl1)
  have htb:t.size≤30000000000:=Htz.out l1 hl1
  have hLn:=fun W (_:Below w.heap.size w W)=>HLn.out W htb
  clear HC1 HW1 HT1 HLn Htz
  obtain⟨Hl1,HC1,HW1,HT1,HLn⟩:=hzPrintSpecs5 hl1 hC1 hW1 hT1 hLn;clear hl1 hC1 hW1 hT1 hLn
  go_wp2_with fail
  refine (HC1.out _ Hb2.out).mono ?_
  rintro e w3 ⟨rfl,hs⟩
  have hb3:=Hb2.out.trans (hs.mono Hb2.out.size)
  have q0:=za0 hs Hp0.out
  clear x0 x1 x2 Hp0
  obtain⟨x0,x1,x2,-⟩:=za4 q0
  have Hp0:=Lib.hid q0
  clear q0
  obtain⟨Hs,Hb3⟩:=hzPrintSpecs2 hs hb3;clear hs hb3
  go_wp2_with fail
  refine (HT1.out _ Hb3.out).mono ?_
  rintro e w4 ⟨rfl,hs⟩
  have hb4:=Hb3.out.trans (hs.mono Hb3.out.size)
  have q0:=za0 hs Hp0.out
  clear x0 x1 x2 Hp0
  obtain⟨x0,x1,x2,-⟩:=za4 q0
  have Hp0:=Lib.hid q0
  clear q0
  obtain⟨Hs,Hb4⟩:=hzPrintSpecs2 hs hb4;clear hs hb4
  go_wp2_with fail
  refine (HLn.out _ Hb4.out).mono ?_
  rintro e w5 ⟨v,rfl,hln,hs⟩
  have hb5:=Hb4.out.trans (hs.mono Hb4.out.size)
  have q0:=za0 hs Hp0.out
  clear x0 x1 x2 Hp0
  obtain⟨x0,x1,x2,-⟩:=za4 q0
  have Hp0:=Lib.hid q0
  clear q0
  obtain⟨Hs,Hb5⟩:=hzPrintSpecs2 hs hb5;clear hs hb5
  obtain⟨ad,cp,rfl,-,-,-⟩:=zf2 hln
  obtain⟨w6,hw6⟩ : ∃ W,W=w5.alloc (.cells #[.slice ad ls.length cp,.int .i64 e1,.int .i64 e2,.int .i64 er] 58):=⟨_,rfl⟩
  obtain⟨lb,hlb⟩ : ∃ k,k=w5.heap.size:=⟨_,rfl⟩
  have hs:Below w5.heap.size w5 w6:=by rw[hw6];exact za2 _ _
  have hb6:=Hb5.out.trans (hs.mono Hb5.out.size)
  have pl:LcBox lb (.slice ad ls.length cp) e1 e2 er w6:=by rw[hw6,hlb];exact heap_alloc_new _ _
  have hln:=zek _ _ _ _ hln hs
  have q0:=za0 hs Hp0.out
  clear x0 x1 x2 Hp0
  obtain⟨x0,x1,x2,-⟩:=za4 q0
  have Hp0:=Lib.hid q0
  clear q0
  obtain⟨l0,l3⟩:=zgc pl
  go_upto_region 8 with (fail)
  rw[← hw6,← hlb]
  clear hw6 hlb
  obtain⟨m,hm⟩ : ∃ m,m=ls.length:=⟨_,rfl⟩
  rw[← hm] at hln pl l0 ⊢
  obtain⟨Hs,Hb6,Hpl⟩:=hzPrintSpecs3 hs hb6 pl;clear hs hb6 pl
  by_cases he:er=0
  ·have k1:(er != 0)=false:=by rw[he];rfl
   by_cases h1m:m=1
   ·subst h1m
    obtain⟨ln,hl1⟩ : ∃ x,ls = [x]:=List.length_eq_one_iff.1 hm.symm
    have hg:=Hgood.out.1 ln (by rw[hl1];simp)
    rw[hl1] at hln
    obtain⟨a',c',ha',-,-,hat⟩:=zf2 hln
    simp only[List.length_singleton,Value.slice.injEq] at ha'
    obtain⟨rfl,-,-⟩:=ha'
    obtain⟨bq,o,rfl,c0,v,d0,hwd⟩:=hat 0 (by simp)
    clear hat c0
    rw[Nat.zero_mul,Nat.add_zero] at d0
    rw[List.getElem_cons_zero] at hwd
    obtain⟨wa,wc,rfl⟩:=zh8 hwd
    obtain⟨nw,hnw2⟩ : ∃ n,n=ln.2.length:=⟨_,rfl⟩
    rw[← hnw2] at d0 hwd
    obtain⟨-,-,hwat⟩:=zfe hwd
    have hnw40:nw≤40:=by have:=hg.2.2.1;omega
    have hd0:=d0
    obtain⟨Hln,Hm,He,Hl1,Hg,Hwd,Hnw2,Hwat,Hd0⟩:=hzPrintSpecs9 hln hm he hl1 hg hwd hnw2 hwat hd0;clear hln hm he hl1 hg hwd hnw2 hwat hd0
    go_wp2_with fail
    go_loopw [9,58] (fun v i wr=>∃ k:Nat,k≤nw∧i = .int .i64 k∧v = .string (wtB (ln.2.take k))∧Below w6.heap.size w6 wr) (fun _ i _=>nw - (RowKit.intOf i).toNat)
    case atStart=>exact⟨0,Nat.zero_le _,rfl,rfl,Below.refl _ _⟩
    case round =>
     obtain⟨k,hk,rfl,rfl,hbr⟩:=hrel
     by_cases hlt:k < nw
     ·have hkl:k < ln.2.length:=by have:=Hnw2.out;omega
      obtain⟨b',o',rfl,u0,u1',-⟩:=Hwat.out k _ (List.getElem?_eq_getElem hkl)
      have u0:=cell_later hbr u0
      have u1':=cell_later hbr u1'
      have hfirst:=fun h0:0 < ln.2.length=>znb h0
      have hnext:=fun h0:0 < k=>zqr hkl h0
      have hcz:(wtB (ln.2.take k)).size≤3000000:=by
       have h1:=zp8 ln.2 k
       have h2:=zj0 Hg.out
       show (wt (ln.2.take k)).length≤_
       omega
      have hxz:=(Hg.out.2.2.2 _ (List.getElem_mem hkl)).2.2.2
      obtain⟨xc,hxc⟩ : ∃ x,x=ln.2[k].1:=⟨_,rfl⟩
      obtain⟨xt,hxt⟩ : ∃ x:ByteArray,x=⟨ln.2[k].2.toArray⟩:=⟨_,rfl⟩
      rw[← hxc] at u0
      rw[← hxt] at u1' hnext
      have hxz2:xt.size≤70000:=by rw[hxt];exact hxz
      clear hxz
      obtain⟨cur,hcur⟩ : ∃ x,x=wtB (ln.2.take k):=⟨_,rfl⟩
      rw[← hcur] at hcz hnext ⊢
      obtain⟨wn,hwn⟩ : ∃ W,W=wr.alloc (.cells #[.int .i64 xc,.string xt] 64):=⟨_,rfl⟩
      obtain⟨bb,hbb⟩ : ∃ z,z=wr.heap.size:=⟨_,rfl⟩
      have p6:wn.heap[bb]? = some (.cells #[.int .i64 xc,.string xt] 64 (0,0)):=by rw[hwn,hbb];exact heap_alloc_new _ _
      have f0:=za5 p6 0
      have f1:=za5 p6 1
      simp only[List.getElem?_toArray,List.getElem?_cons_zero,List.getElem?_cons_succ] at f0 f1
      have hbn:Below wr.heap.size wr wn:=by rw[hwn];exact za2 _ _
      have hbr2:=hbr.trans (hbn.mono hbr.size)
      have k5:(0:Int)≤(k:Int):=by omega
      have k6:(k:Int) < (nw:Int):=by omega
      by_cases h0:k=0
      ·subst h0
       rw[Nat.zero_mul,Nat.add_zero] at u0 u1'
       have hf:=hfirst hkl
       rw[← hxt,← hcur] at hf
       clear hfirst hnext
       obtain⟨Hbr,Hp6,Hxc,Hxt,Hbn,Hbr2,Hf,Hcur⟩:=hzPrintSpecs8 hbr p6 hxc hxt hbn hbr2 hf hcur;clear hbr p6 hxc hxt hbn hbr2 hf hcur
       go_upto_region 14 with (fail)
       rw[← hwn,← hbb]
       clear hwn hbb u0 u1'
       go_wp2_with fail
       go_roundw
       case rel=>exact⟨0+1,by omega,by go_num,by rw[← Hf.out],Hbr2.out⟩
       case measure=>(simp[RowKit.intOf]) <;> omega
      have k7:(0:Int) < (k:Int):=by omega
      have hf:=hnext (by omega)
      clear hfirst hnext
      obtain⟨Hbr,Hp6,Hxc,Hxt,Hbn,Hbr2,Hf,H0,Hcur⟩:=hzPrintSpecs9 hbr p6 hxc hxt hbn hbr2 hf h0 hcur;clear hbr p6 hxc hxt hbn hbr2 hf h0 hcur
      go_upto_region 14 with (fail)
      rw[← hwn,← hbb]
      clear hwn hbb u0 u1'
      go_wp2_with fail
      go_roundw
      case rel=>exact⟨k+1,by omega,by go_num,by rw[← Hf.out],Hbr2.out⟩
      case measure=>(simp[RowKit.intOf]) <;> omega
     obtain rfl:k=nw:=by omega
     have htk:ln.2.take k=ln.2:=List.take_of_length_le (by have:=Hnw2.out;omega)
     rw[htk]
     have heqt:=wtB_eq ln.2 t
     obtain⟨ws,hws⟩ : ∃ x,x=wtB ln.2:=⟨_,rfl⟩
     obtain⟨eq,heq⟩ : ∃ b,b=decide (wt ln.2=t.data.toList):=⟨_,rfl⟩
     rw[← hws,← heq] at heqt
     rw[← hws]
     have hbw:=Hb6.out.trans (hbr.mono Hb6.out.size)
     have q0:=za0 hbr Hp0.out
     have ql:=za0 hbr Hpl.out
     have hd:=cell_later hbr Hd0.out
     have hwd1:=za6 zbb _ _ _ _ Hwd.out hbr
     clear x0 x1 x2 l0 l3 Hp0 Hpl d0
     obtain⟨x0,x1,x2,-⟩:=za4 q0
     obtain⟨l0,l3⟩:=zgc ql
     have hcol:∀ j,zb8 ln.2 ((t.size:Int)+1) j≠0:=fun j=>by
      by_cases hj:j < ln.2.length
      ·rw[zge hj]
       have:=(Hg.out.2.2.2 _ (List.getElem_mem hj)).1
       omega
      rw[zgf (by omega)]
      omega
     have hO:=zpe (fin:=(t.size:Int)+1) hwd1 (by omega) (fun x hx=>(Hg.out.2.2.2 x hx).2.2.2) hcol
     obtain⟨fin,hfin⟩ : ∃ f,f=(t.size:Int)+1:=⟨_,rfl⟩
     rw[← hfin] at hO hcol
     have Hp0:=Lib.hid q0
     have Hpl:=Lib.hid ql
     clear q0 ql
     obtain⟨Hbr,Htk,Hws,Heq,Hbw,Hwd1,HO,Hcol,Hfin⟩:=hzPrintSpecs9 hbr htk hws heq hbw hwd1 hO hcol hfin;clear hbr htk hws heq hbw hwd1 hO hcol hfin
     go_wp2_with fail
     rw[← Hfin.out]
     refine HO.out.mono ?_
     rintro e w20 ⟨⟨s2,j,b1,m1,d1,b2,m2,d2,hw,rfl,hv1,hv2⟩ | ⟨j,hw,rfl⟩,hs⟩
     ·have hb20:=Hbw.out.trans (hs.mono Hbw.out.size)
      obtain⟨w21,hw21⟩ : ∃ W,W=w20.alloc (.cells #[.string s2.1,.slice b1 m1 d1,.slice b2 m2 d2] 51):=⟨_,rfl⟩
      obtain⟨sb,hsb⟩ : ∃ k,k=w20.heap.size:=⟨_,rfl⟩
      have hs2:Below w20.heap.size w20 w21:=by rw[hw21];exact za2 _ _
      have hs3:=hs.trans (hs2.mono hs.size)
      have hb21:=Hbw.out.trans (hs3.mono Hbw.out.size)
      have ps:zai sb (.string s2.1) (.slice b1 m1 d1) (.slice b2 m2 d2) w21:=by rw[hw21,hsb];exact heap_alloc_new _ _
      have q0:=za0 hs3 Hp0.out
      have ql:=za0 hs3 Hpl.out
      have hd2:=cell_later hs3 hd
      clear x0 x1 x2 l0 l3 Hp0 Hpl hd
      obtain⟨x0,x1,x2,-⟩:=za4 q0
      obtain⟨l0,l3⟩:=zgc ql
      go_upto_region 19 with (fail)
      rw[← hw21,← hsb]
      clear hw21 hsb
      obtain⟨s21,hs21⟩ : ∃ x,x=s2.1:=⟨_,rfl⟩
      rw[← hs21] at ps ⊢
      obtain⟨y0,y1,y2,-⟩:=za4 ps
      have hv1:=zap hv1 hs2
      have hv2:=zax hv2 hs2
      have hSm:=fun (W:World) (k:Below w21.heap.size w21 W)=>zih (n:=s21) (m:=nm) (zap hv1 k).1 (zax hv2 k).1 (za6 zat _ _ _ _ H1.out (hb21.trans (k.mono hb21.size))) (za6 zaw _ _ _ _ H2.out (hb21.trans (k.mono hb21.size)))
      have hSp:=fun (W:World) (k:Below w21.heap.size w21 W)=>zdu (n:=s21) (m:=nm) (zap hv1 k).1 (zax hv2 k).1 (za6 zat _ _ _ _ H1.out (hb21.trans (k.mono hb21.size))) (za6 zaw _ _ _ _ H2.out (hb21.trans (k.mono hb21.size)))
      obtain⟨same,hsame⟩ : ∃ b,b=decide ((s21,s2.2.1,s2.2.2)=(nm,L,sets)):=⟨_,rfl⟩
      simp only[← hsame] at hSm hSp
      have hsm:same=true↔s2=s:=by rw[hsame,decide_eq_true_eq,hs21,Hse.out]
      have Hp0:=Lib.hid q0
      clear q0
      obtain⟨Hs,Hb20,Hs2,Hs3,Hb21,Hps,Hql,Hv1,Hv2,HSm,HSp,Hsame,Hsm,Hs21⟩:=hzPrintSpecs14 hs hb20 hs2 hs3 hb21 ps ql hv1 hv2 hSm hSp hsame hsm hs21;clear hs hb20 hs2 hs3 hb21 ps ql hv1 hv2 hSm hSp hsame hsm hs21
      cases eq with
      | false =>
       have hr:=Hno.out (by
        rintro⟨-,ln',h2,h3,-⟩
        rw[Hl1.out] at h2
        cases h2
        exact absurd h3 (of_decide_eq_false Heq.out.symm))
       obtain⟨htt,hok⟩:=Prod.mk.inj hr
       subst hok
       have hE:=zd4 htt
       obtain⟨Hw,Hr,Htt,HE⟩:=hzPrintSpecs4 hw hr htt hE;clear hw hr htt hE
       have kE:=HE.out
       go_wp2_with fail
       refine (HFx.out _ Hb21.out).mono ?_
       rintro e w22 ⟨rfl,hs⟩
       have hb22:=Hb21.out.trans (hs.mono Hb21.out.size)
       have q0:=za0 hs Hp0.out
       clear x0 x1 x2 Hp0
       obtain⟨x0,x1,x2,-⟩:=za4 q0
       have Hp0:=Lib.hid q0
       clear q0
       obtain⟨Hs,Hb22⟩:=hzPrintSpecs2 hs hb22;clear hs hb22
       go_wp2_with fail
       go_ret
       exact⟨by first | rfl | simp,Hb22.out⟩
      | true =>
       by_cases hj:j=k
       ·subst hj
        have k3:((j:Int) == (j:Int))=true:=by simp
        go_wp2_with fail
        refine (HSm.out _ (Below.refl _ _)).mono ?_
        rintro e w22 ⟨rfl,hs⟩
        have hb22:=Hb21.out.trans (hs.mono Hb21.out.size)
        have q0:=za0 hs Hp0.out
        have q1:=za0 hs Hps.out
        clear x0 x1 x2 y0 y1 y2 Hp0 Hps
        obtain⟨x0,x1,x2,-⟩:=za4 q0
        obtain⟨y0,y1,y2,-⟩:=za4 q1
        have Hp0:=Lib.hid q0
        have Hps:=Lib.hid q1
        have hk22:=hs
        clear q0 q1
        obtain⟨Hs,Hb22,Hk22⟩:=hzPrintSpecs3 hs hb22 hk22;clear hs hb22 hk22
        cases same with
        | false =>
         have hr:=Hno.out (by
          rintro⟨-,ln',h2,-,h4⟩
          rw[Hl1.out] at h2
          cases h2
          rw[hw] at h4
          have h5:s2=s:=by cases h4;rfl
          exact absurd (Hsm.out.2 h5) (by simp))
         obtain⟨htt,hok⟩:=Prod.mk.inj hr
         subst hok
         have hE:=zd4 htt
         obtain⟨Hw,Hr,Htt,HE⟩:=hzPrintSpecs4 hw hr htt hE;clear hw hr htt hE
         have kE:=HE.out
         go_wp2_with fail
         refine (HFx.out _ Hb22.out).mono ?_
         rintro e w23 ⟨rfl,hs⟩
         have hb23:=Hb22.out.trans (hs.mono Hb22.out.size)
         have q0:=za0 hs Hp0.out
         clear x0 x1 x2 Hp0
         obtain⟨x0,x1,x2,-⟩:=za4 q0
         have Hp0:=Lib.hid q0
         clear q0
         obtain⟨Hs,Hb23⟩:=hzPrintSpecs2 hs hb23;clear hs hb23
         go_wp2_with fail
         go_ret
         exact⟨by first | rfl | simp,Hb23.out⟩
        | true =>
         have hs5:s2=s:=Hsm.out.1 rfl
         have hr:=Hyes.out ⟨He.out,ln,Hl1.out,of_decide_eq_true Heq.out.symm,by rw[← Hnw2.out,← hs5];exact hw⟩
         obtain⟨htt,hok⟩:=Prod.mk.inj hr
         subst hok
         have hE:(z1.toList == t.toList)=true:=by rw[htt,Txt.eq_dec,decide_eq_true rfl]
         obtain⟨Hw,Hr,Htt,Hs5⟩:=hzPrintSpecs4 hw hr htt hs5;clear hw hr htt hs5
         go_wp2_with fail
         refine (HFx.out _ Hb22.out).mono ?_
         rintro e w23 ⟨rfl,hs⟩
         have hb23:=Hb22.out.trans (hs.mono Hb22.out.size)
         have hk23:=Hk22.out.trans (hs.mono Hk22.out.size)
         have q0:=za0 hs Hp0.out
         have q1:=za0 hs Hps.out
         clear x0 x1 x2 y0 y1 y2 Hp0 Hps
         obtain⟨x0,x1,x2,-⟩:=za4 q0
         obtain⟨y0,y1,y2,-⟩:=za4 q1
         obtain⟨Hs,Hb23,Hk23,Hq0,Hq1⟩:=hzPrintSpecs5 hs hb23 hk23 q0 q1;clear hs hb23 hk23 q0 q1
         go_wp2_with fail
         refine (HSp.out _ Hk23.out).mono ?_
         rintro e w24 ⟨rfl,hs⟩
         have hb24:=Hb23.out.trans (hs.mono Hb23.out.size)
         obtain⟨Hs,Hb24⟩:=hzPrintSpecs2 hs hb24;clear hs hb24
         go_wp2_with fail
         go_ret
         exact⟨by first | rfl | simp,Hb24.out⟩
       have k3:((j:Int) == (k:Int))=false:=by rw[beq_eq_false_iff_ne];omega
       have hr:=Hno.out (by
        rintro⟨-,ln',h2,-,h4⟩
        rw[Hl1.out] at h2
        cases h2
        rw[hw] at h4
        have h5:j=ln.2.length:=by cases h4;rfl
        exact hj (h5.trans Hnw2.out.symm))
       obtain⟨htt,hok⟩:=Prod.mk.inj hr
       subst hok
       have hE:=zd4 htt
       obtain⟨Hw,Hr,Htt,HE,Hj⟩:=hzPrintSpecs5 hw hr htt hE hj;clear hw hr htt hE hj
       have kE:=HE.out
       go_wp2_with fail
       refine (HFx.out _ Hb21.out).mono ?_
       rintro e w22 ⟨rfl,hs⟩
       have hb22:=Hb21.out.trans (hs.mono Hb21.out.size)
       have q0:=za0 hs Hp0.out
       clear x0 x1 x2 Hp0
       obtain⟨x0,x1,x2,-⟩:=za4 q0
       have Hp0:=Lib.hid q0
       clear q0
       obtain⟨Hs,Hb22⟩:=hzPrintSpecs2 hs hb22;clear hs hb22
       go_wp2_with fail
       go_ret
       exact⟨by first | rfl | simp,Hb22.out⟩
     obtain⟨cl,hcl⟩ : ∃ x,x=zb8 ln.2 fin j:=⟨_,rfl⟩
     have hne:(cl == 0)=false:=by rw[hcl];simpa using Hcol.out j
     rw[← hcl]
     have hr:=Hno.out (by
      rintro⟨-,ln',h2,-,h4⟩
      rw[Hl1.out] at h2
      cases h2
      rw[hw] at h4
      cases h4)
     obtain⟨htt,hok⟩:=Prod.mk.inj hr
     subst hok
     have hE:=zd4 htt
     have hb20:=Hbw.out.trans (hs.mono Hbw.out.size)
     obtain⟨w21,hw21⟩ : ∃ W,W=w20.alloc (.cells #[.string ⟨#[]⟩,.slice none 0 0,.slice none 0 0] 51):=⟨_,rfl⟩
     have hs2:Below w20.heap.size w20 w21:=by rw[hw21];exact za2 _ _
     have hs3:=hs.trans (hs2.mono hs.size)
     have hb21:=Hbw.out.trans (hs3.mono Hbw.out.size)
     have q0:=za0 hs3 Hp0.out
     clear x0 x1 x2 Hp0
     obtain⟨x0,x1,x2,-⟩:=za4 q0
     have Hp0:=Lib.hid q0
     clear q0
     obtain⟨Hs,Hb20,Hs2,Hs3,Hb21,Hw,Hr,Htt,HE,Hcl⟩:=hzPrintSpecs10 hs hb20 hs2 hs3 hb21 hw hr htt hE hcl;clear hs hb20 hs2 hs3 hb21 hw hr htt hE hcl
     go_upto_region 19 with (fail)
     rw[← hw21]
     clear hw21
     have kE:=HE.out
     cases eq with
     | false =>
      go_wp2_with fail
      refine (HFx.out _ Hb21.out).mono ?_
      rintro e w22 ⟨rfl,hs⟩
      have hb22:=Hb21.out.trans (hs.mono Hb21.out.size)
      have q0:=za0 hs Hp0.out
      clear x0 x1 x2 Hp0
      obtain⟨x0,x1,x2,-⟩:=za4 q0
      have Hp0:=Lib.hid q0
      clear q0
      obtain⟨Hs,Hb22⟩:=hzPrintSpecs2 hs hb22;clear hs hb22
      go_wp2_with fail
      go_ret
      exact⟨by first | rfl | simp,Hb22.out⟩
     | true =>
      go_wp2_with fail
      refine (HFx.out _ Hb21.out).mono ?_
      rintro e w22 ⟨rfl,hs⟩
      have hb22:=Hb21.out.trans (hs.mono Hb21.out.size)
      have q0:=za0 hs Hp0.out
      clear x0 x1 x2 Hp0
      obtain⟨x0,x1,x2,-⟩:=za4 q0
      have Hp0:=Lib.hid q0
      clear q0
      obtain⟨Hs,Hb22⟩:=hzPrintSpecs2 hs hb22;clear hs hb22
      go_wp2_with fail
      go_ret
      exact⟨by first | rfl | simp,Hb22.out⟩
   have k2:((m:Int) != 1)=true:=by simp;omega
   have hr:=Hno.out (by
    rintro⟨-,ln',h2,-,-⟩
    rw[h2] at hm
    exact h1m hm)
   obtain⟨htt,hok⟩:=Prod.mk.inj hr
   subst hok
   have hE:=zd4 htt
   obtain⟨Hln,Hm,He,Hr,Htt,HE,H1m⟩:=hzPrintSpecs7 hln hm he hr htt hE h1m;clear hln hm he hr htt hE h1m
   have kE:=HE.out
   go_wp2_with fail
   refine (HFx.out _ Hb6.out).mono ?_
   rintro e w7 ⟨rfl,hs⟩
   have hb7:=Hb6.out.trans (hs.mono Hb6.out.size)
   have q0:=za0 hs Hp0.out
   clear x0 x1 x2 Hp0
   obtain⟨x0,x1,x2,-⟩:=za4 q0
   have Hp0:=Lib.hid q0
   clear q0
   obtain⟨Hs,Hb7⟩:=hzPrintSpecs2 hs hb7;clear hs hb7
   go_wp2_with fail
   go_ret
   exact⟨by first | rfl | simp,Hb7.out⟩
  have k1:(er != 0)=true:=by simpa using he
  have hr:=Hno.out (fun h=>he h.1)
  obtain⟨htt,hok⟩:=Prod.mk.inj hr
  subst hok
  have hE:=zd4 htt
  obtain⟨Hln,Hm,He,Hr,Htt,HE⟩:=hzPrintSpecs6 hln hm he hr htt hE;clear hln hm he hr htt hE
  have kE:=HE.out
  go_wp2_with fail
  refine (HFx.out _ Hb6.out).mono ?_
  rintro e w7 ⟨rfl,hs⟩
  have hb7:=Hb6.out.trans (hs.mono Hb6.out.size)
  have q0:=za0 hs Hp0.out
  clear x0 x1 x2 Hp0
  obtain⟨x0,x1,x2,-⟩:=za4 q0
  have Hp0:=Lib.hid q0
  clear q0
  obtain⟨Hs,Hb7⟩:=hzPrintSpecs2 hs hb7;clear hs hb7
  go_wp2_with fail
  go_ret
  exact⟨by first | rfl | simp,Hb7.out⟩
theorem zsh {w:World} {v1 v2:Value} {nm:ByteArray} {L:List BSp} {sets:List Setg} (h1:RSps w [v1] L) (h2:zd8 w [v2] sets) (hD:zbk w) :
  Calls Tryz.prog 7 #[.agg #[.string nm,v1,v2],.bool true] w fun e w'=>e = .returned (.bool true)∧Below w.heap.size w w':=by
 have hG1:=fun (W:World) (k:Below w.heap.size w W)=>zkb (nm:=nm) (za6 zat _ _ _ _ h1 k) (za6 zaw _ _ _ _ h2 k)
 have hFx:=fun (W:World) (k:Below w.heap.size w W)=>zke (hD.below k)
 have hC1:=fun (W:World) (k:Below w.heap.size w W) (l:List Tp) (hl:Sp (nm,L,sets) l)=>zf0 (za6 zat _ _ _ _ h1 k) (za6 zaw _ _ _ _ h2 k) hl (hD.below k)
 have hW1:=fun (W:World) (k:Below w.heap.size w W) (l:List Tp) (hl:Sp (nm,L,sets) l)=>zhm (za6 zat _ _ _ _ h1 k) (za6 zaw _ _ _ _ h2 k) hl (hD.below k)
 have hT1:=fun (W:World) (k:Below w.heap.size w W) (l:List Tp) (hl:Sp (nm,L,sets) l)=>zik (za6 zat _ _ _ _ h1 k) (za6 zaw _ _ _ _ h2 k) hl
 obtain⟨a1,c1,rfl⟩:=zbf h1
 obtain⟨a2,c2,rfl⟩:=zc9 h2
 obtain⟨n1,hn1⟩ : ∃ n,n=L.length:=⟨_,rfl⟩
 obtain⟨n2,hn2⟩ : ∃ n,n=sets.length:=⟨_,rfl⟩
 simp only[← hn1,← hn2] at hG1 hC1 hW1 hT1 h1 h2 ⊢
 obtain⟨W1,hW⟩ : ∃ W,W=w.alloc (.cells #[.string nm,.slice a1 n1 c1,.slice a2 n2 c2] 51):=⟨_,rfl⟩
 obtain⟨g,hg⟩ : ∃ g,g=w.heap.size:=⟨_,rfl⟩
 have hb1:Below w.heap.size w W1:=by rw[hW];exact za2 _ _
 have p0:zai g (.string nm) (.slice a1 n1 c1) (.slice a2 n2 c2) W1:=by rw[hW,hg];exact heap_alloc_new _ _
 obtain⟨x0,x1,x2,-⟩:=za4 p0
 obtain⟨s,hse⟩ : ∃ s:Spc3,s=(nm,L,sets):=⟨_,rfl⟩
 simp only[← hse] at hG1 hC1 hW1 hT1
 obtain⟨z1,hz1⟩ : ∃ q,q=zeh zbn s:=⟨_,rfl⟩
 obtain⟨u1,hu1⟩ : ∃ q,q=zeh zbq s:=⟨_,rfl⟩
 obtain⟨t,ht⟩ : ∃ t,t=zfc s:=⟨_,rfl⟩
 simp only[← hz1,← hu1,← ht] at hC1 hW1 hT1
 have hyes:=zfg (R:=zbq) (s:=s)
 have hno:=zj3 (R:=zbq) (s:=s)
 unfold zf8 at hyes hno
 have hgood:=LexM.doc_good7 t.data.toList
 have hLn:=fun (W:World) (k:t.size≤30000000000)=>zir t (by omega) W
 unfold zko at hLn
 simp only[← ht] at hyes hno
 obtain⟨R,hR⟩ : ∃ R,R=LexM.docLines t.data.toList:=⟨_,rfl⟩
 simp only[← hR] at hLn hgood hyes hno
 obtain⟨e1,he1⟩ : ∃ z,z=R.at1:=⟨_,rfl⟩
 obtain⟨e2,he2⟩ : ∃ z,z=R.at2:=⟨_,rfl⟩
 obtain⟨er,her⟩ : ∃ z,z=R.e:=⟨_,rfl⟩
 obtain⟨ls,hls⟩ : ∃ z,z=R.lines:=⟨_,rfl⟩
 simp only[← he1,← he2,← her,← hls] at hLn hgood hyes hno
 clear he1 he2 her hls hR
 rw[← hu1] at hyes hno
 obtain⟨z1,zb1⟩:=z1
 obtain⟨u1,ub1⟩:=u1
 dsimp only at hC1 hW1
 have htz:=fun (l:List Tp) (hl:Sp s l)=>hl.text
 rw[← ht] at htz
 have Hp0:=Lib.hid p0
 clear p0
 obtain⟨H1,H2,HD,HG1,HFx,HC1,HW1,HT1,Hb1,Hn1,Hn2,Hse,Hz1,Hu1,Ht,Hyes⟩:=hzPrintSpecs16 h1 h2 hD hG1 hFx hC1 hW1 hT1 hb1 hn1 hn2 hse hz1 hu1 ht hyes;obtain⟨Hno,Hgood,HLn,Htz⟩:=hzPrintSpecs4 hno hgood hLn htz;clear h1 h2 hD hG1 hFx hC1 hW1 hT1 hb1 hn1 hn2 hse hz1 hu1 ht hyes hno hgood hLn htz
 go_enter Tryz.func7,Tryz.ntmps7
 go_upto_region 1 with (fail)
 rw[← hW,← hg]
 clear hW hg
 go_wp2_with fail
 refine (HG1.out _ Hb1.out).mono ?_
 rintro e w2 ⟨⟨r1,rfl,hr1⟩,hs⟩
 have hb2:=Hb1.out.trans (hs.mono Hb1.out.size)
 have q0:=za0 hs Hp0.out
 clear x0 x1 x2 Hp0
 obtain⟨x0,x1,x2,-⟩:=za4 q0
 have Hp0:=Lib.hid q0
 clear q0
 obtain⟨Hs,Hb2⟩:=hzPrintSpecs2 hs hb2;clear hs hb2
 cases r1 with
 | true =>
  clear hr1
  go_wp2_with fail
  refine (HFx.out _ Hb2.out).mono ?_
  rintro e w3 ⟨rfl,hs⟩
  have hb3:=Hb2.out.trans (hs.mono Hb2.out.size)
  have q0:=za0 hs Hp0.out
  clear x0 x1 x2 Hp0
  obtain⟨x0,x1,x2,-⟩:=za4 q0
  have Hp0:=Lib.hid q0
  clear q0
  obtain⟨Hs,Hb3⟩:=hzPrintSpecs2 hs hb3;clear hs hb3
  go_wp2_with fail
  go_ret
  exact⟨by first | rfl | simp,Hb3.out⟩
 | false =>
  obtain⟨l1,hl1⟩:=zm9 (hr1 rfl)
  clear hr1
  have hC1:=fun W k=>HC1.out W k l1 (Hse.out ▸ hl1)
  have hW1:=fun W k=>HW1.out W k l1 (Hse.out ▸ hl1)
  have hT1:=fun W k=>HT1.out W k l1 (Hse.out ▸ hl1)
  have htb:t.size≤30000000000:=Htz.out l1 hl1
  have hLn:=fun W (_:Below w.heap.size w W)=>HLn.out W htb
  clear HC1 HW1 HT1 HLn Htz
  obtain⟨Hl1,HC1,HW1,HT1,HLn⟩:=hzPrintSpecs5 hl1 hC1 hW1 hT1 hLn;clear hl1 hC1 hW1 hT1 hLn
  go_wp2_with fail
  refine (HC1.out _ Hb2.out).mono ?_
  rintro e w3 ⟨rfl,hs⟩
  have hb3:=Hb2.out.trans (hs.mono Hb2.out.size)
  have q0:=za0 hs Hp0.out
  clear x0 x1 x2 Hp0
  obtain⟨x0,x1,x2,-⟩:=za4 q0
  have Hp0:=Lib.hid q0
  clear q0
  obtain⟨Hs,Hb3⟩:=hzPrintSpecs2 hs hb3;clear hs hb3
  go_wp2_with fail
  refine (HW1.out _ Hb3.out).mono ?_
  rintro e w4 ⟨rfl,hs⟩
  have hb4:=Hb3.out.trans (hs.mono Hb3.out.size)
  have q0:=za0 hs Hp0.out
  clear x0 x1 x2 Hp0
  obtain⟨x0,x1,x2,-⟩:=za4 q0
  have Hp0:=Lib.hid q0
  clear q0
  obtain⟨Hs,Hb4⟩:=hzPrintSpecs2 hs hb4;clear hs hb4
  go_wp2_with fail
  refine (HT1.out _ Hb4.out).mono ?_
  rintro e w5 ⟨rfl,hs⟩
  have hb5:=Hb4.out.trans (hs.mono Hb4.out.size)
  have q0:=za0 hs Hp0.out
  clear x0 x1 x2 Hp0
  obtain⟨x0,x1,x2,-⟩:=za4 q0
  have Hp0:=Lib.hid q0
  clear q0
  obtain⟨Hs,Hb5⟩:=hzPrintSpecs2 hs hb5;clear hs hb5
  go_wp2_with fail
  refine (HLn.out _ Hb5.out).mono ?_
  rintro e w6 ⟨v,rfl,hln,hs⟩
  have hb6:=Hb5.out.trans (hs.mono Hb5.out.size)
  have q0:=za0 hs Hp0.out
  clear x0 x1 x2 Hp0
  obtain⟨x0,x1,x2,-⟩:=za4 q0
  have Hp0:=Lib.hid q0
  clear q0
  obtain⟨Hs,Hb6⟩:=hzPrintSpecs2 hs hb6;clear hs hb6
  obtain⟨ad,cp,rfl,-,-,-⟩:=zf2 hln
  obtain⟨w7,hw7⟩ : ∃ W,W=w6.alloc (.cells #[.slice ad ls.length cp,.int .i64 e1,.int .i64 e2,.int .i64 er] 58):=⟨_,rfl⟩
  obtain⟨lb,hlb⟩ : ∃ k,k=w6.heap.size:=⟨_,rfl⟩
  have hs:Below w6.heap.size w6 w7:=by rw[hw7];exact za2 _ _
  have hb7:=Hb6.out.trans (hs.mono Hb6.out.size)
  have pl:LcBox lb (.slice ad ls.length cp) e1 e2 er w7:=by rw[hw7,hlb];exact heap_alloc_new _ _
  have hln:=zek _ _ _ _ hln hs
  have q0:=za0 hs Hp0.out
  clear x0 x1 x2 Hp0
  obtain⟨x0,x1,x2,-⟩:=za4 q0
  have Hp0:=Lib.hid q0
  clear q0
  obtain⟨l0,l3⟩:=zgc pl
  go_upto_region 8 with (fail)
  rw[← hw7,← hlb]
  clear hw7 hlb
  obtain⟨m,hm⟩ : ∃ m,m=ls.length:=⟨_,rfl⟩
  rw[← hm] at hln pl l0 ⊢
  obtain⟨Hs,Hb7,Hpl⟩:=hzPrintSpecs3 hs hb7 pl;clear hs hb7 pl
  by_cases he:er=0
  ·have k1:(er != 0)=false:=by rw[he];rfl
   by_cases h1m:m=1
   ·subst h1m
    obtain⟨ln,hl1⟩ : ∃ x,ls = [x]:=List.length_eq_one_iff.1 hm.symm
    have hg:=Hgood.out.1 ln (by rw[hl1];simp)
    rw[hl1] at hln
    obtain⟨a',c',ha',-,-,hat⟩:=zf2 hln
    simp only[List.length_singleton,Value.slice.injEq] at ha'
    obtain⟨rfl,-,-⟩:=ha'
    obtain⟨bq,o,rfl,c0,v,d0,hwd⟩:=hat 0 (by simp)
    clear hat c0
    rw[Nat.zero_mul,Nat.add_zero] at d0
    rw[List.getElem_cons_zero] at hwd
    obtain⟨wa,wc,rfl⟩:=zh8 hwd
    obtain⟨nw,hnw2⟩ : ∃ n,n=ln.2.length:=⟨_,rfl⟩
    rw[← hnw2] at d0 hwd
    obtain⟨-,-,hwat⟩:=zfe hwd
    have hnw40:nw≤40:=by have:=hg.2.2.1;omega
    have hd0:=d0
    obtain⟨Hln,Hm,He,Hl1,Hg,Hwd,Hnw2,Hwat,Hd0⟩:=hzPrintSpecs9 hln hm he hl1 hg hwd hnw2 hwat hd0;clear hln hm he hl1 hg hwd hnw2 hwat hd0
    go_wp2_with fail
    go_loopw [9,58] (fun v i wr=>∃ k:Nat,k≤nw∧i = .int .i64 k∧v = .string (wtB (ln.2.take k))∧Below w7.heap.size w7 wr) (fun _ i _=>nw - (RowKit.intOf i).toNat)
    case atStart=>exact⟨0,Nat.zero_le _,rfl,rfl,Below.refl _ _⟩
    case round =>
     obtain⟨k,hk,rfl,rfl,hbr⟩:=hrel
     by_cases hlt:k < nw
     ·have hkl:k < ln.2.length:=by have:=Hnw2.out;omega
      obtain⟨b',o',rfl,u0,u1',-⟩:=Hwat.out k _ (List.getElem?_eq_getElem hkl)
      have u0:=cell_later hbr u0
      have u1':=cell_later hbr u1'
      have hfirst:=fun h0:0 < ln.2.length=>znb h0
      have hnext:=fun h0:0 < k=>zqr hkl h0
      have hcz:(wtB (ln.2.take k)).size≤3000000:=by
       have h1:=zp8 ln.2 k
       have h2:=zj0 Hg.out
       show (wt (ln.2.take k)).length≤_
       omega
      have hxz:=(Hg.out.2.2.2 _ (List.getElem_mem hkl)).2.2.2
      obtain⟨xc,hxc⟩ : ∃ x,x=ln.2[k].1:=⟨_,rfl⟩
      obtain⟨xt,hxt⟩ : ∃ x:ByteArray,x=⟨ln.2[k].2.toArray⟩:=⟨_,rfl⟩
      rw[← hxc] at u0
      rw[← hxt] at u1' hnext
      have hxz2:xt.size≤70000:=by rw[hxt];exact hxz
      clear hxz
      obtain⟨cur,hcur⟩ : ∃ x,x=wtB (ln.2.take k):=⟨_,rfl⟩
      rw[← hcur] at hcz hnext ⊢
      obtain⟨wn,hwn⟩ : ∃ W,W=wr.alloc (.cells #[.int .i64 xc,.string xt] 64):=⟨_,rfl⟩
      obtain⟨bb,hbb⟩ : ∃ z,z=wr.heap.size:=⟨_,rfl⟩
      have p6:wn.heap[bb]? = some (.cells #[.int .i64 xc,.string xt] 64 (0,0)):=by rw[hwn,hbb];exact heap_alloc_new _ _
      have f0:=za5 p6 0
      have f1:=za5 p6 1
      simp only[List.getElem?_toArray,List.getElem?_cons_zero,List.getElem?_cons_succ] at f0 f1
      have hbn:Below wr.heap.size wr wn:=by rw[hwn];exact za2 _ _
      have hbr2:=hbr.trans (hbn.mono hbr.size)
      have k5:(0:Int)≤(k:Int):=by omega
      have k6:(k:Int) < (nw:Int):=by omega
      by_cases h0:k=0
      ·subst h0
       rw[Nat.zero_mul,Nat.add_zero] at u0 u1'
       have hf:=hfirst hkl
       rw[← hxt,← hcur] at hf
       clear hfirst hnext
       obtain⟨Hbr,Hp6,Hxc,Hxt,Hbn,Hbr2,Hf,Hcur⟩:=hzPrintSpecs8 hbr p6 hxc hxt hbn hbr2 hf hcur;clear hbr p6 hxc hxt hbn hbr2 hf hcur
       go_upto_region 14 with (fail)
       rw[← hwn,← hbb]
       clear hwn hbb u0 u1'
       go_wp2_with fail
       go_roundw
       case rel=>exact⟨0+1,by omega,by go_num,by rw[← Hf.out],Hbr2.out⟩
       case measure=>(simp[RowKit.intOf]) <;> omega
      have k7:(0:Int) < (k:Int):=by omega
      have hf:=hnext (by omega)
      clear hfirst hnext
      obtain⟨Hbr,Hp6,Hxc,Hxt,Hbn,Hbr2,Hf,H0,Hcur⟩:=hzPrintSpecs9 hbr p6 hxc hxt hbn hbr2 hf h0 hcur;clear hbr p6 hxc hxt hbn hbr2 hf h0 hcur
      go_upto_region 14 with (fail)
      rw[← hwn,← hbb]
      clear hwn hbb u0 u1'
      go_wp2_with fail
      go_roundw
      case rel=>exact⟨k+1,by omega,by go_num,by rw[← Hf.out],Hbr2.out⟩
      case measure=>(simp[RowKit.intOf]) <;> omega
     obtain rfl:k=nw:=by omega
     have htk:ln.2.take k=ln.2:=List.take_of_length_le (by have:=Hnw2.out;omega)
     rw[htk]
     have heqt:=wtB_eq ln.2 t
     obtain⟨ws,hws⟩ : ∃ x,x=wtB ln.2:=⟨_,rfl⟩
     obtain⟨eq,heq⟩ : ∃ b,b=decide (wt ln.2=t.data.toList):=⟨_,rfl⟩
     rw[← hws,← heq] at heqt
     rw[← hws]
     have hbw:=Hb7.out.trans (hbr.mono Hb7.out.size)
     have q0:=za0 hbr Hp0.out
     have ql:=za0 hbr Hpl.out
     have hd:=cell_later hbr Hd0.out
     have hwd1:=za6 zbb _ _ _ _ Hwd.out hbr
     clear x0 x1 x2 l0 l3 Hp0 Hpl d0
     obtain⟨x0,x1,x2,-⟩:=za4 q0
     obtain⟨l0,l3⟩:=zgc ql
     have hcol:∀ j,zb8 ln.2 ((t.size:Int)+1) j≠0:=fun j=>by
      by_cases hj:j < ln.2.length
      ·rw[zge hj]
       have:=(Hg.out.2.2.2 _ (List.getElem_mem hj)).1
       omega
      rw[zgf (by omega)]
      omega
     have hO:=zsj (fin:=(t.size:Int)+1) hwd1 (by omega) (fun x hx=>(Hg.out.2.2.2 x hx).2.2.2) hcol
     obtain⟨fin,hfin⟩ : ∃ f,f=(t.size:Int)+1:=⟨_,rfl⟩
     rw[← hfin] at hO hcol
     have Hp0:=Lib.hid q0
     have Hpl:=Lib.hid ql
     clear q0 ql
     obtain⟨Hbr,Htk,Hws,Heq,Hbw,Hwd1,HO,Hcol,Hfin⟩:=hzPrintSpecs9 hbr htk hws heq hbw hwd1 hO hcol hfin;clear hbr htk hws heq hbw hwd1 hO hcol hfin
     go_wp2_with fail
     rw[← Hfin.out]
     refine HO.out.mono ?_
     rintro e w20 ⟨⟨s2,j,b1,m1,d1,b2,m2,d2,hw,rfl,hv1,hv2⟩ | ⟨j,hw,rfl⟩,hs⟩
     ·have hb20:=Hbw.out.trans (hs.mono Hbw.out.size)
      obtain⟨w21,hw21⟩ : ∃ W,W=w20.alloc (.cells #[.string s2.1,.slice b1 m1 d1,.slice b2 m2 d2] 51):=⟨_,rfl⟩
      obtain⟨sb,hsb⟩ : ∃ k,k=w20.heap.size:=⟨_,rfl⟩
      have hs2:Below w20.heap.size w20 w21:=by rw[hw21];exact za2 _ _
      have hs3:=hs.trans (hs2.mono hs.size)
      have hb21:=Hbw.out.trans (hs3.mono Hbw.out.size)
      have ps:zai sb (.string s2.1) (.slice b1 m1 d1) (.slice b2 m2 d2) w21:=by rw[hw21,hsb];exact heap_alloc_new _ _
      have q0:=za0 hs3 Hp0.out
      have ql:=za0 hs3 Hpl.out
      have hd2:=cell_later hs3 hd
      clear x0 x1 x2 l0 l3 Hp0 Hpl hd
      obtain⟨x0,x1,x2,-⟩:=za4 q0
      obtain⟨l0,l3⟩:=zgc ql
      go_upto_region 19 with (fail)
      rw[← hw21,← hsb]
      clear hw21 hsb
      obtain⟨s21,hs21⟩ : ∃ x,x=s2.1:=⟨_,rfl⟩
      rw[← hs21] at ps ⊢
      obtain⟨y0,y1,y2,-⟩:=za4 ps
      have hv1:=zap hv1 hs2
      have hv2:=zax hv2 hs2
      have hSm:=fun (W:World) (k:Below w21.heap.size w21 W)=>zih (n:=s21) (m:=nm) (zap hv1 k).1 (zax hv2 k).1 (za6 zat _ _ _ _ H1.out (hb21.trans (k.mono hb21.size))) (za6 zaw _ _ _ _ H2.out (hb21.trans (k.mono hb21.size)))
      have hSp:=fun (W:World) (k:Below w21.heap.size w21 W)=>zdu (n:=s21) (m:=nm) (zap hv1 k).1 (zax hv2 k).1 (za6 zat _ _ _ _ H1.out (hb21.trans (k.mono hb21.size))) (za6 zaw _ _ _ _ H2.out (hb21.trans (k.mono hb21.size)))
      obtain⟨same,hsame⟩ : ∃ b,b=decide ((s21,s2.2.1,s2.2.2)=(nm,L,sets)):=⟨_,rfl⟩
      simp only[← hsame] at hSm hSp
      have hsm:same=true↔s2=s:=by rw[hsame,decide_eq_true_eq,hs21,Hse.out]
      have Hp0:=Lib.hid q0
      clear q0
      obtain⟨Hs,Hb20,Hs2,Hs3,Hb21,Hps,Hql,Hv1,Hv2,HSm,HSp,Hsame,Hsm,Hs21⟩:=hzPrintSpecs14 hs hb20 hs2 hs3 hb21 ps ql hv1 hv2 hSm hSp hsame hsm hs21;clear hs hb20 hs2 hs3 hb21 ps ql hv1 hv2 hSm hSp hsame hsm hs21
      cases eq with
      | false =>
       have hr:=Hno.out (by
        rintro⟨-,ln',h2,h3,-⟩
        rw[Hl1.out] at h2
        cases h2
        exact absurd h3 (of_decide_eq_false Heq.out.symm))
       obtain⟨htt,hok⟩:=Prod.mk.inj hr
       subst hok
       have hE:=zd4 htt
       obtain⟨Hw,Hr,Htt,HE⟩:=hzPrintSpecs4 hw hr htt hE;clear hw hr htt hE
       have kE:=HE.out
       go_wp2_with fail
       refine (HFx.out _ Hb21.out).mono ?_
       rintro e w22 ⟨rfl,hs⟩
       have hb22:=Hb21.out.trans (hs.mono Hb21.out.size)
       have q0:=za0 hs Hp0.out
       clear x0 x1 x2 Hp0
       obtain⟨x0,x1,x2,-⟩:=za4 q0
       have Hp0:=Lib.hid q0
       clear q0
       obtain⟨Hs,Hb22⟩:=hzPrintSpecs2 hs hb22;clear hs hb22
       go_wp2_with fail
       go_ret
       exact⟨by first | rfl | simp,Hb22.out⟩
      | true =>
       by_cases hj:j=k
       ·subst hj
        have k3:((j:Int) == (j:Int))=true:=by simp
        go_wp2_with fail
        refine (HSm.out _ (Below.refl _ _)).mono ?_
        rintro e w22 ⟨rfl,hs⟩
        have hb22:=Hb21.out.trans (hs.mono Hb21.out.size)
        have q0:=za0 hs Hp0.out
        have q1:=za0 hs Hps.out
        clear x0 x1 x2 y0 y1 y2 Hp0 Hps
        obtain⟨x0,x1,x2,-⟩:=za4 q0
        obtain⟨y0,y1,y2,-⟩:=za4 q1
        have Hp0:=Lib.hid q0
        have Hps:=Lib.hid q1
        have hk22:=hs
        clear q0 q1
        obtain⟨Hs,Hb22,Hk22⟩:=hzPrintSpecs3 hs hb22 hk22;clear hs hb22 hk22
        cases same with
        | false =>
         have hr:=Hno.out (by
          rintro⟨-,ln',h2,-,h4⟩
          rw[Hl1.out] at h2
          cases h2
          rw[hw] at h4
          have h5:s2=s:=by cases h4;rfl
          exact absurd (Hsm.out.2 h5) (by simp))
         obtain⟨htt,hok⟩:=Prod.mk.inj hr
         subst hok
         have hE:=zd4 htt
         obtain⟨Hw,Hr,Htt,HE⟩:=hzPrintSpecs4 hw hr htt hE;clear hw hr htt hE
         have kE:=HE.out
         go_wp2_with fail
         refine (HFx.out _ Hb22.out).mono ?_
         rintro e w23 ⟨rfl,hs⟩
         have hb23:=Hb22.out.trans (hs.mono Hb22.out.size)
         have q0:=za0 hs Hp0.out
         clear x0 x1 x2 Hp0
         obtain⟨x0,x1,x2,-⟩:=za4 q0
         have Hp0:=Lib.hid q0
         clear q0
         obtain⟨Hs,Hb23⟩:=hzPrintSpecs2 hs hb23;clear hs hb23
         go_wp2_with fail
         go_ret
         exact⟨by first | rfl | simp,Hb23.out⟩
        | true =>
         have hs5:s2=s:=Hsm.out.1 rfl
         have hr:=Hyes.out ⟨He.out,ln,Hl1.out,of_decide_eq_true Heq.out.symm,by rw[← Hnw2.out,← hs5];exact hw⟩
         obtain⟨htt,hok⟩:=Prod.mk.inj hr
         subst hok
         have hE:(u1.toList == t.toList)=true:=by rw[htt,Txt.eq_dec,decide_eq_true rfl]
         obtain⟨Hw,Hr,Htt,Hs5⟩:=hzPrintSpecs4 hw hr htt hs5;clear hw hr htt hs5
         go_wp2_with fail
         refine (HFx.out _ Hb22.out).mono ?_
         rintro e w23 ⟨rfl,hs⟩
         have hb23:=Hb22.out.trans (hs.mono Hb22.out.size)
         have hk23:=Hk22.out.trans (hs.mono Hk22.out.size)
         have q0:=za0 hs Hp0.out
         have q1:=za0 hs Hps.out
         clear x0 x1 x2 y0 y1 y2 Hp0 Hps
         obtain⟨x0,x1,x2,-⟩:=za4 q0
         obtain⟨y0,y1,y2,-⟩:=za4 q1
         obtain⟨Hs,Hb23,Hk23,Hq0,Hq1⟩:=hzPrintSpecs5 hs hb23 hk23 q0 q1;clear hs hb23 hk23 q0 q1
         go_wp2_with fail
         refine (HSp.out _ Hk23.out).mono ?_
         rintro e w24 ⟨rfl,hs⟩
         have hb24:=Hb23.out.trans (hs.mono Hb23.out.size)
         obtain⟨Hs,Hb24⟩:=hzPrintSpecs2 hs hb24;clear hs hb24
         go_wp2_with fail
         go_ret
         exact⟨by first | rfl | simp,Hb24.out⟩
       have k3:((j:Int) == (k:Int))=false:=by rw[beq_eq_false_iff_ne];omega
       have hr:=Hno.out (by
        rintro⟨-,ln',h2,-,h4⟩
        rw[Hl1.out] at h2
        cases h2
        rw[hw] at h4
        have h5:j=ln.2.length:=by cases h4;rfl
        exact hj (h5.trans Hnw2.out.symm))
       obtain⟨htt,hok⟩:=Prod.mk.inj hr
       subst hok
       have hE:=zd4 htt
       obtain⟨Hw,Hr,Htt,HE,Hj⟩:=hzPrintSpecs5 hw hr htt hE hj;clear hw hr htt hE hj
       have kE:=HE.out
       go_wp2_with fail
       refine (HFx.out _ Hb21.out).mono ?_
       rintro e w22 ⟨rfl,hs⟩
       have hb22:=Hb21.out.trans (hs.mono Hb21.out.size)
       have q0:=za0 hs Hp0.out
       clear x0 x1 x2 Hp0
       obtain⟨x0,x1,x2,-⟩:=za4 q0
       have Hp0:=Lib.hid q0
       clear q0
       obtain⟨Hs,Hb22⟩:=hzPrintSpecs2 hs hb22;clear hs hb22
       go_wp2_with fail
       go_ret
       exact⟨by first | rfl | simp,Hb22.out⟩
     obtain⟨cl,hcl⟩ : ∃ x,x=zb8 ln.2 fin j:=⟨_,rfl⟩
     have hne:(cl == 0)=false:=by rw[hcl];simpa using Hcol.out j
     rw[← hcl]
     have hr:=Hno.out (by
      rintro⟨-,ln',h2,-,h4⟩
      rw[Hl1.out] at h2
      cases h2
      rw[hw] at h4
      cases h4)
     obtain⟨htt,hok⟩:=Prod.mk.inj hr
     subst hok
     have hE:=zd4 htt
     have hb20:=Hbw.out.trans (hs.mono Hbw.out.size)
     obtain⟨w21,hw21⟩ : ∃ W,W=w20.alloc (.cells #[.string ⟨#[]⟩,.slice none 0 0,.slice none 0 0] 51):=⟨_,rfl⟩
     have hs2:Below w20.heap.size w20 w21:=by rw[hw21];exact za2 _ _
     have hs3:=hs.trans (hs2.mono hs.size)
     have hb21:=Hbw.out.trans (hs3.mono Hbw.out.size)
     have q0:=za0 hs3 Hp0.out
     clear x0 x1 x2 Hp0
     obtain⟨x0,x1,x2,-⟩:=za4 q0
     have Hp0:=Lib.hid q0
     clear q0
     obtain⟨Hs,Hb20,Hs2,Hs3,Hb21,Hw,Hr,Htt,HE,Hcl⟩:=hzPrintSpecs10 hs hb20 hs2 hs3 hb21 hw hr htt hE hcl;clear hs hb20 hs2 hs3 hb21 hw hr htt hE hcl
     go_upto_region 19 with (fail)
     rw[← hw21]
     clear hw21
     have kE:=HE.out
     cases eq with
     | false =>
      go_wp2_with fail
      refine (HFx.out _ Hb21.out).mono ?_
      rintro e w22 ⟨rfl,hs⟩
      have hb22:=Hb21.out.trans (hs.mono Hb21.out.size)
      have q0:=za0 hs Hp0.out
      clear x0 x1 x2 Hp0
      obtain⟨x0,x1,x2,-⟩:=za4 q0
      have Hp0:=Lib.hid q0
      clear q0
      obtain⟨Hs,Hb22⟩:=hzPrintSpecs2 hs hb22;clear hs hb22
      go_wp2_with fail
      go_ret
      exact⟨by first | rfl | simp,Hb22.out⟩
     | true =>
      go_wp2_with fail
      refine (HFx.out _ Hb21.out).mono ?_
      rintro e w22 ⟨rfl,hs⟩
      have hb22:=Hb21.out.trans (hs.mono Hb21.out.size)
      have q0:=za0 hs Hp0.out
      clear x0 x1 x2 Hp0
      obtain⟨x0,x1,x2,-⟩:=za4 q0
      have Hp0:=Lib.hid q0
      clear q0
      obtain⟨Hs,Hb22⟩:=hzPrintSpecs2 hs hb22;clear hs hb22
      go_wp2_with fail
      go_ret
      exact⟨by first | rfl | simp,Hb22.out⟩
   have k2:((m:Int) != 1)=true:=by simp;omega
   have hr:=Hno.out (by
    rintro⟨-,ln',h2,-,-⟩
    rw[h2] at hm
    exact h1m hm)
   obtain⟨htt,hok⟩:=Prod.mk.inj hr
   subst hok
   have hE:=zd4 htt
   obtain⟨Hln,Hm,He,Hr,Htt,HE,H1m⟩:=hzPrintSpecs7 hln hm he hr htt hE h1m;clear hln hm he hr htt hE h1m
   have kE:=HE.out
   go_wp2_with fail
   refine (HFx.out _ Hb7.out).mono ?_
   rintro e w8 ⟨rfl,hs⟩
   have hb8:=Hb7.out.trans (hs.mono Hb7.out.size)
   have q0:=za0 hs Hp0.out
   clear x0 x1 x2 Hp0
   obtain⟨x0,x1,x2,-⟩:=za4 q0
   have Hp0:=Lib.hid q0
   clear q0
   obtain⟨Hs,Hb8⟩:=hzPrintSpecs2 hs hb8;clear hs hb8
   go_wp2_with fail
   go_ret
   exact⟨by first | rfl | simp,Hb8.out⟩
  have k1:(er != 0)=true:=by simpa using he
  have hr:=Hno.out (fun h=>he h.1)
  obtain⟨htt,hok⟩:=Prod.mk.inj hr
  subst hok
  have hE:=zd4 htt
  obtain⟨Hln,Hm,He,Hr,Htt,HE⟩:=hzPrintSpecs6 hln hm he hr htt hE;clear hln hm he hr htt hE
  have kE:=HE.out
  go_wp2_with fail
  refine (HFx.out _ Hb7.out).mono ?_
  rintro e w8 ⟨rfl,hs⟩
  have hb8:=Hb7.out.trans (hs.mono Hb7.out.size)
  have q0:=za0 hs Hp0.out
  clear x0 x1 x2 Hp0
  obtain⟨x0,x1,x2,-⟩:=za4 q0
  have Hp0:=Lib.hid q0
  clear q0
  obtain⟨Hs,Hb8⟩:=hzPrintSpecs2 hs hb8;clear hs hb8
  go_wp2_with fail
  go_ret
  exact⟨by first | rfl | simp,Hb8.out⟩
theorem zkx {w:World} {v1 v2:Value} {nm:ByteArray} {L:List BSp} {sets:List Setg} (h1:RSps w [v1] L) (h2:zd8 w [v2] sets) (wish:Bool) (hD:zbk w) :
  Calls Tryz.prog 7 #[.agg #[.string nm,v1,v2],.bool wish] w fun e w'=>e = .returned (.bool true)∧Below w.heap.size w w':=by
 cases wish with
 | true=>exact zsh h1 h2 hD
 | false=>exact zsi h1 h2 hD
end
end Go.Proofs.YteailgjiifdgcaaGreatDoor
