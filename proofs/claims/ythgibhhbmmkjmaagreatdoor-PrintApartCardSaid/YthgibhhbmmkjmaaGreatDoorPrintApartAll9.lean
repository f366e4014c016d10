/- Walks and plain facts. Texts merged: RcR, RcI, PtP, EqT, EqS, EqC, EqfVar, EqfDep, EqfConf, EqfPref. Condition: none beyond what each says. -/
import Derived.Test.YthgibhhbmmkjmaaGreatDoorPrintApartAll8
set_option linter.unusedVariables false
set_option linter.unusedSimpArgs false
set_option maxRecDepth 10000
set_option maxHeartbeats 4000000
namespace Go.Proofs.YthgibhhbmmkjmaaGreatDoor
section
open Go.Shelf Go.RowKit Go.Lib VerN VarM
open LexM (Wd)
attribute [local go_sem ↓] Go.wp_at_zero Go.wp_at_succ
def zbw (r:Nat) (a:Option Addr) (n c:Nat) (fin:Int) (ws:List Wd) (i:Nat) (ok:ByteArray→Bool) (w:World) (e:Ending) (w':World):Prop :=
 ((i < ws.length∧ok (zag ws i)=true∧e = .returned (.string (zag ws i))∧RBox r (.slice a n c) (i+1) fin w')∨((ws.length≤i∨ok (zag ws i)=false)∧∃ j,e=zee (ze0 ws fin j)))∧Frm (fun k=>k=r) w w'
theorem zi3 {r:Nat} {a:Option Addr} {n c:Nat} {fin:Int} {ws:List Wd} {i:Nat} {ok:ByteArray→Bool} {w w':World} {e:Ending} (h1:i < ws.length) (h2:ok (zag ws i)=true) (h3:e = .returned (.string (zag ws i))) (h4:RBox r (.slice a n c) (i+1) fin w') (h5:Frm (fun k=>k=r) w w'):zbw r a n c fin ws i ok w e w':=⟨.inl ⟨h1,h2,h3,h4⟩,h5⟩
theorem zf5 {r:Nat} {a:Option Addr} {n c:Nat} {fin:Int} {ws:List Wd} {i:Nat} {ok:ByteArray→Bool} {w w':World} {e:Ending} (h1:ws.length≤i∨ok (zag ws i)=false) (h3:e=zee (ze0 ws fin i)) (h5:Frm (fun k=>k=r) w w'):zbw r a n c fin ws i ok w e w':=⟨.inr ⟨h1,i,h3⟩,h5⟩
theorem zb1 {S:Nat→Prop} {a w w':World} (h:Frm S a w) (hb:Below w.heap.size w w'):Frm S a w':=h.trans (Frm.of_below (S:=fun _=>False) hb) (fun _ _ h=>h.elim)
theorem zf4 {w0 w:World} {r:Nat} {a:Option Addr} {n c:Nat} {fin:Int} {ws:List Wd} {i:Nat} (C:RdC w0 r a n c fin ws) (S:RdS w0 r a n c fin i w) (hi1:i≤1000) {f:FuncId} (eg:∀ args w,(callFunc f args).run Tryz.prog w = .ok (.enter f args) w) {ok:ByteArray→Bool}
  (hR:∀ s W,s.size≤70000→Below w.heap.size w W→Calls Tryz.prog f #[.string s] W fun e w'=>e = .returned (.bool (ok s))∧Below W.heap.size W w') :
  Calls Tryz.prog 46 #[rp r,.func (.func f) #[] #[]] w (zbw r a n c fin ws i ok w):=by
 have hrw:r < w.heap.size:=(Array.getElem?_eq_some_iff.1 S.box).1
 have hn:=C.len
 have hP:=C.peek S
 have hsz:=C.peek_size i
 have hM:=fun (W:World) (k:Below w.heap.size w W)=>C.more (S.to k)
 have hNo:=fun (W:World) (k:Below w.heap.size w W)=>C.want (S.to k)
 have hbx:=fun (W:World) (k:Below w.heap.size w W)=>zb6 (S.to k).box
 have hR:=fun (W:World) (k:Below w.heap.size w W)=>hR (zag ws i) W hsz k
 obtain⟨s,hs⟩ : ∃ s,s=zag ws i:=⟨_,rfl⟩
 have hgo:∀ W,Below w.heap.size w W→Frm (fun k=>k=r) w W:=fun W k=>zb1 (Frm.refl _ _) k
 obtain⟨b,hb⟩ : ∃ b,b=ok s:=⟨_,rfl⟩
 simp only[← hs,← hb] at hP hR
 have hcell:=fun (W:World) (k:Below w.heap.size w W)=>heap_setCell_same W r 1 _ _ (.int .i64 ((i:Int)+1)) (S.to k).box
 by_cases hi:i < n
 ·have hi2:i < ws.length:=by omega
  rw[decide_eq_true hi] at hM
  clear hsz
  obtain⟨HC,HS,HP,HM,HNo,Hbx,HR,Hs,Hb,Hgo,Hcell,Hn,Hi2⟩:=hd13 C S hP hM hNo hbx hR hs hb hgo hcell hn hi2;clear C S hP hM hNo hbx hR hs hb hgo hcell hn hi2
  go_enter Tryz.func46,Tryz.ntmps46
  go_wp2_with fail
  refine HP.out.mono ?_
  rintro e w1 ⟨rfl,q1,rfl⟩
  have hb1:=za6 (Below.refl w.heap.size w) q1
  generalize w.drewN q1=w1 at hb1 ⊢
  have Hb1:=hd hb1;clear hb1
  go_wp2_with fail
  refine (HM.out _ Hb1.out).mono ?_
  rintro e w2 ⟨rfl,q2,rfl⟩
  have hb2:=za6 Hb1.out q2
  generalize w1.drewN q2=w2 at hb2 ⊢
  have Hb2:=hd hb2;clear hb2
  go_wp2_with fail
  refine (HR.out _ Hb2.out).mono ?_
  rintro e w3 ⟨rfl,hb3⟩
  have hb23:=Hb2.out.trans (hb3.mono Hb2.out.size)
  cases b with
  | true =>
   have hY:=zc0 w3 r
   obtain⟨-,x1,-,x3⟩:=Hbx.out _ hb23
   obtain⟨Hb3,Hb23,HY⟩:=hd3 hb3 hb23 hY;clear hb3 hb23 hY
   go_wp2_with fail
   refine HY.out.mono ?_
   rintro e w4 ⟨rfl,hw4⟩
   subst hw4
   go_wp2_with fail
   go_ret
   have hf:=Hgo.out _ Hb23.out
   exact zi3 Hi2.out (by rw[← Hs.out,← Hb.out]) (by rw[← Hs.out];rfl) (Hcell.out _ Hb23.out) (zae hf 1 _)
  | false =>
   have hN:=HNo.out _ hb23
   have hf:=Hgo.out _ hb23
   obtain⟨Hb3,Hb23,HN,Hf⟩:=hd4 hb3 hb23 hN hf;clear hb3 hb23 hN hf
   go_wp2_with fail
   refine HN.out.mono ?_
   rintro e w4 ⟨rfl,q4,rfl⟩
   go_wp2_with fail
   exact⟨rfl,zf5 (.inr (by rw[← Hs.out,← Hb.out])) rfl (zb1 Hf.out (za6 (Below.refl _ _) q4))⟩
 rw[decide_eq_false hi] at hM
 have hi2:ws.length≤i:=by omega
 clear hsz
 obtain⟨HC,HS,HP,HM,HNo,Hbx,HR,Hs,Hb,Hgo,Hcell,Hn,Hi2⟩:=hd13 C S hP hM hNo hbx hR hs hb hgo hcell hn hi2;clear C S hP hM hNo hbx hR hs hb hgo hcell hn hi2
 go_enter Tryz.func46,Tryz.ntmps46
 go_wp2_with fail
 refine HP.out.mono ?_
 rintro e w1 ⟨rfl,q1,rfl⟩
 have hb1:=za6 (Below.refl w.heap.size w) q1
 generalize w.drewN q1=w1 at hb1 ⊢
 have Hb1:=hd hb1;clear hb1
 go_wp2_with fail
 refine (HM.out _ Hb1.out).mono ?_
 rintro e w2 ⟨rfl,q2,rfl⟩
 have hb2:=za6 Hb1.out q2
 generalize w1.drewN q2=w2 at hb2 ⊢
 have hN:=HNo.out _ hb2
 have hf:=Hgo.out _ hb2
 obtain⟨Hb2,HN,Hf⟩:=hd3 hb2 hN hf;clear hb2 hN hf
 go_wp2_with fail
 refine HN.out.mono ?_
 rintro e w4 ⟨rfl,q4,rfl⟩
 go_wp2_with fail
 exact⟨rfl,zf5 (.inl Hi2.out) rfl (zb1 Hf.out (za6 (Below.refl _ _) q4))⟩
def zgx (r:Nat) (a:Option Addr) (n c:Nat) (fin:Int) (ws:List Wd) (i:Nat) (ok:ByteArray→Bool) (w:World) (e:Ending) (w':World):Prop :=
 ((∃ v l,zeg ok (zam ws i)=some l∧e = .returned v∧w'.ownsRow w.heap.size 9 1 v l.length (l.map Value.string)∧RBox r (.slice a n c) ws.length fin w')∨(zeg ok (zam ws i)=none∧∃ j,e=zee (ze0 ws fin j)))∧Frm (fun k=>k=r) w w'
theorem zn1 {r:Nat} {a:Option Addr} {n c:Nat} {fin:Int} {ws:List Wd} {i:Nat} {ok:ByteArray→Bool} {w w':World} {e:Ending} {v:Value} {l:List ByteArray} (h1:zeg ok (zam ws i)=some l) (h3:e = .returned v) (h4:w'.ownsRow w.heap.size 9 1 v l.length (l.map Value.string)) (h6:RBox r (.slice a n c) ws.length fin w') (h5:Frm (fun k=>k=r) w w'):zgx r a n c fin ws i ok w e w':=⟨.inl ⟨v,l,h1,h3,h4,h6⟩,h5⟩
theorem zj3 {r:Nat} {a:Option Addr} {n c:Nat} {fin:Int} {ws:List Wd} {i j:Nat} {ok:ByteArray→Bool} {w w':World} {e:Ending} (h1:zeg ok (zam ws i)=none) (h3:e=zee (ze0 ws fin j)) (h5:Frm (fun k=>k=r) w w'):zgx r a n c fin ws i ok w e w':=⟨.inr ⟨h1,j,h3⟩,h5⟩
theorem ze5 {ws:List Wd} {i j:Nat} (h:i+j < ws.length):(zam ws i)[j]? = some (zag ws (i+j)):=by
 unfold zam
 rw[List.getElem?_map,List.getElem?_drop,List.getElem?_eq_getElem h,zgl h]
 rfl
theorem zlw {ws:List Wd} {i k:Nat} (h:i+k < ws.length):(zam ws i).take (k+1)=(zam ws i).take k ++ [zag ws (i+k)]:=by
 have hk:k < (zam ws i).length:=by rw[zd3];omega
 rw[List.take_succ_eq_append_getElem hk]
 have:=ze5 (ws:=ws) (i:=i) (j:=k) h
 rw[List.getElem?_eq_getElem hk] at this
 rw[Option.some.inj this]
theorem zov {ok:ByteArray→Bool} {ws:List Wd} {i k:Nat} (h:ws.length≤i∨(i+k < ws.length∧ok (zag ws (i+k))=false)):zeg ok (zam ws i)=none:=by
 unfold zeg
 refine if_neg fun hh=>?_
 rcases h with h | ⟨h1,h2⟩
 ·exact hh.1 (zay h)
 have h3:=List.all_eq_true.1 hh.2 (zag ws (i+k)) (List.mem_of_getElem? (ze5 h1))
 rw[h2] at h3
 cases h3
theorem zu5 {ok:ByteArray→Bool} {ws:List Wd} {i:Nat} (h0:i < ws.length) (h:∀ j,i+j < ws.length→ok (zag ws (i+j))=true):zeg ok (zam ws i)=some (zam ws i):=by
 unfold zeg
 refine if_pos ⟨fun e=>?_,?_⟩
 ·have:=zd3 ws i
  rw[e] at this
  simp at this
  omega
 rw[List.all_eq_true]
 intro x hx
 obtain⟨j,hj,rfl⟩:=List.getElem_of_mem hx
 have hl:i+j < ws.length:=by rw[zd3] at hj;omega
 have:=ze5 (ws:=ws) hl
 rw[List.getElem?_eq_getElem hj] at this
 rw[Option.some.inj this]
 exact h j hl
theorem zet {w0 w W:World} {r:Nat} {a:Option Addr} {n c:Nat} {fin:Int} {i j:Nat} (S:RdS w0 r a n c fin i w) (hlow:w0.heap.size≤r) (hF:Frm (fun k=>k=r) w W) (hb:RBox r (.slice a n c) j fin W):RdS w0 r a n c fin j W :=
 ⟨hb,hF.os.trans S.bel.os,hF.tape.trans S.bel.tape,hF.output.trans S.bel.output,Nat.le_trans S.bel.size hF.size,fun k hk=>(hF.block k (Nat.lt_of_lt_of_le hk S.bel.size) (by omega)).trans (S.bel.block k hk)⟩
theorem texts_one {ws:List Wd} {i:Nat} (h:i < ws.length):(zam ws i).take 1 = [zag ws i]:=by
 have:=zlw (ws:=ws) (i:=i) (k:=0) (by omega)
 simpa using this
structure NmI (w0:World) (r:Nat) (a:Option Addr) (n c:Nat) (fin:Int) (ws:List Wd) (i:Nat) (ok:ByteArray→Bool) (w:World) (k:Nat) (v:Value) (W:World):Prop where
 st:RdS w0 r a n c fin (i+k) W
 row:W.ownsRow w.heap.size 9 1 v k (((zam ws i).take k).map Value.string)
 all:∀ j,j < k→ok (zag ws (i+j))=true
 frm:Frm (fun x=>x=r) w W
 pos:1≤k
 le:i+k≤ws.length
theorem zou {w0 w:World} {r:Nat} {a:Option Addr} {n c:Nat} {fin:Int} {ws:List Wd} {i:Nat} (C:RdC w0 r a n c fin ws) (S:RdS w0 r a n c fin i w) (hi1:i≤1000) {f:FuncId} (eg:∀ args w,(callFunc f args).run Tryz.prog w = .ok (.enter f args) w) {ok:ByteArray→Bool}
  (hR:∀ s W,s.size≤70000→Below w0.heap.size w0 W→Calls Tryz.prog f #[.string s] W fun e w'=>e = .returned (.bool (ok s))∧Below W.heap.size W w') :
  Calls Tryz.prog 48 #[rp r,.func (.func f) #[] #[]] w (zgx r a n c fin ws i ok w):=by
 have hrw:r < w.heap.size:=(Array.getElem?_eq_some_iff.1 S.box).1
 have hn:=C.len
 have hn1:=C.n1000
 have hT:=zf4 C S hi1 eg (ok:=ok) (fun s W hs k=>hR s W hs (S.bel.trans (k.mono S.bel.size)))
 have hT2:=fun (W:World) (k:Nat) (hk:i+k≤1000) (S:RdS w0 r a n c fin (i+k) W)=>zf4 C S hk eg (ok:=ok) (fun s V hs q=>hR s V hs (S.bel.trans (q.mono S.bel.size)))
 have hM:=fun (W:World) (k:Nat) (S:RdS w0 r a n c fin (i+k) W)=>C.more S
 obtain⟨s,hs⟩ : ∃ s,s=zag ws i:=⟨_,rfl⟩
 unfold zbw at hT
 rw[← hs] at hT
 have hlow:=C.low
 have hwb:=S.bel.size
 obtain⟨HC,HS,HT,HT2,HM,Hs,Hn,HR⟩:=hd8 C S hT hT2 hM hs hn hR;clear C S hT hT2 hM hs hn hR
 go_enter Tryz.func48,Tryz.ntmps48
 go_wp2_with fail
 refine HT.out.mono ?_
 rintro e w1 ⟨⟨hi,hok,rfl,hbx⟩ | ⟨hno,j,rfl⟩,hfr⟩
 ·have hz1:=hfr.size
  obtain⟨w2,hw2⟩ : ∃ W,W=w1.alloc (.cells #[.string s] 9):=⟨_,rfl⟩
  have hb12:Below w1.heap.size w1 w2:=by rw[hw2];exact za2 _ _
  have hrow:w2.ownsRow w.heap.size 9 1 (.slice (some ⟨w1.heap.size,0,none⟩) 1 1) 1 [.string s]:=by rw[hw2];exact World.ownsRow_lit (base:=w.heap.size) (e:=9) (size:=1) w1 #[.string s] 1 hz1 (by decide) rfl
  have hfr2:=zb1 hfr hb12
  have hst:RdS w0 r a n c fin (i+1) w2:=zet HS.out hlow hfr2 (za1 hb12 hbx)
  have hI:NmI w0 r a n c fin ws i ok w 1 (.slice (some ⟨w1.heap.size,0,none⟩) 1 1) w2:=⟨hst,by rw[texts_one hi,← Hs.out];exact hrow,fun j hj=>by
   obtain rfl:j=0:=by omega
   rw[Nat.add_zero,← Hs.out];exact hok,hfr2,Nat.le_refl _,by omega⟩
  obtain⟨v0,hv0⟩ : ∃ v:Option Addr,v=some ⟨w1.heap.size,0,none⟩:=⟨_,rfl⟩
  rw[← hv0] at hI
  obtain⟨Hi,Hok,Hbx,Hfr,Hz1,Hb12,Hrow,Hfr2,Hst,HI⟩:=hd10 hi hok hbx hfr hz1 hb12 hrow hfr2 hst hI;clear hi hok hbx hfr hz1 hb12 hrow hfr2 hst hI
  go_upto_region 2 with (fail)
  rw[← hw2,← hv0]
  clear hw2 hv0
  go_loopw [5] (fun v wr=>∃ k,NmI w0 r a n c fin ws i ok w k v wr) (fun _ wr=>n - atOf r wr)
  case atStart=>exact⟨1,HI.out⟩
  case round =>
   obtain⟨k,hI⟩:=hrel
   obtain⟨ra,rc,rfl⟩:=zaa hI.row
   obtain⟨wo,hwo⟩ : ∃ W,W=wr:=⟨_,rfl⟩
   rw[← hwo] at hI ⊢
   clear hwo wr
   have hmeas:atOf r wo=i+k:=zjq hI.st.box
   have hMo:=HM.out wo k hI.st
   have hle:=hI.le
   have hpos:=hI.pos
   have hk1:k≤1000:=by have:=Hn.out;omega
   by_cases hlt:i+k < n
   ·rw[decide_eq_true hlt] at hMo
    have hlt2:i+k < ws.length:=by have:=Hn.out;omega
    obtain⟨HI,Hmeas,HMo⟩:=hd3 hI hmeas hMo;clear hI hmeas hMo
    go_wp2_with fail
    refine HMo.out.mono ?_
    rintro e w3 ⟨rfl,q3,rfl⟩
    have hb3:Below wo.heap.size wo (wo.drewN q3):=za6 (Below.refl _ _) q3
    generalize wo.drewN q3=w3 at hb3 ⊢
    have hst3:=HI.out.st.to hb3
    have hT3:=HT2.out w3 k (by omega) hst3
    have hrow3:=zab HI.out.row hb3
    have hfr3:=zb1 HI.out.frm hb3
    obtain⟨x,hx⟩ : ∃ x,x=zag ws (i+k):=⟨_,rfl⟩
    unfold zbw at hT3
    rw[← hx] at hT3
    obtain⟨N,hN⟩ : ∃ N,N=((zam ws i).take k).map Value.string:=⟨_,rfl⟩
    rw[← hN] at hrow3
    obtain⟨Hb3,Hst3,HT3,Hrow3,Hfr3,Hx,HN⟩:=hd7 hb3 hst3 hT3 hrow3 hfr3 hx hN;clear hb3 hst3 hT3 hrow3 hfr3 hx hN
    go_wp2_with fail
    refine HT3.out.mono ?_
    rintro e w4 ⟨⟨hi4,hok4,rfl,hbx4⟩ | ⟨hno,j,rfl⟩,hfr4⟩
    ·have hst4:=zet Hst3.out hlow hfr4 hbx4
     have hown:∀ z,(Value.slice ra k rc).ownBlock=some z→z≠r:=fun z hz e=>by
      have:=(HI.out.row.lt z hz).1
      omega
     have hrow4:w4.ownsRow w.heap.size 9 1 (.slice ra k rc) k N:=hfr4.owns Hrow3.out (fun z hz e=>hown z hz e)
     have hfrw4:Frm (fun x=>x=r) w w4:=Hfr3.out.trans hfr4 (fun _ _ h=>h)
     have hbw4:w.heap.size≤w4.heap.size:=hfrw4.size
     obtain⟨Hi4,Hok4,Hbx4,Hfr4,Hst4,Hown,Hrow4,Hfrw4⟩:=hd8 hi4 hok4 hbx4 hfr4 hst4 hown hrow4 hfrw4;clear hi4 hok4 hbx4 hfr4 hst4 hown hrow4 hfrw4
     go_wp2_with (at_builtin;(refine zaw zcb rfl (.tmp 12) (.tmp 16) rfl w.heap.size (.slice ra k rc) k N rfl Hrow4.out 1 #[.string x] rfl rfl (by simp[Value.oneCell']) (by omega) (by unfold maxLen;omega) hbw4 ?_;intro v9 w9 hown9 hg9 hm9;obtain⟨a9,c9,rfl⟩:=zaa hown9;have hfr9:Frm (fun x=>x=r) w w9:=Hfrw4.out.grown hg9 (fun z hz=>.inl (Hrow4.out.lt z hz).1);have hbx9:RBox r (.slice a n c) (i+k+1) fin w9:=(hg9.block r (Array.getElem?_eq_some_iff.1 Hbx4.out).1 (fun e=>Hown.out r e.symm rfl)).trans Hbx4.out;obtain⟨Hown9,Hfr9,Hbx9⟩:=hd3 hown9 hfr9 hbx9;clear hown9 hg9 hm9 hfr9 hbx9))
     go_roundw
     case rel =>
      refine⟨k+1,zet HS.out hlow Hfr9.out Hbx9.out,?_,fun j hj=>?_,Hfr9.out,by omega,by omega⟩
      ·rw[zlw hlt2,List.map_append,← HN.out,← Hx.out]
       exact Hown9.out
      by_cases e:j=k
      ·rw[e,← Hx.out];exact Hok4.out
      exact HI.out.all j (by omega)
     case measure =>
      have h1:atOf r w9=i+k+1:=zjq Hbx9.out
      rw[h1,Hmeas.out]
      omega
    have hnn:zeg ok (zam ws i)=none:=zov (k:=k) (.inr ⟨hlt2,by
     rcases hno with h | h
     ·omega
     rw[← Hx.out];exact h⟩)
    have hfrw4:Frm (fun x=>x=r) w w4:=Hfr3.out.trans hfr4 (fun _ _ h=>h)
    obtain⟨Hno,Hfr4,Hnn,Hfrw4⟩:=hd4 hno hfr4 hnn hfrw4;clear hno hfr4 hnn hfrw4
    go_wp2_with fail
    exact⟨rfl,zj3 Hnn.out rfl Hfrw4.out⟩
   rw[decide_eq_false hlt] at hMo
   have hk:i+k=ws.length:=by have:=Hn.out;omega
   have hyes:=zu5 (ok:=ok) (ws:=ws) (i:=i) (by omega) (fun j hj=>hI.all j (by omega))
   have htk:(zam ws i).take k=zam ws i:=List.take_of_length_le (by rw[zd3];omega)
   obtain⟨HI,Hmeas,HMo,Hyes,Htk⟩:=hd5 hI hmeas hMo hyes htk;clear hI hmeas hMo hyes htk
   go_wp2_with fail
   refine HMo.out.mono ?_
   rintro e w3 ⟨rfl,q3,rfl⟩
   have hb3:Below wo.heap.size wo (wo.drewN q3):=za6 (Below.refl _ _) q3
   generalize wo.drewN q3=w3 at hb3 ⊢
   have hrow3:=zab HI.out.row hb3
   rw[Htk.out] at hrow3
   have hbx3:=za1 hb3 HI.out.st.box
   have hlen:(zam ws i).length=k:=by rw[zd3];omega
   obtain⟨Hb3,Hrow3,Hbx3,Hlen⟩:=hd4 hb3 hrow3 hbx3 hlen;clear hb3 hrow3 hbx3 hlen
   go_wp2_with fail
   go_ret
   exact zn1 Hyes.out rfl (by rw[Hlen.out];exact Hrow3.out) (by rw[← hk];exact Hbx3.out) (zb1 HI.out.frm Hb3.out)
 have hnn:zeg ok (zam ws i)=none:=zov (k:=0) (by
  rcases hno with h | h
  ·exact .inl h
  by_cases hl:i < ws.length
  ·exact .inr ⟨by omega,by rw[Nat.add_zero,← Hs.out];exact h⟩
  exact .inl (by omega))
 obtain⟨Hno,Hfr,Hnn⟩:=hd3 hno hfr hnn;clear hno hfr hnn
 go_wp2_with fail
 exact⟨rfl,zj3 Hnn.out rfl Hfr.out⟩
end

section
open Go.Shelf Go.RowKit Go.Lib VerN VarM
open LexM (Wd)
attribute [local go_sem ↓] Go.wp_at_zero Go.wp_at_succ
theorem zju {w0 w:World} {r:Nat} {a:Option Addr} {n c:Nat} {fin:Int} {ws:List Wd} {i:Nat} (C:RdC w0 r a n c fin ws) (S:RdS w0 r a n c fin i w) (hi1:i≤1000) {f:FuncId} (eg:∀ args w,(callFunc f args).run Tryz.prog w = .ok (.enter f args) w) {ok:ByteArray→Bool} {cp:Value}
  (hR:∀ s W,s.size≤70000→Below w.heap.size w W→Calls Tryz.prog f #[.string s,cp] W fun e w'=>e = .returned (.bool (ok s))∧Below W.heap.size W w') :
  Calls Tryz.prog 46 #[rp r,.func (.func f) #[] #[cp]] w (zbw r a n c fin ws i ok w):=by
 have hrw:r < w.heap.size:=(Array.getElem?_eq_some_iff.1 S.box).1
 have hn:=C.len
 have hP:=C.peek S
 have hsz:=C.peek_size i
 have hM:=fun (W:World) (k:Below w.heap.size w W)=>C.more (S.to k)
 have hNo:=fun (W:World) (k:Below w.heap.size w W)=>C.want (S.to k)
 have hbx:=fun (W:World) (k:Below w.heap.size w W)=>zb6 (S.to k).box
 have hR:=fun (W:World) (k:Below w.heap.size w W)=>hR (zag ws i) W hsz k
 obtain⟨s,hs⟩ : ∃ s,s=zag ws i:=⟨_,rfl⟩
 have hgo:∀ W,Below w.heap.size w W→Frm (fun k=>k=r) w W:=fun W k=>zb1 (Frm.refl _ _) k
 obtain⟨b,hb⟩ : ∃ b,b=ok s:=⟨_,rfl⟩
 simp only[← hs,← hb] at hP hR
 have hcell:=fun (W:World) (k:Below w.heap.size w W)=>heap_setCell_same W r 1 _ _ (.int .i64 ((i:Int)+1)) (S.to k).box
 by_cases hi:i < n
 ·have hi2:i < ws.length:=by omega
  rw[decide_eq_true hi] at hM
  clear hsz
  obtain⟨HC,HS,HP,HM,HNo,Hbx,HR,Hs,Hb,Hgo,Hcell,Hn,Hi2⟩:=hd13 C S hP hM hNo hbx hR hs hb hgo hcell hn hi2;clear C S hP hM hNo hbx hR hs hb hgo hcell hn hi2
  go_enter Tryz.func46,Tryz.ntmps46
  go_wp2_with fail
  refine HP.out.mono ?_
  rintro e w1 ⟨rfl,q1,rfl⟩
  have hb1:=za6 (Below.refl w.heap.size w) q1
  generalize w.drewN q1=w1 at hb1 ⊢
  have Hb1:=hd hb1;clear hb1
  go_wp2_with fail
  refine (HM.out _ Hb1.out).mono ?_
  rintro e w2 ⟨rfl,q2,rfl⟩
  have hb2:=za6 Hb1.out q2
  generalize w1.drewN q2=w2 at hb2 ⊢
  have Hb2:=hd hb2;clear hb2
  go_wp2_with fail
  refine (HR.out _ Hb2.out).mono ?_
  rintro e w3 ⟨rfl,hb3⟩
  have hb23:=Hb2.out.trans (hb3.mono Hb2.out.size)
  cases b with
  | true =>
   have hY:=zc0 w3 r
   obtain⟨-,x1,-,x3⟩:=Hbx.out _ hb23
   obtain⟨Hb3,Hb23,HY⟩:=hd3 hb3 hb23 hY;clear hb3 hb23 hY
   go_wp2_with fail
   refine HY.out.mono ?_
   rintro e w4 ⟨rfl,hw4⟩
   subst hw4
   go_wp2_with fail
   go_ret
   have hf:=Hgo.out _ Hb23.out
   exact zi3 Hi2.out (by rw[← Hs.out,← Hb.out]) (by rw[← Hs.out];rfl) (Hcell.out _ Hb23.out) (zae hf 1 _)
  | false =>
   have hN:=HNo.out _ hb23
   have hf:=Hgo.out _ hb23
   obtain⟨Hb3,Hb23,HN,Hf⟩:=hd4 hb3 hb23 hN hf;clear hb3 hb23 hN hf
   go_wp2_with fail
   refine HN.out.mono ?_
   rintro e w4 ⟨rfl,q4,rfl⟩
   go_wp2_with fail
   exact⟨rfl,zf5 (.inr (by rw[← Hs.out,← Hb.out])) rfl (zb1 Hf.out (za6 (Below.refl _ _) q4))⟩
 rw[decide_eq_false hi] at hM
 have hi2:ws.length≤i:=by omega
 clear hsz
 obtain⟨HC,HS,HP,HM,HNo,Hbx,HR,Hs,Hb,Hgo,Hcell,Hn,Hi2⟩:=hd13 C S hP hM hNo hbx hR hs hb hgo hcell hn hi2;clear C S hP hM hNo hbx hR hs hb hgo hcell hn hi2
 go_enter Tryz.func46,Tryz.ntmps46
 go_wp2_with fail
 refine HP.out.mono ?_
 rintro e w1 ⟨rfl,q1,rfl⟩
 have hb1:=za6 (Below.refl w.heap.size w) q1
 generalize w.drewN q1=w1 at hb1 ⊢
 have Hb1:=hd hb1;clear hb1
 go_wp2_with fail
 refine (HM.out _ Hb1.out).mono ?_
 rintro e w2 ⟨rfl,q2,rfl⟩
 have hb2:=za6 Hb1.out q2
 generalize w1.drewN q2=w2 at hb2 ⊢
 have hN:=HNo.out _ hb2
 have hf:=Hgo.out _ hb2
 obtain⟨Hb2,HN,Hf⟩:=hd3 hb2 hN hf;clear hb2 hN hf
 go_wp2_with fail
 refine HN.out.mono ?_
 rintro e w4 ⟨rfl,q4,rfl⟩
 go_wp2_with fail
 exact⟨rfl,zf5 (.inl Hi2.out) rfl (zb1 Hf.out (za6 (Below.refl _ _) q4))⟩
theorem znb (o:ByteArray) (w:World):Calls Tryz.prog 87 #[.string o] w fun e w'=>e = .returned (.func (.func 114) #[] #[.pointer (some ⟨w.heap.size,0,none⟩)])∧w'=w.alloc (.cells #[.string o] 9):=by
 have hmf:∀ (fn:Fn) (first cap:Array Value) (w:World),(Instr.makeFunc fn first cap).run Tryz.prog w = .ok (.func fn first cap) w:=fun _ _ _ _=>rfl
 go_enter Tryz.func87,Tryz.ntmps87
 go_wp2_with fail
 go_ret
 exact⟨rfl,rfl⟩
theorem zr2 (s o:ByteArray) {g:Nat} {w:World} (h:w.heap[g]? = some (.cells #[.string o] 9 (0,0))):Calls Tryz.prog 114 #[.string s,.pointer (some ⟨g,0,none⟩)] w fun e w'=>e = .returned (.bool (decide (s=o)))∧Below w.heap.size w w':=by
 have c0:=za0 h 0
 simp only[List.getElem?_toArray,List.getElem?_cons_zero] at c0
 have hq:=Txt.eq_dec s o
 obtain⟨b,hb⟩ : ∃ b,b=decide (s=o):=⟨_,rfl⟩
 rw[← hb] at hq ⊢
 obtain⟨Hh,Hb⟩:=hd2 h hb;clear h hb
 go_enter Tryz.func114,Tryz.ntmps114
 go_wp2_with fail
 go_ret
 exact⟨rfl,Below.refl _ _⟩
theorem path_any (s:ByteArray) (hs:s.size≤70000) (w:World):Calls Tryz.prog 90 #[.string s] w fun e w'=>e = .returned (.bool (zos s))∧Below w.heap.size w w':=by
 have h:decide ((s.size:Int)≤60)=zos s:=decide_eq_decide.2 (by omega)
 obtain⟨b,hb⟩ : ∃ b,b=zos s:=⟨_,rfl⟩
 rw[← hb] at h ⊢
 have Hb:=hd hb;clear hb
 go_enter Tryz.func90,Tryz.ntmps90
 go_wp2_with fail
 go_ret
 exact⟨by first | rfl | (rw[← h];rfl) | (simp[h]),Below.refl _ _⟩
theorem zfm (s:ByteArray) (hs:s.size≤70000) (w:World):Calls Tryz.prog 47 #[.string s] w fun e w'=>e = .returned (.bool (zef s))∧Below w.heap.size w w' :=
 (zjm s (by omega) w).mono fun e w' ⟨he,hw⟩=>⟨he,hw ▸ Below.refl _ _⟩
theorem zpz (s:ByteArray) (hs:s.size≤70000) (w:World):Calls Tryz.prog 88 #[.string s] w fun e w'=>e = .returned (.bool (zn0 s))∧Below w.heap.size w w' :=
 (znw s (by omega) w).mono fun e w' ⟨he,hw⟩=>⟨he,hw ▸ Below.refl _ _⟩
theorem verOk_any (s:ByteArray) (hs:s.size≤70000) {w:World} (hD:zbl w):Calls Tryz.prog 86 #[.string s] w fun e w'=>e = .returned (.bool (zor s))∧Below w.heap.size w w' :=
 zlt s (by omega) hD
def zdu (s:ByteArray):Bool:=decide (s=zcp) || decide (s=zdb) || decide (s=zc7) || decide (s=zdc) || decide (s=zbz) || decide (s=zlf)
theorem zau (s:ByteArray) (l:List UInt8) (o:ByteArray) (ho:o=⟨l.toArray⟩):(s.toList == l)=decide (s=o):=by
 have h:=Txt.eq_dec s o
 have e:o.toList=l:=by rw[Lib.toList_data,ho]
 rw[e] at h
 exact h
theorem zl4 (s:ByteArray) (w:World):Calls Tryz.prog 49 #[.string s] w fun e w'=>e = .returned (.bool (zdu s))∧w'=w:=by
 have k1:=zau s [118,101,114,115,105,111,110] zcp rfl
 have k2:=zau s [118,97,114,105,97,110,116] zdb rfl
 have k3:=zau s [112,114,111,118,105,100,101,115] zc7 rfl
 have k4:=zau s [100,101,112,101,110,100,115] zdc rfl
 have k5:=zau s [99,111,110,102,108,105,99,116,115] zbz rfl
 have k6:=zau s [102,105,108,101] zlf rfl
 unfold zdu
 obtain⟨b1,h1⟩ : ∃ b,b=decide (s=zcp):=⟨_,rfl⟩
 obtain⟨b2,h2⟩ : ∃ b,b=decide (s=zdb):=⟨_,rfl⟩
 obtain⟨b3,h3⟩ : ∃ b,b=decide (s=zc7):=⟨_,rfl⟩
 obtain⟨b4,h4⟩ : ∃ b,b=decide (s=zdc):=⟨_,rfl⟩
 obtain⟨b5,h5⟩ : ∃ b,b=decide (s=zbz):=⟨_,rfl⟩
 obtain⟨b6,h6⟩ : ∃ b,b=decide (s=zlf):=⟨_,rfl⟩
 rw[← h1] at k1 ⊢
 rw[← h2] at k2 ⊢
 rw[← h3] at k3 ⊢
 rw[← h4] at k4 ⊢
 rw[← h5] at k5 ⊢
 rw[← h6] at k6 ⊢
 clear h1 h2 h3 h4 h5 h6
 go_enter Tryz.func49,Tryz.ntmps49
 cases b1 with
 | true=>go_wp2_with fail;go_ret;exact⟨rfl,rfl⟩
 | false =>
  cases b2 with
  | true=>go_wp2_with fail;go_ret;exact⟨rfl,rfl⟩
  | false =>
   cases b3 with
   | true=>go_wp2_with fail;go_ret;exact⟨rfl,rfl⟩
   | false =>
    cases b4 with
    | true=>go_wp2_with fail;go_ret;exact⟨rfl,rfl⟩
    | false =>
     cases b5 with
     | true=>go_wp2_with fail;go_ret;exact⟨rfl,rfl⟩
     | false =>
      cases b6 with
      | true=>go_wp2_with fail;go_ret;exact⟨rfl,rfl⟩
      | false=>go_wp2_with fail;go_ret;exact⟨rfl,rfl⟩
theorem verL_none {ws:List Wd} {i:Nat} (h:ws.length≤i∨zor (zag ws i)=false):verL (zam ws i)=none:=by
 by_cases hl:ws.length≤i
 ·rw[zay hl];rfl
 have hv:zor (zag ws i)=false:=h.resolve_left hl
 rw[zad (by omega)]
 unfold verL
 split
 ·rename_i h1
  cases (List.cons.inj h1).1
  rw[if_neg (by rw[hv];simp)]
 ·rename_i h1
  cases (List.cons.inj h1).1
  rw[if_neg (by rw[hv];simp)]
 rfl
theorem verL_one {ws:List Wd} {i:Nat} (h:i+1=ws.length) (hv:zor (zag ws i)=true):verL (zam ws i)=some (zag ws i,false):=by
 rw[zad (by omega),zay (by omega)]
 unfold verL
 simp[hv]
theorem verL_two {ws:List Wd} {i:Nat} (h:i+2=ws.length) (hv:zor (zag ws i)=true) (ho:zag ws (i+1)=wOld):verL (zam ws i)=some (zag ws i,true):=by
 rw[zad (by omega),zad (by omega),zay (by omega)]
 unfold verL
 simp[hv,ho]
theorem zrs {ws:List Wd} {i:Nat} (h:i+1 < ws.length) (ho:zag ws (i+1)≠wOld∨i+2 < ws.length):verL (zam ws i)=none:=by
 rw[zad (by omega),zad (by omega)]
 by_cases h2:i+1+1 < ws.length
 ·rw[zad h2]
  rfl
 rw[zay (by omega)]
 unfold verL
 have:=ho.resolve_right (by omega)
 simp[this]
theorem zfb {ok:ByteArray→Bool} {ws:List Wd} {i:Nat} (h:i+1=ws.length) (hv:ok (zag ws i)=true):oneL ok (zam ws i)=some (zag ws i):=by
 rw[zad (by omega),zay (by omega)]
 unfold oneL
 simp[hv]
theorem zdn {ok:ByteArray→Bool} {ws:List Wd} {i:Nat} (h:ws.length≤i∨ok (zag ws i)=false∨i+1 < ws.length):oneL ok (zam ws i)=none:=by
 by_cases hl:ws.length≤i
 ·rw[zay hl];rfl
 rw[zad (by omega)]
 by_cases h2:i+1 < ws.length
 ·rw[zad h2];rfl
 rw[zay (by omega)]
 unfold oneL
 have hv:=(h.resolve_left hl).resolve_right h2
 simp[hv]
theorem zeo {ws:List Wd} {i:Nat} (h:i < ws.length):varL (zam ws i)=if zef (zag ws i)=true then (zeg zn0 (zam ws (i+1))).map fun q=>(zag ws i,q) else none:=by
 rw[zad h]
 rfl
theorem zcr {n:Int} {ws:List Wd} {i:Nat} (h:i < ws.length):prefL n (zam ws i)=if zef (zag ws i)=true then (zeg zef (zam ws (i+1))).map fun q=>(zag ws i,q,n) else none:=by
 rw[zad h]
 rfl
end

section
open Go.RowKit Go.Shelf Go.Lib VerN VarM
attribute [local go_sem ↓] Go.wp_at_zero Go.wp_at_succ
theorem zdt:Elem Tryz.prog 41 9 (.string ⟨#[]⟩) 1 16:=⟨Tryz.underlying41,by kernel_rfl,rfl,by decide⟩
set_option linter.unusedVariables false in
theorem pack_any {w0 w1 w:World} {b m0:Nat} {L:List Tln} (h:PkT w0 w1 b L m0 w) {p:PkgM} {nm:ByteArray} {li:Int} {b2 b3 b4 b5 b6 b7:Option Addr} {n2 c2 n3 c3 n4 c4 n5 c5 n6 c6 n7 c7:Nat} (hnm:p.name=nm)
  (hp:RPkR w0 (.slice b2 n2 c2) (.slice b3 n3 c3) (.slice b4 n4 c4) (.slice b5 n5 c5) (.slice b6 n6 c6) (.slice b7 n7 c7) p) (hsp:SpP p) (hL:∀ j x,(pkLs zdv p)[j]? = some x→L[m0+j]? = some x) (htot:(txT L).length≤4398046511104) (hD:zbl w0) :
  Calls Tryz.prog 16 #[.pointer (some ⟨b,0,none⟩),.agg #[.string nm,.int .i64 li,.slice b2 n2 c2,.slice b3 n3 c3,.slice b4 n4 c4,.slice b5 n5 c5,.slice b6 n6 c6,.slice b7 n7 c7]] w fun e w'=>e = .returned (.tuple #[])∧PkT w0 w1 b L (m0+(pkLs zdv p).length) w':=by
 have hr2:=zs8 hp.1
 have hr3:=zjg hp.2.1
 have hr4:=zek hp.2.2.1
 have hr5:=zgs hp.2.2.2.1
 have hr6:=zgs hp.2.2.2.2.1
 have hr7:=zek hp.2.2.2.2.2
 have hz4:n4≤9223372036854775807:=by obtain⟨_,_,e,h,_⟩:=zba hp.2.2.1;cases e;exact h
 have hz7:n7≤9223372036854775807:=by obtain⟨_,_,e,h,_⟩:=zba hp.2.2.2.2.2;cases e;exact h
 have hz2:=hr2.2.1
 have hz3:=hr3.2.1
 have hz5:=hr5.2.1
 have hz6:=hr6.2.1
 obtain⟨W1,hW1⟩ : ∃ W,W=w.alloc (.cells #[.string nm,.int .i64 li,.slice b2 n2 c2,.slice b3 n3 c3,.slice b4 n4 c4,.slice b5 n5 c5,.slice b6 n6 c6,.slice b7 n7 c7] 45):=⟨_,rfl⟩
 obtain⟨bx,hbx⟩ : ∃ z,z=w.heap.size:=⟨_,rfl⟩
 have hb1:Below w.heap.size w W1:=by rw[hW1];exact za2 _ _
 have pbx:W1.heap[bx]? = some (.cells #[.string nm,.int .i64 li,.slice b2 n2 c2,.slice b3 n3 c3,.slice b4 n4 c4,.slice b5 n5 c5,.slice b6 n6 c6,.slice b7 n7 c7] 45 (0,0)):=by rw[hW1,hbx];exact heap_alloc_new _ _
 have hS1:PkT w0 W1 b L m0 W1:=⟨BT.bld_below h.bld hb1,h.bel.trans (hb1.mono h.bel.size),BT.keep_refl _⟩
 have hend:∀ W m,PkT w0 W1 b L m W→PkT w0 w1 b L m W:=fun W m hS=>⟨hS.bld,hS.bel,(h.keep.trans (BT.keep_below hb1)).trans hS.keep⟩
 have hbox:∀ W m,PkT w0 W1 b L m W→W.heap[bx]? = some (.cells #[.string nm,.int .i64 li,.slice b2 n2 c2,.slice b3 n3 c3,.slice b4 n4 c4,.slice b5 n5 c5,.slice b6 n6 c6,.slice b7 n7 c7] 45 (0,0)):=fun W m hS=>hS.keep bx _ _ _ pbx (by decide) (by decide)
 have hat0:=hL 0 _ rfl
 have hx0:=za0 pbx 0
 simp only[List.getElem?_toArray,List.getElem?_cons_zero,List.getElem?_cons_succ] at hx0
 obtain⟨Hz2,Hz3,Hz4,Hz5,Hz6,Hz7,Hh,Hp,Hsp,HL,Htot,HD,Hr2,Hr3,Hr4,Hr5⟩:=hd16 hz2 hz3 hz4 hz5 hz6 hz7 h hp hsp hL htot hD hr2 hr3 hr4 hr5;obtain⟨Hr6,Hr7,Hb1,Hpbx,HS1,Hend,Hbox,Hat0⟩:=hd8 hr6 hr7 hb1 pbx hS1 hend hbox hat0;clear hz2 hz3 hz4 hz5 hz6 hz7 h hp hsp hL htot hD hr2 hr3 hr4 hr5 hr6 hr7 hb1 pbx hS1 hend hbox hat0
 go_enter Tryz.func16,Tryz.ntmps16
 go_upto_region 1 with (fail)
 rw[← hW1,← hbx]
 clear hW1 hbx
 obtain⟨wr,hwr⟩ : ∃ W,W=W1:=⟨_,rfl⟩
 obtain⟨wb,hwb⟩ : ∃ W,W=wr.alloc (.cells #[.string ⟨#[112,97,99,107,97,103,101]⟩,.string nm] 9):=⟨_,rfl⟩
 obtain⟨zb,hzb⟩ : ∃ z,z=wr.heap.size:=⟨_,rfl⟩
 have hbab:Below wr.heap.size wr wb:=by rw[hwb];exact za2 _ _
 have hbel:=(Below.refl wr.heap.size wr).trans (hbab.mono (Below.refl wr.heap.size wr).size)
 have hown:wb.ownsRow wr.heap.size 9 1 (.slice (some ⟨zb,0,none⟩) 2 2) 2 [.string ⟨#[112,97,99,107,97,103,101]⟩,.string nm]:=by rw[hwb,hzb];exact World.ownsRow_lit _ _ 2 (Below.refl wr.heap.size wr).size (by unfold maxLen;omega) (by simp)
 have hbz:wr.heap.size≤wb.heap.size:=hbel.size
 have hS:=(by rw[hwr];exact HS1.out:PkT w0 W1 b L m0 wr)
 obtain⟨HS,Hbab,Hbel,Hown,Hbz⟩:=hd5 hS hbab hbel hown hbz;clear hS hbab hbel hown hbz
 go_wp2_with fail
 rw[← hwr,← hwb,← hzb]
 clear hwr hwb hzb hx0
 refine (HS.out.line Hbel.out (l:=[zbh,nm]) (by first | exact Hown.out | simpa using Hown.out) (by simp) Hat0.out (by rw[hnm];exact zp7 [zbh,nm]) Htot.out).mono ?_
 rintro e wz ⟨rfl,hSz⟩
 have HSz:=hd hSz;clear hSz
 have hbz:=Hbox.out _ _ HSz.out
 have zz2:=za0 hbz 2
 simp only[List.getElem?_toArray,List.getElem?_cons_zero,List.getElem?_cons_succ] at zz2
 have Hbz:=hd hbz;clear hbz
 go_wp2_with fail
 clear zz2
 go_loopw [28] (fun i wr=>∃ k:Nat,k≤n2∧i = .int .i64 k∧PkT w0 W1 b L (m0+1+k) wr) (fun i _=>n2 - (RowKit.intOf i).toNat)
 case atStart=>exact⟨0,Nat.zero_le _,rfl,HSz.out⟩
 case round =>
  obtain⟨k,hk,rfl,hS⟩:=hrel
  by_cases hlt:k < n2
  ·have k5:(0:Int)≤(k:Int):=by omega
   have k6:(k:Int) < (n2:Int):=by omega
   have hkz:k < 9223372036854775807:=by have:=Hz2.out;omega
   have hkl:k < p.rel.length:=by have:=Hr2.out.1;omega
   obtain⟨x,hx⟩ : ∃ x,x=p.rel[k]:=⟨_,rfl⟩
   obtain⟨e0,off,rfl,d0,d1⟩:=Hr2.out.2.2 k x (by rw[hx];exact List.getElem?_eq_getElem hkl)
   have d0:=cell_later hS.bel d0
   have d1:=cell_later hS.bel d1
   have hat:=HL.out _ _ (pk_rel (star:=zdv) hkl)
   rw[← hx] at hat
   obtain⟨v,o⟩:=x
   dsimp only at d0 d1 hat
   obtain⟨Hx,Hat⟩:=hd2 hx hat;clear hx hat
   obtain⟨wa,hwa⟩ : ∃ W,W=wr.alloc (.cells #[.string v,.bool o] 66):=⟨_,rfl⟩
   obtain⟨za,hza⟩ : ∃ z,z=wr.heap.size:=⟨_,rfl⟩
   have hba:Below wr.heap.size wr wa:=by rw[hwa];exact za2 _ _
   have pa:wa.heap[za]? = some (.cells #[.string v,.bool o] 66 (0,0)):=by rw[hwa,hza];exact heap_alloc_new _ _
   have y0:=za0 pa 0
   have y1:=za0 pa 1
   simp only[List.getElem?_toArray,List.getElem?_cons_zero,List.getElem?_cons_succ] at y0 y1
   obtain⟨HS,Hba,Hpa⟩:=hd3 hS hba pa;clear hS hba pa
   go_upto_region 5 with (fail)
   rw[← hwa,← hza]
   clear hwa hza d0 d1
   obtain⟨wb,hwb⟩ : ∃ W,W=wa.alloc (.cells #[.string ⟨#[32,32,118,101,114,115,105,111,110]⟩,.string v] 9):=⟨_,rfl⟩
   obtain⟨zb,hzb⟩ : ∃ z,z=wa.heap.size:=⟨_,rfl⟩
   have hbab:Below wa.heap.size wa wb:=by rw[hwb];exact za2 _ _
   have hbel:=Hba.out.trans (hbab.mono Hba.out.size)
   have hown:wb.ownsRow wr.heap.size 9 1 (.slice (some ⟨zb,0,none⟩) 2 2) 2 [.string ⟨#[32,32,118,101,114,115,105,111,110]⟩,.string v]:=by rw[hwb,hzb];exact World.ownsRow_lit _ _ 2 Hba.out.size (by unfold maxLen;omega) (by simp)
   have hbz:wr.heap.size≤wb.heap.size:=hbel.size
   obtain⟨Hbab,Hbel,Hown,Hbz⟩:=hd4 hbab hbel hown hbz;clear hbab hbel hown hbz
   have y1b:=cell_later Hbab.out y1
   go_upto_region 6 with (fail)
   rw[← hwb,← hzb]
   clear hwb hzb y0 y1
   cases o with
   | true =>
    go_wp2_with (at_builtin;(refine zaw zdt rfl (.tmp 37) (.tmp 38) rfl wr.heap.size (.slice (some ⟨zb,0,none⟩) 2 2) (2) ([.string ⟨#[32,32,118,101,114,115,105,111,110]⟩,.string v]) rfl Hown.out 1 #[.string ⟨#[111,108,100]⟩] rfl rfl (by simp[Value.oneCell']) (by omega) (by unfold maxLen;omega) Hbz.out ?_;intro v9 w9 hown9 hg9 hm9;obtain⟨a9,c9,rfl⟩:=zaa hown9;have hb9:=(zch Hbel.out Hown.out (Nat.le_refl _) hg9 Hbz.out:Below wr.heap.size wr w9);obtain⟨Hown9,Hb9,Hg9⟩:=hd3 hown9 hb9 hg9;clear hown9 hg9 hm9 hb9))
    refine (HS.out.line Hb9.out (l:=[⟨#[32,32,118,101,114,115,105,111,110]⟩,v,wOld]) (by first | exact Hown9.out | simpa using Hown9.out) (by simp) (by rw[Nat.add_assoc];exact Hat.out) (zdq zcp [v,wOld]) Htot.out).mono ?_
    rintro e wz ⟨rfl,hSz⟩
    have HSz:=hd hSz;clear hSz
    go_wp2_with fail
    go_roundw
    case rel=>exact⟨k+1,by omega,by go_num,HSz.out⟩
    case measure=>simp[RowKit.intOf];omega
   | false =>
    go_wp2_with fail
    refine (HS.out.line Hbel.out (l:=[⟨#[32,32,118,101,114,115,105,111,110]⟩,v]) (by first | exact Hown.out | simpa using Hown.out) (by simp) (by rw[Nat.add_assoc];exact Hat.out) (zdq zcp [v]) Htot.out).mono ?_
    rintro e wz ⟨rfl,hSz⟩
    have HSz:=hd hSz;clear hSz
    go_wp2_with fail
    go_roundw
    case rel=>exact⟨k+1,by omega,by go_num,HSz.out⟩
    case measure=>simp[RowKit.intOf];omega
  obtain rfl:n2=k:=by omega
  clear hlt HSz
  have HSz:=Lib.hid hS
  clear hS hk
  have HSz:=Lib.hid (by have e:=HSz.out;rw[show m0+1+n2=m0+(1+p.rel.length) by rw[Hr2.out.1];omega] at e;exact e:PkT w0 W1 b L (m0+(1+p.rel.length)) wr)
  have hbz:=Hbox.out _ _ HSz.out
  have zz3:=za0 hbz 3
  simp only[List.getElem?_toArray,List.getElem?_cons_zero,List.getElem?_cons_succ] at zz3
  have Hbz:=hd hbz;clear hbz
  go_wp2_with fail
  clear zz3
  go_loopw [47] (fun i wr=>∃ k:Nat,k≤n3∧i = .int .i64 k∧PkT w0 W1 b L (m0+(1+p.rel.length)+k) wr) (fun i _=>n3 - (RowKit.intOf i).toNat)
  case atStart=>exact⟨0,Nat.zero_le _,rfl,HSz.out⟩
  case round =>
   obtain⟨k,hk,rfl,hS⟩:=hrel
   by_cases hlt:k < n3
   ·have k5:(0:Int)≤(k:Int):=by omega
    have k6:(k:Int) < (n3:Int):=by omega
    have hkz:k < 9223372036854775807:=by have:=Hz3.out;omega
    have hkl:k < p.vars.length:=by have:=Hr3.out.1;omega
    obtain⟨x,hx⟩ : ∃ x,x=p.vars[k]:=⟨_,rfl⟩
    obtain⟨e0,off,e1,g1,rfl,d0,d1,hT⟩:=Hr3.out.2.2 k x (by rw[hx];exact List.getElem?_eq_getElem hkl)
    have d0:=cell_later hS.bel d0
    have d1:=cell_later hS.bel d1
    have hT:=zak hT hS.bel
    have hat:=HL.out _ _ (pk_var (star:=zdv) hkl)
    rw[← hx] at hat
    obtain⟨v,l⟩:=x
    dsimp only at d0 d1 hat hT
    obtain⟨nl,hnl⟩ : ∃ n,n=l.length:=⟨_,rfl⟩
    rw[← hnl] at d1 hT
    have hlz:l.length≤4398046511104:=by
     have h1:(zta (v,l)).length≤(txT L).length+1:=zru hat
     have h2:(zta (v,l)).length=l.length+2:=rfl
     have:=Htot.out
     omega
    have hln4:nl≤4398046511104:=by rw[hnl];exact hlz
    obtain⟨Hx,Hat,Hnl,Hlz,HT⟩:=hd5 hx hat hnl hlz hT;clear hx hat hnl hlz hT
    obtain⟨wa,hwa⟩ : ∃ W,W=wr.alloc (.cells #[.string v,.slice e1 nl g1] 68):=⟨_,rfl⟩
    obtain⟨za,hza⟩ : ∃ z,z=wr.heap.size:=⟨_,rfl⟩
    have hba:Below wr.heap.size wr wa:=by rw[hwa];exact za2 _ _
    have pa:wa.heap[za]? = some (.cells #[.string v,.slice e1 nl g1] 68 (0,0)):=by rw[hwa,hza];exact heap_alloc_new _ _
    have y0:=za0 pa 0
    have y1:=za0 pa 1
    simp only[List.getElem?_toArray,List.getElem?_cons_zero,List.getElem?_cons_succ] at y0 y1
    obtain⟨HS,Hba,Hpa⟩:=hd3 hS hba pa;clear hS hba pa
    go_upto_region 13 with (fail)
    rw[← hwa,← hza]
    clear hwa hza d0 d1
    have hbel:=Hba.out.trans ((za2 wa (.cells #[.string ⟨#[32,32,118,97,114,105,97,110,116]⟩,.string v] 9)).mono Hba.out.size)
    have hown:(wa.alloc (.cells #[.string ⟨#[32,32,118,97,114,105,97,110,116]⟩,.string v] 9)).ownsRow wr.heap.size 9 1 (.slice (some ⟨wa.heap.size,0,none⟩) 2 2) 2 [.string ⟨#[32,32,118,97,114,105,97,110,116]⟩,.string v]:=World.ownsRow_lit _ _ 2 Hba.out.size (by unfold maxLen;omega) (by simp)
    have hbz:wr.heap.size≤(wa.alloc (.cells #[.string ⟨#[32,32,118,97,114,105,97,110,116]⟩,.string v] 9)).heap.size:=hbel.size
    have hnw:=zek (zak HT.out hbel)
    have y1':=cell_later (za2 wa (.cells #[.string ⟨#[32,32,118,97,114,105,97,110,116]⟩,.string v] 9)) y1
    obtain⟨Hbel,Hown,Hbz,Hnw⟩:=hd4 hbel hown hbz hnw;clear hbel hown hbz hnw
    go_wp2_with (at_builtin;(refine zbm zdt rfl (.tmp 54) (.tmp 56) rfl wr.heap.size (.slice (some ⟨wa.heap.size,0,none⟩) 2 2) (2) ([.string ⟨#[32,32,118,97,114,105,97,110,116]⟩,.string v]) rfl Hown.out e1 nl g1 (l.map Value.string) rfl (by rw[List.length_map,Nat.mul_one];exact Hnw.out.1.symm) Hnw.out.2 (by simp[Value.oneCell']) (by omega) (by unfold maxLen;omega) Hbz.out ?_;intro v9 w9 hown9 hg9 hm9;obtain⟨a9,c9,rfl⟩:=zaa hown9;have hb9:=(zch Hbel.out Hown.out (Nat.le_refl _) hg9 Hbz.out:Below wr.heap.size wr w9);obtain⟨Hown9,Hb9,Hg9⟩:=hd3 hown9 hb9 hg9;clear hown9 hg9 hm9 hb9))
    refine (HS.out.line Hb9.out (l:=(⟨#[32,32,118,97,114,105,97,110,116]⟩ :: v :: l)) (by first | exact Hown9.out | simpa using Hown9.out) (by simp) (by rw[Nat.add_assoc];exact Hat.out) (zdq zdb (v :: l)) Htot.out).mono ?_
    rintro e wz ⟨rfl,hSz⟩
    have HSz:=hd hSz;clear hSz
    go_wp2_with fail
    go_roundw
    case rel=>exact⟨k+1,by omega,by go_num,HSz.out⟩
    case measure=>simp[RowKit.intOf];omega
   obtain rfl:n3=k:=by omega
   clear hlt HSz
   have HSz:=Lib.hid hS
   clear hS hk
   have HSz:=Lib.hid (by have e:=HSz.out;rw[show m0+(1+p.rel.length)+n3=m0+(1+p.rel.length+p.vars.length) by rw[Hr3.out.1];omega] at e;exact e:PkT w0 W1 b L (m0+(1+p.rel.length+p.vars.length)) wr)
   have hbz:=Hbox.out _ _ HSz.out
   have zz4:=za0 hbz 4
   simp only[List.getElem?_toArray,List.getElem?_cons_zero,List.getElem?_cons_succ] at zz4
   have Hbz:=hd hbz;clear hbz
   go_wp2_with fail
   clear zz4
   go_loopw [63] (fun i wr=>∃ k:Nat,k≤n4∧i = .int .i64 k∧PkT w0 W1 b L (m0+(1+p.rel.length+p.vars.length)+k) wr) (fun i _=>n4 - (RowKit.intOf i).toNat)
   case atStart=>exact⟨0,Nat.zero_le _,rfl,HSz.out⟩
   case round =>
    obtain⟨k,hk,rfl,hS⟩:=hrel
    by_cases hlt:k < n4
    ·have k5:(0:Int)≤(k:Int):=by omega
     have k6:(k:Int) < (n4:Int):=by omega
     have hkz:k < 9223372036854775807:=by have:=Hz4.out;omega
     have hkl:k < p.prov.length:=by have:=Hr4.out.1;omega
     obtain⟨v,hv⟩ : ∃ x,x=p.prov[k]:=⟨_,rfl⟩
     obtain⟨e0,off,rfl,d0⟩:=Hr4.out.2 k (.string v) (by rw[List.getElem?_map,List.getElem?_eq_getElem hkl,hv];rfl)
     have d0:=cell_later hS.bel d0
     have hat:=HL.out _ _ (pk_prov (star:=zdv) hkl)
     rw[← hv] at hat
     obtain⟨wb,hwb⟩ : ∃ W,W=wr.alloc (.cells #[.string ⟨#[32,32,112,114,111,118,105,100,101,115]⟩,.string v] 9):=⟨_,rfl⟩
     obtain⟨zb,hzb⟩ : ∃ z,z=wr.heap.size:=⟨_,rfl⟩
     have hbab:Below wr.heap.size wr wb:=by rw[hwb];exact za2 _ _
     have hbel:=(Below.refl wr.heap.size wr).trans (hbab.mono (Below.refl wr.heap.size wr).size)
     have hown:wb.ownsRow wr.heap.size 9 1 (.slice (some ⟨zb,0,none⟩) 2 2) 2 [.string ⟨#[32,32,112,114,111,118,105,100,101,115]⟩,.string v]:=by rw[hwb,hzb];exact World.ownsRow_lit _ _ 2 (Below.refl wr.heap.size wr).size (by unfold maxLen;omega) (by simp)
     have hbz:wr.heap.size≤wb.heap.size:=hbel.size
     obtain⟨HS,Hv,Hat,Hbab,Hbel,Hown,Hbz⟩:=hd7 hS hv hat hbab hbel hown hbz;clear hS hv hat hbab hbel hown hbz
     go_wp2_with fail
     rw[← hwb,← hzb]
     clear hwb hzb d0
     refine (HS.out.line Hbel.out (l:=[⟨#[32,32,112,114,111,118,105,100,101,115]⟩,v]) (by first | exact Hown.out | simpa using Hown.out) (by simp) (by rw[Nat.add_assoc];exact Hat.out) (zdq zc7 [v]) Htot.out).mono ?_
     rintro e wz ⟨rfl,hSz⟩
     have HSz:=hd hSz;clear hSz
     go_wp2_with fail
     go_roundw
     case rel=>exact⟨k+1,by omega,by go_num,HSz.out⟩
     case measure=>simp[RowKit.intOf];omega
    obtain rfl:n4=k:=by omega
    clear hlt HSz
    have HSz:=Lib.hid hS
    clear hS hk
    have HSz:=Lib.hid (by have e:=HSz.out;rw[show m0+(1+p.rel.length+p.vars.length)+n4=m0+(1+p.rel.length+p.vars.length+p.prov.length) by rw[Hr4.out.1];omega] at e;exact e:PkT w0 W1 b L (m0+(1+p.rel.length+p.vars.length+p.prov.length)) wr)
    have hbz:=Hbox.out _ _ HSz.out
    have zz5:=za0 hbz 5
    simp only[List.getElem?_toArray,List.getElem?_cons_zero,List.getElem?_cons_succ] at zz5
    have Hbz:=hd hbz;clear hbz
    go_wp2_with fail
    clear zz5
    go_loopw [75] (fun i wr=>∃ k:Nat,k≤n5∧i = .int .i64 k∧PkT w0 W1 b L (m0+(1+p.rel.length+p.vars.length+p.prov.length)+k) wr) (fun i _=>n5 - (RowKit.intOf i).toNat)
    case atStart=>exact⟨0,Nat.zero_le _,rfl,HSz.out⟩
    case round =>
     obtain⟨k,hk,rfl,hS⟩:=hrel
     by_cases hlt:k < n5
     ·have k5:(0:Int)≤(k:Int):=by omega
      have k6:(k:Int) < (n5:Int):=by omega
      have hkz:k < 9223372036854775807:=by have:=Hz5.out;omega
      have hkl:k < p.dep.length:=by have:=Hr5.out.1;omega
      obtain⟨x,hx⟩ : ∃ x,x=p.dep[k]:=⟨_,rfl⟩
      obtain⟨e0,off,e1,g1,e2,g2,e3,g3,e4,g4,rfl,d0,d1,d2,d3,d4,d5,d6,⟨t1,t2⟩,t3,t4⟩:=Hr5.out.2.2 k x (by rw[hx];exact List.getElem?_eq_getElem hkl)
      have d0:=cell_later hS.bel d0
      have d1:=cell_later hS.bel d1
      have d2:=cell_later hS.bel d2
      have d3:=cell_later hS.bel d3
      have d4:=cell_later hS.bel d4
      have d5:=cell_later hS.bel d5
      have d6:=cell_later hS.bel d6
      have hat:=HL.out _ _ (pk_dep (star:=zdv) hkl)
      rw[← hx] at hat
      have hsp:=Hsp.out.1 x (by rw[hx];exact List.getElem_mem hkl)
      obtain⟨s,c,lk⟩:=x
      dsimp only at d0 d1 d2 d3 d4 d5 d6 t1 t2 t3 t4 hat hsp
      obtain⟨⟨l1,S1⟩,l2,S2⟩:=hsp
      obtain⟨q1,hq1⟩ : ∃ n,n=s.2.1.length:=⟨_,rfl⟩
      obtain⟨q2,hq2⟩ : ∃ n,n=s.2.2.length:=⟨_,rfl⟩
      obtain⟨q3,hq3⟩ : ∃ n,n=c.2.1.length:=⟨_,rfl⟩
      obtain⟨q4,hq4⟩ : ∃ n,n=c.2.2.length:=⟨_,rfl⟩
      rw[← hq1] at d1 t1
      rw[← hq2] at d2 t2
      rw[← hq3] at d4 t3
      rw[← hq4] at d5 t4
      have hW1:=fun (W:World) (hb:Below wr.heap.size wr W)=>zje S1 (za3 zan _ _ _ _ t1 (hS.bel.trans (hb.mono hS.bel.size))) (za3 zao _ _ _ _ t2 (hS.bel.trans (hb.mono hS.bel.size))) (HD.out.below (hS.bel.trans (hb.mono hS.bel.size)))
      have hW2:=fun (W:World) (hb:Below wr.heap.size wr W)=>zje S2 (za3 zan _ _ _ _ t3 (hS.bel.trans (hb.mono hS.bel.size))) (za3 zao _ _ _ _ t4 (hS.bel.trans (hb.mono hS.bel.size))) (HD.out.below (hS.bel.trans (hb.mono hS.bel.size)))
      obtain⟨sw,hsw⟩ : ∃ z,z=zbf s:=⟨_,rfl⟩
      obtain⟨cw,hcw⟩ : ∃ z,z=zbf c:=⟨_,rfl⟩
      simp only[← hsw] at hW1
      simp only[← hcw] at hW2
      obtain⟨sn,hsn⟩ : ∃ z,z=s.1:=⟨_,rfl⟩
      obtain⟨cn,hcn⟩ : ∃ z,z=c.1:=⟨_,rfl⟩
      simp only[← hsn] at hW1 d0
      simp only[← hcn] at hW2 d3
      obtain⟨Hx,Hat,HS1,HS2,Hq1,Hq2,Hq3,Hq4,Ht1,Ht2,Ht3,Ht4,HW1,HW2,Hsw,Hcw⟩:=hd16 hx hat S1 S2 hq1 hq2 hq3 hq4 t1 t2 t3 t4 hW1 hW2 hsw hcw;obtain⟨Hsn,Hcn⟩:=hd2 hsn hcn;clear hx hat S1 S2 hq1 hq2 hq3 hq4 t1 t2 t3 t4 hW1 hW2 hsw hcw hsn hcn
      obtain⟨wa,hwa⟩ : ∃ W,W=wr.alloc (.cells #[.string sn,.slice e1 q1 g1,.slice e2 q2 g2,.string cn,.slice e3 q3 g3,.slice e4 q4 g4,.int .i64 lk] 96):=⟨_,rfl⟩
      obtain⟨za,hza⟩ : ∃ z,z=wr.heap.size:=⟨_,rfl⟩
      have hba:Below wr.heap.size wr wa:=by rw[hwa];exact za2 _ _
      have pa:wa.heap[za]? = some (.cells #[.string sn,.slice e1 q1 g1,.slice e2 q2 g2,.string cn,.slice e3 q3 g3,.slice e4 q4 g4,.int .i64 lk] 96 (0,0)):=by rw[hwa,hza];exact heap_alloc_new _ _
      have y0:=za0 pa 0
      have y1:=za0 pa 1
      have y2:=za0 pa 2
      have y3:=za0 pa 3
      have y4:=za0 pa 4
      have y5:=za0 pa 5
      have y6:=za0 pa 6
      simp only[List.getElem?_toArray,List.getElem?_cons_zero,List.getElem?_cons_succ] at y0 y1 y2 y3 y4 y5 y6
      obtain⟨HS,Hba,Hpa⟩:=hd3 hS hba pa;clear hS hba pa
      go_upto_region 23 with (fail)
      rw[← hwa,← hza]
      clear hwa hza d0 d1 d2 d3 d4 d5 d6
      obtain⟨wb,hwb⟩ : ∃ W,W=wa.alloc (.cells #[.string ⟨#[32,32,100,101,112,101,110,100,115]⟩] 9):=⟨_,rfl⟩
      obtain⟨zb,hzb⟩ : ∃ z,z=wa.heap.size:=⟨_,rfl⟩
      have hbab:Below wa.heap.size wa wb:=by rw[hwb];exact za2 _ _
      have hbel:=Hba.out.trans (hbab.mono Hba.out.size)
      have hown:wb.ownsRow wr.heap.size 9 1 (.slice (some ⟨zb,0,none⟩) 1 1) 1 [.string ⟨#[32,32,100,101,112,101,110,100,115]⟩]:=by rw[hwb,hzb];exact World.ownsRow_lit _ _ 1 Hba.out.size (by unfold maxLen;omega) (by simp)
      have hbz:wr.heap.size≤wb.heap.size:=hbel.size
      have hW3:=HW1.out wb hbel
      have hpb:=za1 hbab Hpa.out
      have y0r:=cell_later (za2 wa (.cells #[.string ⟨#[32,32,100,101,112,101,110,100,115]⟩] 9)) y0
      have y1r:=cell_later (za2 wa (.cells #[.string ⟨#[32,32,100,101,112,101,110,100,115]⟩] 9)) y1
      have y2r:=cell_later (za2 wa (.cells #[.string ⟨#[32,32,100,101,112,101,110,100,115]⟩] 9)) y2
      obtain⟨Hbab,Hbel,Hown,Hbz,HW3,Hpb⟩:=hd6 hbab hbel hown hbz hW3 hpb;clear hbab hbel hown hbz hW3 hpb
      go_wp2_with fail
      rw[← hwb,← hzb]
      clear hwb hzb
      refine HW3.out.mono ?_
      rintro e w3 ⟨a3,m3,c3,rfl,hT3,-,hm3,hb3⟩
      have hnw:=zek hT3
      have hbel3:=Hbel.out.trans (hb3.mono Hbel.out.size)
      have hown3:=zab Hown.out hb3
      have hpc:=za1 hb3 Hpb.out
      clear y0r y1r y2r y0 y1 y2 y3 y4 y5 y6 Hbel Hown Hbz
      have hbz:=hbel3.size
      have Hbel:=Lib.hid hbel3
      have Hown:=Lib.hid hown3
      obtain⟨Hb3,HT3,Hnw,Hpc,Hbz⟩:=hd5 hb3 hT3 hnw hpc hbz;clear hb3 hT3 hnw hpc hbz
      clear hbel3 hown3
      go_upto_region 24 with (at_builtin;(refine zbm zdt rfl (.tmp 79) (.tmp 82) rfl wr.heap.size (.slice (some ⟨zb,0,none⟩) 1 1) (1) ([.string ⟨#[32,32,100,101,112,101,110,100,115]⟩]) rfl Hown.out a3 m3 c3 (sw.map Value.string) rfl (by rw[List.length_map,Nat.mul_one];exact Hnw.out.1.symm) Hnw.out.2 (by simp[Value.oneCell']) (by omega) (by unfold maxLen;omega) Hbz.out ?_;intro v9 w9 hown9 hg9 hm9;obtain⟨a9,c9,rfl⟩:=zaa hown9;have hb9:=(zch Hbel.out Hown.out (Nat.le_refl _) hg9 Hbz.out:Below wr.heap.size wr w9);obtain⟨Hown9,Hb9,Hg9⟩:=hd3 hown9 hb9 hg9;clear hown9 hg9 hm9 hb9))
      have hpd:=zav Hpc.out (zap Hg9.out) (zaf Hown.out Hpc.out (by decide))
      have y0:=za0 hpd 0
      have y1:=za0 hpd 1
      have y2:=za0 hpd 2
      have y3:=za0 hpd 3
      have y4:=za0 hpd 4
      have y5:=za0 hpd 5
      have y6:=za0 hpd 6
      simp only[List.getElem?_toArray,List.getElem?_cons_zero,List.getElem?_cons_succ] at y0 y1 y2 y3 y4 y5 y6
      obtain⟨f,r,hfr⟩ : ∃ f r,cw=f :: r:=by
       rw[Hcw.out]
       cases hq:zbf c with
       | nil=>exact absurd hq (zo4 c)
       | cons f r=>exact⟨f,r,rfl⟩
      have hW4:=HW2.out w9 Hb9.out
      have hm3z:m3≤1001:=hm3
      obtain⟨Hpd,HW4,Hfr,Hm3⟩:=hd4 hpd hW4 hfr hm3;clear hpd hW4 hfr hm3
      go_wp2_with fail
      refine HW4.out.mono ?_
      rintro e w4 ⟨a4,m4,c4,rfl,hT4,hlo4,hm4,hb4⟩
      have hnw4:=zek hT4
      obtain⟨ew,ow,rfl,hc4⟩:=hnw4.2 0 (.string f) (by rw[Hfr.out];rfl)
      rw[Nat.add_zero] at hc4
      have hp4:(0:Int) < (m4:Int):=by
       have h1:=hnw4.1
       rw[Hfr.out,List.length_cons] at h1
       omega
      obtain⟨st,hst⟩ : ∃ b,b=zdv c:=⟨_,rfl⟩
      have kf:(f.toList == [42])=st:=by
       rw[zau f [42] ze7 rfl,hst]
       unfold zdv
       rw[← Hcw.out,Hfr.out]
       simp
      have hb94:=Hb9.out.trans (hb4.mono Hb9.out.size)
      have hown4:=zab Hown9.out hb4
      have hbz4:=hb94.size
      have hdw:∀ w,w=(if st=true then [] else zle :: cw)→depWs zdv (s,c,lk)=zdc :: (sw ++ w):=fun w hw=>by
       rw[hw,hst,Hsw.out,Hcw.out]
       rfl
      clear y0 y1 y2 y3 y4 y5 y6
      obtain⟨HT4,Hnw4,Hb4,Hst,Hb94,Hown4,Hbz4,Hdw,Hlo4⟩:=hd9 hT4 hnw4 hb4 hst hb94 hown4 hbz4 hdw hlo4;clear hT4 hnw4 hb4 hst hb94 hown4 hbz4 hdw hlo4
      go_upto_if 90 with (fail)
      clear kf hc4 hp4
      cases st with
      | true =>
       go_wp2_with fail
       refine (HS.out.line Hb94.out (l:=(⟨#[32,32,100,101,112,101,110,100,115]⟩ :: sw)) (by first | exact Hown4.out | simpa using Hown4.out) (by simp) (by rw[Nat.add_assoc];exact Hat.out) (by rw[Hdw.out [] rfl,List.append_nil];exact zdq zdc sw) Htot.out).mono ?_
       rintro e wz ⟨rfl,hSz⟩
       have HSz:=hd hSz;clear hSz
       go_wp2_with fail
       go_roundw
       case rel=>exact⟨k+1,by omega,by go_num,HSz.out⟩
       case measure=>simp[RowKit.intOf];omega
      | false =>
       go_wp2_with (first | (at_builtin;(refine zaw zdt rfl (.tmp 91) (.tmp 92) rfl wr.heap.size (.slice a9 (1+m3) c9) (1+m3) (([.string ⟨#[32,32,100,101,112,101,110,100,115]⟩] ++ sw.map Value.string)) rfl Hown4.out 1 #[.string ⟨#[119,104,101,110]⟩] rfl rfl (by simp[Value.oneCell']) (by omega) (by unfold maxLen;omega) Hbz4.out ?_;intro v9x w9x hown9x hg9x hm9x;obtain⟨a9x,c9x,rfl⟩:=zaa hown9x;have hb9x:=(zch Hb94.out Hown4.out (Nat.le_refl _) hg9x Hbz4.out:Below wr.heap.size wr w9x);obtain⟨Hown9x,Hb9x,Hg9x⟩:=hd3 hown9x hb9x hg9x;clear hown9x hg9x hm9x hb9x)) | (at_builtin;(have hnx:=rts_frm HT4.out (zap Hg9x.out) (fun p hp e=>by have h1:=Hlo4.out p hp;have h2:=(Hown9.out.lt _ e).2;omega);have hbzx:wr.heap.size≤w9x.heap.size:=Hb9x.out.size;have Hnx:=hd hnx;clear hnx;refine zbm zdt rfl (.tmp 93) (.tmp 94) rfl wr.heap.size (.slice a9x (1+m3+1) c9x) (1+m3+1) (([.string ⟨#[32,32,100,101,112,101,110,100,115]⟩] ++ sw.map Value.string ++ [.string ⟨#[119,104,101,110]⟩])) rfl Hown9x.out (some ⟨ew,ow,none⟩) m4 c4 (cw.map Value.string) rfl (by rw[List.length_map,Nat.mul_one];exact Hnx.out.1.symm) Hnx.out.2 (by simp[Value.oneCell']) (by omega) (by unfold maxLen;omega) hbzx ?_;intro v9z w9z hown9z hg9z hm9z;obtain⟨a9z,c9z,rfl⟩:=zaa hown9z;have hb9z:=(zch Hb9x.out Hown9x.out (Nat.le_refl _) hg9z hbzx:Below wr.heap.size wr w9z);obtain⟨Hown9z,Hb9z,Hg9z⟩:=hd3 hown9z hb9z hg9z;clear hown9z hg9z hm9z hb9z)))
       refine (HS.out.line Hb9z.out (l:=(⟨#[32,32,100,101,112,101,110,100,115]⟩ :: (sw ++ ⟨#[119,104,101,110]⟩ :: cw))) (by first | exact Hown9z.out | simpa using Hown9z.out) (by simp) (by rw[Nat.add_assoc];exact Hat.out) (by rw[Hdw.out _ rfl];exact zdq zdc _) Htot.out).mono ?_
       rintro e wz ⟨rfl,hSz⟩
       have HSz:=hd hSz;clear hSz
       go_wp2_with fail
       go_roundw
       case rel=>exact⟨k+1,by omega,by go_num,HSz.out⟩
       case measure=>simp[RowKit.intOf];omega
     obtain rfl:n5=k:=by omega
     clear hlt HSz
     have HSz:=Lib.hid hS
     clear hS hk
     have HSz:=Lib.hid (by have e:=HSz.out;rw[show m0+(1+p.rel.length+p.vars.length+p.prov.length)+n5=m0+(1+p.rel.length+p.vars.length+p.prov.length+p.dep.length) by rw[Hr5.out.1];omega] at e;exact e:PkT w0 W1 b L (m0+(1+p.rel.length+p.vars.length+p.prov.length+p.dep.length)) wr)
     have hbz:=Hbox.out _ _ HSz.out
     have zz6:=za0 hbz 6
     simp only[List.getElem?_toArray,List.getElem?_cons_zero,List.getElem?_cons_succ] at zz6
     have Hbz:=hd hbz;clear hbz
     go_wp2_with fail
     clear zz6
     go_loopw [103] (fun i wr=>∃ k:Nat,k≤n6∧i = .int .i64 k∧PkT w0 W1 b L (m0+(1+p.rel.length+p.vars.length+p.prov.length+p.dep.length)+k) wr) (fun i _=>n6 - (RowKit.intOf i).toNat)
     case atStart=>exact⟨0,Nat.zero_le _,rfl,HSz.out⟩
     case round =>
      obtain⟨k,hk,rfl,hS⟩:=hrel
      by_cases hlt:k < n6
      ·have k5:(0:Int)≤(k:Int):=by omega
       have k6:(k:Int) < (n6:Int):=by omega
       have hkz:k < 9223372036854775807:=by have:=Hz6.out;omega
       have hkl:k < p.conf.length:=by have:=Hr6.out.1;omega
       obtain⟨x,hx⟩ : ∃ x,x=p.conf[k]:=⟨_,rfl⟩
       obtain⟨e0,off,e1,g1,e2,g2,e3,g3,e4,g4,rfl,d0,d1,d2,d3,d4,d5,d6,⟨t1,t2⟩,t3,t4⟩:=Hr6.out.2.2 k x (by rw[hx];exact List.getElem?_eq_getElem hkl)
       have d0:=cell_later hS.bel d0
       have d1:=cell_later hS.bel d1
       have d2:=cell_later hS.bel d2
       have d3:=cell_later hS.bel d3
       have d4:=cell_later hS.bel d4
       have d5:=cell_later hS.bel d5
       have d6:=cell_later hS.bel d6
       have hat:=HL.out _ _ (pk_conf (star:=zdv) hkl)
       rw[← hx] at hat
       have hsp:=Hsp.out.2 x (by rw[hx];exact List.getElem_mem hkl)
       obtain⟨s,c,lk⟩:=x
       dsimp only at d0 d1 d2 d3 d4 d5 d6 t1 t2 t3 t4 hat hsp
       obtain⟨⟨l1,S1⟩,l2,S2⟩:=hsp
       obtain⟨q1,hq1⟩ : ∃ n,n=s.2.1.length:=⟨_,rfl⟩
       obtain⟨q2,hq2⟩ : ∃ n,n=s.2.2.length:=⟨_,rfl⟩
       obtain⟨q3,hq3⟩ : ∃ n,n=c.2.1.length:=⟨_,rfl⟩
       obtain⟨q4,hq4⟩ : ∃ n,n=c.2.2.length:=⟨_,rfl⟩
       rw[← hq1] at d1 t1
       rw[← hq2] at d2 t2
       rw[← hq3] at d4 t3
       rw[← hq4] at d5 t4
       have hW1:=fun (W:World) (hb:Below wr.heap.size wr W)=>zje S1 (za3 zan _ _ _ _ t1 (hS.bel.trans (hb.mono hS.bel.size))) (za3 zao _ _ _ _ t2 (hS.bel.trans (hb.mono hS.bel.size))) (HD.out.below (hS.bel.trans (hb.mono hS.bel.size)))
       have hW2:=fun (W:World) (hb:Below wr.heap.size wr W)=>zje S2 (za3 zan _ _ _ _ t3 (hS.bel.trans (hb.mono hS.bel.size))) (za3 zao _ _ _ _ t4 (hS.bel.trans (hb.mono hS.bel.size))) (HD.out.below (hS.bel.trans (hb.mono hS.bel.size)))
       obtain⟨sw,hsw⟩ : ∃ z,z=zbf s:=⟨_,rfl⟩
       obtain⟨cw,hcw⟩ : ∃ z,z=zbf c:=⟨_,rfl⟩
       simp only[← hsw] at hW1
       simp only[← hcw] at hW2
       obtain⟨sn,hsn⟩ : ∃ z,z=s.1:=⟨_,rfl⟩
       obtain⟨cn,hcn⟩ : ∃ z,z=c.1:=⟨_,rfl⟩
       simp only[← hsn] at hW1 d0
       simp only[← hcn] at hW2 d3
       obtain⟨Hx,Hat,HS1,HS2,Hq1,Hq2,Hq3,Hq4,Ht1,Ht2,Ht3,Ht4,HW1,HW2,Hsw,Hcw⟩:=hd16 hx hat S1 S2 hq1 hq2 hq3 hq4 t1 t2 t3 t4 hW1 hW2 hsw hcw;obtain⟨Hsn,Hcn⟩:=hd2 hsn hcn;clear hx hat S1 S2 hq1 hq2 hq3 hq4 t1 t2 t3 t4 hW1 hW2 hsw hcw hsn hcn
       obtain⟨wa,hwa⟩ : ∃ W,W=wr.alloc (.cells #[.string sn,.slice e1 q1 g1,.slice e2 q2 g2,.string cn,.slice e3 q3 g3,.slice e4 q4 g4,.int .i64 lk] 98):=⟨_,rfl⟩
       obtain⟨za,hza⟩ : ∃ z,z=wr.heap.size:=⟨_,rfl⟩
       have hba:Below wr.heap.size wr wa:=by rw[hwa];exact za2 _ _
       have pa:wa.heap[za]? = some (.cells #[.string sn,.slice e1 q1 g1,.slice e2 q2 g2,.string cn,.slice e3 q3 g3,.slice e4 q4 g4,.int .i64 lk] 98 (0,0)):=by rw[hwa,hza];exact heap_alloc_new _ _
       have y0:=za0 pa 0
       have y1:=za0 pa 1
       have y2:=za0 pa 2
       have y3:=za0 pa 3
       have y4:=za0 pa 4
       have y5:=za0 pa 5
       have y6:=za0 pa 6
       simp only[List.getElem?_toArray,List.getElem?_cons_zero,List.getElem?_cons_succ] at y0 y1 y2 y3 y4 y5 y6
       obtain⟨HS,Hba,Hpa⟩:=hd3 hS hba pa;clear hS hba pa
       go_upto_region 32 with (fail)
       rw[← hwa,← hza]
       clear hwa hza d0 d1 d2 d3 d4 d5 d6
       obtain⟨wb,hwb⟩ : ∃ W,W=wa.alloc (.cells #[.string ⟨#[32,32,99,111,110,102,108,105,99,116,115]⟩] 9):=⟨_,rfl⟩
       obtain⟨zb,hzb⟩ : ∃ z,z=wa.heap.size:=⟨_,rfl⟩
       have hbab:Below wa.heap.size wa wb:=by rw[hwb];exact za2 _ _
       have hbel:=Hba.out.trans (hbab.mono Hba.out.size)
       have hown:wb.ownsRow wr.heap.size 9 1 (.slice (some ⟨zb,0,none⟩) 1 1) 1 [.string ⟨#[32,32,99,111,110,102,108,105,99,116,115]⟩]:=by rw[hwb,hzb];exact World.ownsRow_lit _ _ 1 Hba.out.size (by unfold maxLen;omega) (by simp)
       have hbz:wr.heap.size≤wb.heap.size:=hbel.size
       have hW3:=HW1.out wb hbel
       have hpb:=za1 hbab Hpa.out
       have y0r:=cell_later (za2 wa (.cells #[.string ⟨#[32,32,99,111,110,102,108,105,99,116,115]⟩] 9)) y0
       have y1r:=cell_later (za2 wa (.cells #[.string ⟨#[32,32,99,111,110,102,108,105,99,116,115]⟩] 9)) y1
       have y2r:=cell_later (za2 wa (.cells #[.string ⟨#[32,32,99,111,110,102,108,105,99,116,115]⟩] 9)) y2
       obtain⟨Hbab,Hbel,Hown,Hbz,HW3,Hpb⟩:=hd6 hbab hbel hown hbz hW3 hpb;clear hbab hbel hown hbz hW3 hpb
       go_wp2_with fail
       rw[← hwb,← hzb]
       clear hwb hzb
       refine HW3.out.mono ?_
       rintro e w3 ⟨a3,m3,c3,rfl,hT3,-,hm3,hb3⟩
       have hnw:=zek hT3
       have hbel3:=Hbel.out.trans (hb3.mono Hbel.out.size)
       have hown3:=zab Hown.out hb3
       have hpc:=za1 hb3 Hpb.out
       clear y0r y1r y2r y0 y1 y2 y3 y4 y5 y6 Hbel Hown Hbz
       have hbz:=hbel3.size
       have Hbel:=Lib.hid hbel3
       have Hown:=Lib.hid hown3
       obtain⟨Hb3,HT3,Hnw,Hpc,Hbz⟩:=hd5 hb3 hT3 hnw hpc hbz;clear hb3 hT3 hnw hpc hbz
       clear hbel3 hown3
       go_upto_region 33 with (at_builtin;(refine zbm zdt rfl (.tmp 107) (.tmp 110) rfl wr.heap.size (.slice (some ⟨zb,0,none⟩) 1 1) (1) ([.string ⟨#[32,32,99,111,110,102,108,105,99,116,115]⟩]) rfl Hown.out a3 m3 c3 (sw.map Value.string) rfl (by rw[List.length_map,Nat.mul_one];exact Hnw.out.1.symm) Hnw.out.2 (by simp[Value.oneCell']) (by omega) (by unfold maxLen;omega) Hbz.out ?_;intro v9 w9 hown9 hg9 hm9;obtain⟨a9,c9,rfl⟩:=zaa hown9;have hb9:=(zch Hbel.out Hown.out (Nat.le_refl _) hg9 Hbz.out:Below wr.heap.size wr w9);obtain⟨Hown9,Hb9,Hg9⟩:=hd3 hown9 hb9 hg9;clear hown9 hg9 hm9 hb9))
       have hpd:=zav Hpc.out (zap Hg9.out) (zaf Hown.out Hpc.out (by decide))
       have y0:=za0 hpd 0
       have y1:=za0 hpd 1
       have y2:=za0 hpd 2
       have y3:=za0 hpd 3
       have y4:=za0 hpd 4
       have y5:=za0 hpd 5
       have y6:=za0 hpd 6
       simp only[List.getElem?_toArray,List.getElem?_cons_zero,List.getElem?_cons_succ] at y0 y1 y2 y3 y4 y5 y6
       have hnd:=Txt.no_dec cn
       have hm3z:m3≤1001:=hm3
       have hcd:∀ w,w=(if cn=noT then [] else zmm :: cw)→zkz (s,c,lk)=zbz :: (sw ++ w):=fun w hw=>by
        rw[hw,Hcn.out,Hsw.out,Hcw.out]
        rfl
       obtain⟨Hpd,Hm3,Hcd⟩:=hd3 hpd hm3 hcd;clear hpd hm3 hcd
       by_cases hz:cn.size=0
       ·have k1:cn.toList.isEmpty=true:=by rw[hnd];exact decide_eq_true hz
        clear hnd
        have he:cn=noT:=Txt.ext (List.eq_nil_of_length_eq_zero (by rw[Txt.len];exact hz))
        obtain⟨Hz,He⟩:=hd2 hz he;clear hz he
        go_wp2_with fail
        refine (HS.out.line Hb9.out (l:=(⟨#[32,32,99,111,110,102,108,105,99,116,115]⟩ :: sw)) (by first | exact Hown9.out | simpa using Hown9.out) (by simp) (by rw[Nat.add_assoc];exact Hat.out) (by rw[Hcd.out [] (by rw[if_pos He.out]),List.append_nil];exact zdq zbz sw) Htot.out).mono ?_
        rintro e wz ⟨rfl,hSz⟩
        have HSz:=hd hSz;clear hSz
        go_wp2_with fail
        go_roundw
        case rel=>exact⟨k+1,by omega,by go_num,HSz.out⟩
        case measure=>simp[RowKit.intOf];omega
       have k1:cn.toList.isEmpty=false:=by rw[hnd];exact decide_eq_false hz
       clear hnd
       have he:cn≠noT:=fun h=>hz (by rw[h];rfl)
       have hSS:∀ W,Below w9.heap.size w9 W→W.cell? ⟨za,3,none⟩=some (.string cn)∧W.cell? ⟨za,4,none⟩=some (.slice e3 q3 g3)∧W.cell? ⟨za,5,none⟩=some (.slice e4 q4 g4):=fun W hb=>⟨za0 (za1 hb Hpd.out) 3,za0 (za1 hb Hpd.out) 4,za0 (za1 hb Hpd.out) 5⟩
       have hlit:∀ W,Below w9.heap.size w9 W→(W.ownsRow wr.heap.size 9 1 (.slice a9 (1+m3) c9) (1+m3) ([.string ⟨#[32,32,99,111,110,102,108,105,99,116,115]⟩] ++ sw.map Value.string)):=fun W hb=>zab Hown9.out hb
       obtain⟨Hz,He,HSS,Hlit⟩:=hd4 hz he hSS hlit;clear hz he hSS hlit
       go_upto_region 34 with (fail)
       clear k1 y0 y1 y2 y3 y4 y5 y6
       go_cut [17] (fun v W=>∃ a n c,v = .slice a n c∧Below wr.heap.size wr W∧W.ownsRow wr.heap.size 9 1 (.slice a n c) n ((⟨#[32,32,99,111,110,102,108,105,99,116,115]⟩ :: (sw ++ ⟨#[119,105,116,104]⟩ :: cw)).map Value.string))
       case first =>
        have hSd:=HSS.out _ (Below.drew (Below.refl w9.heap.size w9))
        refine zsa (n:=8) (S:=fun W=>W.cell? ⟨za,3,none⟩=some (.string cn)∧W.cell? ⟨za,4,none⟩=some (.slice e3 q3 g3)∧W.cell? ⟨za,5,none⟩=some (.slice e4 q4 g4)) (by kernel_rfl) rfl (by exact hSd) (fun ops hops=>?_)
        have hb0:Below w9.heap.size w9 w9.drew:=Below.drew (Below.refl _ _)
        generalize w9.drew=wd at hb0 hSd ⊢
        have hown0:=Hlit.out _ hb0
        have hb0r:=Hb9.out.trans (hb0.mono Hb9.out.size)
        obtain⟨Hb0,Hown0,Hb0r⟩:=hd3 hb0 hown0 hb0r;clear hb0 hown0 hb0r
        refine zgk hops 0 (v:=?_) rfl (by kernel_rfl) (by kernel_rfl) (by kernel_rfl) (fun _ _ _ h=>h) (Or.inl ⟨by kernel_rfl,?_⟩) hSd ?_
        rotate_left
        ·(intro w hSw;clear hSw;go_simp;try with_reducible rfl)
        try simp only[Act.put,lA,lB,lC]
        refine zgk hops 3 (v:=?_) rfl (by kernel_rfl) (by kernel_rfl) (by kernel_rfl) (fun _ _ _ h=>h) (Or.inl ⟨by kernel_rfl,?_⟩) hSd ?_
        rotate_left
        ·(intro w hSw;clear hSw;go_simp;try with_reducible rfl)
        try simp only[Act.put,lA,lB,lC]
        refine zgk hops 4 (v:=?_) rfl (by kernel_rfl) (by kernel_rfl) (by kernel_rfl) (fun _ _ _ h=>h) (Or.inl ⟨by kernel_rfl,?_⟩) hSd ?_
        rotate_left
        ·(intro w hSw;obtain⟨o0,o1,o2⟩:=hSw;go_simp;try with_reducible rfl)
        try simp only[Act.put,lA,lB,lC]
        refine zft hops (rs:=[1]) (by kernel_rfl) (by simp) ?_
        refine zhw hops rfl (by kernel_rfl) (fun K hK=>?_) AllReadyH.nil
        go_simp
        have hbl:=Hb0.out.trans ((za2 wd (.cells #[.string ⟨#[119,105,116,104]⟩] 9)).mono Hb0.out.size)
        have Hbl:=hd hbl;clear hbl
        clear hSd
        have hSd:=HSS.out _ Hbl.out
        refine hK.out _ _ hSd (fun hHeld=>?_)
        clear hHeld hK K
        try simp only[Act.put,lA,lB,lC]
        refine zft hops (rs:=[2]) (by kernel_rfl) (by simp) ?_
        refine zhw hops rfl (by kernel_rfl) (fun K hK=>?_) AllReadyH.nil
        refine zas zdt (.tmp 116) (.tmp 117) rfl wr.heap.size (.slice a9 (1+m3) c9) (1+m3) ([.string ⟨#[32,32,99,111,110,102,108,105,99,116,115]⟩] ++ sw.map Value.string) rfl Hown0.out 1 #[.string ⟨#[119,105,116,104]⟩] rfl rfl (by simp[Value.oneCell']) (by omega) (by unfold maxLen;omega) Hb0r.out.size (fun v' wx hownx hgx hmx=>?_)
        obtain⟨ax,cx,rfl⟩:=zaa hownx
        have hbx:=(zch Hb0r.out Hown0.out (Nat.le_refl _) hgx Hb0r.out.size:Below wr.heap.size wr wx)
        have hpx:=zav (za1 Hb0.out Hpd.out) (zap hgx) (zaf Hown0.out (za1 Hb0.out Hpd.out) (by decide))
        have hSx:∀ W,Below wx.heap.size wx W→W.cell? ⟨za,3,none⟩=some (.string cn)∧W.cell? ⟨za,4,none⟩=some (.slice e3 q3 g3)∧W.cell? ⟨za,5,none⟩=some (.slice e4 q4 g4):=fun W hb=>⟨za0 (za1 hb hpx) 3,za0 (za1 hb hpx) 4,za0 (za1 hb hpx) 5⟩
        have hW4:=HW2.out wx hbx
        clear HSS
        have HSS:=Lib.hid hSx
        clear hSx
        obtain⟨Hownx,Hgx,Hmx,Hbx,Hpx,HW4⟩:=hd6 hownx hgx hmx hbx hpx hW4;clear hownx hgx hmx hbx hpx hW4
        clear hSd
        have hSd:=HSS.out _ (Below.refl _ _)
        refine hK.out _ _ hSd (fun hHeld=>?_)
        clear hHeld hK K
        try simp only[Act.put,lA,lB,lC]
        refine zft hops (rs:=[5]) (by kernel_rfl) (by simp) ?_
        refine zhw hops rfl (by kernel_rfl) (fun K hK=>?_) AllReadyH.nil
        go_simp
        refine HW4.out.mono ?_
        rintro e w4 ⟨a4,m4,c4,rfl,hT4,-,hm4,hb4⟩
        have hnw4:=zek hT4
        have hownx4:=zab Hownx.out hb4
        have hb4r:=Hbx.out.trans (hb4.mono Hbx.out.size)
        obtain⟨HT4,Hnw4,Hownx4,Hb4,Hb4r⟩:=hd5 hT4 hnw4 hownx4 hb4 hb4r;clear hT4 hnw4 hownx4 hb4 hb4r
        go_wp2_with fail
        clear hSd
        have hSd:=HSS.out _ Hb4.out
        refine hK.out _ _ hSd (fun hHeld=>?_)
        clear hHeld hK K
        try simp only[Act.put,lA,lB,lC]
        refine zft hops (rs:=[6]) (by kernel_rfl) (by simp) ?_
        refine zhw hops rfl (by kernel_rfl) (fun K hK=>?_) AllReadyH.nil
        refine zhd zdt (.tmp 118) (.tmp 121) rfl wr.heap.size (.slice ax (1+m3+1) cx) (1+m3+1) (([.string ⟨#[32,32,99,111,110,102,108,105,99,116,115]⟩] ++ sw.map Value.string) ++ [.string ⟨#[119,105,116,104]⟩]) rfl Hownx4.out a4 m4 c4 (cw.map Value.string) rfl (by rw[List.length_map,Nat.mul_one];exact Hnw4.out.1.symm) Hnw4.out.2 (by simp[Value.oneCell']) (by omega) (by unfold maxLen;omega) Hb4r.out.size (fun v' wy howny hgy hmy=>?_)
        obtain⟨ay,cy,rfl⟩:=zaa howny
        have hby:=(zch Hb4r.out Hownx4.out (Nat.le_refl _) hgy Hb4r.out.size:Below wr.heap.size wr wy)
        have hpy:=zav (za1 Hb4.out Hpx.out) (zap hgy) (zaf Hownx4.out (za1 Hb4.out Hpx.out) (by decide))
        have hSy:wy.cell? ⟨za,3,none⟩=some (.string cn)∧wy.cell? ⟨za,4,none⟩=some (.slice e3 q3 g3)∧wy.cell? ⟨za,5,none⟩=some (.slice e4 q4 g4):=⟨za0 hpy 3,za0 hpy 4,za0 hpy 5⟩
        obtain⟨Howny,Hgy,Hmy,Hby,Hpy⟩:=hd5 howny hgy hmy hby hpy;clear howny hgy hmy hby hpy
        clear hSd
        have hSd:=hSy
        refine hK.out _ _ hSd (fun hHeld=>?_)
        clear hHeld hK K
        try simp only[Act.put,lA,lB,lC]
        refine zft hops (rs:=[7]) (by kernel_rfl) (by simp) ?_
        refine zhw hops rfl (by kernel_rfl) (fun K hK=>?_) AllReadyH.nil
        go_simp
        refine hK.out _ _ hSd (fun hHeld=>?_)
        clear hHeld hK K
        try simp only[Act.put,lA,lB,lC]
        refine rg_done hops (by kernel_rfl) ?_
        go_simp
        clear hSd hSy
        go_wp2_with fail
        go_meet
        exact⟨ay,_,cy,rfl,Hby.out,by simpa using Howny.out⟩
       case rest =>
        obtain⟨ay,ny,cy,rfl,hby,howny⟩:=hcut
        obtain⟨wy,hwy⟩ : ∃ W,W=wc:=⟨_,rfl⟩
        rw[← hwy] at hby howny ⊢
        clear hwy
        obtain⟨Hby,Howny⟩:=hd2 hby howny;clear hby howny
        go_wp2_with fail
        refine (HS.out.line Hby.out (l:=(⟨#[32,32,99,111,110,102,108,105,99,116,115]⟩ :: (sw ++ ⟨#[119,105,116,104]⟩ :: cw))) (by first | exact Howny.out | simpa using Howny.out) (by simp) (by rw[Nat.add_assoc];exact Hat.out) (by rw[Hcd.out _ (by rw[if_neg He.out])];exact zdq zbz _) Htot.out).mono ?_
        rintro e wz ⟨rfl,hSz⟩
        have HSz:=hd hSz;clear hSz
        go_wp2_with fail
        go_roundw
        case rel=>exact⟨k+1,by omega,by go_num,HSz.out⟩
        case measure=>simp[RowKit.intOf];omega
      obtain rfl:n6=k:=by omega
      clear hlt HSz
      have HSz:=Lib.hid hS
      clear hS hk
      have HSz:=Lib.hid (by have e:=HSz.out;rw[show m0+(1+p.rel.length+p.vars.length+p.prov.length+p.dep.length)+n6=m0+(1+p.rel.length+p.vars.length+p.prov.length+p.dep.length+p.conf.length) by rw[Hr6.out.1];omega] at e;exact e:PkT w0 W1 b L (m0+(1+p.rel.length+p.vars.length+p.prov.length+p.dep.length+p.conf.length)) wr)
      have hbz:=Hbox.out _ _ HSz.out
      have zz7:=za0 hbz 7
      simp only[List.getElem?_toArray,List.getElem?_cons_zero,List.getElem?_cons_succ] at zz7
      have Hbz:=hd hbz;clear hbz
      go_wp2_with fail
      clear zz7
      go_loopw [130] (fun i wr=>∃ k:Nat,k≤n7∧i = .int .i64 k∧PkT w0 W1 b L (m0+(1+p.rel.length+p.vars.length+p.prov.length+p.dep.length+p.conf.length)+k) wr) (fun i _=>n7 - (RowKit.intOf i).toNat)
      case atStart=>exact⟨0,Nat.zero_le _,rfl,HSz.out⟩
      case round =>
       obtain⟨k,hk,rfl,hS⟩:=hrel
       by_cases hlt:k < n7
       ·have k5:(0:Int)≤(k:Int):=by omega
        have k6:(k:Int) < (n7:Int):=by omega
        have hkz:k < 9223372036854775807:=by have:=Hz7.out;omega
        have hkl:k < p.files.length:=by have:=Hr7.out.1;omega
        obtain⟨v,hv⟩ : ∃ x,x=p.files[k]:=⟨_,rfl⟩
        obtain⟨e0,off,rfl,d0⟩:=Hr7.out.2 k (.string v) (by rw[List.getElem?_map,List.getElem?_eq_getElem hkl,hv];rfl)
        have d0:=cell_later hS.bel d0
        have hat:=HL.out _ _ (pk_file (star:=zdv) hkl)
        rw[← hv] at hat
        obtain⟨wb,hwb⟩ : ∃ W,W=wr.alloc (.cells #[.string ⟨#[32,32,102,105,108,101]⟩,.string v] 9):=⟨_,rfl⟩
        obtain⟨zb,hzb⟩ : ∃ z,z=wr.heap.size:=⟨_,rfl⟩
        have hbab:Below wr.heap.size wr wb:=by rw[hwb];exact za2 _ _
        have hbel:=(Below.refl wr.heap.size wr).trans (hbab.mono (Below.refl wr.heap.size wr).size)
        have hown:wb.ownsRow wr.heap.size 9 1 (.slice (some ⟨zb,0,none⟩) 2 2) 2 [.string ⟨#[32,32,102,105,108,101]⟩,.string v]:=by rw[hwb,hzb];exact World.ownsRow_lit _ _ 2 (Below.refl wr.heap.size wr).size (by unfold maxLen;omega) (by simp)
        have hbz:wr.heap.size≤wb.heap.size:=hbel.size
        obtain⟨HS,Hv,Hat,Hbab,Hbel,Hown,Hbz⟩:=hd7 hS hv hat hbab hbel hown hbz;clear hS hv hat hbab hbel hown hbz
        go_wp2_with fail
        rw[← hwb,← hzb]
        clear hwb hzb d0
        refine (HS.out.line Hbel.out (l:=[⟨#[32,32,102,105,108,101]⟩,v]) (by first | exact Hown.out | simpa using Hown.out) (by simp) (by rw[Nat.add_assoc];exact Hat.out) (zdq zlf [v]) Htot.out).mono ?_
        rintro e wz ⟨rfl,hSz⟩
        have HSz:=hd hSz;clear hSz
        go_wp2_with fail
        go_roundw
        case rel=>exact⟨k+1,by omega,by go_num,HSz.out⟩
        case measure=>simp[RowKit.intOf];omega
       obtain rfl:n7=k:=by omega
       clear hlt HSz
       have HSz:=Lib.hid hS
       clear hS hk
       have hS9:=Hend.out _ _ HSz.out
       have hl9:=pk_len (star:=zdv) (p:=p)
       have e2:=Hr2.out.1
       have e3:=Hr3.out.1
       have e4:=Hr4.out.1
       have e5:=Hr5.out.1
       have e6:=Hr6.out.1
       have e7:=Hr7.out.1
       obtain⟨HS9,Hl9,He2,He3,He4,He5,He6,He7⟩:=hd8 hS9 hl9 e2 e3 e4 e5 e6 e7;clear hS9 hl9 e2 e3 e4 e5 e6 e7
       go_wp2_with fail
       go_end0
       refine⟨rfl,?_⟩
       have e:=HS9.out
       rw[Hl9.out]
       have q:m0+(1+p.rel.length+p.vars.length+p.prov.length+p.dep.length+p.conf.length+p.files.length)=m0+(1+p.rel.length+p.vars.length+p.prov.length+p.dep.length+p.conf.length)+n7:=by rw[He7.out];omega
       rw[q]
       exact e
end

section
open Go.RowKit Go.Shelf Go.Lib VerN
attribute [local go_sem ↓] Go.wp_at_zero Go.wp_at_succ
theorem zs7 (s:ByteArray) (t:Bool) (a:ByteArray) (b:Bool) (W:World):(binOp .neq 66 (.agg #[.string s,.bool t]) (.agg #[.string a,.bool b])).run Tryz.prog W = .ok (.bool (!(decide (s=a) && decide (t=b)))) W:=by
 have u9:=Tryz.underlying9
 have u8:=Tryz.underlying4
 have hS:Tryz.prog.underlying 66=some (.struct (Tryz.prog.fieldsOf 66)):=by kernel_rfl
 have hp:Tryz.prog.stoodInHeld 66=false:=by kernel_rfl
 rw[run_neq_struct,show (10000:Nat)=9999+1 from rfl,run_equalIn_agg W 9999 66 _ _ hS hp]
 simp only[Program.fieldsOf,Tryz.underlying66]
 go_simp
 have e1:=Txt.eq_dec s a
 by_cases h1:s=a <;> by_cases h2:t=b <;> simp[h1,h2] at e1 ⊢ <;> simp_all
theorem zfr {w:World} {v u:Value} {l m:List ByteArray} (h:RTs w [v] l) (hm:RTs w [u] m):Calls Tryz.prog 27 #[v,u] w fun e w'=>e = .returned (.bool (decide (l=m)))∧∃ q,w'=w.drewN q:=by
 obtain⟨a,cap,rfl,hz,g⟩:=zba h
 obtain⟨a2,cap2,rfl,hz2,g2⟩:=zba hm
 obtain⟨n,hn⟩ : ∃ n,n=l.length:=⟨_,rfl⟩
 obtain⟨n2,hn2⟩ : ∃ n,n=m.length:=⟨_,rfl⟩
 obtain⟨r,hr⟩ : ∃ r,r=decide (l=m):=⟨_,rfl⟩
 rw[← hr]
 rw[← hn] at hz h ⊢
 rw[← hn2] at hz2 hm ⊢
 obtain⟨Hh,Hm,Hg,Hg2,Hn,Hn2,Hr⟩:=hd7 h hm g g2 hn hn2 hr;clear h hm g g2 hn hn2 hr
 go_enter Tryz.func27,Tryz.ntmps27
 by_cases hne:n=n2
 case neg =>
  have k1:((n:Int) != (n2:Int))=true:=by simp;omega
  have hf:r=false:=by rw[Hr.out,decide_eq_false_iff_not];intro e;exact hne (by rw[Hn.out,Hn2.out,e])
  obtain⟨Hf,Hne⟩:=hd2 hf hne;clear hf hne
  go_wp2_with fail
  go_ret
  exact⟨zai Hf.out.symm,0,rfl⟩
 have k1:((n:Int) != (n2:Int))=false:=by simp;omega
 have Hne:=hd hne;clear hne
 go_wp2_with fail
 clear k1
 go_loopw [13] (fun i wr=>∃ k:Nat,k≤n∧i = .int .i64 k∧(∀ j (h1:j < l.length) (h2:j < m.length),j < k→l[j]=m[j])∧∃ q,wr=w.drewN q) (fun i _=>n - (RowKit.intOf i).toNat)
 case atStart=>exact⟨0,Nat.zero_le _,rfl,fun _ _ _ h=>by omega,0,rfl⟩
 case round =>
  obtain⟨k,hk,rfl,hno,q,rfl⟩:=hrel
  by_cases hlt:k < n
  ·have hkl:k < l.length:=by have:=Hn.out;omega
   have hkm:k < m.length:=by have:=Hn2.out;have:=Hne.out;omega
   obtain⟨b,off,rfl,d0,-⟩:=Hg.out k hkl
   obtain⟨b2,off2,rfl,f0,-⟩:=Hg2.out k hkm
   have hnx:l[k]=m[k]→∀ j (h1:j < l.length) (h2:j < m.length),j < k+1→l[j]=m[j]:=fun h j h1 h2 hjk=>by
    by_cases e:j=k
    ·subst e;exact h
    exact hno j h1 h2 (by omega)
   have hbd:l[k]≠m[k]→l≠m:=fun h e=>h (by subst e;rfl)
   obtain⟨x,hx⟩ : ∃ x,x=l[k]:=⟨_,rfl⟩
   obtain⟨y,hy⟩ : ∃ x,x=m[k]:=⟨_,rfl⟩
   rw[← hx] at d0 hnx hbd
   rw[← hy] at f0 hnx hbd
   have heq:=Txt.eq_dec x y
   obtain⟨c,hc⟩ : ∃ c,c=decide (x=y):=⟨_,rfl⟩
   rw[← hc] at heq
   have k5:(0:Int)≤(k:Int):=by omega
   have k6:(k:Int) < (n:Int):=by omega
   have k7:(k:Int) < (n2:Int):=by have:=Hne.out;omega
   cases c with
   | true =>
    have hq:=hnx (of_decide_eq_true hc.symm)
    skip
    obtain⟨Hno,Hnx,Hbd,Hx,Hy,Hc,Hq⟩:=hd7 hno hnx hbd hx hy hc hq;clear hno hnx hbd hx hy hc hq
    go_wp2_with fail
    go_region
    go_wp2_with fail
    go_roundw
    case rel=>exact⟨k+1,by omega,by go_num,Hq.out,_,rfl⟩
    case measure=>simp[RowKit.intOf];omega
   | false =>
    have hf:r=false:=by rw[Hr.out,decide_eq_false_iff_not];exact hbd (of_decide_eq_false hc.symm)
    skip
    obtain⟨Hno,Hnx,Hbd,Hx,Hy,Hc,Hf⟩:=hd7 hno hnx hbd hx hy hc hf;clear hno hnx hbd hx hy hc hf
    go_wp2_with fail
    go_region
    go_wp2_with fail
    go_ret
    exact⟨zai Hf.out.symm,_,rfl⟩
  obtain rfl:n=k:=by omega
  have hf:r=true:=by
   rw[Hr.out,decide_eq_true_eq]
   exact List.ext_getElem (by rw[← Hn.out,← Hn2.out,Hne.out]) (fun j h1 h2=>hno j h1 h2 (by have:=Hn.out;omega))
  obtain⟨Hno,Hf⟩:=hd2 hno hf;clear hno hf
  go_wp2_with fail
  go_ret
  exact⟨zai Hf.out.symm,_,rfl⟩
end

section
open Go.RowKit Go.Shelf Go.Lib VerN
attribute [local go_sem ↓] Go.wp_at_zero Go.wp_at_succ
theorem zfd {w:World} {v u:Value} {l m:List ByteArray} (h:RTs w [v] l) (hm:RTs w [u] m):Calls Tryz.prog 32 #[v,u] w fun e w'=>e = .returned (.bool (decide (l=m)))∧∃ q,w'=w.drewN q:=by
 obtain⟨a,cap,rfl,hz,g⟩:=zba h
 obtain⟨a2,cap2,rfl,hz2,g2⟩:=zba hm
 obtain⟨n,hn⟩ : ∃ n,n=l.length:=⟨_,rfl⟩
 obtain⟨n2,hn2⟩ : ∃ n,n=m.length:=⟨_,rfl⟩
 obtain⟨r,hr⟩ : ∃ r,r=decide (l=m):=⟨_,rfl⟩
 rw[← hr]
 rw[← hn] at hz h ⊢
 rw[← hn2] at hz2 hm ⊢
 obtain⟨Hh,Hm,Hg,Hg2,Hn,Hn2,Hr⟩:=hd7 h hm g g2 hn hn2 hr;clear h hm g g2 hn hn2 hr
 go_enter Tryz.func32,Tryz.ntmps32
 by_cases hne:n=n2
 case neg =>
  have k1:((n:Int) != (n2:Int))=true:=by simp;omega
  have hf:r=false:=by rw[Hr.out,decide_eq_false_iff_not];intro e;exact hne (by rw[Hn.out,Hn2.out,e])
  obtain⟨Hf,Hne⟩:=hd2 hf hne;clear hf hne
  go_wp2_with fail
  go_ret
  exact⟨zai Hf.out.symm,0,rfl⟩
 have k1:((n:Int) != (n2:Int))=false:=by simp;omega
 have Hne:=hd hne;clear hne
 go_wp2_with fail
 clear k1
 go_loopw [13] (fun i wr=>∃ k:Nat,k≤n∧i = .int .i64 k∧(∀ j (h1:j < l.length) (h2:j < m.length),j < k→l[j]=m[j])∧∃ q,wr=w.drewN q) (fun i _=>n - (RowKit.intOf i).toNat)
 case atStart=>exact⟨0,Nat.zero_le _,rfl,fun _ _ _ h=>by omega,0,rfl⟩
 case round =>
  obtain⟨k,hk,rfl,hno,q,rfl⟩:=hrel
  by_cases hlt:k < n
  ·have hkl:k < l.length:=by have:=Hn.out;omega
   have hkm:k < m.length:=by have:=Hn2.out;have:=Hne.out;omega
   obtain⟨b,off,rfl,d0,-⟩:=Hg.out k hkl
   obtain⟨b2,off2,rfl,f0,-⟩:=Hg2.out k hkm
   have hnx:l[k]=m[k]→∀ j (h1:j < l.length) (h2:j < m.length),j < k+1→l[j]=m[j]:=fun h j h1 h2 hjk=>by
    by_cases e:j=k
    ·subst e;exact h
    exact hno j h1 h2 (by omega)
   have hbd:l[k]≠m[k]→l≠m:=fun h e=>h (by subst e;rfl)
   obtain⟨x,hx⟩ : ∃ x,x=l[k]:=⟨_,rfl⟩
   obtain⟨y,hy⟩ : ∃ x,x=m[k]:=⟨_,rfl⟩
   rw[← hx] at d0 hnx hbd
   rw[← hy] at f0 hnx hbd
   have heq:=Txt.eq_dec x y
   obtain⟨c,hc⟩ : ∃ c,c=decide (x=y):=⟨_,rfl⟩
   rw[← hc] at heq
   have k5:(0:Int)≤(k:Int):=by omega
   have k6:(k:Int) < (n:Int):=by omega
   have k7:(k:Int) < (n2:Int):=by have:=Hne.out;omega
   cases c with
   | true =>
    have hq:=hnx (of_decide_eq_true hc.symm)
    skip
    obtain⟨Hno,Hnx,Hbd,Hx,Hy,Hc,Hq⟩:=hd7 hno hnx hbd hx hy hc hq;clear hno hnx hbd hx hy hc hq
    go_wp2_with fail
    go_region
    go_wp2_with fail
    go_roundw
    case rel=>exact⟨k+1,by omega,by go_num,Hq.out,_,rfl⟩
    case measure=>simp[RowKit.intOf];omega
   | false =>
    have hf:r=false:=by rw[Hr.out,decide_eq_false_iff_not];exact hbd (of_decide_eq_false hc.symm)
    skip
    obtain⟨Hno,Hnx,Hbd,Hx,Hy,Hc,Hf⟩:=hd7 hno hnx hbd hx hy hc hf;clear hno hnx hbd hx hy hc hf
    go_wp2_with fail
    go_region
    go_wp2_with fail
    go_ret
    exact⟨zai Hf.out.symm,_,rfl⟩
  obtain rfl:n=k:=by omega
  have hf:r=true:=by
   rw[Hr.out,decide_eq_true_eq]
   exact List.ext_getElem (by rw[← Hn.out,← Hn2.out,Hne.out]) (fun j h1 h2=>hno j h1 h2 (by have:=Hn.out;omega))
  obtain⟨Hno,Hf⟩:=hd2 hno hf;clear hno hf
  go_wp2_with fail
  go_ret
  exact⟨zai Hf.out.symm,_,rfl⟩
theorem zpb {w:World} {v u:Value} {l m:List RlsM} (h:zal 2 zgw w [v] l) (hm:zal 2 zgw w [u] m):Calls Tryz.prog 55 #[v,u] w fun e w'=>e = .returned (.bool (decide (l=m)))∧∃ q,w'=w.drewN q:=by
 obtain⟨a,cap,rfl,hz,g⟩:=zjj h
 obtain⟨a2,cap2,rfl,hz2,g2⟩:=zjj hm
 obtain⟨n,hn⟩ : ∃ n,n=l.length:=⟨_,rfl⟩
 obtain⟨n2,hn2⟩ : ∃ n,n=m.length:=⟨_,rfl⟩
 obtain⟨r,hr⟩ : ∃ r,r=decide (l=m):=⟨_,rfl⟩
 have q1:=fun s t a b=>zs7 s t a b
 rw[← hr]
 rw[← hn] at hz h ⊢
 rw[← hn2] at hz2 hm ⊢
 obtain⟨Hh,Hm,Hg,Hg2,Hn,Hn2,Hr,Hq1⟩:=hd8 h hm g g2 hn hn2 hr q1;clear h hm g g2 hn hn2 hr q1
 go_enter Tryz.func55,Tryz.ntmps55
 by_cases hne:n=n2
 case neg =>
  have k1:((n:Int) != (n2:Int))=true:=by simp;omega
  have hf:r=false:=by rw[Hr.out,decide_eq_false_iff_not];intro e;exact hne (by rw[Hn.out,Hn2.out,e])
  obtain⟨Hf,Hne⟩:=hd2 hf hne;clear hf hne
  go_wp2_with fail
  go_ret
  exact⟨zai Hf.out.symm,0,rfl⟩
 have k1:((n:Int) != (n2:Int))=false:=by simp;omega
 have Hne:=hd hne;clear hne
 go_wp2_with fail
 clear k1
 go_loopw [13] (fun i wr=>∃ k:Nat,k≤n∧i = .int .i64 k∧(∀ j (h1:j < l.length) (h2:j < m.length),j < k→l[j]=m[j])∧∃ q,wr=w.drewN q) (fun i _=>n - (RowKit.intOf i).toNat)
 case atStart=>exact⟨0,Nat.zero_le _,rfl,fun _ _ _ h=>by omega,0,rfl⟩
 case round =>
  obtain⟨k,hk,rfl,hno,q,rfl⟩:=hrel
  by_cases hlt:k < n
  ·have hkl:k < l.length:=by have:=Hn.out;omega
   have hkm:k < m.length:=by have:=Hn2.out;have:=Hne.out;omega
   obtain⟨b,off,rfl,d0,d1⟩:=Hg.out k _ (List.getElem?_eq_getElem hkl)
   obtain⟨b2,off2,rfl,f0,f1⟩:=Hg2.out k _ (List.getElem?_eq_getElem hkm)
   have hnx:l[k]=m[k]→∀ j (h1:j < l.length) (h2:j < m.length),j < k+1→l[j]=m[j]:=fun h j h1 h2 hjk=>by
    by_cases e:j=k
    ·subst e;exact h
    exact hno j h1 h2 (by omega)
   have hbd:l[k]≠m[k]→l≠m:=fun h e=>h (by subst e;rfl)
   obtain⟨x,hx⟩ : ∃ x,x=l[k]:=⟨_,rfl⟩
   obtain⟨y,hy⟩ : ∃ x,x=m[k]:=⟨_,rfl⟩
   rw[← hx] at d0 d1 hnx hbd
   rw[← hy] at f0 f1 hnx hbd
   have q2:=Hq1.out x.1 x.2 y.1 y.2
   have hxy:(decide (x.1=y.1) && decide (x.2=y.2))=decide (x=y):=by
    rw[Bool.eq_iff_iff]
    simp[Prod.ext_iff]
   rw[hxy] at q2
   obtain⟨s,hs⟩ : ∃ s,s=x.1:=⟨_,rfl⟩
   obtain⟨t,ht⟩ : ∃ s,s=x.2:=⟨_,rfl⟩
   obtain⟨s',hs'⟩ : ∃ s,s=y.1:=⟨_,rfl⟩
   obtain⟨t',ht'⟩ : ∃ s,s=y.2:=⟨_,rfl⟩
   rw[← hs,← ht,← hs',← ht'] at q2
   rw[← hs] at d0
   rw[← ht] at d1
   rw[← hs'] at f0
   rw[← ht'] at f1
   clear hxy
   obtain⟨c,hc⟩ : ∃ c,c=decide (x=y):=⟨_,rfl⟩
   rw[← hc] at q2
   have k5:(0:Int)≤(k:Int):=by omega
   have k6:(k:Int) < (n:Int):=by omega
   have k7:(k:Int) < (n2:Int):=by have:=Hne.out;omega
   cases c with
   | true =>
    have hq:=hnx (of_decide_eq_true hc.symm)
    simp only[Bool.not_true] at q2
    obtain⟨Hno,Hnx,Hbd,Hx,Hy,Hc,Hs,Ht,Hs',Ht',Hq⟩:=hd11 hno hnx hbd hx hy hc hs ht hs' ht' hq;clear hno hnx hbd hx hy hc hs ht hs' ht' hq
    go_wp2_with fail
    go_region
    go_wp2_with fail
    go_roundw
    case rel=>exact⟨k+1,by omega,by go_num,Hq.out,_,rfl⟩
    case measure=>simp[RowKit.intOf];omega
   | false =>
    have hf:r=false:=by rw[Hr.out,decide_eq_false_iff_not];exact hbd (of_decide_eq_false hc.symm)
    simp only[Bool.not_false] at q2
    obtain⟨Hno,Hnx,Hbd,Hx,Hy,Hc,Hs,Ht,Hs',Ht',Hf⟩:=hd11 hno hnx hbd hx hy hc hs ht hs' ht' hf;clear hno hnx hbd hx hy hc hs ht hs' ht' hf
    go_wp2_with fail
    go_region
    go_wp2_with fail
    go_ret
    exact⟨zai Hf.out.symm,_,rfl⟩
  obtain rfl:n=k:=by omega
  have hf:r=true:=by
   rw[Hr.out,decide_eq_true_eq]
   exact List.ext_getElem (by rw[← Hn.out,← Hn2.out,Hne.out]) (fun j h1 h2=>hno j h1 h2 (by have:=Hn.out;omega))
  obtain⟨Hno,Hf⟩:=hd2 hno hf;clear hno hf
  go_wp2_with fail
  go_ret
  exact⟨zai Hf.out.symm,_,rfl⟩
end

section
open Go.Shelf Go.RowKit Go.Lib VerN VarM
attribute [local go_sem ↓] Go.wp_at_zero Go.wp_at_succ
theorem zr9 {w:World} {n m:ByteArray} {a1 a2:Option Addr} {n1 c1 n2 c2:Nat} {l1 l2:List ByteArray} (h1:RTs w [.slice a1 n1 c1] l1) (h2:RTs w [.slice a2 n2 c2] l2) :
  Calls Tryz.prog 57 #[.agg #[.string n,.slice a1 n1 c1],.agg #[.string m,.slice a2 n2 c2]] w fun e w'=>e = .returned (.bool (decide (n=m) && decide (l1=l2)))∧Below w.heap.size w w':=by
 obtain⟨W1,hW1⟩ : ∃ W,W=(w.alloc (.cells #[.string n,.slice a1 n1 c1] 68)).alloc (.cells #[.string m,.slice a2 n2 c2] 68):=⟨_,rfl⟩
 obtain⟨g,hg⟩ : ∃ g,g=w.heap.size:=⟨_,rfl⟩
 have hb1:Below w.heap.size w W1:=by rw[hW1];exact (za2 _ _).alloc (by simp) _
 have p0:W1.heap[g]? = some (.cells #[.string n,.slice a1 n1 c1] 68 (0,0)):=by rw[hW1,hg];exact za1 (za2 _ _) (za9 rfl)
 have p1:W1.heap[g+1]? = some (.cells #[.string m,.slice a2 n2 c2] 68 (0,0)):=by rw[hW1,hg];exact za9 (by simp)
 have hS:=zfd (zak h1 hb1) (zak h2 hb1)
 have x0:=za0 p0 0
 have x1:=za0 p0 1
 have y0:=za0 p1 0
 have y1:=za0 p1 1
 simp only[List.getElem?_toArray,List.getElem?_cons_zero,List.getElem?_cons_succ] at x0 x1 y0 y1
 have hnm:=Txt.eq_dec n m
 obtain⟨bn,hbn⟩ : ∃ b,b=decide (n=m):=⟨_,rfl⟩
 obtain⟨bs,hbs⟩ : ∃ b,b=decide (l1=l2):=⟨_,rfl⟩
 rw[← hbs] at hS
 rw[← hbn] at hnm
 rw[← hbn,← hbs]
 obtain⟨H1,H2,Hb1,Hp0,Hp1,HS,Hbn,Hbs⟩:=hd8 h1 h2 hb1 p0 p1 hS hbn hbs;clear h1 h2 hb1 p0 p1 hS hbn hbs
 go_enter Tryz.func57,Tryz.ntmps57
 go_upto_region 1 with (fail)
 rw[← hW1,← hg]
 clear hW1 hg
 cases bn with
 | false =>
  go_wp2_with fail
  go_ret
  exact⟨rfl,Hb1.out⟩
 | true =>
  go_wp2_with fail
  refine HS.out.mono ?_
  rintro e w2 ⟨rfl,q,rfl⟩
  go_wp2_with fail
  go_ret
  exact⟨by first | rfl | (rw[Bool.true_and]),za6 Hb1.out q⟩
theorem zup {w:World} {n m:ByteArray} {a1 a2:Option Addr} {n1 c1 n2 c2:Nat} {i1 i2:Int} {l1 l2:List ByteArray} (h1:RTs w [.slice a1 n1 c1] l1) (h2:RTs w [.slice a2 n2 c2] l2) :
  Calls Tryz.prog 31 #[.agg #[.string n,.slice a1 n1 c1,.int .i64 i1],.agg #[.string m,.slice a2 n2 c2,.int .i64 i2]] w fun e w'=>e = .returned (.bool (decide (n=m) && decide (l1=l2)))∧Below w.heap.size w w':=by
 obtain⟨W1,hW1⟩ : ∃ W,W=(w.alloc (.cells #[.string n,.slice a1 n1 c1,.int .i64 i1] 47)).alloc (.cells #[.string m,.slice a2 n2 c2,.int .i64 i2] 47):=⟨_,rfl⟩
 obtain⟨g,hg⟩ : ∃ g,g=w.heap.size:=⟨_,rfl⟩
 have hb1:Below w.heap.size w W1:=by rw[hW1];exact (za2 _ _).alloc (by simp) _
 have p0:W1.heap[g]? = some (.cells #[.string n,.slice a1 n1 c1,.int .i64 i1] 47 (0,0)):=by rw[hW1,hg];exact za1 (za2 _ _) (za9 rfl)
 have p1:W1.heap[g+1]? = some (.cells #[.string m,.slice a2 n2 c2,.int .i64 i2] 47 (0,0)):=by rw[hW1,hg];exact za9 (by simp)
 have hS:=zfd (zak h1 hb1) (zak h2 hb1)
 have x0:=za0 p0 0
 have x1:=za0 p0 1
 have y0:=za0 p1 0
 have y1:=za0 p1 1
 simp only[List.getElem?_toArray,List.getElem?_cons_zero,List.getElem?_cons_succ] at x0 x1 y0 y1
 have hnm:=Txt.eq_dec n m
 obtain⟨bn,hbn⟩ : ∃ b,b=decide (n=m):=⟨_,rfl⟩
 obtain⟨bs,hbs⟩ : ∃ b,b=decide (l1=l2):=⟨_,rfl⟩
 rw[← hbs] at hS
 rw[← hbn] at hnm
 rw[← hbn,← hbs]
 obtain⟨H1,H2,Hb1,Hp0,Hp1,HS,Hbn,Hbs⟩:=hd8 h1 h2 hb1 p0 p1 hS hbn hbs;clear h1 h2 hb1 p0 p1 hS hbn hbs
 go_enter Tryz.func31,Tryz.ntmps31
 go_upto_region 1 with (fail)
 rw[← hW1,← hg]
 clear hW1 hg
 cases bn with
 | false =>
  go_wp2_with fail
  go_ret
  exact⟨rfl,Hb1.out⟩
 | true =>
  go_wp2_with fail
  refine HS.out.mono ?_
  rintro e w2 ⟨rfl,q,rfl⟩
  go_wp2_with fail
  go_ret
  exact⟨by first | rfl | (rw[Bool.true_and]),za6 Hb1.out q⟩
theorem zra {w:World} {s1 s2 t1 t2:ByteArray} {a1 d1:Option Addr} {an1 ac1 dn1 dc1:Nat} {a2 d2:Option Addr} {an2 ac2 dn2 dc2:Nat} {a3 d3:Option Addr} {an3 ac3 dn3 dc3:Nat} {a4 d4:Option Addr} {an4 ac4 dn4 dc4:Nat} {i1 i2:Int} {l1 l2 l3 l4:List BSp} {g1 g2 g3 g4:List Setg}
  (h1:RSps w [.slice a1 an1 ac1] l1) (h2:zcj w [.slice a2 an2 ac2] g1) (h3:RSps w [.slice a3 an3 ac3] l2) (h4:zcj w [.slice a4 an4 ac4] g2)
  (k1:RSps w [.slice d1 dn1 dc1] l3) (k2:zcj w [.slice d2 dn2 dc2] g3) (k3:RSps w [.slice d3 dn3 dc3] l4) (k4:zcj w [.slice d4 dn4 dc4] g4) :
  Calls Tryz.prog 59 #[.agg #[.string s1,.slice a1 an1 ac1,.slice a2 an2 ac2,.string s2,.slice a3 an3 ac3,.slice a4 an4 ac4,.int .i64 i1],.agg #[.string t1,.slice d1 dn1 dc1,.slice d2 dn2 dc2,.string t2,.slice d3 dn3 dc3,.slice d4 dn4 dc4,.int .i64 i2]] w fun e w'=>e = .returned (.bool (decide ((s1,l1,g1)=(t1,l3,g3)) && decide ((s2,l2,g2)=(t2,l4,g4))))∧Below w.heap.size w w':=by
 obtain⟨W1,hW1⟩ : ∃ W,W=(w.alloc (.cells #[.string s1,.slice a1 an1 ac1,.slice a2 an2 ac2,.string s2,.slice a3 an3 ac3,.slice a4 an4 ac4,.int .i64 i1] 96)).alloc (.cells #[.string t1,.slice d1 dn1 dc1,.slice d2 dn2 dc2,.string t2,.slice d3 dn3 dc3,.slice d4 dn4 dc4,.int .i64 i2] 96):=⟨_,rfl⟩
 obtain⟨g,hg⟩ : ∃ g,g=w.heap.size:=⟨_,rfl⟩
 have hb1:Below w.heap.size w W1:=by rw[hW1];exact (za2 _ _).alloc (by simp) _
 have p0:W1.heap[g]? = some (.cells #[.string s1,.slice a1 an1 ac1,.slice a2 an2 ac2,.string s2,.slice a3 an3 ac3,.slice a4 an4 ac4,.int .i64 i1] 96 (0,0)):=by rw[hW1,hg];exact za1 (za2 _ _) (za9 rfl)
 have p1:W1.heap[g+1]? = some (.cells #[.string t1,.slice d1 dn1 dc1,.slice d2 dn2 dc2,.string t2,.slice d3 dn3 dc3,.slice d4 dn4 dc4,.int .i64 i2] 96 (0,0)):=by rw[hW1,hg];exact za9 (by simp)
 have hS:=zdk (n:=s1) (m:=t1) (za3 zan _ _ _ _ h1 hb1) (za3 zao _ _ _ _ h2 hb1) (za3 zan _ _ _ _ k1 hb1) (za3 zao _ _ _ _ k2 hb1)
 have hT:=fun (W:World) (k:Below w.heap.size w W)=>zdk (n:=s2) (m:=t2) (za3 zan _ _ _ _ h3 k) (za3 zao _ _ _ _ h4 k) (za3 zan _ _ _ _ k3 k) (za3 zao _ _ _ _ k4 k)
 have x0:=za0 p0 0
 have x1:=za0 p0 1
 have x2:=za0 p0 2
 have y0:=za0 p1 0
 have y1:=za0 p1 1
 have y2:=za0 p1 2
 simp only[List.getElem?_toArray,List.getElem?_cons_zero,List.getElem?_cons_succ] at x0 x1 x2 y0 y1 y2
 obtain⟨bn,hbn⟩ : ∃ b,b=decide ((s1,l1,g1)=(t1,l3,g3)):=⟨_,rfl⟩
 obtain⟨bs,hbs⟩ : ∃ b,b=decide ((s2,l2,g2)=(t2,l4,g4)):=⟨_,rfl⟩
 rw[← hbn] at hS
 rw[← hbs] at hT
 rw[← hbn,← hbs]
 obtain⟨H1,H2,H3,H4,Hk1,Hk2,Hk3,Hk4,Hb1,Hp0,Hp1,HS,HT,Hbn,Hbs⟩:=hd15 h1 h2 h3 h4 k1 k2 k3 k4 hb1 p0 p1 hS hT hbn hbs;clear h1 h2 h3 h4 k1 k2 k3 k4 hb1 p0 p1 hS hT hbn hbs
 go_enter Tryz.func59,Tryz.ntmps59
 go_upto_region 1 with (fail)
 rw[← hW1,← hg]
 clear hW1 hg
 go_wp2_with fail
 refine HS.out.mono ?_
 rintro e w2 ⟨rfl,hb2⟩
 have hbw:=Hb1.out.trans (hb2.mono Hb1.out.size)
 clear x0 x1 x2 y0 y1 y2
 cases bn with
 | false =>
  obtain⟨Hb2,Hbw⟩:=hd2 hb2 hbw;clear hb2 hbw
  go_wp2_with fail
  go_ret
  exact⟨rfl,Hbw.out⟩
 | true =>
  have x3:=za0 (za1 hb2 Hp0.out) 3
  have x4:=za0 (za1 hb2 Hp0.out) 4
  have x5:=za0 (za1 hb2 Hp0.out) 5
  have y3:=za0 (za1 hb2 Hp1.out) 3
  have y4:=za0 (za1 hb2 Hp1.out) 4
  have y5:=za0 (za1 hb2 Hp1.out) 5
  simp only[List.getElem?_toArray,List.getElem?_cons_zero,List.getElem?_cons_succ] at x3 x4 x5 y3 y4 y5
  have hT2:=HT.out _ hbw
  obtain⟨Hb2,Hbw,HT2⟩:=hd3 hb2 hbw hT2;clear hb2 hbw hT2
  go_wp2_with fail
  refine HT2.out.mono ?_
  rintro e w3 ⟨rfl,hb3⟩
  have hbz:=Hbw.out.trans (hb3.mono Hbw.out.size)
  obtain⟨Hb3,Hbz⟩:=hd2 hb3 hbz;clear hb3 hbz
  go_wp2_with fail
  go_ret
  exact⟨by first | rfl | (rw[Bool.true_and]),Hbz.out⟩
theorem zpc {w:World} {s1 s2 t1 t2:ByteArray} {a1 d1:Option Addr} {an1 ac1 dn1 dc1:Nat} {a2 d2:Option Addr} {an2 ac2 dn2 dc2:Nat} {a3 d3:Option Addr} {an3 ac3 dn3 dc3:Nat} {a4 d4:Option Addr} {an4 ac4 dn4 dc4:Nat} {i1 i2:Int} {l1 l2 l3 l4:List BSp} {g1 g2 g3 g4:List Setg}
  (h1:RSps w [.slice a1 an1 ac1] l1) (h2:zcj w [.slice a2 an2 ac2] g1) (h3:RSps w [.slice a3 an3 ac3] l2) (h4:zcj w [.slice a4 an4 ac4] g2)
  (k1:RSps w [.slice d1 dn1 dc1] l3) (k2:zcj w [.slice d2 dn2 dc2] g3) (k3:RSps w [.slice d3 dn3 dc3] l4) (k4:zcj w [.slice d4 dn4 dc4] g4) :
  Calls Tryz.prog 62 #[.agg #[.string s1,.slice a1 an1 ac1,.slice a2 an2 ac2,.string s2,.slice a3 an3 ac3,.slice a4 an4 ac4,.int .i64 i1],.agg #[.string t1,.slice d1 dn1 dc1,.slice d2 dn2 dc2,.string t2,.slice d3 dn3 dc3,.slice d4 dn4 dc4,.int .i64 i2]] w fun e w'=>e = .returned (.bool (decide ((s1,l1,g1)=(t1,l3,g3)) && decide ((s2,l2,g2)=(t2,l4,g4))))∧Below w.heap.size w w':=by
 obtain⟨W1,hW1⟩ : ∃ W,W=(w.alloc (.cells #[.string s1,.slice a1 an1 ac1,.slice a2 an2 ac2,.string s2,.slice a3 an3 ac3,.slice a4 an4 ac4,.int .i64 i1] 98)).alloc (.cells #[.string t1,.slice d1 dn1 dc1,.slice d2 dn2 dc2,.string t2,.slice d3 dn3 dc3,.slice d4 dn4 dc4,.int .i64 i2] 98):=⟨_,rfl⟩
 obtain⟨g,hg⟩ : ∃ g,g=w.heap.size:=⟨_,rfl⟩
 have hb1:Below w.heap.size w W1:=by rw[hW1];exact (za2 _ _).alloc (by simp) _
 have p0:W1.heap[g]? = some (.cells #[.string s1,.slice a1 an1 ac1,.slice a2 an2 ac2,.string s2,.slice a3 an3 ac3,.slice a4 an4 ac4,.int .i64 i1] 98 (0,0)):=by rw[hW1,hg];exact za1 (za2 _ _) (za9 rfl)
 have p1:W1.heap[g+1]? = some (.cells #[.string t1,.slice d1 dn1 dc1,.slice d2 dn2 dc2,.string t2,.slice d3 dn3 dc3,.slice d4 dn4 dc4,.int .i64 i2] 98 (0,0)):=by rw[hW1,hg];exact za9 (by simp)
 have hS:=zdk (n:=s1) (m:=t1) (za3 zan _ _ _ _ h1 hb1) (za3 zao _ _ _ _ h2 hb1) (za3 zan _ _ _ _ k1 hb1) (za3 zao _ _ _ _ k2 hb1)
 have hT:=fun (W:World) (k:Below w.heap.size w W)=>zdk (n:=s2) (m:=t2) (za3 zan _ _ _ _ h3 k) (za3 zao _ _ _ _ h4 k) (za3 zan _ _ _ _ k3 k) (za3 zao _ _ _ _ k4 k)
 have x0:=za0 p0 0
 have x1:=za0 p0 1
 have x2:=za0 p0 2
 have y0:=za0 p1 0
 have y1:=za0 p1 1
 have y2:=za0 p1 2
 simp only[List.getElem?_toArray,List.getElem?_cons_zero,List.getElem?_cons_succ] at x0 x1 x2 y0 y1 y2
 obtain⟨bn,hbn⟩ : ∃ b,b=decide ((s1,l1,g1)=(t1,l3,g3)):=⟨_,rfl⟩
 obtain⟨bs,hbs⟩ : ∃ b,b=decide ((s2,l2,g2)=(t2,l4,g4)):=⟨_,rfl⟩
 rw[← hbn] at hS
 rw[← hbs] at hT
 rw[← hbn,← hbs]
 obtain⟨H1,H2,H3,H4,Hk1,Hk2,Hk3,Hk4,Hb1,Hp0,Hp1,HS,HT,Hbn,Hbs⟩:=hd15 h1 h2 h3 h4 k1 k2 k3 k4 hb1 p0 p1 hS hT hbn hbs;clear h1 h2 h3 h4 k1 k2 k3 k4 hb1 p0 p1 hS hT hbn hbs
 go_enter Tryz.func62,Tryz.ntmps62
 go_upto_region 1 with (fail)
 rw[← hW1,← hg]
 clear hW1 hg
 go_wp2_with fail
 refine HS.out.mono ?_
 rintro e w2 ⟨rfl,hb2⟩
 have hbw:=Hb1.out.trans (hb2.mono Hb1.out.size)
 clear x0 x1 x2 y0 y1 y2
 cases bn with
 | false =>
  obtain⟨Hb2,Hbw⟩:=hd2 hb2 hbw;clear hb2 hbw
  go_wp2_with fail
  go_ret
  exact⟨rfl,Hbw.out⟩
 | true =>
  have x3:=za0 (za1 hb2 Hp0.out) 3
  have x4:=za0 (za1 hb2 Hp0.out) 4
  have x5:=za0 (za1 hb2 Hp0.out) 5
  have y3:=za0 (za1 hb2 Hp1.out) 3
  have y4:=za0 (za1 hb2 Hp1.out) 4
  have y5:=za0 (za1 hb2 Hp1.out) 5
  simp only[List.getElem?_toArray,List.getElem?_cons_zero,List.getElem?_cons_succ] at x3 x4 x5 y3 y4 y5
  have hT2:=HT.out _ hbw
  obtain⟨Hb2,Hbw,HT2⟩:=hd3 hb2 hbw hT2;clear hb2 hbw hT2
  go_wp2_with fail
  refine HT2.out.mono ?_
  rintro e w3 ⟨rfl,hb3⟩
  have hbz:=Hbw.out.trans (hb3.mono Hbw.out.size)
  obtain⟨Hb3,Hbz⟩:=hd2 hb3 hbz;clear hb3 hbz
  go_wp2_with fail
  go_ret
  exact⟨by first | rfl | (rw[Bool.true_and]),Hbz.out⟩
end

section
open Go.RowKit Go.Shelf Go.Lib VerN
attribute [local go_sem ↓] Go.wp_at_zero Go.wp_at_succ
def zt4 (cs:List Value):Prop:=∃ (p0:ByteArray) (p1:Option Addr) (pn1:Nat) (pc1:Nat),cs = [.string p0,.slice p1 pn1 pc1]
theorem zul {α:Type} {R:Rd α} (hR:zfi R) (hsh:∀ W cs x,R W cs x→zt4 cs) {w:World} {v u:Value} {l m:List α} (h:zal 2 R w [v] l) (hm:zal 2 R w [u] m)
  {f:FuncId} (eg:∀ args w,(callFunc f args).run Tryz.prog w = .ok (.enter f args) w) {g:α→α→Bool}
  (hf:∀ W cs ds x y,Below w.heap.size w W→R W cs x→R W ds y→x∈l→y∈m→Calls Tryz.prog f #[.agg cs.toArray,.agg ds.toArray] W fun e w'=>e = .returned (.bool (g x y))∧Below W.heap.size W w') :
  Calls Tryz.prog 56 #[v,u,.func (.func f) #[] #[]] w fun e w'=>e = .returned (.bool (zen g l m))∧Below w.heap.size w w':=by
 obtain⟨a,cap,rfl⟩:=zb4 h
 obtain⟨a2,cap2,rfl⟩:=zb4 hm
 obtain⟨-,hz,g1⟩:=ze1 h
 obtain⟨-,hz2,g2⟩:=ze1 hm
 obtain⟨n,hn⟩ : ∃ n,n=l.length:=⟨_,rfl⟩
 obtain⟨n2,hn2⟩ : ∃ n,n=m.length:=⟨_,rfl⟩
 obtain⟨r,hr⟩ : ∃ r,r=zen g l m:=⟨_,rfl⟩
 rw[← hr]
 rw[← hn] at hz h ⊢
 rw[← hn2] at hz2 hm ⊢
 obtain⟨Hh,Hm,Hg1,Hg2,Hn,Hn2,Hr,Hf,HR,Hsh⟩:=hd10 h hm g1 g2 hn hn2 hr hf hR hsh;clear h hm g1 g2 hn hn2 hr hf hR hsh
 go_enter Tryz.func56,Tryz.ntmps56
 by_cases hne:n=n2
 case neg =>
  have k1:((n:Int) != (n2:Int))=true:=by simp;omega
  have hff:r=false:=by rw[Hr.out];exact zgq (by rw[← Hn.out,← Hn2.out];exact hne)
  obtain⟨Hff,Hne⟩:=hd2 hff hne;clear hff hne
  go_wp2_with fail
  go_ret
  exact⟨by rw[Hff.out];rfl,Below.refl _ _⟩
 have k1:((n:Int) != (n2:Int))=false:=by simp;omega
 have Hne:=hd hne;clear hne
 go_wp2_with fail
 clear k1
 go_loopw [17] (fun i wr=>∃ k:Nat,k≤n∧i = .int .i64 k∧(∀ j (h1:j < l.length) (h2:j < m.length),j < k→g l[j] m[j]=true)∧Below w.heap.size w wr) (fun i _=>n - (RowKit.intOf i).toNat)
 case atStart=>exact⟨0,Nat.zero_le _,rfl,fun _ _ _ h=>by omega,Below.refl _ _⟩
 case round =>
  obtain⟨k,hk,rfl,hno,hbr⟩:=hrel
  by_cases hlt:k < n
  ·have hkl:k < l.length:=by have:=Hn.out;omega
   have hkm:k < m.length:=by have:=Hn2.out;have:=Hne.out;omega
   obtain⟨b,off,ecs,rfl,-,hpc,hp⟩:=Hg1.out k _ (List.getElem?_eq_getElem hkl)
   obtain⟨b2,off2,ecs2,rfl,-,hqc,hq⟩:=Hg2.out k _ (List.getElem?_eq_getElem hkm)
   obtain⟨p0,p1,pn1,pc1,rfl⟩:=Hsh.out _ _ _ hp
   obtain⟨q0,q1,qn1,qc1,rfl⟩:=Hsh.out _ _ _ hq
   have px0:=cell_later hbr (hpc 0 _ rfl)
   have px1:=cell_later hbr (hpc 1 _ rfl)
   rw[Nat.add_zero] at px0
   obtain⟨wa,hwa⟩ : ∃ W,W=wr.alloc (.cells #[.string p0,.slice p1 pn1 pc1] 68):=⟨_,rfl⟩
   obtain⟨ba,hba⟩ : ∃ z,z=wr.heap.size:=⟨_,rfl⟩
   have pa:wa.heap[ba]? = some (.cells #[.string p0,.slice p1 pn1 pc1] 68 (0,0)):=by rw[hwa,hba];exact heap_alloc_new _ _
   have hb1:Below wr.heap.size wr wa:=by rw[hwa];exact za2 _ _
   have hbr1:=hbr.trans (hb1.mono hbr.size)
   have qx0:=cell_later hbr1 (hqc 0 _ rfl)
   have qx1:=cell_later hbr1 (hqc 1 _ rfl)
   rw[Nat.add_zero] at qx0
   obtain⟨wb,hwb⟩ : ∃ W,W=wa.alloc (.cells #[.string q0,.slice q1 qn1 qc1] 68):=⟨_,rfl⟩
   obtain⟨bb,hbb⟩ : ∃ z,z=wa.heap.size:=⟨_,rfl⟩
   have pb:wb.heap[bb]? = some (.cells #[.string q0,.slice q1 qn1 qc1] 68 (0,0)):=by rw[hwb,hbb];exact heap_alloc_new _ _
   have hb2:Below wa.heap.size wa wb:=by rw[hwb];exact za2 _ _
   have hbr2:=hbr1.trans (hb2.mono hbr1.size)
   have pa2:=za1 hb2 pa
   have y0:=za0 pa2 0
   have z0:=za0 pb 0
   have y1:=za0 pa2 1
   have z1:=za0 pb 1
   simp only[List.getElem?_toArray,List.getElem?_cons_zero,List.getElem?_cons_succ] at y0 z0 y1 z1
   have hC:=Hf.out wb _ _ _ _ hbr2 (HR.out _ _ _ _ hp hbr2) (HR.out _ _ _ _ hq hbr2) (List.getElem_mem hkl) (List.getElem_mem hkm)
   have hnx:g l[k] m[k]=true→∀ j (h1:j < l.length) (h2:j < m.length),j < k+1→g l[j] m[j]=true:=fun h j h1 h2 hjk=>by
    by_cases e:j=k
    ·subst e;exact h
    exact hno j h1 h2 (by omega)
   have hbd:g l[k] m[k]=false→zen g l m=false:=fun h=>zid hkl hkm h
   obtain⟨e,he⟩ : ∃ e,e=g l[k] m[k]:=⟨_,rfl⟩
   rw[← he] at hC hnx hbd
   have k5:(0:Int)≤(k:Int):=by omega
   have k6:(k:Int) < (n:Int):=by omega
   have k7:(k:Int) < (n2:Int):=by have:=Hne.out;omega
   clear hpc hqc
   obtain⟨Hno,Hnx,Hbd,He,HC,Hpa,Hpb,Hpa2,Hb1,Hb2,Hbr,Hbr1,Hbr2,Hp,Hq⟩:=hd15 hno hnx hbd he hC pa pb pa2 hb1 hb2 hbr hbr1 hbr2 hp hq;clear hno hnx hbd he hC pa pb pa2 hb1 hb2 hbr hbr1 hbr2 hp hq
   go_upto_region 6 with (fail)
   rw[← hwa,← hba]
   clear hwa hba px0 px1
   go_upto_region 7 with (fail)
   rw[← hwb,← hbb]
   clear hwb hbb qx0 qx1
   go_wp2_with fail
   refine HC.out.mono ?_
   rintro e' w9 ⟨rfl,hb9⟩
   have hbw9:=Hbr2.out.trans (hb9.mono Hbr2.out.size)
   clear y0 z0 y1 z1
   obtain⟨Hb9,Hbw9⟩:=hd2 hb9 hbw9;clear hb9 hbw9
   cases e with
   | true =>
    have hq2:=Hnx.out rfl
    have Hq2:=hd hq2;clear hq2
    go_wp2_with fail
    go_roundw
    case rel=>exact⟨k+1,by omega,by go_num,Hq2.out,Hbw9.out⟩
    case measure=>simp[RowKit.intOf];omega
   | false =>
    have hff:r=false:=by rw[Hr.out];exact Hbd.out rfl
    have Hff:=hd hff;clear hff
    go_wp2_with fail
    go_ret
    exact⟨by rw[Hff.out];rfl,Hbw9.out⟩
  obtain rfl:n=k:=by omega
  have hff:r=true:=by
   rw[Hr.out]
   exact zfn (by rw[← Hn.out,← Hn2.out,Hne.out]) (fun j h1 h2=>hno j h1 h2 (by have:=Hn.out;omega))
  obtain⟨Hno,Hff,Hbr⟩:=hd3 hno hff hbr;clear hno hff hbr
  go_wp2_with fail
  go_ret
  exact⟨by rw[Hff.out];rfl,Hbr.out⟩
end

section
open Go.RowKit Go.Shelf Go.Lib VerN
attribute [local go_sem ↓] Go.wp_at_zero Go.wp_at_succ
def zt6 (cs:List Value):Prop:=∃ (p0:ByteArray) (p1:Option Addr) (pn1:Nat) (pc1:Nat) (p2:Option Addr) (pn2:Nat) (pc2:Nat) (p3:ByteArray) (p4:Option Addr) (pn4:Nat) (pc4:Nat) (p5:Option Addr) (pn5:Nat) (pc5:Nat) (p6:Int),cs = [.string p0,.slice p1 pn1 pc1,.slice p2 pn2 pc2,.string p3,.slice p4 pn4 pc4,.slice p5 pn5 pc5,.int .i64 p6]
theorem zun {α:Type} {R:Rd α} (hR:zfi R) (hsh:∀ W cs x,R W cs x→zt6 cs) {w:World} {v u:Value} {l m:List α} (h:zal 7 R w [v] l) (hm:zal 7 R w [u] m)
  {f:FuncId} (eg:∀ args w,(callFunc f args).run Tryz.prog w = .ok (.enter f args) w) {g:α→α→Bool}
  (hf:∀ W cs ds x y,Below w.heap.size w W→R W cs x→R W ds y→x∈l→y∈m→Calls Tryz.prog f #[.agg cs.toArray,.agg ds.toArray] W fun e w'=>e = .returned (.bool (g x y))∧Below W.heap.size W w') :
  Calls Tryz.prog 58 #[v,u,.func (.func f) #[] #[]] w fun e w'=>e = .returned (.bool (zen g l m))∧Below w.heap.size w w':=by
 obtain⟨a,cap,rfl⟩:=zb4 h
 obtain⟨a2,cap2,rfl⟩:=zb4 hm
 obtain⟨-,hz,g1⟩:=ze1 h
 obtain⟨-,hz2,g2⟩:=ze1 hm
 obtain⟨n,hn⟩ : ∃ n,n=l.length:=⟨_,rfl⟩
 obtain⟨n2,hn2⟩ : ∃ n,n=m.length:=⟨_,rfl⟩
 obtain⟨r,hr⟩ : ∃ r,r=zen g l m:=⟨_,rfl⟩
 rw[← hr]
 rw[← hn] at hz h ⊢
 rw[← hn2] at hz2 hm ⊢
 obtain⟨Hh,Hm,Hg1,Hg2,Hn,Hn2,Hr,Hf,HR,Hsh⟩:=hd10 h hm g1 g2 hn hn2 hr hf hR hsh;clear h hm g1 g2 hn hn2 hr hf hR hsh
 go_enter Tryz.func58,Tryz.ntmps58
 by_cases hne:n=n2
 case neg =>
  have k1:((n:Int) != (n2:Int))=true:=by simp;omega
  have hff:r=false:=by rw[Hr.out];exact zgq (by rw[← Hn.out,← Hn2.out];exact hne)
  obtain⟨Hff,Hne⟩:=hd2 hff hne;clear hff hne
  go_wp2_with fail
  go_ret
  exact⟨by rw[Hff.out];rfl,Below.refl _ _⟩
 have k1:((n:Int) != (n2:Int))=false:=by simp;omega
 have Hne:=hd hne;clear hne
 go_wp2_with fail
 clear k1
 go_loopw [17] (fun i wr=>∃ k:Nat,k≤n∧i = .int .i64 k∧(∀ j (h1:j < l.length) (h2:j < m.length),j < k→g l[j] m[j]=true)∧Below w.heap.size w wr) (fun i _=>n - (RowKit.intOf i).toNat)
 case atStart=>exact⟨0,Nat.zero_le _,rfl,fun _ _ _ h=>by omega,Below.refl _ _⟩
 case round =>
  obtain⟨k,hk,rfl,hno,hbr⟩:=hrel
  by_cases hlt:k < n
  ·have hkl:k < l.length:=by have:=Hn.out;omega
   have hkm:k < m.length:=by have:=Hn2.out;have:=Hne.out;omega
   obtain⟨b,off,ecs,rfl,-,hpc,hp⟩:=Hg1.out k _ (List.getElem?_eq_getElem hkl)
   obtain⟨b2,off2,ecs2,rfl,-,hqc,hq⟩:=Hg2.out k _ (List.getElem?_eq_getElem hkm)
   obtain⟨p0,p1,pn1,pc1,p2,pn2,pc2,p3,p4,pn4,pc4,p5,pn5,pc5,p6,rfl⟩:=Hsh.out _ _ _ hp
   obtain⟨q0,q1,qn1,qc1,q2,qn2,qc2,q3,q4,qn4,qc4,q5,qn5,qc5,q6,rfl⟩:=Hsh.out _ _ _ hq
   have px0:=cell_later hbr (hpc 0 _ rfl)
   have px1:=cell_later hbr (hpc 1 _ rfl)
   have px2:=cell_later hbr (hpc 2 _ rfl)
   have px3:=cell_later hbr (hpc 3 _ rfl)
   have px4:=cell_later hbr (hpc 4 _ rfl)
   have px5:=cell_later hbr (hpc 5 _ rfl)
   have px6:=cell_later hbr (hpc 6 _ rfl)
   rw[Nat.add_zero] at px0
   obtain⟨wa,hwa⟩ : ∃ W,W=wr.alloc (.cells #[.string p0,.slice p1 pn1 pc1,.slice p2 pn2 pc2,.string p3,.slice p4 pn4 pc4,.slice p5 pn5 pc5,.int .i64 p6] 96):=⟨_,rfl⟩
   obtain⟨ba,hba⟩ : ∃ z,z=wr.heap.size:=⟨_,rfl⟩
   have pa:wa.heap[ba]? = some (.cells #[.string p0,.slice p1 pn1 pc1,.slice p2 pn2 pc2,.string p3,.slice p4 pn4 pc4,.slice p5 pn5 pc5,.int .i64 p6] 96 (0,0)):=by rw[hwa,hba];exact heap_alloc_new _ _
   have hb1:Below wr.heap.size wr wa:=by rw[hwa];exact za2 _ _
   have hbr1:=hbr.trans (hb1.mono hbr.size)
   have qx0:=cell_later hbr1 (hqc 0 _ rfl)
   have qx1:=cell_later hbr1 (hqc 1 _ rfl)
   have qx2:=cell_later hbr1 (hqc 2 _ rfl)
   have qx3:=cell_later hbr1 (hqc 3 _ rfl)
   have qx4:=cell_later hbr1 (hqc 4 _ rfl)
   have qx5:=cell_later hbr1 (hqc 5 _ rfl)
   have qx6:=cell_later hbr1 (hqc 6 _ rfl)
   rw[Nat.add_zero] at qx0
   obtain⟨wb,hwb⟩ : ∃ W,W=wa.alloc (.cells #[.string q0,.slice q1 qn1 qc1,.slice q2 qn2 qc2,.string q3,.slice q4 qn4 qc4,.slice q5 qn5 qc5,.int .i64 q6] 96):=⟨_,rfl⟩
   obtain⟨bb,hbb⟩ : ∃ z,z=wa.heap.size:=⟨_,rfl⟩
   have pb:wb.heap[bb]? = some (.cells #[.string q0,.slice q1 qn1 qc1,.slice q2 qn2 qc2,.string q3,.slice q4 qn4 qc4,.slice q5 qn5 qc5,.int .i64 q6] 96 (0,0)):=by rw[hwb,hbb];exact heap_alloc_new _ _
   have hb2:Below wa.heap.size wa wb:=by rw[hwb];exact za2 _ _
   have hbr2:=hbr1.trans (hb2.mono hbr1.size)
   have pa2:=za1 hb2 pa
   have y0:=za0 pa2 0
   have z0:=za0 pb 0
   have y1:=za0 pa2 1
   have z1:=za0 pb 1
   have y2:=za0 pa2 2
   have z2:=za0 pb 2
   have y3:=za0 pa2 3
   have z3:=za0 pb 3
   have y4:=za0 pa2 4
   have z4:=za0 pb 4
   have y5:=za0 pa2 5
   have z5:=za0 pb 5
   have y6:=za0 pa2 6
   have z6:=za0 pb 6
   simp only[List.getElem?_toArray,List.getElem?_cons_zero,List.getElem?_cons_succ] at y0 z0 y1 z1 y2 z2 y3 z3 y4 z4 y5 z5 y6 z6
   have hC:=Hf.out wb _ _ _ _ hbr2 (HR.out _ _ _ _ hp hbr2) (HR.out _ _ _ _ hq hbr2) (List.getElem_mem hkl) (List.getElem_mem hkm)
   have hnx:g l[k] m[k]=true→∀ j (h1:j < l.length) (h2:j < m.length),j < k+1→g l[j] m[j]=true:=fun h j h1 h2 hjk=>by
    by_cases e:j=k
    ·subst e;exact h
    exact hno j h1 h2 (by omega)
   have hbd:g l[k] m[k]=false→zen g l m=false:=fun h=>zid hkl hkm h
   obtain⟨e,he⟩ : ∃ e,e=g l[k] m[k]:=⟨_,rfl⟩
   rw[← he] at hC hnx hbd
   have k5:(0:Int)≤(k:Int):=by omega
   have k6:(k:Int) < (n:Int):=by omega
   have k7:(k:Int) < (n2:Int):=by have:=Hne.out;omega
   clear hpc hqc
   obtain⟨Hno,Hnx,Hbd,He,HC,Hpa,Hpb,Hpa2,Hb1,Hb2,Hbr,Hbr1,Hbr2,Hp,Hq⟩:=hd15 hno hnx hbd he hC pa pb pa2 hb1 hb2 hbr hbr1 hbr2 hp hq;clear hno hnx hbd he hC pa pb pa2 hb1 hb2 hbr hbr1 hbr2 hp hq
   go_upto_region 6 with (fail)
   rw[← hwa,← hba]
   clear hwa hba px0 px1 px2 px3 px4 px5 px6
   go_upto_region 7 with (fail)
   rw[← hwb,← hbb]
   clear hwb hbb qx0 qx1 qx2 qx3 qx4 qx5 qx6
   go_wp2_with fail
   refine HC.out.mono ?_
   rintro e' w9 ⟨rfl,hb9⟩
   have hbw9:=Hbr2.out.trans (hb9.mono Hbr2.out.size)
   clear y0 z0 y1 z1 y2 z2 y3 z3 y4 z4 y5 z5 y6 z6
   obtain⟨Hb9,Hbw9⟩:=hd2 hb9 hbw9;clear hb9 hbw9
   cases e with
   | true =>
    have hq2:=Hnx.out rfl
    have Hq2:=hd hq2;clear hq2
    go_wp2_with fail
    go_roundw
    case rel=>exact⟨k+1,by omega,by go_num,Hq2.out,Hbw9.out⟩
    case measure=>simp[RowKit.intOf];omega
   | false =>
    have hff:r=false:=by rw[Hr.out];exact Hbd.out rfl
    have Hff:=hd hff;clear hff
    go_wp2_with fail
    go_ret
    exact⟨by rw[Hff.out];rfl,Hbw9.out⟩
  obtain rfl:n=k:=by omega
  have hff:r=true:=by
   rw[Hr.out]
   exact zfn (by rw[← Hn.out,← Hn2.out,Hne.out]) (fun j h1 h2=>hno j h1 h2 (by have:=Hn.out;omega))
  obtain⟨Hno,Hff,Hbr⟩:=hd3 hno hff hbr;clear hno hff hbr
  go_wp2_with fail
  go_ret
  exact⟨by rw[Hff.out];rfl,Hbr.out⟩
end

section
open Go.RowKit Go.Shelf Go.Lib VerN
attribute [local go_sem ↓] Go.wp_at_zero Go.wp_at_succ
def zpt (cs:List Value):Prop:=∃ (p0:ByteArray) (p1:Option Addr) (pn1:Nat) (pc1:Nat) (p2:Option Addr) (pn2:Nat) (pc2:Nat) (p3:ByteArray) (p4:Option Addr) (pn4:Nat) (pc4:Nat) (p5:Option Addr) (pn5:Nat) (pc5:Nat) (p6:Int),cs = [.string p0,.slice p1 pn1 pc1,.slice p2 pn2 pc2,.string p3,.slice p4 pn4 pc4,.slice p5 pn5 pc5,.int .i64 p6]
theorem zr8 {α:Type} {R:Rd α} (hR:zfi R) (hsh:∀ W cs x,R W cs x→zpt cs) {w:World} {v u:Value} {l m:List α} (h:zal 7 R w [v] l) (hm:zal 7 R w [u] m)
  {f:FuncId} (eg:∀ args w,(callFunc f args).run Tryz.prog w = .ok (.enter f args) w) {g:α→α→Bool}
  (hf:∀ W cs ds x y,Below w.heap.size w W→R W cs x→R W ds y→x∈l→y∈m→Calls Tryz.prog f #[.agg cs.toArray,.agg ds.toArray] W fun e w'=>e = .returned (.bool (g x y))∧Below W.heap.size W w') :
  Calls Tryz.prog 61 #[v,u,.func (.func f) #[] #[]] w fun e w'=>e = .returned (.bool (zen g l m))∧Below w.heap.size w w':=by
 obtain⟨a,cap,rfl⟩:=zb4 h
 obtain⟨a2,cap2,rfl⟩:=zb4 hm
 obtain⟨-,hz,g1⟩:=ze1 h
 obtain⟨-,hz2,g2⟩:=ze1 hm
 obtain⟨n,hn⟩ : ∃ n,n=l.length:=⟨_,rfl⟩
 obtain⟨n2,hn2⟩ : ∃ n,n=m.length:=⟨_,rfl⟩
 obtain⟨r,hr⟩ : ∃ r,r=zen g l m:=⟨_,rfl⟩
 rw[← hr]
 rw[← hn] at hz h ⊢
 rw[← hn2] at hz2 hm ⊢
 obtain⟨Hh,Hm,Hg1,Hg2,Hn,Hn2,Hr,Hf,HR,Hsh⟩:=hd10 h hm g1 g2 hn hn2 hr hf hR hsh;clear h hm g1 g2 hn hn2 hr hf hR hsh
 go_enter Tryz.func61,Tryz.ntmps61
 by_cases hne:n=n2
 case neg =>
  have k1:((n:Int) != (n2:Int))=true:=by simp;omega
  have hff:r=false:=by rw[Hr.out];exact zgq (by rw[← Hn.out,← Hn2.out];exact hne)
  obtain⟨Hff,Hne⟩:=hd2 hff hne;clear hff hne
  go_wp2_with fail
  go_ret
  exact⟨by rw[Hff.out];rfl,Below.refl _ _⟩
 have k1:((n:Int) != (n2:Int))=false:=by simp;omega
 have Hne:=hd hne;clear hne
 go_wp2_with fail
 clear k1
 go_loopw [17] (fun i wr=>∃ k:Nat,k≤n∧i = .int .i64 k∧(∀ j (h1:j < l.length) (h2:j < m.length),j < k→g l[j] m[j]=true)∧Below w.heap.size w wr) (fun i _=>n - (RowKit.intOf i).toNat)
 case atStart=>exact⟨0,Nat.zero_le _,rfl,fun _ _ _ h=>by omega,Below.refl _ _⟩
 case round =>
  obtain⟨k,hk,rfl,hno,hbr⟩:=hrel
  by_cases hlt:k < n
  ·have hkl:k < l.length:=by have:=Hn.out;omega
   have hkm:k < m.length:=by have:=Hn2.out;have:=Hne.out;omega
   obtain⟨b,off,ecs,rfl,-,hpc,hp⟩:=Hg1.out k _ (List.getElem?_eq_getElem hkl)
   obtain⟨b2,off2,ecs2,rfl,-,hqc,hq⟩:=Hg2.out k _ (List.getElem?_eq_getElem hkm)
   obtain⟨p0,p1,pn1,pc1,p2,pn2,pc2,p3,p4,pn4,pc4,p5,pn5,pc5,p6,rfl⟩:=Hsh.out _ _ _ hp
   obtain⟨q0,q1,qn1,qc1,q2,qn2,qc2,q3,q4,qn4,qc4,q5,qn5,qc5,q6,rfl⟩:=Hsh.out _ _ _ hq
   have px0:=cell_later hbr (hpc 0 _ rfl)
   have px1:=cell_later hbr (hpc 1 _ rfl)
   have px2:=cell_later hbr (hpc 2 _ rfl)
   have px3:=cell_later hbr (hpc 3 _ rfl)
   have px4:=cell_later hbr (hpc 4 _ rfl)
   have px5:=cell_later hbr (hpc 5 _ rfl)
   have px6:=cell_later hbr (hpc 6 _ rfl)
   rw[Nat.add_zero] at px0
   obtain⟨wa,hwa⟩ : ∃ W,W=wr.alloc (.cells #[.string p0,.slice p1 pn1 pc1,.slice p2 pn2 pc2,.string p3,.slice p4 pn4 pc4,.slice p5 pn5 pc5,.int .i64 p6] 98):=⟨_,rfl⟩
   obtain⟨ba,hba⟩ : ∃ z,z=wr.heap.size:=⟨_,rfl⟩
   have pa:wa.heap[ba]? = some (.cells #[.string p0,.slice p1 pn1 pc1,.slice p2 pn2 pc2,.string p3,.slice p4 pn4 pc4,.slice p5 pn5 pc5,.int .i64 p6] 98 (0,0)):=by rw[hwa,hba];exact heap_alloc_new _ _
   have hb1:Below wr.heap.size wr wa:=by rw[hwa];exact za2 _ _
   have hbr1:=hbr.trans (hb1.mono hbr.size)
   have qx0:=cell_later hbr1 (hqc 0 _ rfl)
   have qx1:=cell_later hbr1 (hqc 1 _ rfl)
   have qx2:=cell_later hbr1 (hqc 2 _ rfl)
   have qx3:=cell_later hbr1 (hqc 3 _ rfl)
   have qx4:=cell_later hbr1 (hqc 4 _ rfl)
   have qx5:=cell_later hbr1 (hqc 5 _ rfl)
   have qx6:=cell_later hbr1 (hqc 6 _ rfl)
   rw[Nat.add_zero] at qx0
   obtain⟨wb,hwb⟩ : ∃ W,W=wa.alloc (.cells #[.string q0,.slice q1 qn1 qc1,.slice q2 qn2 qc2,.string q3,.slice q4 qn4 qc4,.slice q5 qn5 qc5,.int .i64 q6] 98):=⟨_,rfl⟩
   obtain⟨bb,hbb⟩ : ∃ z,z=wa.heap.size:=⟨_,rfl⟩
   have pb:wb.heap[bb]? = some (.cells #[.string q0,.slice q1 qn1 qc1,.slice q2 qn2 qc2,.string q3,.slice q4 qn4 qc4,.slice q5 qn5 qc5,.int .i64 q6] 98 (0,0)):=by rw[hwb,hbb];exact heap_alloc_new _ _
   have hb2:Below wa.heap.size wa wb:=by rw[hwb];exact za2 _ _
   have hbr2:=hbr1.trans (hb2.mono hbr1.size)
   have pa2:=za1 hb2 pa
   have y0:=za0 pa2 0
   have z0:=za0 pb 0
   have y1:=za0 pa2 1
   have z1:=za0 pb 1
   have y2:=za0 pa2 2
   have z2:=za0 pb 2
   have y3:=za0 pa2 3
   have z3:=za0 pb 3
   have y4:=za0 pa2 4
   have z4:=za0 pb 4
   have y5:=za0 pa2 5
   have z5:=za0 pb 5
   have y6:=za0 pa2 6
   have z6:=za0 pb 6
   simp only[List.getElem?_toArray,List.getElem?_cons_zero,List.getElem?_cons_succ] at y0 z0 y1 z1 y2 z2 y3 z3 y4 z4 y5 z5 y6 z6
   have hC:=Hf.out wb _ _ _ _ hbr2 (HR.out _ _ _ _ hp hbr2) (HR.out _ _ _ _ hq hbr2) (List.getElem_mem hkl) (List.getElem_mem hkm)
   have hnx:g l[k] m[k]=true→∀ j (h1:j < l.length) (h2:j < m.length),j < k+1→g l[j] m[j]=true:=fun h j h1 h2 hjk=>by
    by_cases e:j=k
    ·subst e;exact h
    exact hno j h1 h2 (by omega)
   have hbd:g l[k] m[k]=false→zen g l m=false:=fun h=>zid hkl hkm h
   obtain⟨e,he⟩ : ∃ e,e=g l[k] m[k]:=⟨_,rfl⟩
   rw[← he] at hC hnx hbd
   have k5:(0:Int)≤(k:Int):=by omega
   have k6:(k:Int) < (n:Int):=by omega
   have k7:(k:Int) < (n2:Int):=by have:=Hne.out;omega
   clear hpc hqc
   obtain⟨Hno,Hnx,Hbd,He,HC,Hpa,Hpb,Hpa2,Hb1,Hb2,Hbr,Hbr1,Hbr2,Hp,Hq⟩:=hd15 hno hnx hbd he hC pa pb pa2 hb1 hb2 hbr hbr1 hbr2 hp hq;clear hno hnx hbd he hC pa pb pa2 hb1 hb2 hbr hbr1 hbr2 hp hq
   go_upto_region 6 with (fail)
   rw[← hwa,← hba]
   clear hwa hba px0 px1 px2 px3 px4 px5 px6
   go_upto_region 7 with (fail)
   rw[← hwb,← hbb]
   clear hwb hbb qx0 qx1 qx2 qx3 qx4 qx5 qx6
   go_wp2_with fail
   refine HC.out.mono ?_
   rintro e' w9 ⟨rfl,hb9⟩
   have hbw9:=Hbr2.out.trans (hb9.mono Hbr2.out.size)
   clear y0 z0 y1 z1 y2 z2 y3 z3 y4 z4 y5 z5 y6 z6
   obtain⟨Hb9,Hbw9⟩:=hd2 hb9 hbw9;clear hb9 hbw9
   cases e with
   | true =>
    have hq2:=Hnx.out rfl
    have Hq2:=hd hq2;clear hq2
    go_wp2_with fail
    go_roundw
    case rel=>exact⟨k+1,by omega,by go_num,Hq2.out,Hbw9.out⟩
    case measure=>simp[RowKit.intOf];omega
   | false =>
    have hff:r=false:=by rw[Hr.out];exact Hbd.out rfl
    have Hff:=hd hff;clear hff
    go_wp2_with fail
    go_ret
    exact⟨by rw[Hff.out];rfl,Hbw9.out⟩
  obtain rfl:n=k:=by omega
  have hff:r=true:=by
   rw[Hr.out]
   exact zfn (by rw[← Hn.out,← Hn2.out,Hne.out]) (fun j h1 h2=>hno j h1 h2 (by have:=Hn.out;omega))
  obtain⟨Hno,Hff,Hbr⟩:=hd3 hno hff hbr;clear hno hff hbr
  go_wp2_with fail
  go_ret
  exact⟨by rw[Hff.out];rfl,Hbr.out⟩
end

section
open Go.RowKit Go.Shelf Go.Lib VerN
attribute [local go_sem ↓] Go.wp_at_zero Go.wp_at_succ
def zps (cs:List Value):Prop:=∃ (p0:ByteArray) (p1:Option Addr) (pn1:Nat) (pc1:Nat) (p2:Int),cs = [.string p0,.slice p1 pn1 pc1,.int .i64 p2]
theorem zr7 {α:Type} {R:Rd α} (hR:zfi R) (hsh:∀ W cs x,R W cs x→zps cs) {w:World} {v u:Value} {l m:List α} (h:zal 3 R w [v] l) (hm:zal 3 R w [u] m)
  {f:FuncId} (eg:∀ args w,(callFunc f args).run Tryz.prog w = .ok (.enter f args) w) {g:α→α→Bool}
  (hf:∀ W cs ds x y,Below w.heap.size w W→R W cs x→R W ds y→x∈l→y∈m→Calls Tryz.prog f #[.agg cs.toArray,.agg ds.toArray] W fun e w'=>e = .returned (.bool (g x y))∧Below W.heap.size W w') :
  Calls Tryz.prog 30 #[v,u,.func (.func f) #[] #[]] w fun e w'=>e = .returned (.bool (zen g l m))∧Below w.heap.size w w':=by
 obtain⟨a,cap,rfl⟩:=zb4 h
 obtain⟨a2,cap2,rfl⟩:=zb4 hm
 obtain⟨-,hz,g1⟩:=ze1 h
 obtain⟨-,hz2,g2⟩:=ze1 hm
 obtain⟨n,hn⟩ : ∃ n,n=l.length:=⟨_,rfl⟩
 obtain⟨n2,hn2⟩ : ∃ n,n=m.length:=⟨_,rfl⟩
 obtain⟨r,hr⟩ : ∃ r,r=zen g l m:=⟨_,rfl⟩
 rw[← hr]
 rw[← hn] at hz h ⊢
 rw[← hn2] at hz2 hm ⊢
 obtain⟨Hh,Hm,Hg1,Hg2,Hn,Hn2,Hr,Hf,HR,Hsh⟩:=hd10 h hm g1 g2 hn hn2 hr hf hR hsh;clear h hm g1 g2 hn hn2 hr hf hR hsh
 go_enter Tryz.func30,Tryz.ntmps30
 by_cases hne:n=n2
 case neg =>
  have k1:((n:Int) != (n2:Int))=true:=by simp;omega
  have hff:r=false:=by rw[Hr.out];exact zgq (by rw[← Hn.out,← Hn2.out];exact hne)
  obtain⟨Hff,Hne⟩:=hd2 hff hne;clear hff hne
  go_wp2_with fail
  go_ret
  exact⟨by rw[Hff.out];rfl,Below.refl _ _⟩
 have k1:((n:Int) != (n2:Int))=false:=by simp;omega
 have Hne:=hd hne;clear hne
 go_wp2_with fail
 clear k1
 go_loopw [17] (fun i wr=>∃ k:Nat,k≤n∧i = .int .i64 k∧(∀ j (h1:j < l.length) (h2:j < m.length),j < k→g l[j] m[j]=true)∧Below w.heap.size w wr) (fun i _=>n - (RowKit.intOf i).toNat)
 case atStart=>exact⟨0,Nat.zero_le _,rfl,fun _ _ _ h=>by omega,Below.refl _ _⟩
 case round =>
  obtain⟨k,hk,rfl,hno,hbr⟩:=hrel
  by_cases hlt:k < n
  ·have hkl:k < l.length:=by have:=Hn.out;omega
   have hkm:k < m.length:=by have:=Hn2.out;have:=Hne.out;omega
   obtain⟨b,off,ecs,rfl,-,hpc,hp⟩:=Hg1.out k _ (List.getElem?_eq_getElem hkl)
   obtain⟨b2,off2,ecs2,rfl,-,hqc,hq⟩:=Hg2.out k _ (List.getElem?_eq_getElem hkm)
   obtain⟨p0,p1,pn1,pc1,p2,rfl⟩:=Hsh.out _ _ _ hp
   obtain⟨q0,q1,qn1,qc1,q2,rfl⟩:=Hsh.out _ _ _ hq
   have px0:=cell_later hbr (hpc 0 _ rfl)
   have px1:=cell_later hbr (hpc 1 _ rfl)
   have px2:=cell_later hbr (hpc 2 _ rfl)
   rw[Nat.add_zero] at px0
   obtain⟨wa,hwa⟩ : ∃ W,W=wr.alloc (.cells #[.string p0,.slice p1 pn1 pc1,.int .i64 p2] 47):=⟨_,rfl⟩
   obtain⟨ba,hba⟩ : ∃ z,z=wr.heap.size:=⟨_,rfl⟩
   have pa:wa.heap[ba]? = some (.cells #[.string p0,.slice p1 pn1 pc1,.int .i64 p2] 47 (0,0)):=by rw[hwa,hba];exact heap_alloc_new _ _
   have hb1:Below wr.heap.size wr wa:=by rw[hwa];exact za2 _ _
   have hbr1:=hbr.trans (hb1.mono hbr.size)
   have qx0:=cell_later hbr1 (hqc 0 _ rfl)
   have qx1:=cell_later hbr1 (hqc 1 _ rfl)
   have qx2:=cell_later hbr1 (hqc 2 _ rfl)
   rw[Nat.add_zero] at qx0
   obtain⟨wb,hwb⟩ : ∃ W,W=wa.alloc (.cells #[.string q0,.slice q1 qn1 qc1,.int .i64 q2] 47):=⟨_,rfl⟩
   obtain⟨bb,hbb⟩ : ∃ z,z=wa.heap.size:=⟨_,rfl⟩
   have pb:wb.heap[bb]? = some (.cells #[.string q0,.slice q1 qn1 qc1,.int .i64 q2] 47 (0,0)):=by rw[hwb,hbb];exact heap_alloc_new _ _
   have hb2:Below wa.heap.size wa wb:=by rw[hwb];exact za2 _ _
   have hbr2:=hbr1.trans (hb2.mono hbr1.size)
   have pa2:=za1 hb2 pa
   have y0:=za0 pa2 0
   have z0:=za0 pb 0
   have y1:=za0 pa2 1
   have z1:=za0 pb 1
   have y2:=za0 pa2 2
   have z2:=za0 pb 2
   simp only[List.getElem?_toArray,List.getElem?_cons_zero,List.getElem?_cons_succ] at y0 z0 y1 z1 y2 z2
   have hC:=Hf.out wb _ _ _ _ hbr2 (HR.out _ _ _ _ hp hbr2) (HR.out _ _ _ _ hq hbr2) (List.getElem_mem hkl) (List.getElem_mem hkm)
   have hnx:g l[k] m[k]=true→∀ j (h1:j < l.length) (h2:j < m.length),j < k+1→g l[j] m[j]=true:=fun h j h1 h2 hjk=>by
    by_cases e:j=k
    ·subst e;exact h
    exact hno j h1 h2 (by omega)
   have hbd:g l[k] m[k]=false→zen g l m=false:=fun h=>zid hkl hkm h
   obtain⟨e,he⟩ : ∃ e,e=g l[k] m[k]:=⟨_,rfl⟩
   rw[← he] at hC hnx hbd
   have k5:(0:Int)≤(k:Int):=by omega
   have k6:(k:Int) < (n:Int):=by omega
   have k7:(k:Int) < (n2:Int):=by have:=Hne.out;omega
   clear hpc hqc
   obtain⟨Hno,Hnx,Hbd,He,HC,Hpa,Hpb,Hpa2,Hb1,Hb2,Hbr,Hbr1,Hbr2,Hp,Hq⟩:=hd15 hno hnx hbd he hC pa pb pa2 hb1 hb2 hbr hbr1 hbr2 hp hq;clear hno hnx hbd he hC pa pb pa2 hb1 hb2 hbr hbr1 hbr2 hp hq
   go_upto_region 6 with (fail)
   rw[← hwa,← hba]
   clear hwa hba px0 px1 px2
   go_upto_region 7 with (fail)
   rw[← hwb,← hbb]
   clear hwb hbb qx0 qx1 qx2
   go_wp2_with fail
   refine HC.out.mono ?_
   rintro e' w9 ⟨rfl,hb9⟩
   have hbw9:=Hbr2.out.trans (hb9.mono Hbr2.out.size)
   clear y0 z0 y1 z1 y2 z2
   obtain⟨Hb9,Hbw9⟩:=hd2 hb9 hbw9;clear hb9 hbw9
   cases e with
   | true =>
    have hq2:=Hnx.out rfl
    have Hq2:=hd hq2;clear hq2
    go_wp2_with fail
    go_roundw
    case rel=>exact⟨k+1,by omega,by go_num,Hq2.out,Hbw9.out⟩
    case measure=>simp[RowKit.intOf];omega
   | false =>
    have hff:r=false:=by rw[Hr.out];exact Hbd.out rfl
    have Hff:=hd hff;clear hff
    go_wp2_with fail
    go_ret
    exact⟨by rw[Hff.out];rfl,Hbw9.out⟩
  obtain rfl:n=k:=by omega
  have hff:r=true:=by
   rw[Hr.out]
   exact zfn (by rw[← Hn.out,← Hn2.out,Hne.out]) (fun j h1 h2=>hno j h1 h2 (by have:=Hn.out;omega))
  obtain⟨Hno,Hff,Hbr⟩:=hd3 hno hff hbr;clear hno hff hbr
  go_wp2_with fail
  go_ret
  exact⟨by rw[Hff.out];rfl,Hbr.out⟩
end
end Go.Proofs.YthgibhhbmmkjmaaGreatDoor
