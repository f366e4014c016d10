/- Walks and plain facts. Texts merged: RqU, RqW, RtB, EqfRoot, RtC, RqX, RqY. Condition: none beyond what each says. -/
import Derived.Test.YteailgjiifdgcaaGreatDoorRequestTextsAll13
set_option linter.unusedVariables false
set_option linter.unusedSimpArgs false
set_option maxRecDepth 10000
set_option maxHeartbeats 4000000
namespace Go.Proofs.YteailgjiifdgcaaGreatDoor
section
open Go.Shelf Go.RowKit Go.Lib VerN VarM
open LexM (Wd Ln zfs)
attribute [local go_sem ↓] Go.wp_at_zero Go.wp_at_succ
def zme (w:World) (r:ztt) (e:Ending) (w':World):Prop:=∃ v,e = .returned (.agg #[v,.int .i64 r.at1,.int .i64 r.at2,.int .i64 r.e])∧zdo w' [v] r.roots∧Below w.heap.size w w'
abbrev R8Box (k:Nat) (v:Value) (x y z:Int) (W:World):Prop:=W.heap[k]? = some (.cells #[v,.int .i64 x,.int .i64 y,.int .i64 z] 45 (0,0))
theorem zjc {k:Nat} {v:Value} {x y z:Int} {W:World} (h:R8Box k v x y z W):(W.cell? ⟨k,0,none⟩=some v∧W.cell? ⟨k,1,none⟩=some (.int .i64 x)∧W.cell? ⟨k,2,none⟩=some (.int .i64 y)∧W.cell? ⟨k,3,none⟩=some (.int .i64 z))∧W.frozen? ⟨k,0,none⟩=false∧W.frozen? ⟨k,1,none⟩=false∧W.frozen? ⟨k,2,none⟩=false∧W.frozen? ⟨k,3,none⟩=false:=⟨⟨za4 h 0,za4 h 1,za4 h 2,za4 h 3⟩,za9 h 0,za9 h 1,za9 h 2,za9 h 3⟩
abbrev L5Box (k:Nat) (v:Value) (x y z:Int) (W:World):Prop:=W.heap[k]? = some (.cells #[v,.int .i64 x,.int .i64 y,.int .i64 z] 58 (0,0))
theorem zji {k:Nat} {v:Value} {x y z:Int} {W:World} (h:L5Box k v x y z W):W.cell? ⟨k,0,none⟩=some v∧W.cell? ⟨k,1,none⟩=some (.int .i64 x)∧W.cell? ⟨k,2,none⟩=some (.int .i64 y)∧W.cell? ⟨k,3,none⟩=some (.int .i64 z):=⟨za4 h 0,za4 h 1,za4 h 2,za4 h 3⟩
theorem zn0 {w W:World} {g:Nat} {v v':Value} {x y z x' y' z':Int} (hwg:w.heap.size≤g) (h:R8Box g v x y z W) (hb:Below w.heap.size w W):R8Box g v' x' y' z' ((((W.setCell ⟨g,0,none⟩ v').setCell ⟨g,1,none⟩ (.int .i64 x')).setCell ⟨g,2,none⟩ (.int .i64 y')).setCell ⟨g,3,none⟩ (.int .i64 z'))∧Below w.heap.size w ((((W.setCell ⟨g,0,none⟩ v').setCell ⟨g,1,none⟩ (.int .i64 x')).setCell ⟨g,2,none⟩ (.int .i64 y')).setCell ⟨g,3,none⟩ (.int .i64 z'))∧Frm (fun k=>k=g) W ((((W.setCell ⟨g,0,none⟩ v').setCell ⟨g,1,none⟩ (.int .i64 x')).setCell ⟨g,2,none⟩ (.int .i64 y')).setCell ⟨g,3,none⟩ (.int .i64 z')):=by
 have k0:=heap_setCell_same W g 0 _ _ v' h
 have k1:=heap_setCell_same _ g 1 _ _ (.int .i64 x') k0
 have k2:=heap_setCell_same _ g 2 _ _ (.int .i64 y') k1
 have k3:=heap_setCell_same _ g 3 _ _ (.int .i64 z') k2
 exact⟨k3,(((hb.setCell (p:=⟨g,0,none⟩) hwg _).setCell (p:=⟨g,1,none⟩) hwg _).setCell (p:=⟨g,2,none⟩) hwg _).setCell (p:=⟨g,3,none⟩) hwg _,zaa (zaa (zaa (zaa (Frm.refl _ _) 0 _) 1 _) 2 _) 3 _⟩
theorem zr2 (t:ByteArray) (ht:t.size≤140737488351232) {w:World}:Calls Tryz.prog 29 #[.string t] w (zme w (zf0 t.data.toList)):=by
 have hgood:=LexM.doc_good7 t.data.toList
 have hL:=fun (W:World)=>zps t (by omega) W
 obtain⟨R,hR⟩ : ∃ R,R=LexM.docLines t.data.toList:=⟨_,rfl⟩
 have hreq:zf0 t.data.toList=if R.e=0 then ze0 R.lines [] else ⟨[],R.at1,R.at2,R.e⟩:=by unfold zf0;rw[hR]
 rw[← hR] at hL hgood
 have hlen:t.data.toList.length=t.size:=Txt.len t
 obtain⟨g,hg⟩ : ∃ g,g=w.heap.size:=⟨_,rfl⟩
 obtain⟨W1,hW1⟩ : ∃ W,W=w.alloc (.cells #[.slice none 0 0,.int .i64 0,.int .i64 0,.int .i64 0] 45):=⟨_,rfl⟩
 have hb1:Below w.heap.size w W1:=by rw[hW1];exact za2 _ _
 have p0:R8Box g (.slice none 0 0) 0 0 0 W1:=by rw[hW1,hg];exact heap_alloc_new _ _
 have hs1:W1.heap.size=g+1:=by rw[hW1,hg];simp
 have hwg:w.heap.size≤g:=Nat.le_of_eq hg.symm
 have hL1:=hL W1
 unfold zo1 at hL1
 obtain⟨a1,ha1⟩ : ∃ z,z=R.at1:=⟨_,rfl⟩
 obtain⟨a2,ha2⟩ : ∃ z,z=R.at2:=⟨_,rfl⟩
 obtain⟨er,her⟩ : ∃ z,z=R.e:=⟨_,rfl⟩
 obtain⟨ls,hls⟩ : ∃ z,z=R.lines:=⟨_,rfl⟩
 rw[← ha1,← ha2,← her,← hls] at hL1 hreq
 rw[← hls] at hgood
 clear hL
 obtain⟨Hgood,Hreq,HL1,Hb1,Hp0,HR,Hlen,Ha1,Ha2,Her,Hls⟩:=hd11 hgood hreq hL1 hb1 p0 hR hlen ha1 ha2 her hls;clear hgood hreq hL1 hb1 p0 hR hlen ha1 ha2 her hls
 go_enter Tryz.func29,Tryz.ntmps29
 go_upto_region 1 with (fail)
 rw[← hW1,← hg]
 clear hW1 hg
 go_wp2_with fail
 refine HL1.out.mono ?_
 rintro e w2 ⟨v,rfl,hln,hb2⟩
 obtain⟨ad,cp,rfl⟩ : ∃ a c,v = .slice a ls.length c:=by
  obtain⟨a,cap,hv,_⟩:=hln
  simp only[List.cons.injEq,and_true] at hv
  exact⟨a,cap,hv⟩
 obtain⟨n,hn⟩ : ∃ n,n=ls.length:=⟨_,rfl⟩
 rw[← hn] at hln ⊢
 obtain⟨lb,hlb⟩ : ∃ z,z=w2.heap.size:=⟨_,rfl⟩
 obtain⟨w3,hw3⟩ : ∃ W,W=w2.alloc (.cells #[.slice ad n cp,.int .i64 a1,.int .i64 a2,.int .i64 er] 58):=⟨_,rfl⟩
 have hb23:Below w2.heap.size w2 w3:=by rw[hw3];exact za2 _ _
 have hb13:=hb2.trans (hb23.mono hb2.size)
 have hb3:=Hb1.out.trans (hb13.mono Hb1.out.size)
 have p6:L5Box lb (.slice ad n cp) a1 a2 er w3:=by rw[hw3,hlb];exact heap_alloc_new _ _
 have hlg:g < lb:=by have:=hb2.size;omega
 have hs3:w3.heap.size=lb+1:=by rw[hw3,hlb];simp
 have p0':=za0 hb13 Hp0.out
 have hln3:=zhg _ _ _ _ hln hb23
 obtain⟨x0,x1,x2,x3⟩:=zji p6
 obtain⟨⟨r0,r1,r2,r3⟩,f0,f1,f2,f3⟩:=zjc p0'
 by_cases he:er=0
 ·have k1:(er != 0)=false:=by rw[he];rfl
  have hq:=Hreq.out
  rw[if_pos he] at hq
  obtain⟨q,hqq⟩ : ∃ q,q=w3.heap.size:=⟨_,rfl⟩
  obtain⟨w4,hw4⟩ : ∃ W,W=w3.alloc (.cells #[.slice none 0 0] 38):=⟨_,rfl⟩
  have hI0:RqSt w3 q [] [] (.slice none 0 0) w4:=⟨by rw[hw4,hqq];exact heap_alloc_new _ _,World.ownsRow_nil _ _ _ _,rfl,(fun i cs x h=>by simp at h),by rw[hw4];exact za2 _ _⟩
  have hn1:n≤70001:=by have:=Hgood.out.2;omega
  have hlow:w3.heap.size≤q:=Nat.le_of_eq hqq.symm
  have z6:=za0 hI0.bel p6
  obtain⟨x4,-,-,-⟩:=zji z6
  clear f0 f1 f2 f3 r0 r1 r2 r3
  obtain⟨Hln,Hb2,Hb23,Hb13,Hb3,Hp6,Hp0',Hln3,Hn,Hq,He,HI0,Hs3,Hz6⟩:=hd14 hln hb2 hb23 hb13 hb3 p6 p0' hln3 hn hq he hI0 hs3 z6;clear hln hb2 hb23 hb13 hb3 p6 p0' hln3 hn hq he hI0 hs3 z6
  go_upto_region 2 with (fail)
  rw[← hw3,← hlb]
  clear hw3 hlb
  go_upto_region 5 with (fail)
  rw[← hw4,← hqq]
  clear hw4 hqq
  go_wp2_with fail
  clear x0 x1 x2 x3 x4
  go_loopw [22] (fun v wr=>∃ (k:Nat) (rs:List Rt) (css:List (List Value)) (u:Value),k≤n∧v = .int .i64 k∧RqSt w3 q rs css u wr∧rs.length=k∧zf0 t.data.toList=ze0 (ls.drop k) rs) (fun v _=>n - (RowKit.intOf v).toNat)
  case atStart=>exact⟨0,[],[],_,Nat.zero_le _,rfl,HI0.out,rfl,by rw[List.drop_zero];exact Hq.out⟩
  case round =>
   obtain⟨wo,hwo⟩ : ∃ W,W=wr:=⟨_,rfl⟩
   rw[← hwo] at hrel ⊢
   clear hwo wr
   obtain⟨k,rs,css,u,hk,rfl,hI,hrk,hgo⟩:=hrel
   by_cases hlt:k < n
   ·have hkl:k < ls.length:=by have:=Hn.out;omega
    obtain⟨x,hx⟩ : ∃ x,x=ls[k]:=⟨_,rfl⟩
    obtain⟨-,-,hat⟩:=lns_at Hln3.out
    obtain⟨b,off,a2',n2,c2,rfl,c0,c1,hwd⟩:=hat k x (by rw[hx];exact List.getElem?_eq_getElem hkl)
    clear hat
    have d0:=cell_later hI.bel c0
    have d1:=cell_later hI.bel c1
    obtain⟨ln,hln0⟩ : ∃ z,z=x.1:=⟨_,rfl⟩
    rw[← hln0] at d0 c0
    have hgx0:=Hgood.out.1 x (by rw[hx];exact List.getElem_mem hkl)
    have hgx:zfs 70000 x:=hgx0
    have hdr:ls.drop k=x :: ls.drop (k+1):=by rw[hx];exact List.drop_eq_getElem_cons hkl
    rw[hdr] at hgo
    have hO:=zv7 (za5 zbt _ _ _ _ hwd hI.bel) hgx
    rw[← hln0] at hO
    have y6:=za0 hI.bel Hp6.out
    obtain⟨x0,-,-,-⟩:=zji y6
    obtain⟨au,cu,rfl⟩:=zah hI.row
    have k5:(0:Int)≤(k:Int):=by omega
    have k6:(k:Int) < (n:Int):=by omega
    rw[hrk] at hI
    have hc0:=c0
    clear c0 c1
    obtain⟨HI,Hrk,Hgo,Hx,Hwd,Hln0,Hgx0,Hgx,Hdr,HO,Hy6,Hc0⟩:=hd12 hI hrk hgo hx hwd hln0 hgx0 hgx hdr hO y6 hc0;clear hI hrk hgo hx hwd hln0 hgx0 hgx hdr hO y6 hc0
    go_wp2_with fail
    refine HO.out.mono ?_
    rintro e w6 ⟨⟨s,col,b1,n1,c1,b2,n2',c2',hw,rfl,hv1,hv2⟩ | ⟨col,hw,hcol,rfl⟩,hb6⟩
    ·rw[← Hln0.out]
     obtain⟨w7,hw7⟩ : ∃ W,W=w6.alloc (.cells #[.string s.1,.slice b1 n1 c1,.slice b2 n2' c2',.int .i64 ln] 101):=⟨_,rfl⟩
     have hb67:Below w6.heap.size w6 w7:=by rw[hw7];exact za2 _ _
     have hb47:=hb6.trans (hb67.mono hb6.size)
     have hI7:=HI.out.to hb47
     obtain⟨tb,htb⟩ : ∃ z,z=w6.heap.size:=⟨_,rfl⟩
     have p11:zl2 tb (.string s.1) (.slice b1 n1 c1) (.slice b2 n2' c2') (.int .i64 ln) w7:=by rw[hw7,htb];exact heap_alloc_new _ _
     obtain⟨⟨u0,u1,u2,u3⟩,_,_,_,_⟩:=zcl p11
     obtain⟨qc,_⟩:=zak hI7.box
     have hv1':=zar hv1 hb67
     have hv2':=zb0 hv2 hb67
     have hrow7:=hI7.row
     rw[Hrk.out] at hrow7
     have hbz:w3.heap.size≤w7.heap.size:=hI7.bel.size
     obtain⟨N,hN⟩ : ∃ N,N=css.flatten:=⟨_,rfl⟩
     rw[← hN] at hrow7
     obtain⟨Hw,Hv1,Hv2,Hb6,Hb67,Hb47,HI7,Hp11,Hv1',Hv2',Hrow7,HN⟩:=hd12 hw hv1 hv2 hb6 hb67 hb47 hI7 p11 hv1' hv2' hrow7 hN;clear hw hv1 hv2 hb6 hb67 hb47 hI7 p11 hv1' hv2' hrow7 hN
     go_upto_region 9 with (fail)
     rw[← hw7,← htb]
     clear hw7 htb
     go_wp2_with (at_builtin;(refine zap zpp rfl (.tmp 46) (.tmp 48) rfl w3.heap.size (.slice au k cu) k N rfl Hrow7.out 1 #[.string s.1,.slice b1 n1 c1,.slice b2 n2' c2',.int .i64 ln] rfl rfl (by simp[Value.oneCell']) (by omega) (by unfold maxLen;omega) hbz ?_;intro v9 w9 hown9 hg9 hm9;obtain⟨a9,c9,rfl⟩:=zah hown9;have hpu:=HI7.out.push hlow (x:=(s,ln)) Hv1'.out Hv2'.out (by rw[Hrk.out,← HN.out];exact hown9) hg9;obtain⟨qc9,qf9⟩:=zak hpu.2;have Hpu:=hd hpu;clear hown9 hg9 hm9 hpu))
     go_roundw
     case rel =>
      refine⟨k+1,rs ++ [(s,ln)],_,_,by omega,by go_num,Hpu.out.1,by rw[List.length_append,Hrk.out];rfl,?_⟩
      rw[Hgo.out,zsu Hw.out,← Hln0.out]
     case measure=>simp[RowKit.intOf];omega
    have hne:(col != 0)=true:=by simpa using hcol
    obtain⟨w7,hw7⟩ : ∃ W,W=w6.alloc (.cells #[.string ⟨#[]⟩,.slice none 0 0,.slice none 0 0,.int .i64 0] 101):=⟨_,rfl⟩
    have hb67:Below w6.heap.size w6 w7:=by rw[hw7];exact za2 _ _
    have hb47:=hb6.trans (hb67.mono hb6.size)
    have hI7:=HI.out.to hb47
    have z0:=za0 hI7.bel Hp0'.out
    have z7:=za0 hI7.bel Hp6.out
    have t0:=cell_later hI7.bel Hc0.out
    have hb37:=Hb3.out.trans (hI7.bel.mono Hb3.out.size)
    obtain⟨v0,-,-,-⟩:=zji z7
    obtain⟨⟨r0,r1,r2,r3⟩,f0,f1,f2,f3⟩:=zjc z0
    have hne1:¬ lb=g:=by omega
    obtain⟨Hw,Hcol,Hb6,Hb67,Hb47,HI7,Hz0,Hz7,Hb37⟩:=hd9 hw hcol hb6 hb67 hb47 hI7 z0 z7 hb37;clear hw hcol hb6 hb67 hb47 hI7 z0 z7 hb37
    go_upto_region 9 with (fail)
    rw[← hw7]
    clear hw7
    go_wp2_with fail
    have hst:=zn0 (v':=.slice none 0 0) (x':=ln) (y':=col) (z':=2) hwg Hz0.out Hb37.out
    refine bodyPost_ret (results_cell_row rfl _ _ _ _ _ _ _ rfl hst.1 Tryz.underlying45 rfl (by kernel_rfl)) rfl ?_
    rw[Hgo.out,zsv Hw.out,← Hln0.out]
    exact⟨_,rfl,⟨none,0,rfl,Nat.le_refl _,Nat.zero_le _,fun i x hi=>by simp at hi⟩,hst.2.1⟩
   obtain rfl:k=n:=by omega
   have hd:ls.drop k = []:=List.drop_eq_nil_of_le (Nat.le_of_eq Hn.out.symm)
   rw[hd] at hgo
   have z0:=za0 hI.bel Hp0'.out
   obtain⟨qc,_⟩:=zak hI.box
   obtain⟨⟨r0,r1,r2,r3⟩,f0,f1,f2,f3⟩:=zjc z0
   obtain⟨au,cu,rfl⟩:=zah hI.row
   have hb3o:=Hb3.out.trans (hI.bel.mono Hb3.out.size)
   rw[hrk] at hI qc
   obtain⟨HI,Hrk,Hgo,Hz0,Hb3o,Hd⟩:=hd6 hI hrk hgo z0 hb3o hd;clear hI hrk hgo z0 hb3o hd
   go_wp2_with fail
   have hst:=zn0 (v':=.slice au k cu) (x':=0) (y':=0) (z':=0) hwg Hz0.out Hb3o.out
   have hno:No2 wo (fun z=>z=g):=by
    rintro z rfl
    exact zay Hz0.out (by decide) (by decide)
   have hap:∀ z,z=g→(Value.slice au k cu).ownBlock≠some z:=by
    rintro z rfl
    exact zai HI.out.row Hz0.out (by decide)
   refine bodyPost_ret (results_cell_row rfl _ _ _ _ _ _ _ rfl hst.1 Tryz.underlying45 rfl (by kernel_rfl)) rfl ?_
   rw[Hgo.out]
   exact⟨_,rfl,HI.out.other hst.2.2 hno hap,hst.2.1⟩
 have k1:(er != 0)=true:=by simpa using he
 have hq:=Hreq.out
 rw[if_neg he] at hq
 obtain⟨Hln,Hb2,Hb23,Hb13,Hb3,Hp6,Hp0',Hln3,Hn,Hq,He,Hs3⟩:=hd12 hln hb2 hb23 hb13 hb3 p6 p0' hln3 hn hq he hs3;clear hln hb2 hb23 hb13 hb3 p6 p0' hln3 hn hq he hs3
 go_upto_region 2 with (fail)
 rw[← hw3,← hlb]
 clear hw3 hlb
 go_wp2_with fail
 have hst:=zn0 (v':=.slice none 0 0) (x':=a1) (y':=a2) (z':=er) hwg Hp0'.out Hb3.out
 refine bodyPost_ret (results_cell_row rfl _ _ _ _ _ _ _ rfl hst.1 Tryz.underlying45 rfl (by kernel_rfl)) rfl ?_
 rw[Hq.out]
 exact⟨_,rfl,⟨none,0,rfl,Nat.le_refl _,Nat.zero_le _,fun i x hi=>by simp at hi⟩,hst.2.1⟩
end

section
open Go.Shelf Go.RowKit Go.Lib VerN VarM
attribute [local go_sem ↓] Go.wp_at_zero Go.wp_at_succ
theorem zia {w:World} {v u:Value} {l m:List Rt} (h:zdo w [v] l) (hm:zdo w [u] m) (ln:Bool):Calls Tryz.prog 30 #[.agg #[v],.agg #[u],.bool ln] w fun e w'=>e = .returned (.bool (zhn ln l m))∧Below w.heap.size w w':=by
 obtain⟨a,c,rfl,hz,hat⟩:=zeb h
 obtain⟨a2,c2,rfl,hz2,hat2⟩:=zeb hm
 obtain⟨n,hn⟩ : ∃ n,n=l.length:=⟨_,rfl⟩
 obtain⟨n2,hn2⟩ : ∃ n,n=m.length:=⟨_,rfl⟩
 obtain⟨r,hr⟩ : ∃ r,r=zhn ln l m:=⟨_,rfl⟩
 rw[← hr]
 rw[← hn] at hz h ⊢
 rw[← hn2] at hz2 hm ⊢
 obtain⟨W1,hW1⟩ : ∃ W,W=(w.alloc (.cells #[.slice a n c] 38)).alloc (.cells #[.slice a2 n2 c2] 38):=⟨_,rfl⟩
 obtain⟨g,hg⟩ : ∃ g,g=w.heap.size:=⟨_,rfl⟩
 have hb1:Below w.heap.size w W1:=by rw[hW1];exact (za2 _ _).alloc (by simp) _
 have p0:zik g (.slice a n c) W1:=by rw[hW1,hg];exact za0 (za2 _ _) (za6 rfl)
 have p1:zik (g+1) (.slice a2 n2 c2) W1:=by rw[hW1,hg];exact za6 (by simp)
 obtain⟨x0,-⟩:=zak p0
 obtain⟨y0,-⟩:=zak p1
 obtain⟨Hh,Hm,Hb1,Hp0,Hp1,Hn,Hn2,Hr,Hat,Hat2⟩:=hd10 h hm hb1 p0 p1 hn hn2 hr hat hat2;clear h hm hb1 p0 p1 hn hn2 hr hat hat2
 go_enter Tryz.func30,Tryz.ntmps30
 go_upto_region 1 with (fail)
 rw[← hW1,← hg]
 clear hW1 hg
 by_cases hne:n=n2
 case neg =>
  have k1:((n:Int) != (n2:Int))=true:=by simp;omega
  have hf:r=false:=by rw[Hr.out];exact zuc (by rw[← Hn.out,← Hn2.out];exact hne)
  obtain⟨Hf,Hne⟩:=hd2 hf hne;clear hf hne
  go_wp2_with fail
  go_ret
  exact⟨zac Hf.out.symm,Hb1.out⟩
 have k1:((n:Int) != (n2:Int))=false:=by simp;omega
 have Hne:=hd hne;clear hne
 go_wp2_with fail
 clear k1 x0 y0
 go_loopw [18] (fun i wr=>∃ k:Nat,k≤n∧i = .int .i64 k∧(∀ j (h1:j < l.length) (h2:j < m.length),j < k→eqRt ln l[j] m[j]=true)∧Below W1.heap.size W1 wr) (fun i _=>n - (RowKit.intOf i).toNat)
 case atStart=>exact⟨0,Nat.zero_le _,rfl,fun _ _ _ h=>by omega,Below.refl _ _⟩
 case round =>
  obtain⟨k,hk,rfl,hno,hbq⟩:=hrel
  by_cases hlt:k < n
  ·have hkl:k < l.length:=by have:=Hn.out;omega
   have hkm:k < m.length:=by have:=Hn2.out;have:=Hne.out;omega
   obtain⟨b,off,b1,n1,c1,b2,n2',c2',rfl,d0,d1,d2,d3,hs1,hs2⟩:=Hat.out k _ (List.getElem?_eq_getElem hkl)
   obtain⟨b3,off3,b4,n4,c4,b5,n5,c5,rfl,e0,e1,e2,e3,hs3,hs4⟩:=Hat2.out k _ (List.getElem?_eq_getElem hkm)
   have hnx:eqRt ln l[k] m[k]=true→∀ j (h1:j < l.length) (h2:j < m.length),j < k+1→eqRt ln l[j] m[j]=true:=fun h j h1 h2 hjk=>by
    by_cases e:j=k
    ·subst e;exact h
    exact hno j h1 h2 (by omega)
   have hbd:eqRt ln l[k] m[k]=false→r=false:=fun h=>by rw[Hr.out];exact sameRq_no hkl hkm h
   obtain⟨x,hx⟩ : ∃ x,x=l[k]:=⟨_,rfl⟩
   obtain⟨y,hy⟩ : ∃ x,x=m[k]:=⟨_,rfl⟩
   rw[← hx] at d0 d3 hs1 hs2 hnx hbd
   rw[← hy] at e0 e3 hs3 hs4 hnx hbd
   have hcf:∀ W,Below W1.heap.size W1 W→W.cell? ⟨g,0,none⟩=some (.slice (some ⟨b,off,none⟩) n c)∧W.cell? ⟨g+1,0,none⟩=some (.slice (some ⟨b3,off3,none⟩) n2 c2)∧W.cell? ⟨b,off+k * 4,none⟩=some (.string x.1.1)∧W.cell? ⟨b,off+k * 4+1,none⟩=some (.slice b1 n1 c1)∧W.cell? ⟨b,off+k * 4+2,none⟩=some (.slice b2 n2' c2')∧W.cell? ⟨b,off+k * 4+3,none⟩=some (.int .i64 x.2)∧W.cell? ⟨b3,off3+k * 4,none⟩=some (.string y.1.1)∧W.cell? ⟨b3,off3+k * 4+1,none⟩=some (.slice b4 n4 c4)∧W.cell? ⟨b3,off3+k * 4+2,none⟩=some (.slice b5 n5 c5)∧W.cell? ⟨b3,off3+k * 4+3,none⟩=some (.int .i64 y.2) :=
    fun W hW=>by
     have hw:=Hb1.out.trans (hW.mono Hb1.out.size)
     exact⟨cell_later hW (zak Hp0.out).1,cell_later hW (zak Hp1.out).1,cell_later hw d0,cell_later hw d1,cell_later hw d2,cell_later hw d3,cell_later hw e0,cell_later hw e1,cell_later hw e2,cell_later hw e3⟩
   have hM:∀ W,Below W1.heap.size W1 W→Calls Tryz.prog 38 #[.agg #[.string x.1.1,.slice b1 n1 c1,.slice b2 n2' c2'],.agg #[.string y.1.1,.slice b4 n4 c4,.slice b5 n5 c5]] W fun e w'=>e = .returned (.bool (decide (x.1=y.1)))∧Below W.heap.size W w':=fun W hW=>by
    have hw:=Hb1.out.trans (hW.mono Hb1.out.size)
    exact zom (za5 zaw _ _ _ _ hs1 hw) (za5 zb5 _ _ _ _ hs2 hw) (za5 zaw _ _ _ _ hs3 hw) (za5 zb5 _ _ _ _ hs4 hw)
   obtain⟨bs,hbs⟩ : ∃ q,q=decide (x.1=y.1):=⟨_,rfl⟩
   obtain⟨bl,hbl⟩ : ∃ q,q=decide (x.2=y.2):=⟨_,rfl⟩
   have heq:eqRt ln x y=(bs && (!ln || bl)):=by unfold eqRt;rw[hbs,hbl]
   obtain⟨s,hs⟩ : ∃ s,s=x.1.1:=⟨_,rfl⟩
   obtain⟨t,ht⟩ : ∃ s,s=y.1.1:=⟨_,rfl⟩
   obtain⟨i1,hi1⟩ : ∃ s,s=x.2:=⟨_,rfl⟩
   obtain⟨i2,hi2⟩ : ∃ s,s=y.2:=⟨_,rfl⟩
   rw[heq] at hnx hbd
   rw[← hbs] at hM
   simp only[← hs,← ht,← hi1,← hi2] at hcf hM hbl
   have hbl2:(i1 != i2) = !bl:=by rw[hbl];rfl
   have k5:(0:Int)≤(k:Int):=by omega
   have k6:(k:Int) < (n:Int):=by omega
   have k7:(k:Int) < (n2:Int):=by have:=Hne.out;omega
   have hcz:=hcf _ (zaj hbq 1)
   have hbz:=zaj (Below.refl wr.heap.size wr) 1
   obtain⟨x0,y0,-⟩:=hcf _ hbq
   clear d0 d1 d2 d3 e0 e1 e2 e3 heq
   have Hcz:=Lib.hid hcf
   obtain⟨Hno,Hbq,Hnx,Hbd,Hx,Hy,Hs1,Hs2,Hs3,Hs4,HM,Hbs,Hbl,Hs,Ht,Hi1⟩:=hd16 hno hbq hnx hbd hx hy hs1 hs2 hs3 hs4 hM hbs hbl hs ht hi1;have Hi2:=hd hi2;clear hno hbq hnx hbd hx hy hs1 hs2 hs3 hs4 hM hbs hbl hs ht hi1 hi2
   clear hcf
   go_upto_region 6 with (fail)
   clear x0 y0
   go_cut [52] (fun v W=>v = .bool (!(bs && (!ln || bl)))∧Below W1.heap.size W1 W)
   case first =>
    have hSd:=Hcz.out _ (Below.drew Hbq.out)
    have hbdd:=Below.drew Hbq.out
    refine wp_region_held_drew (S:=fun W=>W.cell? ⟨g,0,none⟩=some (.slice (some ⟨b,off,none⟩) n c)∧W.cell? ⟨g+1,0,none⟩=some (.slice (some ⟨b3,off3,none⟩) n2 c2)∧W.cell? ⟨b,off+k * 4,none⟩=some (.string s)∧W.cell? ⟨b,off+k * 4+1,none⟩=some (.slice b1 n1 c1)∧W.cell? ⟨b,off+k * 4+2,none⟩=some (.slice b2 n2' c2')∧W.cell? ⟨b,off+k * 4+3,none⟩=some (.int .i64 i1)∧W.cell? ⟨b3,off3+k * 4,none⟩=some (.string t)∧W.cell? ⟨b3,off3+k * 4+1,none⟩=some (.slice b4 n4 c4)∧W.cell? ⟨b3,off3+k * 4+2,none⟩=some (.slice b5 n5 c5)∧W.cell? ⟨b3,off3+k * 4+3,none⟩=some (.int .i64 i2)) (by kernel_rfl) (by exact hSd) (fun hHeld=>?_)
    generalize wr.drew=wd at hSd hbdd ⊢
    have Hbdd:=hd hbdd;clear hbdd
    refine wpAnyH_take (i:=0) (v:=?_) rfl (by kernel_rfl) (by kernel_rfl) (by kernel_rfl) (fun _ _ _ h=>h) (Or.inl ⟨by kernel_rfl,?_⟩) (by assumption) ?_
    rotate_left
    ·(intro w hSw;(try dsimp only at hSw);(try obtain⟨o0,o1,o2,o3,o4,o5,o6,o7,o8,o9⟩:=hSw);go_simp;try with_reducible rfl)
    try simp only[Act.put,lA,lB,lC]
    refine wpAnyH_take (i:=1) (v:=?_) rfl (by kernel_rfl) (by kernel_rfl) (by kernel_rfl) (fun _ _ _ h=>h) (Or.inl ⟨by kernel_rfl,?_⟩) (by assumption) ?_
    rotate_left
    ·(intro w hSw;(try dsimp only at hSw);(try obtain⟨o0,o1,o2,o3,o4,o5,o6,o7,o8,o9⟩:=hSw);go_simp;try with_reducible rfl)
    try simp only[Act.put,lA,lB,lC]
    refine wpAnyH_take (i:=2) (v:=?_) rfl (by kernel_rfl) (by kernel_rfl) (by kernel_rfl) (fun _ _ _ h=>h) (Or.inl ⟨by kernel_rfl,?_⟩) (by assumption) ?_
    rotate_left
    ·(intro w hSw;(try dsimp only at hSw);(try obtain⟨o0,o1,o2,o3,o4,o5,o6,o7,o8,o9⟩:=hSw);go_simp;try with_reducible rfl)
    try simp only[Act.put,lA,lB,lC]
    refine wpAnyH_take (i:=3) (v:=?_) rfl (by kernel_rfl) (by kernel_rfl) (by kernel_rfl) (fun _ _ _ h=>h) (Or.inl ⟨by kernel_rfl,?_⟩) (by assumption) ?_
    rotate_left
    ·(intro w hSw;(try dsimp only at hSw);(try obtain⟨o0,o1,o2,o3,o4,o5,o6,o7,o8,o9⟩:=hSw);go_simp;try with_reducible rfl)
    try simp only[Act.put,lA,lB,lC]
    refine wpAnyH_take (i:=4) (v:=?_) rfl (by kernel_rfl) (by kernel_rfl) (by kernel_rfl) (fun _ _ _ h=>h) (Or.inl ⟨by kernel_rfl,?_⟩) (by assumption) ?_
    rotate_left
    ·(intro w hSw;(try dsimp only at hSw);(try obtain⟨o0,o1,o2,o3,o4,o5,o6,o7,o8,o9⟩:=hSw);go_simp;try with_reducible rfl)
    try simp only[Act.put,lA,lB,lC]
    refine wpAnyH_take (i:=5) (v:=?_) rfl (by kernel_rfl) (by kernel_rfl) (by kernel_rfl) (fun _ _ _ h=>h) (Or.inl ⟨by kernel_rfl,?_⟩) (by assumption) ?_
    rotate_left
    ·(intro w hSw;(try dsimp only at hSw);(try obtain⟨o0,o1,o2,o3,o4,o5,o6,o7,o8,o9⟩:=hSw);go_simp;try with_reducible rfl)
    try simp only[Act.put,lA,lB,lC]
    refine wpAnyH_take (i:=6) (v:=?_) rfl (by kernel_rfl) (by kernel_rfl) (by kernel_rfl) (fun _ _ _ h=>h) (Or.inl ⟨by kernel_rfl,?_⟩) (by assumption) ?_
    rotate_left
    ·(intro w hSw;(try dsimp only at hSw);(try obtain⟨o0,o1,o2,o3,o4,o5,o6,o7,o8,o9⟩:=hSw);go_simp;try with_reducible rfl)
    try simp only[Act.put,lA,lB,lC]
    refine wpAnyH_take (i:=7) (v:=?_) rfl (by kernel_rfl) (by kernel_rfl) (by kernel_rfl) (fun _ _ _ h=>h) (Or.inl ⟨by kernel_rfl,?_⟩) (by assumption) ?_
    rotate_left
    ·(intro w hSw;(try dsimp only at hSw);(try obtain⟨o0,o1,o2,o3,o4,o5,o6,o7,o8,o9⟩:=hSw);go_simp;try with_reducible rfl)
    try simp only[Act.put,lA,lB,lC]
    refine wpAnyH_take (i:=8) (v:=?_) rfl (by kernel_rfl) (by kernel_rfl) (by kernel_rfl) (fun _ _ _ h=>h) (Or.inl ⟨by kernel_rfl,?_⟩) (by assumption) ?_
    rotate_left
    ·(intro w hSw;(try dsimp only at hSw);(try obtain⟨o0,o1,o2,o3,o4,o5,o6,o7,o8,o9⟩:=hSw);go_simp;try with_reducible rfl)
    try simp only[Act.put,lA,lB,lC]
    refine wpAnyH_take (i:=9) (v:=?_) rfl (by kernel_rfl) (by kernel_rfl) (by kernel_rfl) (fun _ _ _ h=>h) (Or.inl ⟨by kernel_rfl,?_⟩) (by assumption) ?_
    rotate_left
    ·(intro w hSw;(try dsimp only at hSw);(try obtain⟨o0,o1,o2,o3,o4,o5,o6,o7,o8,o9⟩:=hSw);go_simp;try with_reducible rfl)
    try simp only[Act.put,lA,lB,lC]
    refine wpAnyH_take (i:=10) (v:=?_) rfl (by kernel_rfl) (by kernel_rfl) (by kernel_rfl) (fun _ _ _ h=>h) (Or.inl ⟨by kernel_rfl,?_⟩) (by assumption) ?_
    rotate_left
    ·(intro w hSw;(try dsimp only at hSw);(try obtain⟨o0,o1,o2,o3,o4,o5,o6,o7,o8,o9⟩:=hSw);go_simp;try with_reducible rfl)
    try simp only[Act.put,lA,lB,lC]
    refine wpAnyH_take (i:=11) (v:=?_) rfl (by kernel_rfl) (by kernel_rfl) (by kernel_rfl) (fun _ _ _ h=>h) (Or.inl ⟨by kernel_rfl,?_⟩) (by assumption) ?_
    rotate_left
    ·(intro w hSw;(try dsimp only at hSw);(try obtain⟨o0,o1,o2,o3,o4,o5,o6,o7,o8,o9⟩:=hSw);go_simp;try with_reducible rfl)
    try simp only[Act.put,lA,lB,lC]
    refine wpAnyH_ready (rs:=[12]) (by kernel_rfl) (by simp) ?_
    refine AllReadyH.cons rfl (fun K hK=>?_) AllReadyH.nil
    go_simp
    refine (HM.out _ Hbdd.out).mono ?_
    rintro e wy ⟨rfl,hby⟩
    have hb1y:=Hbdd.out.trans (hby.mono Hbdd.out.size)
    have hSy:=Hcz.out _ hb1y
    obtain⟨Hb1y,Hby⟩:=hd2 hb1y hby;clear hb1y hby
    go_wp2_with fail
    refine hK.out _ _ (by exact hSy) (fun hHeld=>?_)
    clear hK K
    try simp only[Act.put,lA,lB,lC]
    cases bs with
    | false =>
     refine wpAnyH_take (i:=13) (v:=?_) rfl (by kernel_rfl) (by kernel_rfl) (by kernel_rfl) (fun _ _ _ h=>h) (Or.inl ⟨by kernel_rfl,?_⟩) (by assumption) ?_
     rotate_left
     ·(intro w hSw;(try dsimp only at hSw);(try obtain⟨o0,o1,o2,o3,o4,o5,o6,o7,o8,o9⟩:=hSw);go_simp;try with_reducible rfl)
     try simp only[Act.put,lA,lB,lC]
     refine wpAnyH_take (i:=14) (v:=?_) rfl (by kernel_rfl) (by kernel_rfl) (by kernel_rfl) (fun _ _ _ h=>h) (Or.inl ⟨by kernel_rfl,?_⟩) (by assumption) ?_
     rotate_left
     ·(intro w hSw;(try dsimp only at hSw);(try obtain⟨o0,o1,o2,o3,o4,o5,o6,o7,o8,o9⟩:=hSw);go_simp;try with_reducible rfl)
     try simp only[Act.put,lA,lB,lC]
     refine wpAnyH_take (i:=15) (v:=undef) rfl (by kernel_rfl) (by kernel_rfl) (by kernel_rfl) (fun _ _ _ h=>h) (Or.inr ⟨by kernel_rfl,rfl⟩) (by assumption) ?_
     simp only[Act.put,List.getElem_toArray,List.getElem_cons_succ,List.getElem_cons_zero,lA,lB,lC]
     refine wpAnyH_take (i:=16) (v:=undef) rfl (by kernel_rfl) (by kernel_rfl) (by kernel_rfl) (fun _ _ _ h=>h) (Or.inr ⟨by kernel_rfl,rfl⟩) (by assumption) ?_
     simp only[Act.put,List.getElem_toArray,List.getElem_cons_succ,List.getElem_cons_zero,lA,lB,lC]
     refine wpAnyH_take (i:=17) (v:=undef) rfl (by kernel_rfl) (by kernel_rfl) (by kernel_rfl) (fun _ _ _ h=>h) (Or.inr ⟨by kernel_rfl,rfl⟩) (by assumption) ?_
     simp only[Act.put,List.getElem_toArray,List.getElem_cons_succ,List.getElem_cons_zero,lA,lB,lC]
     refine wpAnyH_take (i:=18) (v:=undef) rfl (by kernel_rfl) (by kernel_rfl) (by kernel_rfl) (fun _ _ _ h=>h) (Or.inr ⟨by kernel_rfl,rfl⟩) (by assumption) ?_
     simp only[Act.put,List.getElem_toArray,List.getElem_cons_succ,List.getElem_cons_zero,lA,lB,lC]
     refine wpAnyH_take (i:=19) (v:=undef) rfl (by kernel_rfl) (by kernel_rfl) (by kernel_rfl) (fun _ _ _ h=>h) (Or.inr ⟨by kernel_rfl,rfl⟩) (by assumption) ?_
     simp only[Act.put,List.getElem_toArray,List.getElem_cons_succ,List.getElem_cons_zero,lA,lB,lC]
     refine wpAnyH_take (i:=20) (v:=undef) rfl (by kernel_rfl) (by kernel_rfl) (by kernel_rfl) (fun _ _ _ h=>h) (Or.inr ⟨by kernel_rfl,rfl⟩) (by assumption) ?_
     simp only[Act.put,List.getElem_toArray,List.getElem_cons_succ,List.getElem_cons_zero,lA,lB,lC]
     refine wpAnyH_take (i:=21) (v:=undef) rfl (by kernel_rfl) (by kernel_rfl) (by kernel_rfl) (fun _ _ _ h=>h) (Or.inr ⟨by kernel_rfl,rfl⟩) (by assumption) ?_
     simp only[Act.put,List.getElem_toArray,List.getElem_cons_succ,List.getElem_cons_zero,lA,lB,lC]
     refine wpAnyH_take (i:=22) (v:=undef) rfl (by kernel_rfl) (by kernel_rfl) (by kernel_rfl) (fun _ _ _ h=>h) (Or.inr ⟨by kernel_rfl,rfl⟩) (by assumption) ?_
     simp only[Act.put,List.getElem_toArray,List.getElem_cons_succ,List.getElem_cons_zero,lA,lB,lC]
     refine wpAnyH_take (i:=23) (v:=undef) rfl (by kernel_rfl) (by kernel_rfl) (by kernel_rfl) (fun _ _ _ h=>h) (Or.inr ⟨by kernel_rfl,rfl⟩) (by assumption) ?_
     simp only[Act.put,List.getElem_toArray,List.getElem_cons_succ,List.getElem_cons_zero,lA,lB,lC]
     refine wpAnyH_take (i:=24) (v:=undef) rfl (by kernel_rfl) (by kernel_rfl) (by kernel_rfl) (fun _ _ _ h=>h) (Or.inr ⟨by kernel_rfl,rfl⟩) (by assumption) ?_
     simp only[Act.put,List.getElem_toArray,List.getElem_cons_succ,List.getElem_cons_zero,lA,lB,lC]
     refine wpAnyH_take (i:=25) (v:=undef) rfl (by kernel_rfl) (by kernel_rfl) (by kernel_rfl) (fun _ _ _ h=>h) (Or.inr ⟨by kernel_rfl,rfl⟩) (by assumption) ?_
     simp only[Act.put,List.getElem_toArray,List.getElem_cons_succ,List.getElem_cons_zero,lA,lB,lC]
     refine wpAnyH_take (i:=26) (v:=undef) rfl (by kernel_rfl) (by kernel_rfl) (by kernel_rfl) (fun _ _ _ h=>h) (Or.inr ⟨by kernel_rfl,rfl⟩) (by assumption) ?_
     simp only[Act.put,List.getElem_toArray,List.getElem_cons_succ,List.getElem_cons_zero,lA,lB,lC]
     refine wpAnyH_take (i:=27) (v:=undef) rfl (by kernel_rfl) (by kernel_rfl) (by kernel_rfl) (fun _ _ _ h=>h) (Or.inr ⟨by kernel_rfl,rfl⟩) (by assumption) ?_
     simp only[Act.put,List.getElem_toArray,List.getElem_cons_succ,List.getElem_cons_zero,lA,lB,lC]
     refine wpAnyH_take (i:=28) (v:=undef) rfl (by kernel_rfl) (by kernel_rfl) (by kernel_rfl) (fun _ _ _ h=>h) (Or.inr ⟨by kernel_rfl,rfl⟩) (by assumption) ?_
     simp only[Act.put,List.getElem_toArray,List.getElem_cons_succ,List.getElem_cons_zero,lA,lB,lC]
     refine wpAnyH_take (i:=29) (v:=undef) rfl (by kernel_rfl) (by kernel_rfl) (by kernel_rfl) (fun _ _ _ h=>h) (Or.inr ⟨by kernel_rfl,rfl⟩) (by assumption) ?_
     simp only[Act.put,List.getElem_toArray,List.getElem_cons_succ,List.getElem_cons_zero,lA,lB,lC]
     refine wpAnyH_take (i:=30) (v:=undef) rfl (by kernel_rfl) (by kernel_rfl) (by kernel_rfl) (fun _ _ _ h=>h) (Or.inr ⟨by kernel_rfl,rfl⟩) (by assumption) ?_
     simp only[Act.put,List.getElem_toArray,List.getElem_cons_succ,List.getElem_cons_zero,lA,lB,lC]
     refine wpAnyH_take (i:=31) (v:=?_) rfl (by kernel_rfl) (by kernel_rfl) (by kernel_rfl) (fun _ _ _ h=>h) (Or.inl ⟨by kernel_rfl,?_⟩) (by assumption) ?_
     rotate_left
     ·(intro w hSw;(try dsimp only at hSw);(try obtain⟨o0,o1,o2,o3,o4,o5,o6,o7,o8,o9⟩:=hSw);go_simp;try with_reducible rfl)
     try simp only[Act.put,lA,lB,lC]
     refine wpAnyH_done (by kernel_rfl) ?_ _
     go_simp
     go_wp2_with fail
     go_meet
     exact⟨rfl,Hb1y.out⟩
    | true =>
     cases ln with
     | false =>
      refine wpAnyH_take (i:=13) (v:=?_) rfl (by kernel_rfl) (by kernel_rfl) (by kernel_rfl) (fun _ _ _ h=>h) (Or.inl ⟨by kernel_rfl,?_⟩) (by assumption) ?_
      rotate_left
      ·(intro w hSw;(try dsimp only at hSw);(try obtain⟨o0,o1,o2,o3,o4,o5,o6,o7,o8,o9⟩:=hSw);go_simp;try with_reducible rfl)
      try simp only[Act.put,lA,lB,lC]
      refine wpAnyH_take (i:=14) (v:=?_) rfl (by kernel_rfl) (by kernel_rfl) (by kernel_rfl) (fun _ _ _ h=>h) (Or.inl ⟨by kernel_rfl,?_⟩) (by assumption) ?_
      rotate_left
      ·(intro w hSw;(try dsimp only at hSw);(try obtain⟨o0,o1,o2,o3,o4,o5,o6,o7,o8,o9⟩:=hSw);go_simp;try with_reducible rfl)
      try simp only[Act.put,lA,lB,lC]
      refine wpAnyH_take (i:=15) (v:=?_) rfl (by kernel_rfl) (by kernel_rfl) (by kernel_rfl) (fun _ _ _ h=>h) (Or.inl ⟨by kernel_rfl,?_⟩) (by assumption) ?_
      rotate_left
      ·(intro w hSw;(try dsimp only at hSw);(try obtain⟨o0,o1,o2,o3,o4,o5,o6,o7,o8,o9⟩:=hSw);go_simp;try with_reducible rfl)
      try simp only[Act.put,lA,lB,lC]
      refine wpAnyH_take (i:=16) (v:=?_) rfl (by kernel_rfl) (by kernel_rfl) (by kernel_rfl) (fun _ _ _ h=>h) (Or.inl ⟨by kernel_rfl,?_⟩) (by assumption) ?_
      rotate_left
      ·(intro w hSw;(try dsimp only at hSw);(try obtain⟨o0,o1,o2,o3,o4,o5,o6,o7,o8,o9⟩:=hSw);go_simp;try with_reducible rfl)
      try simp only[Act.put,lA,lB,lC]
      refine wpAnyH_take (i:=17) (v:=undef) rfl (by kernel_rfl) (by kernel_rfl) (by kernel_rfl) (fun _ _ _ h=>h) (Or.inr ⟨by kernel_rfl,rfl⟩) (by assumption) ?_
      simp only[Act.put,List.getElem_toArray,List.getElem_cons_succ,List.getElem_cons_zero,lA,lB,lC]
      refine wpAnyH_take (i:=18) (v:=undef) rfl (by kernel_rfl) (by kernel_rfl) (by kernel_rfl) (fun _ _ _ h=>h) (Or.inr ⟨by kernel_rfl,rfl⟩) (by assumption) ?_
      simp only[Act.put,List.getElem_toArray,List.getElem_cons_succ,List.getElem_cons_zero,lA,lB,lC]
      refine wpAnyH_take (i:=19) (v:=undef) rfl (by kernel_rfl) (by kernel_rfl) (by kernel_rfl) (fun _ _ _ h=>h) (Or.inr ⟨by kernel_rfl,rfl⟩) (by assumption) ?_
      simp only[Act.put,List.getElem_toArray,List.getElem_cons_succ,List.getElem_cons_zero,lA,lB,lC]
      refine wpAnyH_take (i:=20) (v:=undef) rfl (by kernel_rfl) (by kernel_rfl) (by kernel_rfl) (fun _ _ _ h=>h) (Or.inr ⟨by kernel_rfl,rfl⟩) (by assumption) ?_
      simp only[Act.put,List.getElem_toArray,List.getElem_cons_succ,List.getElem_cons_zero,lA,lB,lC]
      refine wpAnyH_take (i:=21) (v:=undef) rfl (by kernel_rfl) (by kernel_rfl) (by kernel_rfl) (fun _ _ _ h=>h) (Or.inr ⟨by kernel_rfl,rfl⟩) (by assumption) ?_
      simp only[Act.put,List.getElem_toArray,List.getElem_cons_succ,List.getElem_cons_zero,lA,lB,lC]
      refine wpAnyH_take (i:=22) (v:=undef) rfl (by kernel_rfl) (by kernel_rfl) (by kernel_rfl) (fun _ _ _ h=>h) (Or.inr ⟨by kernel_rfl,rfl⟩) (by assumption) ?_
      simp only[Act.put,List.getElem_toArray,List.getElem_cons_succ,List.getElem_cons_zero,lA,lB,lC]
      refine wpAnyH_take (i:=23) (v:=undef) rfl (by kernel_rfl) (by kernel_rfl) (by kernel_rfl) (fun _ _ _ h=>h) (Or.inr ⟨by kernel_rfl,rfl⟩) (by assumption) ?_
      simp only[Act.put,List.getElem_toArray,List.getElem_cons_succ,List.getElem_cons_zero,lA,lB,lC]
      refine wpAnyH_take (i:=24) (v:=undef) rfl (by kernel_rfl) (by kernel_rfl) (by kernel_rfl) (fun _ _ _ h=>h) (Or.inr ⟨by kernel_rfl,rfl⟩) (by assumption) ?_
      simp only[Act.put,List.getElem_toArray,List.getElem_cons_succ,List.getElem_cons_zero,lA,lB,lC]
      refine wpAnyH_take (i:=25) (v:=undef) rfl (by kernel_rfl) (by kernel_rfl) (by kernel_rfl) (fun _ _ _ h=>h) (Or.inr ⟨by kernel_rfl,rfl⟩) (by assumption) ?_
      simp only[Act.put,List.getElem_toArray,List.getElem_cons_succ,List.getElem_cons_zero,lA,lB,lC]
      refine wpAnyH_take (i:=26) (v:=undef) rfl (by kernel_rfl) (by kernel_rfl) (by kernel_rfl) (fun _ _ _ h=>h) (Or.inr ⟨by kernel_rfl,rfl⟩) (by assumption) ?_
      simp only[Act.put,List.getElem_toArray,List.getElem_cons_succ,List.getElem_cons_zero,lA,lB,lC]
      refine wpAnyH_take (i:=27) (v:=undef) rfl (by kernel_rfl) (by kernel_rfl) (by kernel_rfl) (fun _ _ _ h=>h) (Or.inr ⟨by kernel_rfl,rfl⟩) (by assumption) ?_
      simp only[Act.put,List.getElem_toArray,List.getElem_cons_succ,List.getElem_cons_zero,lA,lB,lC]
      refine wpAnyH_take (i:=28) (v:=undef) rfl (by kernel_rfl) (by kernel_rfl) (by kernel_rfl) (fun _ _ _ h=>h) (Or.inr ⟨by kernel_rfl,rfl⟩) (by assumption) ?_
      simp only[Act.put,List.getElem_toArray,List.getElem_cons_succ,List.getElem_cons_zero,lA,lB,lC]
      refine wpAnyH_take (i:=29) (v:=undef) rfl (by kernel_rfl) (by kernel_rfl) (by kernel_rfl) (fun _ _ _ h=>h) (Or.inr ⟨by kernel_rfl,rfl⟩) (by assumption) ?_
      simp only[Act.put,List.getElem_toArray,List.getElem_cons_succ,List.getElem_cons_zero,lA,lB,lC]
      refine wpAnyH_take (i:=30) (v:=?_) rfl (by kernel_rfl) (by kernel_rfl) (by kernel_rfl) (fun _ _ _ h=>h) (Or.inl ⟨by kernel_rfl,?_⟩) (by assumption) ?_
      rotate_left
      ·(intro w hSw;(try dsimp only at hSw);(try obtain⟨o0,o1,o2,o3,o4,o5,o6,o7,o8,o9⟩:=hSw);go_simp;try with_reducible rfl)
      try simp only[Act.put,lA,lB,lC]
      refine wpAnyH_take (i:=31) (v:=?_) rfl (by kernel_rfl) (by kernel_rfl) (by kernel_rfl) (fun _ _ _ h=>h) (Or.inl ⟨by kernel_rfl,?_⟩) (by assumption) ?_
      rotate_left
      ·(intro w hSw;(try dsimp only at hSw);(try obtain⟨o0,o1,o2,o3,o4,o5,o6,o7,o8,o9⟩:=hSw);go_simp;try with_reducible rfl)
      try simp only[Act.put,lA,lB,lC]
      refine wpAnyH_done (by kernel_rfl) ?_ _
      go_simp
      go_wp2_with fail
      go_meet
      exact⟨rfl,Hb1y.out⟩
     | true =>
      refine wpAnyH_take (i:=13) (v:=?_) rfl (by kernel_rfl) (by kernel_rfl) (by kernel_rfl) (fun _ _ _ h=>h) (Or.inl ⟨by kernel_rfl,?_⟩) (by assumption) ?_
      rotate_left
      ·(intro w hSw;(try dsimp only at hSw);(try obtain⟨o0,o1,o2,o3,o4,o5,o6,o7,o8,o9⟩:=hSw);go_simp;try with_reducible rfl)
      try simp only[Act.put,lA,lB,lC]
      refine wpAnyH_take (i:=14) (v:=?_) rfl (by kernel_rfl) (by kernel_rfl) (by kernel_rfl) (fun _ _ _ h=>h) (Or.inl ⟨by kernel_rfl,?_⟩) (by assumption) ?_
      rotate_left
      ·(intro w hSw;(try dsimp only at hSw);(try obtain⟨o0,o1,o2,o3,o4,o5,o6,o7,o8,o9⟩:=hSw);go_simp;try with_reducible rfl)
      try simp only[Act.put,lA,lB,lC]
      refine wpAnyH_take (i:=15) (v:=?_) rfl (by kernel_rfl) (by kernel_rfl) (by kernel_rfl) (fun _ _ _ h=>h) (Or.inl ⟨by kernel_rfl,?_⟩) (by assumption) ?_
      rotate_left
      ·(intro w hSw;(try dsimp only at hSw);(try obtain⟨o0,o1,o2,o3,o4,o5,o6,o7,o8,o9⟩:=hSw);go_simp;try with_reducible rfl)
      try simp only[Act.put,lA,lB,lC]
      refine wpAnyH_take (i:=16) (v:=?_) rfl (by kernel_rfl) (by kernel_rfl) (by kernel_rfl) (fun _ _ _ h=>h) (Or.inl ⟨by kernel_rfl,?_⟩) (by assumption) ?_
      rotate_left
      ·(intro w hSw;(try dsimp only at hSw);(try obtain⟨o0,o1,o2,o3,o4,o5,o6,o7,o8,o9⟩:=hSw);go_simp;try with_reducible rfl)
      try simp only[Act.put,lA,lB,lC]
      refine wpAnyH_take (i:=17) (v:=?_) rfl (by kernel_rfl) (by kernel_rfl) (by kernel_rfl) (fun _ _ _ h=>h) (Or.inl ⟨by kernel_rfl,?_⟩) (by assumption) ?_
      rotate_left
      ·(intro w hSw;(try dsimp only at hSw);(try obtain⟨o0,o1,o2,o3,o4,o5,o6,o7,o8,o9⟩:=hSw);go_simp;try with_reducible rfl)
      try simp only[Act.put,lA,lB,lC]
      refine wpAnyH_take (i:=18) (v:=?_) rfl (by kernel_rfl) (by kernel_rfl) (by kernel_rfl) (fun _ _ _ h=>h) (Or.inl ⟨by kernel_rfl,?_⟩) (by assumption) ?_
      rotate_left
      ·(intro w hSw;(try dsimp only at hSw);(try obtain⟨o0,o1,o2,o3,o4,o5,o6,o7,o8,o9⟩:=hSw);go_simp;try with_reducible rfl)
      try simp only[Act.put,lA,lB,lC]
      refine wpAnyH_take (i:=19) (v:=?_) rfl (by kernel_rfl) (by kernel_rfl) (by kernel_rfl) (fun _ _ _ h=>h) (Or.inl ⟨by kernel_rfl,?_⟩) (by assumption) ?_
      rotate_left
      ·(intro w hSw;(try dsimp only at hSw);(try obtain⟨o0,o1,o2,o3,o4,o5,o6,o7,o8,o9⟩:=hSw);go_simp;try with_reducible rfl)
      try simp only[Act.put,lA,lB,lC]
      refine wpAnyH_take (i:=20) (v:=?_) rfl (by kernel_rfl) (by kernel_rfl) (by kernel_rfl) (fun _ _ _ h=>h) (Or.inl ⟨by kernel_rfl,?_⟩) (by assumption) ?_
      rotate_left
      ·(intro w hSw;(try dsimp only at hSw);(try obtain⟨o0,o1,o2,o3,o4,o5,o6,o7,o8,o9⟩:=hSw);go_simp;try with_reducible rfl)
      try simp only[Act.put,lA,lB,lC]
      refine wpAnyH_take (i:=21) (v:=?_) rfl (by kernel_rfl) (by kernel_rfl) (by kernel_rfl) (fun _ _ _ h=>h) (Or.inl ⟨by kernel_rfl,?_⟩) (by assumption) ?_
      rotate_left
      ·(intro w hSw;(try dsimp only at hSw);(try obtain⟨o0,o1,o2,o3,o4,o5,o6,o7,o8,o9⟩:=hSw);go_simp;try with_reducible rfl)
      try simp only[Act.put,lA,lB,lC]
      refine wpAnyH_take (i:=22) (v:=?_) rfl (by kernel_rfl) (by kernel_rfl) (by kernel_rfl) (fun _ _ _ h=>h) (Or.inl ⟨by kernel_rfl,?_⟩) (by assumption) ?_
      rotate_left
      ·(intro w hSw;(try dsimp only at hSw);(try obtain⟨o0,o1,o2,o3,o4,o5,o6,o7,o8,o9⟩:=hSw);go_simp;try with_reducible rfl)
      try simp only[Act.put,lA,lB,lC]
      refine wpAnyH_take (i:=23) (v:=?_) rfl (by kernel_rfl) (by kernel_rfl) (by kernel_rfl) (fun _ _ _ h=>h) (Or.inl ⟨by kernel_rfl,?_⟩) (by assumption) ?_
      rotate_left
      ·(intro w hSw;(try dsimp only at hSw);(try obtain⟨o0,o1,o2,o3,o4,o5,o6,o7,o8,o9⟩:=hSw);go_simp;try with_reducible rfl)
      try simp only[Act.put,lA,lB,lC]
      refine wpAnyH_take (i:=24) (v:=?_) rfl (by kernel_rfl) (by kernel_rfl) (by kernel_rfl) (fun _ _ _ h=>h) (Or.inl ⟨by kernel_rfl,?_⟩) (by assumption) ?_
      rotate_left
      ·(intro w hSw;(try dsimp only at hSw);(try obtain⟨o0,o1,o2,o3,o4,o5,o6,o7,o8,o9⟩:=hSw);go_simp;try with_reducible rfl)
      try simp only[Act.put,lA,lB,lC]
      refine wpAnyH_take (i:=25) (v:=?_) rfl (by kernel_rfl) (by kernel_rfl) (by kernel_rfl) (fun _ _ _ h=>h) (Or.inl ⟨by kernel_rfl,?_⟩) (by assumption) ?_
      rotate_left
      ·(intro w hSw;(try dsimp only at hSw);(try obtain⟨o0,o1,o2,o3,o4,o5,o6,o7,o8,o9⟩:=hSw);go_simp;try with_reducible rfl)
      try simp only[Act.put,lA,lB,lC]
      refine wpAnyH_take (i:=26) (v:=?_) rfl (by kernel_rfl) (by kernel_rfl) (by kernel_rfl) (fun _ _ _ h=>h) (Or.inl ⟨by kernel_rfl,?_⟩) (by assumption) ?_
      rotate_left
      ·(intro w hSw;(try dsimp only at hSw);(try obtain⟨o0,o1,o2,o3,o4,o5,o6,o7,o8,o9⟩:=hSw);go_simp;try with_reducible rfl)
      try simp only[Act.put,lA,lB,lC]
      refine wpAnyH_take (i:=27) (v:=?_) rfl (by kernel_rfl) (by kernel_rfl) (by kernel_rfl) (fun _ _ _ h=>h) (Or.inl ⟨by kernel_rfl,?_⟩) (by assumption) ?_
      rotate_left
      ·(intro w hSw;(try dsimp only at hSw);(try obtain⟨o0,o1,o2,o3,o4,o5,o6,o7,o8,o9⟩:=hSw);go_simp;try with_reducible rfl)
      try simp only[Act.put,lA,lB,lC]
      refine wpAnyH_take (i:=28) (v:=?_) rfl (by kernel_rfl) (by kernel_rfl) (by kernel_rfl) (fun _ _ _ h=>h) (Or.inl ⟨by kernel_rfl,?_⟩) (by assumption) ?_
      rotate_left
      ·(intro w hSw;(try dsimp only at hSw);(try obtain⟨o0,o1,o2,o3,o4,o5,o6,o7,o8,o9⟩:=hSw);go_simp;try with_reducible rfl)
      try simp only[Act.put,lA,lB,lC]
      refine wpAnyH_take (i:=29) (v:=?_) rfl (by kernel_rfl) (by kernel_rfl) (by kernel_rfl) (fun _ _ _ h=>h) (Or.inl ⟨by kernel_rfl,?_⟩) (by assumption) ?_
      rotate_left
      ·(intro w hSw;(try dsimp only at hSw);(try obtain⟨o0,o1,o2,o3,o4,o5,o6,o7,o8,o9⟩:=hSw);go_simp;try with_reducible rfl)
      try simp only[Act.put,lA,lB,lC]
      refine wpAnyH_take (i:=30) (v:=?_) rfl (by kernel_rfl) (by kernel_rfl) (by kernel_rfl) (fun _ _ _ h=>h) (Or.inl ⟨by kernel_rfl,?_⟩) (by assumption) ?_
      rotate_left
      ·(intro w hSw;(try dsimp only at hSw);(try obtain⟨o0,o1,o2,o3,o4,o5,o6,o7,o8,o9⟩:=hSw);go_simp;try with_reducible rfl)
      try simp only[Act.put,lA,lB,lC]
      refine wpAnyH_take (i:=31) (v:=?_) rfl (by kernel_rfl) (by kernel_rfl) (by kernel_rfl) (fun _ _ _ h=>h) (Or.inl ⟨by kernel_rfl,?_⟩) (by assumption) ?_
      rotate_left
      ·(intro w hSw;(try dsimp only at hSw);(try obtain⟨o0,o1,o2,o3,o4,o5,o6,o7,o8,o9⟩:=hSw);go_simp;try with_reducible rfl)
      try simp only[Act.put,lA,lB,lC]
      refine wpAnyH_done (by kernel_rfl) ?_ _
      go_simp
      go_wp2_with fail
      go_meet
      exact⟨rfl,Hb1y.out⟩
   case rest =>
    obtain⟨rfl,hbc⟩:=hcut
    cases hq:(bs && (!ln || bl)) with
    | false =>
     have hf:=Hbd.out hq
     obtain⟨Hbc,Hf,Hq⟩:=hd3 hbc hf hq;clear hbc hf hq
     go_wp2_with fail
     go_ret
     exact⟨zac Hf.out.symm,Hb1.out.trans (Hbc.out.mono Hb1.out.size)⟩
    | true =>
     have hnx2:=Hnx.out hq
     obtain⟨Hbc,Hnx2,Hq⟩:=hd3 hbc hnx2 hq;clear hbc hnx2 hq
     go_wp2_with fail
     go_roundw
     case rel=>exact⟨k+1,by omega,by go_num,Hnx2.out,Hbc.out⟩
     case measure=>simp[RowKit.intOf];omega
  obtain rfl:n=k:=by omega
  have hf:r=true:=by
   rw[Hr.out]
   exact zub (by rw[← Hn.out,← Hn2.out,Hne.out]) (fun j h1 h2=>hno j h1 h2 (by have:=Hn.out;omega))
  obtain⟨Hno,Hf⟩:=hd2 hno hf;clear hno hf
  go_wp2_with fail
  go_ret
  exact⟨zac Hf.out.symm,Hb1.out.trans (hbq.mono Hb1.out.size)⟩
end

section
open Go.Shelf Go.RowKit Go.Lib VerN VarM
open LexM (Wd Ln)
attribute [local go_sem ↓] Go.wp_at_zero Go.wp_at_succ
theorem rqB_snoc (rs:List Spc3) (s:Spc3):(⟨(rqTx rs).toArray⟩ : ByteArray) ++ ⟨#[114,111,111,116,32]⟩ ++ zd7 s ++ ⟨#[10]⟩=⟨(rqTx (rs ++ [s])).toArray⟩:=by
 apply Txt.ext
 rw[Go.Joins.data_append,Go.Joins.data_append,Go.Joins.data_append]
 show rqTx rs ++ [114,111,111,116,32] ++ (zd7 s).data.toList ++ [10]=rqTx (rs ++ [s])
 rw[zho,List.append_assoc,List.append_assoc]
theorem zgw (l m:List Rt):zhn false l m=decide (l.map (·.1)=m.map (·.1)):=by
 rw[Bool.eq_iff_iff,decide_eq_true_eq]
 have hf:∀ x∈l,∀ y∈m,eqRt false x y=true↔(fun z:Rt=>z.1) x=(fun z:Rt=>z.1) y:=fun x _ y _=>by unfold eqRt;simp
 exact zpm (f:=eqRt false) hf
theorem zu1 {w:World} {v:Value} {l:List Rt} (h:zdo w [v] l) (hsm:∀ x∈l,zd9 x.1) (hl:l.length≤40) :
  Calls Tryz.prog 47 #[.agg #[v]] w fun e w'=>e = .returned (.tuple #[.string (rqR (l.map (·.1))).1,.bool (rqR (l.map (·.1))).2])∧Below w.heap.size w w':=by
 obtain⟨a,c,rfl,hz,hat⟩:=zeb h
 obtain⟨n,hn⟩ : ∃ n,n=l.length:=⟨_,rfl⟩
 rw[← hn] at h hz hl ⊢
 obtain⟨g,hg⟩ : ∃ g,g=w.heap.size:=⟨_,rfl⟩
 obtain⟨w0,hw0⟩ : ∃ W,W=w.alloc (.cells #[.slice a n c] 38):=⟨_,rfl⟩
 have hb0:Below w.heap.size w w0:=by rw[hw0];exact za2 _ _
 have p0:zik g (.slice a n c) w0:=by rw[hw0,hg];exact heap_alloc_new _ _
 have hyes:=zmw (rs:=l.map (·.1))
 have hno:=zso (rs:=l.map (·.1))
 have hiff:=rq_iff (l.map (·.1))
 rw[hiff] at hyes hno
 obtain⟨res,hres⟩ : ∃ q,q=rqR (l.map (·.1)):=⟨_,rfl⟩
 rw[← hres] at hyes hno ⊢
 obtain⟨x0,-⟩:=zak p0
 obtain⟨Hh,Hsm,Hat,Hn,Hb0,Hp0,Hyes,Hno,Hres,Hiff⟩:=hd10 h hsm hat hn hb0 p0 hyes hno hres hiff;clear h hsm hat hn hb0 p0 hyes hno hres hiff
 go_enter Tryz.func47,Tryz.ntmps47
 go_upto_region 1 with (fail)
 rw[← hw0,← hg]
 clear hw0 hg
 go_wp2_with fail
 go_loopw [4,10] (fun v i wr=>∃ k:Nat,k≤n∧i = .int .i64 k∧v = .string ⟨(rqTx ((l.take k).map (·.1))).toArray⟩∧Below w0.heap.size w0 wr) (fun _ i _=>n - (RowKit.intOf i).toNat)
 case atStart=>exact⟨0,Nat.zero_le _,rfl,rfl,Below.refl _ _⟩
 case round =>
  obtain⟨k,hk,rfl,rfl,hbr⟩:=hrel
  have hbw:=Hb0.out.trans (hbr.mono Hb0.out.size)
  have hpr:=za0 hbr Hp0.out
  clear x0
  obtain⟨x0,-⟩:=zak hpr
  have hpre:=zez ((l.take k).map (·.1)) (fun s hs=>by
   obtain⟨y,hy,rfl⟩:=List.mem_map.1 hs
   exact Hsm.out y (List.mem_of_mem_take hy))
  rw[List.length_map,List.length_take,Nat.min_eq_left (by have:=Hn.out;omega)] at hpre
  have hpz:(⟨(rqTx ((l.take k).map (·.1))).toArray⟩ : ByteArray).size≤814761920:=by
   show (rqTx ((l.take k).map (·.1))).toArray.size≤_
   rw[List.size_toArray]
   have:20369048 * k≤20369048 * 40:=Nat.mul_le_mul_left _ (by omega)
   omega
  obtain⟨cur,hcur⟩ : ∃ x:ByteArray,x=⟨(rqTx ((l.take k).map (·.1))).toArray⟩:=⟨_,rfl⟩
  rw[← hcur] at hpz ⊢
  clear hpre
  by_cases hlt:k < n
  ·have hkl:k < l.length:=by have:=Hn.out;omega
   obtain⟨b,off,b1,n1,c1,b2,n2,c2,rfl,d0,d1,d2,d3,r1,r2⟩:=Hat.out k _ (List.getElem?_eq_getElem hkl)
   have d0:=cell_later hbw d0
   have d1:=cell_later hbw d1
   have d2:=cell_later hbw d2
   have hss:=Hsm.out _ (List.getElem_mem hkl)
   have htk:(l.take (k+1)).map (·.1)=(l.take k).map (·.1) ++ [l[k].1]:=by rw[List.take_succ_eq_append_getElem hkl,List.map_append];rfl
   obtain⟨x,hx⟩ : ∃ x,x=l[k]:=⟨_,rfl⟩
   rw[← hx] at d0 r1 r2 hss htk
   have hsz:=zi7 hss
   obtain⟨tl,htl⟩:=zmr hss
   have hW:=zoq (nm:=x.1.1) (za5 zaw _ _ _ _ r1 hbw) (za5 zb5 _ _ _ _ r2 hbw) htl
   have ht3:=rqB_snoc ((l.take k).map (·.1)) x.1
   rw[← htk,← hcur] at ht3
   obtain⟨t,ht⟩ : ∃ t,t=zd7 x.1:=⟨_,rfl⟩
   have ht':t=zd7 (x.1.1,x.1.2.1,x.1.2.2):=ht
   rw[← ht'] at hW
   rw[← ht] at ht3 hsz
   obtain⟨nm,hnm⟩ : ∃ z,z=x.1.1:=⟨_,rfl⟩
   rw[← hnm] at hW d0
   have k5:(0:Int)≤(k:Int):=by omega
   have k6:(k:Int) < (n:Int):=by omega
   clear ht'
   obtain⟨Hbr,Hbw,Hpr,Hcur,Hss,Htk,Hx,Htl,HW,Ht3,Ht,Hnm,Hr1,Hr2⟩:=hd14 hbr hbw hpr hcur hss htk hx htl hW ht3 ht hnm r1 r2;clear hbr hbw hpr hcur hss htk hx htl hW ht3 ht hnm r1 r2
   go_wp2_with fail
   refine HW.out.mono ?_
   rintro e w3 ⟨rfl,hb3⟩
   have hbr3:=Hbr.out.trans (hb3.mono Hbr.out.size)
   obtain⟨Hb3,Hbr3⟩:=hd2 hb3 hbr3;clear hb3 hbr3
   go_wp2_with fail
   go_roundw
   case rel=>exact⟨k+1,by omega,by go_num,by rw[← Ht3.out],Hbr3.out⟩
   case measure=>(simp[RowKit.intOf]) <;> omega
  obtain rfl:k=n:=by omega
  have htk:l.take k=l:=List.take_of_length_le (by have:=Hn.out;omega)
  rw[htk] at hcur
  have hP:=zr2 (w:=wr) cur (by omega)
  have he:cur.data.toList=rqTx (l.map (·.1)):=by rw[hcur]
  rw[he] at hP
  unfold zme at hP
  obtain⟨R,hR⟩ : ∃ R,R=zf0 (rqTx (l.map (·.1))):=⟨_,rfl⟩
  rw[← hR] at hP
  have hyes2:=Hyes.out
  have hno2:=Hno.out
  rw[← hR,← hcur] at hyes2
  rw[← hR] at hno2
  obtain⟨a1,ha1⟩ : ∃ z,z=R.at1:=⟨_,rfl⟩
  obtain⟨a2,ha2⟩ : ∃ z,z=R.at2:=⟨_,rfl⟩
  obtain⟨er,her⟩ : ∃ z,z=R.e:=⟨_,rfl⟩
  obtain⟨rs,hrs⟩ : ∃ z,z=R.roots:=⟨_,rfl⟩
  rw[← ha1,← ha2,← her,← hrs] at hP
  rw[← her,← hrs] at hyes2 hno2
  obtain⟨Hbr,Hbw,Hpr,Hcur,Htk,HP,He,HR,Hyes2,Hno2,Ha1,Ha2,Her,Hrs⟩:=hd14 hbr hbw hpr hcur htk hP he hR hyes2 hno2 ha1 ha2 her hrs;clear hbr hbw hpr hcur htk hP he hR hyes2 hno2 ha1 ha2 her hrs
  go_wp2_with fail
  refine HP.out.mono ?_
  rintro e w5 ⟨v5,rfl,hv5,hb5⟩
  obtain⟨va,vc,rfl⟩:=zcp hv5
  obtain⟨wa,hwa⟩ : ∃ W,W=w5.alloc (.cells #[.slice va rs.length vc,.int .i64 a1,.int .i64 a2,.int .i64 er] 45):=⟨_,rfl⟩
  obtain⟨ba,hba⟩ : ∃ z,z=w5.heap.size:=⟨_,rfl⟩
  have pa:R8Box ba (.slice va rs.length vc) a1 a2 er wa:=by rw[hwa,hba];exact heap_alloc_new _ _
  have hb56:Below w5.heap.size w5 wa:=by rw[hwa];exact za2 _ _
  have hbr5:=hb5.trans (hb56.mono hb5.size)
  have hbwa:=Hbw.out.trans (hbr5.mono Hbw.out.size)
  have hpa:=za0 hbr5 Hpr.out
  clear x0
  obtain⟨x0,-⟩:=zak hpa
  obtain⟨⟨y0,-,-,y3⟩,-⟩:=zjc pa
  have hSm:=zia (za5 zb4 _ _ _ _ hv5 hb56) (za5 zb4 _ _ _ _ Hh.out hbwa) false
  rw[zgw] at hSm
  go_upto_region 8 with (fail)
  rw[← hwa,← hba]
  clear hwa hba
  obtain⟨m,hm⟩ : ∃ m,m=rs.length:=⟨_,rfl⟩
  rw[← hm] at y0 hSm pa ⊢
  obtain⟨same,hsame⟩ : ∃ b,b=decide (rs.map (·.1)=l.map (·.1)):=⟨_,rfl⟩
  rw[← hsame] at hSm
  by_cases he0:er=0
  ·have k1:(er != 0)=false:=by rw[he0];rfl
   cases same with
   | true =>
    have hr:=Hyes2.out ⟨he0,of_decide_eq_true hsame.symm⟩
    obtain⟨Hv5,Hb5,Hpa,Hb56,Hbr5,Hbwa,Hpa,HSm,Hm,Hsame,He0,Hr⟩:=hd12 hv5 hb5 pa hb56 hbr5 hbwa hpa hSm hm hsame he0 hr;clear hv5 hb5 pa hb56 hbr5 hbwa hpa hSm hm hsame he0 hr
    go_wp2_with fail
    refine HSm.out.mono ?_
    rintro e w7 ⟨rfl,hb7⟩
    have hfin:=Hbwa.out.trans (hb7.mono Hbwa.out.size)
    obtain⟨Hb7,Hfin⟩:=hd2 hb7 hfin;clear hb7 hfin
    go_wp2_with fail
    go_ret2
    exact⟨by rw[Hr.out];rfl,Hfin.out⟩
   | false =>
    have hr:=Hno2.out (fun hh=>of_decide_eq_false hsame.symm hh.2)
    obtain⟨Hv5,Hb5,Hpa,Hb56,Hbr5,Hbwa,Hpa,HSm,Hm,Hsame,He0,Hr⟩:=hd12 hv5 hb5 pa hb56 hbr5 hbwa hpa hSm hm hsame he0 hr;clear hv5 hb5 pa hb56 hbr5 hbwa hpa hSm hm hsame he0 hr
    go_wp2_with fail
    refine HSm.out.mono ?_
    rintro e w7 ⟨rfl,hb7⟩
    have hfin:=Hbwa.out.trans (hb7.mono Hbwa.out.size)
    obtain⟨Hb7,Hfin⟩:=hd2 hb7 hfin;clear hb7 hfin
    go_wp2_with fail
    go_ret2
    exact⟨by rw[Hr.out];rfl,Hfin.out⟩
  have k1:(er != 0)=true:=by simpa using he0
  have hr:=Hno2.out (fun hh=>he0 hh.1)
  obtain⟨Hv5,Hb5,Hpa,Hb56,Hbr5,Hbwa,Hpa,HSm,Hm,Hsame,He0,Hr⟩:=hd12 hv5 hb5 pa hb56 hbr5 hbwa hpa hSm hm hsame he0 hr;clear hv5 hb5 pa hb56 hbr5 hbwa hpa hSm hm hsame he0 hr
  go_wp2_with fail
  go_ret2
  exact⟨by rw[Hr.out];rfl,Hbwa.out⟩
end

section
open Go.RowKit Go.Shelf Go.Lib VerN
attribute [local go_sem ↓] Go.wp_at_zero Go.wp_at_succ
def zqc (cs:List Value):Prop:=∃ (p0:ByteArray) (p1:Option Addr) (pn1:Nat) (pc1:Nat) (p2:Option Addr) (pn2:Nat) (pc2:Nat) (p3:Int),cs = [.string p0,.slice p1 pn1 pc1,.slice p2 pn2 pc2,.int .i64 p3]
theorem zrq {α:Type} {R:Rd α} (hR:zj5 R) (hsh:∀ W cs x,R W cs x→zqc cs) {w:World} {v u:Value} {l m:List α} (h:zcs 4 R w [v] l) (hm:zcs 4 R w [u] m)
  {f:FuncId} (eg:∀ args w,(callFunc f args).run Tryz.prog w = .ok (.enter f args) w) {g:α→α→Bool}
  (hf:∀ W cs ds x y,Below w.heap.size w W→R W cs x→R W ds y→x∈l→y∈m→Calls Tryz.prog f #[.agg cs.toArray,.agg ds.toArray] W fun e w'=>e = .returned (.bool (g x y))∧Below W.heap.size W w') :
  Calls Tryz.prog 96 #[v,u,.func (.func f) #[] #[]] w fun e w'=>e = .returned (.bool (zj4 g l m))∧Below w.heap.size w w':=by
 obtain⟨a,cap,rfl⟩:=zcp h
 obtain⟨a2,cap2,rfl⟩:=zcp hm
 obtain⟨-,hz,g1⟩:=zse h
 obtain⟨-,hz2,g2⟩:=zse hm
 obtain⟨n,hn⟩ : ∃ n,n=l.length:=⟨_,rfl⟩
 obtain⟨n2,hn2⟩ : ∃ n,n=m.length:=⟨_,rfl⟩
 obtain⟨r,hr⟩ : ∃ r,r=zj4 g l m:=⟨_,rfl⟩
 rw[← hr]
 rw[← hn] at hz h ⊢
 rw[← hn2] at hz2 hm ⊢
 obtain⟨Hh,Hm,Hg1,Hg2,Hn,Hn2,Hr,Hf,HR,Hsh⟩:=hd10 h hm g1 g2 hn hn2 hr hf hR hsh;clear h hm g1 g2 hn hn2 hr hf hR hsh
 go_enter Tryz.func96,Tryz.ntmps96
 by_cases hne:n=n2
 case neg =>
  have k1:((n:Int) != (n2:Int))=true:=by simp;omega
  have hff:r=false:=by rw[Hr.out];exact eqAll_len (by rw[← Hn.out,← Hn2.out];exact hne)
  obtain⟨Hff,Hne⟩:=hd2 hff hne;clear hff hne
  go_wp2_with fail
  go_ret
  exact⟨by rw[Hff.out];rfl,Below.refl _ _⟩
 have k1:((n:Int) != (n2:Int))=false:=by simp;omega
 have Hne:=hd hne;clear hne
 go_wp2_with fail
 clear k1
 go_loopw [17] (fun i wr=>∃ k:Nat,k≤n∧i = .int .i64 k∧(∀ j (h1:j < l.length) (h2:j < m.length),j < k→g l[j] m[j]=true)∧Below w.heap.size w wr) (fun i _=>n - (RowKit.intOf i).toNat)
 case atStart=>exact⟨0,Nat.zero_le _,rfl,fun _ _ _ h=>by omega,Below.refl _ _⟩
 case round =>
  obtain⟨k,hk,rfl,hno,hbr⟩:=hrel
  by_cases hlt:k < n
  ·have hkl:k < l.length:=by have:=Hn.out;omega
   have hkm:k < m.length:=by have:=Hn2.out;have:=Hne.out;omega
   obtain⟨b,off,ecs,rfl,-,hpc,hp⟩:=Hg1.out k _ (List.getElem?_eq_getElem hkl)
   obtain⟨b2,off2,ecs2,rfl,-,hqc,hq⟩:=Hg2.out k _ (List.getElem?_eq_getElem hkm)
   obtain⟨p0,p1,pn1,pc1,p2,pn2,pc2,p3,rfl⟩:=Hsh.out _ _ _ hp
   obtain⟨q0,q1,qn1,qc1,q2,qn2,qc2,q3,rfl⟩:=Hsh.out _ _ _ hq
   have px0:=cell_later hbr (hpc 0 _ rfl)
   have px1:=cell_later hbr (hpc 1 _ rfl)
   have px2:=cell_later hbr (hpc 2 _ rfl)
   have px3:=cell_later hbr (hpc 3 _ rfl)
   rw[Nat.add_zero] at px0
   obtain⟨wa,hwa⟩ : ∃ W,W=wr.alloc (.cells #[.string p0,.slice p1 pn1 pc1,.slice p2 pn2 pc2,.int .i64 p3] 101):=⟨_,rfl⟩
   obtain⟨ba,hba⟩ : ∃ z,z=wr.heap.size:=⟨_,rfl⟩
   have pa:wa.heap[ba]? = some (.cells #[.string p0,.slice p1 pn1 pc1,.slice p2 pn2 pc2,.int .i64 p3] 101 (0,0)):=by rw[hwa,hba];exact heap_alloc_new _ _
   have hb1:Below wr.heap.size wr wa:=by rw[hwa];exact za2 _ _
   have hbr1:=hbr.trans (hb1.mono hbr.size)
   have qx0:=cell_later hbr1 (hqc 0 _ rfl)
   have qx1:=cell_later hbr1 (hqc 1 _ rfl)
   have qx2:=cell_later hbr1 (hqc 2 _ rfl)
   have qx3:=cell_later hbr1 (hqc 3 _ rfl)
   rw[Nat.add_zero] at qx0
   obtain⟨wb,hwb⟩ : ∃ W,W=wa.alloc (.cells #[.string q0,.slice q1 qn1 qc1,.slice q2 qn2 qc2,.int .i64 q3] 101):=⟨_,rfl⟩
   obtain⟨bb,hbb⟩ : ∃ z,z=wa.heap.size:=⟨_,rfl⟩
   have pb:wb.heap[bb]? = some (.cells #[.string q0,.slice q1 qn1 qc1,.slice q2 qn2 qc2,.int .i64 q3] 101 (0,0)):=by rw[hwb,hbb];exact heap_alloc_new _ _
   have hb2:Below wa.heap.size wa wb:=by rw[hwb];exact za2 _ _
   have hbr2:=hbr1.trans (hb2.mono hbr1.size)
   have pa2:=za0 hb2 pa
   have y0:=za4 pa2 0
   have z0:=za4 pb 0
   have y1:=za4 pa2 1
   have z1:=za4 pb 1
   have y2:=za4 pa2 2
   have z2:=za4 pb 2
   have y3:=za4 pa2 3
   have z3:=za4 pb 3
   simp only[List.getElem?_toArray,List.getElem?_cons_zero,List.getElem?_cons_succ] at y0 z0 y1 z1 y2 z2 y3 z3
   have hC:=Hf.out wb _ _ _ _ hbr2 (HR.out _ _ _ _ hp hbr2) (HR.out _ _ _ _ hq hbr2) (List.getElem_mem hkl) (List.getElem_mem hkm)
   have hnx:g l[k] m[k]=true→∀ j (h1:j < l.length) (h2:j < m.length),j < k+1→g l[j] m[j]=true:=fun h j h1 h2 hjk=>by
    by_cases e:j=k
    ·subst e;exact h
    exact hno j h1 h2 (by omega)
   have hbd:g l[k] m[k]=false→zj4 g l m=false:=fun h=>eqAll_no hkl hkm h
   obtain⟨e,he⟩ : ∃ e,e=g l[k] m[k]:=⟨_,rfl⟩
   rw[← he] at hC hnx hbd
   have k5:(0:Int)≤(k:Int):=by omega
   have k6:(k:Int) < (n:Int):=by omega
   have k7:(k:Int) < (n2:Int):=by have:=Hne.out;omega
   clear hpc hqc
   obtain⟨Hno,Hnx,Hbd,He,HC,Hpa,Hpb,Hpa2,Hb1,Hb2,Hbr,Hbr1,Hbr2,Hp,Hq⟩:=hd15 hno hnx hbd he hC pa pb pa2 hb1 hb2 hbr hbr1 hbr2 hp hq;clear hno hnx hbd he hC pa pb pa2 hb1 hb2 hbr hbr1 hbr2 hp hq
   go_upto_region 6 with (fail)
   rw[← hwa,← hba]
   clear hwa hba px0 px1 px2 px3
   go_upto_region 7 with (fail)
   rw[← hwb,← hbb]
   clear hwb hbb qx0 qx1 qx2 qx3
   go_wp2_with fail
   refine HC.out.mono ?_
   rintro e' w9 ⟨rfl,hb9⟩
   have hbw9:=Hbr2.out.trans (hb9.mono Hbr2.out.size)
   clear y0 z0 y1 z1 y2 z2 y3 z3
   obtain⟨Hb9,Hbw9⟩:=hd2 hb9 hbw9;clear hb9 hbw9
   cases e with
   | true =>
    have hq2:=Hnx.out rfl
    have Hq2:=hd hq2;clear hq2
    go_wp2_with fail
    go_roundw
    case rel=>exact⟨k+1,by omega,by go_num,Hq2.out,Hbw9.out⟩
    case measure=>simp[RowKit.intOf];omega
   | false =>
    have hff:r=false:=by rw[Hr.out];exact Hbd.out rfl
    have Hff:=hd hff;clear hff
    go_wp2_with fail
    go_ret
    exact⟨by rw[Hff.out];rfl,Hbw9.out⟩
  obtain rfl:n=k:=by omega
  have hff:r=true:=by
   rw[Hr.out]
   exact zpl (by rw[← Hn.out,← Hn2.out,Hne.out]) (fun j h1 h2=>hno j h1 h2 (by have:=Hn.out;omega))
  obtain⟨Hno,Hff,Hbr⟩:=hd3 hno hff hbr;clear hno hff hbr
  go_wp2_with fail
  go_ret
  exact⟨by rw[Hff.out];rfl,Hbr.out⟩
end

section
open Go.Shelf Go.RowKit Go.Lib VerN VarM
attribute [local go_sem ↓] Go.wp_at_zero Go.wp_at_succ
theorem zu9 (W:World) (cs:List Value) (x:Rt) (h:zqd W cs x):zqc cs:=by
 obtain⟨v1,v2,rfl,h1,h2⟩:=h
 obtain⟨a1,c1,rfl⟩:=zbh h1
 obtain⟨a2,c2,rfl⟩:=zdb h2
 exact⟨_,_,_,_,_,_,_,_,rfl⟩
theorem zug {w:World} {cs ds:List Value} {x y:Rt} (h:zqd w cs x) (hm:zqd w ds y):Calls Tryz.prog 97 #[.agg cs.toArray,.agg ds.toArray] w fun e w'=>e = .returned (.bool (decide (x.1=y.1)))∧Below w.heap.size w w':=by
 obtain⟨v1,v2,rfl,h1,h2⟩:=h
 obtain⟨u1,u2,rfl,h3,h4⟩:=hm
 obtain⟨a1,c1,rfl⟩:=zbh h1
 obtain⟨a2,c2,rfl⟩:=zdb h2
 obtain⟨a3,c3,rfl⟩:=zbh h3
 obtain⟨a4,c4,rfl⟩:=zdb h4
 obtain⟨n1,hn1⟩ : ∃ n,n=x.1.2.1.length:=⟨_,rfl⟩
 obtain⟨n2,hn2⟩ : ∃ n,n=x.1.2.2.length:=⟨_,rfl⟩
 obtain⟨n3,hn3⟩ : ∃ n,n=y.1.2.1.length:=⟨_,rfl⟩
 obtain⟨n4,hn4⟩ : ∃ n,n=y.1.2.2.length:=⟨_,rfl⟩
 rw[← hn1] at h1 ⊢
 rw[← hn2] at h2 ⊢
 rw[← hn3] at h3 ⊢
 rw[← hn4] at h4 ⊢
 obtain⟨w1,hw1⟩ : ∃ W,W=(w.alloc (.cells #[.string x.1.1,.slice a1 n1 c1,.slice a2 n2 c2,.int .i64 x.2] 101)).alloc (.cells #[.string y.1.1,.slice a3 n3 c3,.slice a4 n4 c4,.int .i64 y.2] 101):=⟨_,rfl⟩
 obtain⟨g,hg⟩ : ∃ g,g=w.heap.size:=⟨_,rfl⟩
 have hb1:Below w.heap.size w w1:=by rw[hw1];exact (za2 _ _).alloc (by simp) _
 have p0:RtBox g (.string x.1.1) (.slice a1 n1 c1) (.slice a2 n2 c2) (.int .i64 x.2) w1:=by rw[hw1,hg];exact za0 (za2 _ _) (za6 rfl)
 have p1:RtBox (g+1) (.string y.1.1) (.slice a3 n3 c3) (.slice a4 n4 c4) (.int .i64 y.2) w1:=by rw[hw1,hg];exact za6 (by simp)
 have x0:=za4 p0 0
 have x1:=za4 p0 1
 have x2:=za4 p0 2
 have y0:=za4 p1 0
 have y1:=za4 p1 1
 have y2:=za4 p1 2
 simp only[List.getElem?_toArray,List.getElem?_cons_zero,List.getElem?_cons_succ] at x0 x1 x2 y0 y1 y2
 have hS:=zhq (n:=x.1.1) (m:=y.1.1) (za5 zaw _ _ _ _ h1 hb1) (za5 zb5 _ _ _ _ h2 hb1) (za5 zaw _ _ _ _ h3 hb1) (za5 zb5 _ _ _ _ h4 hb1)
 obtain⟨r,hr⟩ : ∃ r,r=decide (x.1=y.1):=⟨_,rfl⟩
 have e:decide ((x.1.1,x.1.2.1,x.1.2.2)=(y.1.1,y.1.2.1,y.1.2.2))=r:=by rw[hr]
 rw[e] at hS
 rw[← hr]
 obtain⟨s,hs⟩ : ∃ s,s=x.1.1:=⟨_,rfl⟩
 obtain⟨t,ht⟩ : ∃ s,s=y.1.1:=⟨_,rfl⟩
 obtain⟨i,hi⟩ : ∃ s,s=x.2:=⟨_,rfl⟩
 obtain⟨j,hj⟩ : ∃ s,s=y.2:=⟨_,rfl⟩
 rw[← hs,← ht] at hS
 rw[← hs] at x0
 rw[← ht] at y0
 rw[← hs,← ht,← hi,← hj] at hw1
 clear e
 show Calls Tryz.prog 97 #[.agg #[.string x.1.1,.slice a1 n1 c1,.slice a2 n2 c2,.int .i64 x.2],.agg #[.string y.1.1,.slice a3 n3 c3,.slice a4 n4 c4,.int .i64 y.2]] w _
 rw[← hs,← ht,← hi,← hj]
 obtain⟨H1,H2,H3,H4,Hb1,Hp0,Hp1,HS,Hr,Hs,Ht,Hi,Hj,Hn1,Hn2,Hn3⟩:=hd16 h1 h2 h3 h4 hb1 p0 p1 hS hr hs ht hi hj hn1 hn2 hn3;have Hn4:=hd hn4;clear h1 h2 h3 h4 hb1 p0 p1 hS hr hs ht hi hj hn1 hn2 hn3 hn4
 go_enter Tryz.func97,Tryz.ntmps97
 go_upto_region 1 with (fail)
 rw[← hw1,← hg]
 clear hw1 hg
 go_wp2_with fail
 refine HS.out.mono ?_
 rintro e w2 ⟨rfl,hb2⟩
 have Hb2:=hd hb2;clear hb2
 go_wp2_with fail
 go_ret
 exact⟨rfl,Hb1.out.trans (Hb2.out.mono Hb1.out.size)⟩
theorem zk7 {w:World} {v u:Value} {l m:List Rt} (h:zdo w [v] l) (hm:zdo w [u] m):Calls Tryz.prog 48 #[.agg #[v],.agg #[u]] w fun e w'=>e = .returned (.bool (decide (l.map (·.1)=m.map (·.1))))∧Below w.heap.size w w':=by
 obtain⟨a,c,rfl⟩:=zcp h
 obtain⟨a2,c2,rfl⟩:=zcp hm
 obtain⟨w1,hw1⟩ : ∃ W,W=(w.alloc (.cells #[.slice a l.length c] 38)).alloc (.cells #[.slice a2 m.length c2] 38):=⟨_,rfl⟩
 obtain⟨g,hg⟩ : ∃ g,g=w.heap.size:=⟨_,rfl⟩
 have hb1:Below w.heap.size w w1:=by rw[hw1];exact (za2 _ _).alloc (by simp) _
 have p0:zik g (.slice a l.length c) w1:=by rw[hw1,hg];exact za0 (za2 _ _) (za6 rfl)
 have p1:zik (g+1) (.slice a2 m.length c2) w1:=by rw[hw1,hg];exact za6 (by simp)
 have hE:=zrq zb4 zu9 (za5 zb4 _ _ _ _ h hb1) (za5 zb4 _ _ _ _ hm hb1) (enters_of Tryz.func97 (by kernel_rfl) rfl) (g:=fun x y=>decide (x.1=y.1)) (fun W cs ds x y _ hx hy _ _=>zug hx hy)
 have heq:zj4 (fun x y:Rt=>decide (x.1=y.1)) l m=decide (l.map (·.1)=m.map (·.1)):=by
  rw[Bool.eq_iff_iff,decide_eq_true_eq]
  exact zpm (g:=fun z:Rt=>z.1) (fun x _ y _=>by simp)
 rw[heq] at hE
 obtain⟨r,hr⟩ : ∃ r,r=decide (l.map (·.1)=m.map (·.1)):=⟨_,rfl⟩
 obtain⟨n,hn⟩ : ∃ n,n=l.length:=⟨_,rfl⟩
 obtain⟨n2,hn2⟩ : ∃ n,n=m.length:=⟨_,rfl⟩
 rw[← hr,← hn,← hn2] at hE
 rw[← hn] at p0
 rw[← hn2] at p1
 rw[← hn,← hn2] at hw1
 rw[← hr,← hn,← hn2]
 obtain⟨x0,-⟩:=zak p0
 obtain⟨y0,-⟩:=zak p1
 clear heq
 obtain⟨Hh,Hm,Hb1,Hp0,Hp1,HE,Hr,Hn,Hn2⟩:=hd9 h hm hb1 p0 p1 hE hr hn hn2;clear h hm hb1 p0 p1 hE hr hn hn2
 go_enter Tryz.func48,Tryz.ntmps48
 go_upto_region 1 with (fail)
 rw[← hw1,← hg]
 clear hw1 hg
 go_wp2_with fail
 refine HE.out.mono ?_
 rintro e w2 ⟨rfl,hb2⟩
 have Hb2:=hd hb2;clear hb2
 go_wp2_with fail
 go_ret
 exact⟨rfl,Hb1.out.trans (Hb2.out.mono Hb1.out.size)⟩
theorem zko {w:World} {v:Value} {l:List Rt} (h:zdo w [v] l):Calls Tryz.prog 45 #[.agg #[v]] w fun e w'=>(∃ r,e = .returned (.bool r)∧(r=false→l.length≤40∧∀ x∈l,zd9 x.1))∧Below w.heap.size w w':=by
 obtain⟨a,c,rfl,hz,hat⟩:=zeb h
 obtain⟨n,hn⟩ : ∃ n,n=l.length:=⟨_,rfl⟩
 rw[← hn] at h hz ⊢
 obtain⟨g,hg⟩ : ∃ g,g=w.heap.size:=⟨_,rfl⟩
 obtain⟨w0,hw0⟩ : ∃ W,W=w.alloc (.cells #[.slice a n c] 38):=⟨_,rfl⟩
 have hb0:Below w.heap.size w w0:=by rw[hw0];exact za2 _ _
 have p0:zik g (.slice a n c) w0:=by rw[hw0,hg];exact heap_alloc_new _ _
 obtain⟨x0,-⟩:=zak p0
 obtain⟨Hh,Hat,Hn,Hb0,Hp0⟩:=hd5 h hat hn hb0 p0;clear h hat hn hb0 p0
 go_enter Tryz.func45,Tryz.ntmps45
 go_upto_region 1 with (fail)
 rw[← hw0,← hg]
 clear hw0 hg
 by_cases h40:n≤40
 ·have k1:¬ (40:Int) < (n:Int):=by omega
  have k2:decide ((40:Int) < (n:Int))=false:=decide_eq_false k1
  go_wp2_with fail
  go_loopw [11] (fun i wr=>∃ k:Nat,k≤n∧i = .int .i64 k∧(∀ j (h:j < l.length),j < k→zd9 l[j].1)∧Below w0.heap.size w0 wr) (fun i _=>n - (RowKit.intOf i).toNat)
  case atStart=>exact⟨0,Nat.zero_le _,rfl,fun _ _ h=>by omega,Below.refl _ _⟩
  case round =>
   obtain⟨k,hk,rfl,hall,hbr⟩:=hrel
   have hbw:=Hb0.out.trans (hbr.mono Hb0.out.size)
   have hpr:=za0 hbr Hp0.out
   clear x0
   obtain⟨x0,-⟩:=zak hpr
   by_cases hlt:k < n
   ·have hkl:k < l.length:=by have:=Hn.out;omega
    obtain⟨b,off,b1,n1,c1,b2,n2,c2,rfl,d0,d1,d2,d3,r1,r2⟩:=Hat.out k _ (List.getElem?_eq_getElem hkl)
    have d0:=cell_later hbw d0
    have d1:=cell_later hbw d1
    have d2:=cell_later hbw d2
    have hG:=zrn (nm:=l[k].1.1) (za5 zaw _ _ _ _ r1 hbw) (za5 zb5 _ _ _ _ r2 hbw)
    have hnx:zd9 l[k].1→∀ j (h:j < l.length),j < k+1→zd9 l[j].1:=fun h j h1 h2=>by
     by_cases e:j=k
     ·subst e;exact h
     exact hall j h1 (by omega)
    have he:((l[k].1.1,l[k].1.2.1,l[k].1.2.2):Spc3)=l[k].1:=rfl
    rw[he] at hG
    obtain⟨s,hs⟩ : ∃ s,s=l[k].1:=⟨_,rfl⟩
    rw[← hs] at hG hnx d0
    obtain⟨nm,hnm⟩ : ∃ z,z=s.1:=⟨_,rfl⟩
    rw[← hnm] at hG d0
    have k5:(0:Int)≤(k:Int):=by omega
    have k6:(k:Int) < (n:Int):=by omega
    clear he
    obtain⟨Hall,Hbr,Hbw,Hpr,HG,Hnx,Hs,Hnm,Hr1,Hr2⟩:=hd10 hall hbr hbw hpr hG hnx hs hnm r1 r2;clear hall hbr hbw hpr hG hnx hs hnm r1 r2
    go_wp2_with fail
    refine HG.out.mono ?_
    rintro e w3 ⟨⟨r,rfl,hr⟩,hb3⟩
    have hbr3:=Hbr.out.trans (hb3.mono Hbr.out.size)
    have hfin:=Hb0.out.trans (hbr3.mono Hb0.out.size)
    cases r with
    | true =>
     clear hr
     obtain⟨Hb3,Hbr3,Hfin⟩:=hd3 hb3 hbr3 hfin;clear hb3 hbr3 hfin
     go_wp2_with fail
     go_ret
     exact⟨⟨true,rfl,fun h=>by cases h⟩,Hfin.out⟩
    | false =>
     have hq:=Hnx.out (hr rfl)
     clear hr
     obtain⟨Hb3,Hbr3,Hfin,Hq⟩:=hd4 hb3 hbr3 hfin hq;clear hb3 hbr3 hfin hq
     go_wp2_with fail
     go_roundw
     case rel=>exact⟨k+1,by omega,by go_num,Hq.out,Hbr3.out⟩
     case measure=>(simp[RowKit.intOf]) <;> omega
   obtain rfl:k=n:=by omega
   have hfin:k≤40∧∀ x∈l,zd9 x.1:=⟨h40,fun x hx=>by
    obtain⟨j,hj,rfl⟩:=List.getElem_of_mem hx
    exact hall j hj (by have:=Hn.out;omega)⟩
   obtain⟨Hall,Hbr,Hbw,Hpr,Hfin⟩:=hd5 hall hbr hbw hpr hfin;clear hall hbr hbw hpr hfin
   go_wp2_with fail
   go_ret
   exact⟨⟨false,rfl,fun _=>Hfin.out⟩,Hbw.out⟩
 have k1:(40:Int) < (n:Int):=by omega
 go_wp2_with fail
 go_ret
 exact⟨⟨true,rfl,fun h=>by cases h⟩,Hb0.out⟩
end

section
open Go.Lib VerN VarM
open LexM (Wd Ln)
def fx8T:ByteArray:=⟨#[114,111,111,116,32,97,64,49,58,32,120,61,111,110]⟩
def fx8L:Ln:=(1,[(1,[114,111,111,116]),(6,[97,64,49,58]),(11,[120,61,111,110])])
theorem fx8_doc:LexM.docLines fx8T.data.toList=⟨[fx8L],0,0,0⟩:=by kernel_rfl
def zpf:ByteArray:=⟨#[49,58]⟩
def fx8Sp:Tp:=⟨(⟨#[49]⟩,⟨#[]⟩),by decide⟩
theorem fx8_rd:rdSp zpf = [(⟨#[49]⟩,⟨#[]⟩)]:=by decide +kernel
theorem fx8_rdV:rdV zpf = [(⟨#[49]⟩,⟨#[]⟩)]:=by
 unfold rdV
 rw[if_neg (by decide)]
 exact fx8_rd
theorem fx8_rd3:Rd3 zpf:=by
 refine .inr ⟨by decide +kernel,fun l hl=>?_⟩
 rw[fx8_rd] at hl
 have e:l = [fx8Sp]:=by
  match l,hl with
  | [x],hl =>
   have h1:x.1=(⟨#[49]⟩,⟨#[]⟩):=by simpa [tB] using hl
   rw[show x=fx8Sp from Subtype.ext h1]
  | [],hl=>simp[tB] at hl
  | _ :: _ :: _,hl=>simp[tB] at hl
 rw[e]
 decide +kernel
open Classical in
theorem fx8_set:zeu zpf=true:=by
 unfold zeu
 refine decide_eq_true ⟨fx8_rd3,?_⟩
 rw[fx8_rdV]
 exact⟨by simp,by simp⟩
theorem fx8_req:∃ s,zf0 fx8T.data.toList=⟨[(s,1)],0,0,0⟩∧s.1=⟨#[97]⟩:=by
 have hn:zdi ⟨#[97,64,49,58]⟩=true:=by
  unfold zdi
  rw[show (cutB 64 (⟨#[97,64,49,58]⟩ : ByteArray))=(⟨#[97]⟩,zpf,true) from by kernel_rfl,fx8_set]
  kernel_rfl
 have h1:zbe (fx8L.2.drop 1) 0=⟨#[97,64,49,58]⟩:=by kernel_rfl
 have h2:zbf (fx8L.2.drop 1) 1 []=(some [(⟨#[120]⟩,⟨#[111,110]⟩)],2):=by kernel_rfl
 have h3:zat (fx8L.2.drop 1) 0=(some (⟨#[97]⟩,zda ⟨#[97,64,49,58]⟩,[(⟨#[120]⟩,⟨#[111,110]⟩)]),2):=by
  unfold zat
  rw[h1,if_pos hn,h2]
  rfl
 have h4:zdm fx8L=(some (⟨#[97]⟩,zda ⟨#[97,64,49,58]⟩,[(⟨#[120]⟩,⟨#[111,110]⟩)]),0):=by
  unfold zdm
  rw[if_pos (by kernel_rfl),h3]
  rfl
 refine⟨(⟨#[97]⟩,zda ⟨#[97,64,49,58]⟩,[(⟨#[120]⟩,⟨#[111,110]⟩)]),?_,rfl⟩
 unfold zf0
 rw[fx8_doc]
 show ze0 [fx8L] []=_
 unfold ze0
 rw[h4]
 rfl
end

section
open Go.Shelf Go.RowKit Go.Lib VerN VarM
attribute [local go_sem ↓] Go.wp_at_zero Go.wp_at_succ
theorem zrp {w:World} (hD:zbo w):Calls Tryz.prog 27 #[] w fun e w'=>e = .returned (.bool true)∧Below w.heap.size w w':=by
 have hP:=zox fx8T (by decide) hD
 obtain⟨s,hs,hn⟩:=fx8_req
 rw[hs] at hP
 unfold zrz at hP
 unfold fx8T at hP
 clear hs
 obtain⟨HP,HD⟩:=hd2 hP hD;clear hP hD
 go_enter Tryz.func27,Tryz.ntmps27
 go_wp2_with fail
 refine HP.out.mono ?_
 rintro e w1 ⟨v,rfl,hrt,hb1⟩
 obtain⟨a,cap,rfl,-,hat⟩:=zeb hrt
 obtain⟨b,off,b1,n1,c1,b2,n2,c2,rfl,d0,-,-,d3,-,-⟩:=hat 0 _ rfl
 rw[Nat.zero_mul,Nat.add_zero] at d0 d3
 obtain⟨tx,htx⟩ : ∃ t,t=s.1:=⟨_,rfl⟩
 simp only[← htx] at d0
 have hte:(tx.toList == [97])=true:=by
  rw[htx,hn,Lib.toList_data]
  rfl
 obtain⟨g,hg⟩ : ∃ g,g=w1.heap.size:=⟨_,rfl⟩
 obtain⟨w2,hw2⟩ : ∃ W,W=(w1.alloc (.cells #[.slice (some ⟨b,off,none⟩) 1 cap] 38)).alloc (.cells #[.int .i64 0,.int .i64 0] 40):=⟨_,rfl⟩
 have hb2:Below w1.heap.size w1 w2:=by rw[hw2];exact (za2 _ _).alloc (by simp) _
 have p0:zik g (.slice (some ⟨b,off,none⟩) 1 cap) w2:=by rw[hw2,hg];exact za0 (za2 _ _) (za6 rfl)
 obtain⟨x0,-⟩:=zak p0
 have e0:=cell_later hb2 d0
 have e3:=cell_later hb2 d3
 have hbw:=hb1.trans (hb2.mono hb1.size)
 clear d0 d3 hat
 obtain⟨Hrt,Hb1,Hb2,Hp0,Hbw,Htx,Hn⟩:=hd7 hrt hb1 hb2 p0 hbw htx hn;clear hrt hb1 hb2 p0 hbw htx hn
 go_upto_region 2 with (fail)
 rw[← hw2,← hg]
 clear hw2 hg
 go_wp2_with fail
 go_ret
 exact⟨rfl,Hbw.out⟩
end
end Go.Proofs.YteailgjiifdgcaaGreatDoor
