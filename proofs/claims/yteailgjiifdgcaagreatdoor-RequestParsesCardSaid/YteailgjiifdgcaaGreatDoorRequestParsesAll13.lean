/- Walks and plain facts. Texts merged: RqU, SetSame, SmS, RqV, RqW, RqY. Condition: none beyond what each says. -/
import Derived.Test.YteailgjiifdgcaaGreatDoorRequestParsesAll12
set_option linter.unusedVariables false
set_option linter.unusedSimpArgs false
set_option maxRecDepth 10000
set_option maxHeartbeats 4000000
namespace Go.Proofs.YteailgjiifdgcaaGreatDoor
section
open Go.Shelf Go.RowKit Go.Lib VerN VarM
open LexM (Wd Ln zgv)
attribute [local go_sem ↓] Go.wp_at_zero Go.wp_at_succ
def zk1 (w:World) (r:zq6) (e:Ending) (w':World):Prop:=∃ v,e = .returned (.agg #[v,.int .i64 r.at1,.int .i64 r.at2,.int .i64 r.e])∧zj1 w' [v] r.roots∧Below w.heap.size w w'
abbrev R8Box (k:Nat) (v:Value) (x y z:Int) (W:World):Prop:=W.heap[k]? = some (.cells #[v,.int .i64 x,.int .i64 y,.int .i64 z] 45 (0,0))
theorem zhp {k:Nat} {v:Value} {x y z:Int} {W:World} (h:R8Box k v x y z W):(W.cell? ⟨k,0,none⟩=some v∧W.cell? ⟨k,1,none⟩=some (.int .i64 x)∧W.cell? ⟨k,2,none⟩=some (.int .i64 y)∧W.cell? ⟨k,3,none⟩=some (.int .i64 z))∧W.frozen? ⟨k,0,none⟩=false∧W.frozen? ⟨k,1,none⟩=false∧W.frozen? ⟨k,2,none⟩=false∧W.frozen? ⟨k,3,none⟩=false:=⟨⟨za4 h 0,za4 h 1,za4 h 2,za4 h 3⟩,za8 h 0,za8 h 1,za8 h 2,za8 h 3⟩
abbrev L5Box (k:Nat) (v:Value) (x y z:Int) (W:World):Prop:=W.heap[k]? = some (.cells #[v,.int .i64 x,.int .i64 y,.int .i64 z] 58 (0,0))
theorem zhv {k:Nat} {v:Value} {x y z:Int} {W:World} (h:L5Box k v x y z W):W.cell? ⟨k,0,none⟩=some v∧W.cell? ⟨k,1,none⟩=some (.int .i64 x)∧W.cell? ⟨k,2,none⟩=some (.int .i64 y)∧W.cell? ⟨k,3,none⟩=some (.int .i64 z):=⟨za4 h 0,za4 h 1,za4 h 2,za4 h 3⟩
theorem zkj {w W:World} {g:Nat} {v v':Value} {x y z x' y' z':Int} (hwg:w.heap.size≤g) (h:R8Box g v x y z W) (hb:Below w.heap.size w W):R8Box g v' x' y' z' ((((W.setCell ⟨g,0,none⟩ v').setCell ⟨g,1,none⟩ (.int .i64 x')).setCell ⟨g,2,none⟩ (.int .i64 y')).setCell ⟨g,3,none⟩ (.int .i64 z'))∧Below w.heap.size w ((((W.setCell ⟨g,0,none⟩ v').setCell ⟨g,1,none⟩ (.int .i64 x')).setCell ⟨g,2,none⟩ (.int .i64 y')).setCell ⟨g,3,none⟩ (.int .i64 z'))∧Frm (fun k=>k=g) W ((((W.setCell ⟨g,0,none⟩ v').setCell ⟨g,1,none⟩ (.int .i64 x')).setCell ⟨g,2,none⟩ (.int .i64 y')).setCell ⟨g,3,none⟩ (.int .i64 z')):=by
 have k0:=heap_setCell_same W g 0 _ _ v' h
 have k1:=heap_setCell_same _ g 1 _ _ (.int .i64 x') k0
 have k2:=heap_setCell_same _ g 2 _ _ (.int .i64 y') k1
 have k3:=heap_setCell_same _ g 3 _ _ (.int .i64 z') k2
 exact⟨k3,(((hb.setCell (p:=⟨g,0,none⟩) hwg _).setCell (p:=⟨g,1,none⟩) hwg _).setCell (p:=⟨g,2,none⟩) hwg _).setCell (p:=⟨g,3,none⟩) hwg _,za9 (za9 (za9 (za9 (Frm.refl _ _) 0 _) 1 _) 2 _) 3 _⟩
theorem znw (t:ByteArray) (ht:t.size≤140737488351232) {w:World}:Calls Tryz.prog 29 #[.string t] w (zk1 w (zid t.data.toList)):=by
 have hgood:=LexM.doc_good7 t.data.toList
 have hL:=fun (W:World)=>zmq t (by omega) W
 obtain⟨R,hR⟩ : ∃ R,R=LexM.docLines t.data.toList:=⟨_,rfl⟩
 have hreq:zid t.data.toList=if R.e=0 then zh1 R.lines [] else ⟨[],R.at1,R.at2,R.e⟩:=by unfold zid;rw[hR]
 rw[← hR] at hL hgood
 have hlen:t.data.toList.length=t.size:=Txt.len t
 obtain⟨g,hg⟩ : ∃ g,g=w.heap.size:=⟨_,rfl⟩
 obtain⟨W1,hW1⟩ : ∃ W,W=w.alloc (.cells #[.slice none 0 0,.int .i64 0,.int .i64 0,.int .i64 0] 45):=⟨_,rfl⟩
 have hb1:Below w.heap.size w W1:=by rw[hW1];exact za2 _ _
 have p0:R8Box g (.slice none 0 0) 0 0 0 W1:=by rw[hW1,hg];exact heap_alloc_new _ _
 have hs1:W1.heap.size=g+1:=by rw[hW1,hg];simp
 have hwg:w.heap.size≤g:=Nat.le_of_eq hg.symm
 have hL1:=hL W1
 unfold zle at hL1
 obtain⟨a1,ha1⟩ : ∃ z,z=R.at1:=⟨_,rfl⟩
 obtain⟨a2,ha2⟩ : ∃ z,z=R.at2:=⟨_,rfl⟩
 obtain⟨er,her⟩ : ∃ z,z=R.e:=⟨_,rfl⟩
 obtain⟨ls,hls⟩ : ∃ z,z=R.lines:=⟨_,rfl⟩
 rw[← ha1,← ha2,← her,← hls] at hL1 hreq
 rw[← hls] at hgood
 clear hL
 obtain⟨Hgood,Hreq,HL1,Hb1,Hp0,HR,Hlen,Ha1,Ha2,Her,Hls⟩:=hd11 hgood hreq hL1 hb1 p0 hR hlen ha1 ha2 her hls;clear hgood hreq hL1 hb1 p0 hR hlen ha1 ha2 her hls
 go_enter Tryz.func29,Tryz.ntmps29
 go_upto_region 1 with (fail)
 rw[← hW1,← hg]
 clear hW1 hg
 go_wp2_with fail
 refine HL1.out.mono ?_
 rintro e w2 ⟨v,rfl,hln,hb2⟩
 obtain⟨ad,cp,rfl⟩ : ∃ a c,v = .slice a ls.length c:=by
  obtain⟨a,cap,hv,_⟩:=hln
  simp only[List.cons.injEq,and_true] at hv
  exact⟨a,cap,hv⟩
 obtain⟨n,hn⟩ : ∃ n,n=ls.length:=⟨_,rfl⟩
 rw[← hn] at hln ⊢
 obtain⟨lb,hlb⟩ : ∃ z,z=w2.heap.size:=⟨_,rfl⟩
 obtain⟨w3,hw3⟩ : ∃ W,W=w2.alloc (.cells #[.slice ad n cp,.int .i64 a1,.int .i64 a2,.int .i64 er] 58):=⟨_,rfl⟩
 have hb23:Below w2.heap.size w2 w3:=by rw[hw3];exact za2 _ _
 have hb13:=hb2.trans (hb23.mono hb2.size)
 have hb3:=Hb1.out.trans (hb13.mono Hb1.out.size)
 have p6:L5Box lb (.slice ad n cp) a1 a2 er w3:=by rw[hw3,hlb];exact heap_alloc_new _ _
 have hlg:g < lb:=by have:=hb2.size;omega
 have hs3:w3.heap.size=lb+1:=by rw[hw3,hlb];simp
 have p0':=za0 hb13 Hp0.out
 have hln3:=zlk _ _ _ _ hln hb23
 obtain⟨x0,x1,x2,x3⟩:=zhv p6
 obtain⟨⟨r0,r1,r2,r3⟩,f0,f1,f2,f3⟩:=zhp p0'
 by_cases he:er=0
 ·have k1:(er != 0)=false:=by rw[he];rfl
  have hq:=Hreq.out
  rw[if_pos he] at hq
  obtain⟨q,hqq⟩ : ∃ q,q=w3.heap.size:=⟨_,rfl⟩
  obtain⟨w4,hw4⟩ : ∃ W,W=w3.alloc (.cells #[.slice none 0 0] 38):=⟨_,rfl⟩
  have hI0:RqSt w3 q [] [] (.slice none 0 0) w4:=⟨by rw[hw4,hqq];exact heap_alloc_new _ _,World.ownsRow_nil _ _ _ _,rfl,(fun i cs x h=>by simp at h),by rw[hw4];exact za2 _ _⟩
  have hn1:n≤70001:=by have:=Hgood.out.2;omega
  have hlow:w3.heap.size≤q:=Nat.le_of_eq hqq.symm
  have z6:=za0 hI0.bel p6
  obtain⟨x4,-,-,-⟩:=zhv z6
  clear f0 f1 f2 f3 r0 r1 r2 r3
  obtain⟨Hln,Hb2,Hb23,Hb13,Hb3,Hp6,Hp0',Hln3,Hn,Hq,He,HI0,Hs3,Hz6⟩:=hd14 hln hb2 hb23 hb13 hb3 p6 p0' hln3 hn hq he hI0 hs3 z6;clear hln hb2 hb23 hb13 hb3 p6 p0' hln3 hn hq he hI0 hs3 z6
  go_upto_region 2 with (fail)
  rw[← hw3,← hlb]
  clear hw3 hlb
  go_upto_region 5 with (fail)
  rw[← hw4,← hqq]
  clear hw4 hqq
  go_wp2_with fail
  clear x0 x1 x2 x3 x4
  go_loopw [22] (fun v wr=>∃ (k:Nat) (rs:List Rt) (css:List (List Value)) (u:Value),k≤n∧v = .int .i64 k∧RqSt w3 q rs css u wr∧rs.length=k∧zid t.data.toList=zh1 (ls.drop k) rs) (fun v _=>n - (RowKit.intOf v).toNat)
  case atStart=>exact⟨0,[],[],_,Nat.zero_le _,rfl,HI0.out,rfl,by rw[List.drop_zero];exact Hq.out⟩
  case round =>
   obtain⟨wo,hwo⟩ : ∃ W,W=wr:=⟨_,rfl⟩
   rw[← hwo] at hrel ⊢
   clear hwo wr
   obtain⟨k,rs,css,u,hk,rfl,hI,hrk,hgo⟩:=hrel
   by_cases hlt:k < n
   ·have hkl:k < ls.length:=by have:=Hn.out;omega
    obtain⟨x,hx⟩ : ∃ x,x=ls[k]:=⟨_,rfl⟩
    obtain⟨-,-,hat⟩:=lns_at Hln3.out
    obtain⟨b,off,a2',n2,c2,rfl,c0,c1,hwd⟩:=hat k x (by rw[hx];exact List.getElem?_eq_getElem hkl)
    clear hat
    have d0:=cell_later hI.bel c0
    have d1:=cell_later hI.bel c1
    obtain⟨ln,hln0⟩ : ∃ z,z=x.1:=⟨_,rfl⟩
    rw[← hln0] at d0 c0
    have hgx0:=Hgood.out.1 x (by rw[hx];exact List.getElem_mem hkl)
    have hgx:zgv 70000 x:=hgx0
    have hdr:ls.drop k=x :: ls.drop (k+1):=by rw[hx];exact List.drop_eq_getElem_cons hkl
    rw[hdr] at hgo
    have hO:=zr7 (zaf zbg _ _ _ _ hwd hI.bel) hgx
    rw[← hln0] at hO
    have y6:=za0 hI.bel Hp6.out
    obtain⟨x0,-,-,-⟩:=zhv y6
    obtain⟨au,cu,rfl⟩:=zai hI.row
    have k5:(0:Int)≤(k:Int):=by omega
    have k6:(k:Int) < (n:Int):=by omega
    rw[hrk] at hI
    have hc0:=c0
    clear c0 c1
    obtain⟨HI,Hrk,Hgo,Hx,Hwd,Hln0,Hgx0,Hgx,Hdr,HO,Hy6,Hc0⟩:=hd12 hI hrk hgo hx hwd hln0 hgx0 hgx hdr hO y6 hc0;clear hI hrk hgo hx hwd hln0 hgx0 hgx hdr hO y6 hc0
    go_wp2_with fail
    refine HO.out.mono ?_
    rintro e w6 ⟨⟨s,col,b1,n1,c1,b2,n2',c2',hw,rfl,hv1,hv2⟩ | ⟨col,hw,hcol,rfl⟩,hb6⟩
    ·rw[← Hln0.out]
     obtain⟨w7,hw7⟩ : ∃ W,W=w6.alloc (.cells #[.string s.1,.slice b1 n1 c1,.slice b2 n2' c2',.int .i64 ln] 101):=⟨_,rfl⟩
     have hb67:Below w6.heap.size w6 w7:=by rw[hw7];exact za2 _ _
     have hb47:=hb6.trans (hb67.mono hb6.size)
     have hI7:=HI.out.to hb47
     obtain⟨tb,htb⟩ : ∃ z,z=w6.heap.size:=⟨_,rfl⟩
     have p11:zj0 tb (.string s.1) (.slice b1 n1 c1) (.slice b2 n2' c2') (.int .i64 ln) w7:=by rw[hw7,htb];exact heap_alloc_new _ _
     obtain⟨⟨u0,u1,u2,u3⟩,_,_,_,_⟩:=zc9 p11
     obtain⟨qc,_⟩:=zc5 hI7.box
     have hv1':=zap hv1 hb67
     have hv2':=zaz hv2 hb67
     have hrow7:=hI7.row
     rw[Hrk.out] at hrow7
     have hbz:w3.heap.size≤w7.heap.size:=hI7.bel.size
     obtain⟨N,hN⟩ : ∃ N,N=css.flatten:=⟨_,rfl⟩
     rw[← hN] at hrow7
     obtain⟨Hw,Hv1,Hv2,Hb6,Hb67,Hb47,HI7,Hp11,Hv1',Hv2',Hrow7,HN⟩:=hd12 hw hv1 hv2 hb6 hb67 hb47 hI7 p11 hv1' hv2' hrow7 hN;clear hw hv1 hv2 hb6 hb67 hb47 hI7 p11 hv1' hv2' hrow7 hN
     go_upto_region 9 with (fail)
     rw[← hw7,← htb]
     clear hw7 htb
     go_wp2_with (at_builtin;(refine zaw zmo rfl (.tmp 46) (.tmp 48) rfl w3.heap.size (.slice au k cu) k N rfl Hrow7.out 1 #[.string s.1,.slice b1 n1 c1,.slice b2 n2' c2',.int .i64 ln] rfl rfl (by simp[Value.oneCell']) (by omega) (by unfold maxLen;omega) hbz ?_;intro v9 w9 hown9 hg9 hm9;obtain⟨a9,c9,rfl⟩:=zai hown9;have hpu:=HI7.out.push hlow (x:=(s,ln)) Hv1'.out Hv2'.out (by rw[Hrk.out,← HN.out];exact hown9) hg9;obtain⟨qc9,qf9⟩:=zc5 hpu.2;have Hpu:=hd hpu;clear hown9 hg9 hm9 hpu))
     go_roundw
     case rel =>
      refine⟨k+1,rs ++ [(s,ln)],_,_,by omega,by go_num,Hpu.out.1,by rw[List.length_append,Hrk.out];rfl,?_⟩
      rw[Hgo.out,zp8 Hw.out,← Hln0.out]
     case measure=>simp[RowKit.intOf];omega
    have hne:(col != 0)=true:=by simpa using hcol
    obtain⟨w7,hw7⟩ : ∃ W,W=w6.alloc (.cells #[.string ⟨#[]⟩,.slice none 0 0,.slice none 0 0,.int .i64 0] 101):=⟨_,rfl⟩
    have hb67:Below w6.heap.size w6 w7:=by rw[hw7];exact za2 _ _
    have hb47:=hb6.trans (hb67.mono hb6.size)
    have hI7:=HI.out.to hb47
    have z0:=za0 hI7.bel Hp0'.out
    have z7:=za0 hI7.bel Hp6.out
    have t0:=cell_later hI7.bel Hc0.out
    have hb37:=Hb3.out.trans (hI7.bel.mono Hb3.out.size)
    obtain⟨v0,-,-,-⟩:=zhv z7
    obtain⟨⟨r0,r1,r2,r3⟩,f0,f1,f2,f3⟩:=zhp z0
    have hne1:¬ lb=g:=by omega
    obtain⟨Hw,Hcol,Hb6,Hb67,Hb47,HI7,Hz0,Hz7,Hb37⟩:=hd9 hw hcol hb6 hb67 hb47 hI7 z0 z7 hb37;clear hw hcol hb6 hb67 hb47 hI7 z0 z7 hb37
    go_upto_region 9 with (fail)
    rw[← hw7]
    clear hw7
    go_wp2_with fail
    have hst:=zkj (v':=.slice none 0 0) (x':=ln) (y':=col) (z':=2) hwg Hz0.out Hb37.out
    refine bodyPost_ret (results_cell_row rfl _ _ _ _ _ _ _ rfl hst.1 Tryz.underlying45 rfl (by kernel_rfl)) rfl ?_
    rw[Hgo.out,zp9 Hw.out,← Hln0.out]
    exact⟨_,rfl,⟨none,0,rfl,Nat.le_refl _,Nat.zero_le _,fun i x hi=>by simp at hi⟩,hst.2.1⟩
   obtain rfl:k=n:=by omega
   have hd:ls.drop k = []:=List.drop_eq_nil_of_le (Nat.le_of_eq Hn.out.symm)
   rw[hd] at hgo
   have z0:=za0 hI.bel Hp0'.out
   obtain⟨qc,_⟩:=zc5 hI.box
   obtain⟨⟨r0,r1,r2,r3⟩,f0,f1,f2,f3⟩:=zhp z0
   obtain⟨au,cu,rfl⟩:=zai hI.row
   have hb3o:=Hb3.out.trans (hI.bel.mono Hb3.out.size)
   rw[hrk] at hI qc
   obtain⟨HI,Hrk,Hgo,Hz0,Hb3o,Hd⟩:=hd6 hI hrk hgo z0 hb3o hd;clear hI hrk hgo z0 hb3o hd
   go_wp2_with fail
   have hst:=zkj (v':=.slice au k cu) (x':=0) (y':=0) (z':=0) hwg Hz0.out Hb3o.out
   have hno:No2 wo (fun z=>z=g):=by
    rintro z rfl
    exact zau Hz0.out (by decide) (by decide)
   have hap:∀ z,z=g→(Value.slice au k cu).ownBlock≠some z:=by
    rintro z rfl
    exact zah HI.out.row Hz0.out (by decide)
   refine bodyPost_ret (results_cell_row rfl _ _ _ _ _ _ _ rfl hst.1 Tryz.underlying45 rfl (by kernel_rfl)) rfl ?_
   rw[Hgo.out]
   exact⟨_,rfl,HI.out.other hst.2.2 hno hap,hst.2.1⟩
 have k1:(er != 0)=true:=by simpa using he
 have hq:=Hreq.out
 rw[if_neg he] at hq
 obtain⟨Hln,Hb2,Hb23,Hb13,Hb3,Hp6,Hp0',Hln3,Hn,Hq,He,Hs3⟩:=hd12 hln hb2 hb23 hb13 hb3 p6 p0' hln3 hn hq he hs3;clear hln hb2 hb23 hb13 hb3 p6 p0' hln3 hn hq he hs3
 go_upto_region 2 with (fail)
 rw[← hw3,← hlb]
 clear hw3 hlb
 go_wp2_with fail
 have hst:=zkj (v':=.slice none 0 0) (x':=a1) (y':=a2) (z':=er) hwg Hp0'.out Hb3.out
 refine bodyPost_ret (results_cell_row rfl _ _ _ _ _ _ _ rfl hst.1 Tryz.underlying45 rfl (by kernel_rfl)) rfl ?_
 rw[Hq.out]
 exact⟨_,rfl,⟨none,0,rfl,Nat.le_refl _,Nat.zero_le _,fun i x hi=>by simp at hi⟩,hst.2.1⟩
end

section
open Go.RowKit Go.Shelf
attribute [local go_sem ↓] Go.wp_at_zero Go.wp_at_succ
theorem set_neqs (s t a b:ByteArray) (W:World):(binOp .neq 109 (.agg #[.string s,.string t]) (.agg #[.string a,.string b])).run Tryz.prog W = .ok (.bool (!(decide (s=a) && decide (t=b)))) W:=by
 have u9:=Tryz.underlying9
 have hS:Tryz.prog.underlying 109=some (.struct (Tryz.prog.fieldsOf 109)):=by kernel_rfl
 have hp:Tryz.prog.stoodInHeld 109=false:=by kernel_rfl
 rw[run_neq_struct,show (10000:Nat)=9999+1 from rfl,run_equalIn_agg W 9999 109 _ _ hS hp]
 simp only[Program.fieldsOf,Tryz.underlying109]
 go_simp
 have e1:=Txt.eq_dec s a
 have e2:=Txt.eq_dec t b
 by_cases h1:s=a <;> by_cases h2:t=b <;> simp[h1,h2] at e1 e2 ⊢ <;> simp_all
theorem zni {w:World} {v u:Value} {l m:List Setg} (h:zhl w [v] l) (hm:zhl w [u] m):Calls Tryz.prog 80 #[v,u] w fun e w'=>e = .returned (.bool (decide (l=m)))∧∃ q,w'=w.drewN q:=by
 obtain⟨a,cap,rfl,hz,g⟩:=zdp h
 obtain⟨a2,cap2,rfl,hz2,g2⟩:=zdp hm
 obtain⟨n,hn⟩ : ∃ n,n=l.length:=⟨_,rfl⟩
 obtain⟨n2,hn2⟩ : ∃ n,n=m.length:=⟨_,rfl⟩
 obtain⟨r,hr⟩ : ∃ r,r=decide (l=m):=⟨_,rfl⟩
 have q1:=fun s t a b=>set_neqs s t a b
 rw[← hr]
 rw[← hn] at hz h ⊢
 rw[← hn2] at hz2 hm ⊢
 obtain⟨Hh,Hm,Hg,Hg2,Hn,Hn2,Hr,Hq1⟩:=hd8 h hm g g2 hn hn2 hr q1;clear h hm g g2 hn hn2 hr q1
 go_enter Tryz.func80,Tryz.ntmps80
 by_cases hne:n=n2
 case neg =>
  have k1:((n:Int) != (n2:Int))=true:=by simp;omega
  have hf:r=false:=by rw[Hr.out,decide_eq_false_iff_not];intro e;exact hne (by rw[Hn.out,Hn2.out,e])
  obtain⟨Hf,Hne⟩:=hd2 hf hne;clear hf hne
  go_wp2_with fail
  go_ret
  exact⟨zad Hf.out.symm,0,rfl⟩
 have k1:((n:Int) != (n2:Int))=false:=by simp;omega
 have Hne:=hd hne;clear hne
 go_wp2_with fail
 clear k1
 go_loopw [13] (fun i wr=>∃ k:Nat,k≤n∧i = .int .i64 k∧(∀ j (h1:j < l.length) (h2:j < m.length),j < k→l[j]=m[j])∧∃ q,wr=w.drewN q) (fun i _=>n - (intOf i).toNat)
 case atStart=>exact⟨0,Nat.zero_le _,rfl,fun _ _ _ h=>by omega,0,rfl⟩
 case round =>
  obtain⟨k,hk,rfl,hno,q,rfl⟩:=hrel
  by_cases hlt:k < n
  ·have hkl:k < l.length:=by have:=Hn.out;omega
   have hkm:k < m.length:=by have:=Hn2.out;have:=Hne.out;omega
   obtain⟨b,off,rfl,d0,d1,_,_⟩:=Hg.out k _ (List.getElem?_eq_getElem hkl)
   obtain⟨b2,off2,rfl,f0,f1,_,_⟩:=Hg2.out k _ (List.getElem?_eq_getElem hkm)
   have hnx:l[k]=m[k]→∀ j (h1:j < l.length) (h2:j < m.length),j < k+1→l[j]=m[j]:=fun h j h1 h2 hjk=>by
    by_cases e:j=k
    ·subst e;exact h
    exact hno j h1 h2 (by omega)
   have hbd:l[k]≠m[k]→l≠m:=fun h e=>h (by subst e;rfl)
   obtain⟨x,hx⟩ : ∃ x,x=l[k]:=⟨_,rfl⟩
   obtain⟨y,hy⟩ : ∃ x,x=m[k]:=⟨_,rfl⟩
   rw[← hx] at d0 d1 hnx hbd
   rw[← hy] at f0 f1 hnx hbd
   have q2:=Hq1.out x.1 x.2 y.1 y.2
   have hxy:(decide (x.1=y.1) && decide (x.2=y.2))=decide (x=y):=by
    rw[Bool.eq_iff_iff]
    simp[Prod.ext_iff]
   rw[hxy] at q2
   obtain⟨s,hs⟩ : ∃ s,s=x.1:=⟨_,rfl⟩
   obtain⟨t,ht⟩ : ∃ s,s=x.2:=⟨_,rfl⟩
   obtain⟨s',hs'⟩ : ∃ s,s=y.1:=⟨_,rfl⟩
   obtain⟨t',ht'⟩ : ∃ s,s=y.2:=⟨_,rfl⟩
   rw[← hs,← ht,← hs',← ht'] at q2
   rw[← hs] at d0
   rw[← ht] at d1
   rw[← hs'] at f0
   rw[← ht'] at f1
   have k5:(0:Int)≤(k:Int):=by omega
   have k6:(k:Int) < (n:Int):=by omega
   have k7:(k:Int) < (n2:Int):=by have:=Hne.out;omega
   clear hxy
   by_cases e:x=y
   ·have hq:=hnx e
    rw[decide_eq_true e] at q2
    simp only[Bool.not_true] at q2
    clear e
    obtain⟨Hno,Hnx,Hbd,Hx,Hy,Hs,Ht,Hs',Ht',Hq⟩:=hd10 hno hnx hbd hx hy hs ht hs' ht' hq;clear hno hnx hbd hx hy hs ht hs' ht' hq
    go_wp2_with fail
    go_region
    go_wp2_with fail
    go_roundw
    case rel=>exact⟨k+1,by omega,by go_num,Hq.out,_,rfl⟩
    case measure=>simp[intOf];omega
   have hf:r=false:=by rw[Hr.out,decide_eq_false_iff_not];exact hbd e
   rw[decide_eq_false e] at q2
   simp only[Bool.not_false] at q2
   clear e
   obtain⟨Hno,Hnx,Hbd,Hx,Hy,Hs,Ht,Hs',Ht',Hf⟩:=hd10 hno hnx hbd hx hy hs ht hs' ht' hf;clear hno hnx hbd hx hy hs ht hs' ht' hf
   go_wp2_with fail
   go_region
   go_wp2_with fail
   go_ret
   exact⟨zad Hf.out.symm,_,rfl⟩
  obtain rfl:n=k:=by omega
  have hf:r=true:=by
   rw[Hr.out,decide_eq_true_eq]
   exact List.ext_getElem (by rw[← Hn.out,← Hn2.out,Hne.out]) (fun j h1 h2=>hno j h1 h2 (by have:=Hn.out;omega))
  obtain⟨Hno,Hf⟩:=hd2 hno hf;clear hno hf
  go_wp2_with fail
  go_ret
  exact⟨zad Hf.out.symm,_,rfl⟩
end

section
open Go.Shelf Go.RowKit Go.Lib VerN VarM
attribute [local go_sem ↓] Go.wp_at_zero Go.wp_at_succ
theorem zlu {w:World} {n m:ByteArray} {v1 v2 u1 u2:Value} {l1 l2:List BSp} {g1 g2:List Setg} (h1:RSps w [v1] l1) (h2:zhl w [v2] g1) (h3:RSps w [u1] l2) (h4:zhl w [u2] g2) :
  Calls Tryz.prog 38 #[.agg #[.string n,v1,v2],.agg #[.string m,u1,u2]] w fun e w'=>e = .returned (.bool (decide ((n,l1,g1)=(m,l2,g2))))∧Below w.heap.size w w':=by
 obtain⟨a1,c1,rfl,-,-⟩:=zfd h1
 obtain⟨a2,c2,rfl,-,-⟩:=zdp h2
 obtain⟨a3,c3,rfl,-,-⟩:=zfd h3
 obtain⟨a4,c4,rfl,-,-⟩:=zdp h4
 obtain⟨W1,hW1⟩ : ∃ W,W=(w.alloc (.cells #[.string n,.slice a1 l1.length c1,.slice a2 g1.length c2] 51)).alloc (.cells #[.string m,.slice a3 l2.length c3,.slice a4 g2.length c4] 51):=⟨_,rfl⟩
 obtain⟨g,hg⟩ : ∃ g,g=w.heap.size:=⟨_,rfl⟩
 have hb1:Below w.heap.size w W1:=by rw[hW1];exact (za2 _ _).alloc (by simp) _
 have p0:zan g (.string n) (.slice a1 l1.length c1) (.slice a2 g1.length c2) W1:=by rw[hW1,hg];exact za0 (za2 _ _) (za6 rfl)
 have p1:zan (g+1) (.string m) (.slice a3 l2.length c3) (.slice a4 g2.length c4) W1:=by rw[hW1,hg];exact za6 (by simp)
 have r1:=zaf zc7 _ _ _ _ h1 hb1
 have r2:=zaf zd8 _ _ _ _ h2 hb1
 have r3:=zaf zc7 _ _ _ _ h3 hb1
 have r4:=zaf zd8 _ _ _ _ h4 hb1
 obtain⟨x0,x1,x2,-⟩:=zag p0
 obtain⟨y0,y1,y2,-⟩:=zag p1
 obtain⟨r,hr⟩ : ∃ r,r=decide ((n,l1,g1)=(m,l2,g2)):=⟨_,rfl⟩
 have hS:=zlv r1 r3
 have hT:=fun (W:World) (k:Below W1.heap.size W1 W)=>zni (zaf zd8 _ _ _ _ r2 k) (zaf zd8 _ _ _ _ r4 k)
 obtain⟨n1,hn1⟩ : ∃ n,n=l1.length:=⟨_,rfl⟩
 obtain⟨n2,hn2⟩ : ∃ n,n=g1.length:=⟨_,rfl⟩
 obtain⟨n3,hn3⟩ : ∃ n,n=l2.length:=⟨_,rfl⟩
 obtain⟨n4,hn4⟩ : ∃ n,n=g2.length:=⟨_,rfl⟩
 have hnm:=Txt.eq_dec n m
 rw[← hr]
 rw[← hn1] at x1 hS hW1 ⊢
 rw[← hn2] at x2 hT hW1 ⊢
 rw[← hn3] at y1 hS hW1 ⊢
 rw[← hn4] at y2 hT hW1 ⊢
 obtain⟨bs,hbs⟩ : ∃ b,b=decide (l1=l2):=⟨_,rfl⟩
 obtain⟨bt,hbt⟩ : ∃ b,b=decide (g1=g2):=⟨_,rfl⟩
 obtain⟨bn,hbn⟩ : ∃ b,b=decide (n=m):=⟨_,rfl⟩
 rw[← hbs] at hS
 rw[← hbt] at hT
 rw[← hbn] at hnm
 have hrr:r=(bn && (bs && bt)):=by
  rw[hr,hbn,hbs,hbt,Bool.eq_iff_iff]
  simp[Prod.ext_iff]
 clear hr hbs hbt hbn
 obtain⟨H1,H2,H3,H4,Hb1,Hp0,Hp1,Hr1,Hr2,Hr3,Hr4,Hn1,Hn2,Hn3,Hn4,HS⟩:=hd16 h1 h2 h3 h4 hb1 p0 p1 r1 r2 r3 r4 hn1 hn2 hn3 hn4 hS;obtain⟨HT,Hrr⟩:=hd2 hT hrr;clear h1 h2 h3 h4 hb1 p0 p1 r1 r2 r3 r4 hn1 hn2 hn3 hn4 hS hT hrr
 go_enter Tryz.func38,Tryz.ntmps38
 go_upto_region 1 with (fail)
 rw[← hW1,← hg]
 clear hW1 hg
 cases bn with
 | false =>
  go_wp2_with fail
  go_ret
  exact⟨zad (by rw[Hrr.out];rfl),Hb1.out⟩
 | true =>
  cases bs with
  | false =>
   go_wp2_with fail
   refine HS.out.mono ?_
   rintro e w2 ⟨rfl,q,rfl⟩
   go_wp2_with fail
   go_ret
   exact⟨zad (by rw[Hrr.out];rfl),zak Hb1.out q⟩
  | true =>
   go_wp2_with fail
   refine HS.out.mono ?_
   rintro e w2 ⟨rfl,q,rfl⟩
   have hbq:Below W1.heap.size W1 (W1.drewN q):=zak (Below.refl _ _) q
   have hT2:=HT.out _ hbq
   obtain⟨x3,x4,x5,-⟩:=zag (za0 hbq Hp0.out)
   obtain⟨y3,y4,y5,-⟩:=zag (za0 hbq Hp1.out)
   rw[← Hn2.out] at x5
   rw[← Hn4.out] at y5
   obtain⟨HT2,Hbq⟩:=hd2 hT2 hbq;clear hT2 hbq
   go_wp2_with fail
   refine HT2.out.mono ?_
   rintro e w2 ⟨rfl,q2,rfl⟩
   go_wp2_with fail
   go_ret
   exact⟨zad (by rw[Hrr.out];rfl),zak Hb1.out _⟩
end

section
open Go.Shelf Go.RowKit Go.Lib VerN VarM
attribute [local go_sem ↓] Go.wp_at_zero Go.wp_at_succ
theorem ze6 {w:World} {v:Value} {l:List Rt} (h:zj1 w [v] l):∃ a cap,v = .slice a l.length cap∧l.length≤9223372036854775807∧∀ i x,l[i]? = some x→∃ b off b1 n1 c1 b2 n2 c2,a=some ⟨b,off,none⟩∧w.cell? ⟨b,off+i * 4,none⟩=some (.string x.1.1)∧w.cell? ⟨b,off+i * 4+1,none⟩=some (.slice b1 n1 c1)∧w.cell? ⟨b,off+i * 4+2,none⟩=some (.slice b2 n2 c2)∧w.cell? ⟨b,off+i * 4+3,none⟩=some (.int .i64 x.2)∧RSps w [.slice b1 n1 c1] x.1.2.1∧zhl w [.slice b2 n2 c2] x.1.2.2:=by
 obtain⟨a,cap,hv,hcap,hmax,hel⟩:=h
 simp only[List.cons.injEq,and_true] at hv
 unfold maxLen at hmax
 refine⟨a,cap,hv,by omega,fun i x hi=>?_⟩
 obtain⟨b,off,ecs,h1,h2,h3,v1,v2,h4,h5,h6⟩:=hel i x hi
 obtain⟨a1,c1,rfl,-,-⟩:=zfd h5
 obtain⟨a2,c2,rfl,-,-⟩:=zdp h6
 subst h4
 exact⟨b,off,a1,_,c1,a2,_,c2,h1,by simpa using h3 0 _ rfl,by simpa using h3 1 _ rfl,by simpa using h3 2 _ rfl,by simpa using h3 3 _ rfl,h5,h6⟩
def eqRt (ln:Bool) (x y:Rt):Bool:=decide (x.1=y.1) && (!ln || decide (x.2=y.2))
def zgg (ln:Bool) (l m:List Rt):Bool:=decide (l.length=m.length) && (l.zip m).all fun p=>eqRt ln p.1 p.2
theorem zqj {ln:Bool} {l m:List Rt} (h:l.length≠m.length):zgg ln l m=false:=by unfold zgg;rw[decide_eq_false h];rfl
theorem sameRq_no {ln:Bool} {l m:List Rt} {k:Nat} (h1:k < l.length) (h2:k < m.length) (h:eqRt ln l[k] m[k]=false):zgg ln l m=false:=by
 unfold zgg
 rw[Bool.and_eq_false_iff]
 right
 rw[List.all_eq_false]
 exact⟨(l[k],m[k]),by
  rw[List.mem_iff_getElem]
  exact⟨k,by rw[List.length_zip];omega,by rw[List.getElem_zip]⟩,by rw[h];simp⟩
theorem zjk {ln:Bool} {l m:List Rt} (hl:l.length=m.length) (h:∀ j (h1:j < l.length) (h2:j < m.length),eqRt ln l[j] m[j]=true):zgg ln l m=true:=by
 unfold zgg
 rw[decide_eq_true hl,Bool.true_and,List.all_eq_true]
 intro p hp
 obtain⟨i,hi,e⟩:=List.getElem_of_mem hp
 rw[List.getElem_zip] at e
 rw[← e]
 exact h i (by rw[List.length_zip] at hi;omega) (by rw[List.length_zip] at hi;omega)
theorem znh (ln:Bool) (l:List Rt):zgg ln l l=true:=zjk rfl fun j h1 h2=>by unfold eqRt;simp
end

section
open Go.Shelf Go.RowKit Go.Lib VerN VarM
attribute [local go_sem ↓] Go.wp_at_zero Go.wp_at_succ
theorem zqk {w:World} {v u:Value} {l m:List Rt} (h:zj1 w [v] l) (hm:zj1 w [u] m) (ln:Bool):Calls Tryz.prog 30 #[.agg #[v],.agg #[u],.bool ln] w fun e w'=>e = .returned (.bool (zgg ln l m))∧Below w.heap.size w w':=by
 obtain⟨a,c,rfl,hz,hat⟩:=ze6 h
 obtain⟨a2,c2,rfl,hz2,hat2⟩:=ze6 hm
 obtain⟨n,hn⟩ : ∃ n,n=l.length:=⟨_,rfl⟩
 obtain⟨n2,hn2⟩ : ∃ n,n=m.length:=⟨_,rfl⟩
 obtain⟨r,hr⟩ : ∃ r,r=zgg ln l m:=⟨_,rfl⟩
 rw[← hr]
 rw[← hn] at hz h ⊢
 rw[← hn2] at hz2 hm ⊢
 obtain⟨W1,hW1⟩ : ∃ W,W=(w.alloc (.cells #[.slice a n c] 38)).alloc (.cells #[.slice a2 n2 c2] 38):=⟨_,rfl⟩
 obtain⟨g,hg⟩ : ∃ g,g=w.heap.size:=⟨_,rfl⟩
 have hb1:Below w.heap.size w W1:=by rw[hW1];exact (za2 _ _).alloc (by simp) _
 have p0:zrq g (.slice a n c) W1:=by rw[hW1,hg];exact za0 (za2 _ _) (za6 rfl)
 have p1:zrq (g+1) (.slice a2 n2 c2) W1:=by rw[hW1,hg];exact za6 (by simp)
 obtain⟨x0,-⟩:=zc5 p0
 obtain⟨y0,-⟩:=zc5 p1
 obtain⟨Hh,Hm,Hb1,Hp0,Hp1,Hn,Hn2,Hr,Hat,Hat2⟩:=hd10 h hm hb1 p0 p1 hn hn2 hr hat hat2;clear h hm hb1 p0 p1 hn hn2 hr hat hat2
 go_enter Tryz.func30,Tryz.ntmps30
 go_upto_region 1 with (fail)
 rw[← hW1,← hg]
 clear hW1 hg
 by_cases hne:n=n2
 case neg =>
  have k1:((n:Int) != (n2:Int))=true:=by simp;omega
  have hf:r=false:=by rw[Hr.out];exact zqj (by rw[← Hn.out,← Hn2.out];exact hne)
  obtain⟨Hf,Hne⟩:=hd2 hf hne;clear hf hne
  go_wp2_with fail
  go_ret
  exact⟨zad Hf.out.symm,Hb1.out⟩
 have k1:((n:Int) != (n2:Int))=false:=by simp;omega
 have Hne:=hd hne;clear hne
 go_wp2_with fail
 clear k1 x0 y0
 go_loopw [18] (fun i wr=>∃ k:Nat,k≤n∧i = .int .i64 k∧(∀ j (h1:j < l.length) (h2:j < m.length),j < k→eqRt ln l[j] m[j]=true)∧Below W1.heap.size W1 wr) (fun i _=>n - (RowKit.intOf i).toNat)
 case atStart=>exact⟨0,Nat.zero_le _,rfl,fun _ _ _ h=>by omega,Below.refl _ _⟩
 case round =>
  obtain⟨k,hk,rfl,hno,hbq⟩:=hrel
  by_cases hlt:k < n
  ·have hkl:k < l.length:=by have:=Hn.out;omega
   have hkm:k < m.length:=by have:=Hn2.out;have:=Hne.out;omega
   obtain⟨b,off,b1,n1,c1,b2,n2',c2',rfl,d0,d1,d2,d3,hs1,hs2⟩:=Hat.out k _ (List.getElem?_eq_getElem hkl)
   obtain⟨b3,off3,b4,n4,c4,b5,n5,c5,rfl,e0,e1,e2,e3,hs3,hs4⟩:=Hat2.out k _ (List.getElem?_eq_getElem hkm)
   have hnx:eqRt ln l[k] m[k]=true→∀ j (h1:j < l.length) (h2:j < m.length),j < k+1→eqRt ln l[j] m[j]=true:=fun h j h1 h2 hjk=>by
    by_cases e:j=k
    ·subst e;exact h
    exact hno j h1 h2 (by omega)
   have hbd:eqRt ln l[k] m[k]=false→r=false:=fun h=>by rw[Hr.out];exact sameRq_no hkl hkm h
   obtain⟨x,hx⟩ : ∃ x,x=l[k]:=⟨_,rfl⟩
   obtain⟨y,hy⟩ : ∃ x,x=m[k]:=⟨_,rfl⟩
   rw[← hx] at d0 d3 hs1 hs2 hnx hbd
   rw[← hy] at e0 e3 hs3 hs4 hnx hbd
   have hcf:∀ W,Below W1.heap.size W1 W→W.cell? ⟨g,0,none⟩=some (.slice (some ⟨b,off,none⟩) n c)∧W.cell? ⟨g+1,0,none⟩=some (.slice (some ⟨b3,off3,none⟩) n2 c2)∧W.cell? ⟨b,off+k * 4,none⟩=some (.string x.1.1)∧W.cell? ⟨b,off+k * 4+1,none⟩=some (.slice b1 n1 c1)∧W.cell? ⟨b,off+k * 4+2,none⟩=some (.slice b2 n2' c2')∧W.cell? ⟨b,off+k * 4+3,none⟩=some (.int .i64 x.2)∧W.cell? ⟨b3,off3+k * 4,none⟩=some (.string y.1.1)∧W.cell? ⟨b3,off3+k * 4+1,none⟩=some (.slice b4 n4 c4)∧W.cell? ⟨b3,off3+k * 4+2,none⟩=some (.slice b5 n5 c5)∧W.cell? ⟨b3,off3+k * 4+3,none⟩=some (.int .i64 y.2) :=
    fun W hW=>by
     have hw:=Hb1.out.trans (hW.mono Hb1.out.size)
     exact⟨cell_later hW (zc5 Hp0.out).1,cell_later hW (zc5 Hp1.out).1,cell_later hw d0,cell_later hw d1,cell_later hw d2,cell_later hw d3,cell_later hw e0,cell_later hw e1,cell_later hw e2,cell_later hw e3⟩
   have hM:∀ W,Below W1.heap.size W1 W→Calls Tryz.prog 38 #[.agg #[.string x.1.1,.slice b1 n1 c1,.slice b2 n2' c2'],.agg #[.string y.1.1,.slice b4 n4 c4,.slice b5 n5 c5]] W fun e w'=>e = .returned (.bool (decide (x.1=y.1)))∧Below W.heap.size W w':=fun W hW=>by
    have hw:=Hb1.out.trans (hW.mono Hb1.out.size)
    exact zlu (zaf zc7 _ _ _ _ hs1 hw) (zaf zd8 _ _ _ _ hs2 hw) (zaf zc7 _ _ _ _ hs3 hw) (zaf zd8 _ _ _ _ hs4 hw)
   obtain⟨bs,hbs⟩ : ∃ q,q=decide (x.1=y.1):=⟨_,rfl⟩
   obtain⟨bl,hbl⟩ : ∃ q,q=decide (x.2=y.2):=⟨_,rfl⟩
   have heq:eqRt ln x y=(bs && (!ln || bl)):=by unfold eqRt;rw[hbs,hbl]
   obtain⟨s,hs⟩ : ∃ s,s=x.1.1:=⟨_,rfl⟩
   obtain⟨t,ht⟩ : ∃ s,s=y.1.1:=⟨_,rfl⟩
   obtain⟨i1,hi1⟩ : ∃ s,s=x.2:=⟨_,rfl⟩
   obtain⟨i2,hi2⟩ : ∃ s,s=y.2:=⟨_,rfl⟩
   rw[heq] at hnx hbd
   rw[← hbs] at hM
   simp only[← hs,← ht,← hi1,← hi2] at hcf hM hbl
   have hbl2:(i1 != i2) = !bl:=by rw[hbl];rfl
   have k5:(0:Int)≤(k:Int):=by omega
   have k6:(k:Int) < (n:Int):=by omega
   have k7:(k:Int) < (n2:Int):=by have:=Hne.out;omega
   have hcz:=hcf _ (zak hbq 1)
   have hbz:=zak (Below.refl wr.heap.size wr) 1
   obtain⟨x0,y0,-⟩:=hcf _ hbq
   clear d0 d1 d2 d3 e0 e1 e2 e3 heq
   have Hcz:=Lib.hid hcf
   obtain⟨Hno,Hbq,Hnx,Hbd,Hx,Hy,Hs1,Hs2,Hs3,Hs4,HM,Hbs,Hbl,Hs,Ht,Hi1⟩:=hd16 hno hbq hnx hbd hx hy hs1 hs2 hs3 hs4 hM hbs hbl hs ht hi1;have Hi2:=hd hi2;clear hno hbq hnx hbd hx hy hs1 hs2 hs3 hs4 hM hbs hbl hs ht hi1 hi2
   clear hcf
   go_upto_region 6 with (fail)
   clear x0 y0
   go_cut [52] (fun v W=>v = .bool (!(bs && (!ln || bl)))∧Below W1.heap.size W1 W)
   case first =>
    have hSd:=Hcz.out _ (Below.drew Hbq.out)
    have hbdd:=Below.drew Hbq.out
    refine wp_region_held_drew (S:=fun W=>W.cell? ⟨g,0,none⟩=some (.slice (some ⟨b,off,none⟩) n c)∧W.cell? ⟨g+1,0,none⟩=some (.slice (some ⟨b3,off3,none⟩) n2 c2)∧W.cell? ⟨b,off+k * 4,none⟩=some (.string s)∧W.cell? ⟨b,off+k * 4+1,none⟩=some (.slice b1 n1 c1)∧W.cell? ⟨b,off+k * 4+2,none⟩=some (.slice b2 n2' c2')∧W.cell? ⟨b,off+k * 4+3,none⟩=some (.int .i64 i1)∧W.cell? ⟨b3,off3+k * 4,none⟩=some (.string t)∧W.cell? ⟨b3,off3+k * 4+1,none⟩=some (.slice b4 n4 c4)∧W.cell? ⟨b3,off3+k * 4+2,none⟩=some (.slice b5 n5 c5)∧W.cell? ⟨b3,off3+k * 4+3,none⟩=some (.int .i64 i2)) (by kernel_rfl) (by exact hSd) (fun hHeld=>?_)
    generalize wr.drew=wd at hSd hbdd ⊢
    have Hbdd:=hd hbdd;clear hbdd
    refine wpAnyH_take (i:=0) (v:=?_) rfl (by kernel_rfl) (by kernel_rfl) (by kernel_rfl) (fun _ _ _ h=>h) (Or.inl ⟨by kernel_rfl,?_⟩) (by assumption) ?_
    rotate_left
    ·(intro w hSw;(try dsimp only at hSw);(try obtain⟨o0,o1,o2,o3,o4,o5,o6,o7,o8,o9⟩:=hSw);go_simp;try with_reducible rfl)
    try simp only[Act.put,lA,lB,lC]
    refine wpAnyH_take (i:=1) (v:=?_) rfl (by kernel_rfl) (by kernel_rfl) (by kernel_rfl) (fun _ _ _ h=>h) (Or.inl ⟨by kernel_rfl,?_⟩) (by assumption) ?_
    rotate_left
    ·(intro w hSw;(try dsimp only at hSw);(try obtain⟨o0,o1,o2,o3,o4,o5,o6,o7,o8,o9⟩:=hSw);go_simp;try with_reducible rfl)
    try simp only[Act.put,lA,lB,lC]
    refine wpAnyH_take (i:=2) (v:=?_) rfl (by kernel_rfl) (by kernel_rfl) (by kernel_rfl) (fun _ _ _ h=>h) (Or.inl ⟨by kernel_rfl,?_⟩) (by assumption) ?_
    rotate_left
    ·(intro w hSw;(try dsimp only at hSw);(try obtain⟨o0,o1,o2,o3,o4,o5,o6,o7,o8,o9⟩:=hSw);go_simp;try with_reducible rfl)
    try simp only[Act.put,lA,lB,lC]
    refine wpAnyH_take (i:=3) (v:=?_) rfl (by kernel_rfl) (by kernel_rfl) (by kernel_rfl) (fun _ _ _ h=>h) (Or.inl ⟨by kernel_rfl,?_⟩) (by assumption) ?_
    rotate_left
    ·(intro w hSw;(try dsimp only at hSw);(try obtain⟨o0,o1,o2,o3,o4,o5,o6,o7,o8,o9⟩:=hSw);go_simp;try with_reducible rfl)
    try simp only[Act.put,lA,lB,lC]
    refine wpAnyH_take (i:=4) (v:=?_) rfl (by kernel_rfl) (by kernel_rfl) (by kernel_rfl) (fun _ _ _ h=>h) (Or.inl ⟨by kernel_rfl,?_⟩) (by assumption) ?_
    rotate_left
    ·(intro w hSw;(try dsimp only at hSw);(try obtain⟨o0,o1,o2,o3,o4,o5,o6,o7,o8,o9⟩:=hSw);go_simp;try with_reducible rfl)
    try simp only[Act.put,lA,lB,lC]
    refine wpAnyH_take (i:=5) (v:=?_) rfl (by kernel_rfl) (by kernel_rfl) (by kernel_rfl) (fun _ _ _ h=>h) (Or.inl ⟨by kernel_rfl,?_⟩) (by assumption) ?_
    rotate_left
    ·(intro w hSw;(try dsimp only at hSw);(try obtain⟨o0,o1,o2,o3,o4,o5,o6,o7,o8,o9⟩:=hSw);go_simp;try with_reducible rfl)
    try simp only[Act.put,lA,lB,lC]
    refine wpAnyH_take (i:=6) (v:=?_) rfl (by kernel_rfl) (by kernel_rfl) (by kernel_rfl) (fun _ _ _ h=>h) (Or.inl ⟨by kernel_rfl,?_⟩) (by assumption) ?_
    rotate_left
    ·(intro w hSw;(try dsimp only at hSw);(try obtain⟨o0,o1,o2,o3,o4,o5,o6,o7,o8,o9⟩:=hSw);go_simp;try with_reducible rfl)
    try simp only[Act.put,lA,lB,lC]
    refine wpAnyH_take (i:=7) (v:=?_) rfl (by kernel_rfl) (by kernel_rfl) (by kernel_rfl) (fun _ _ _ h=>h) (Or.inl ⟨by kernel_rfl,?_⟩) (by assumption) ?_
    rotate_left
    ·(intro w hSw;(try dsimp only at hSw);(try obtain⟨o0,o1,o2,o3,o4,o5,o6,o7,o8,o9⟩:=hSw);go_simp;try with_reducible rfl)
    try simp only[Act.put,lA,lB,lC]
    refine wpAnyH_take (i:=8) (v:=?_) rfl (by kernel_rfl) (by kernel_rfl) (by kernel_rfl) (fun _ _ _ h=>h) (Or.inl ⟨by kernel_rfl,?_⟩) (by assumption) ?_
    rotate_left
    ·(intro w hSw;(try dsimp only at hSw);(try obtain⟨o0,o1,o2,o3,o4,o5,o6,o7,o8,o9⟩:=hSw);go_simp;try with_reducible rfl)
    try simp only[Act.put,lA,lB,lC]
    refine wpAnyH_take (i:=9) (v:=?_) rfl (by kernel_rfl) (by kernel_rfl) (by kernel_rfl) (fun _ _ _ h=>h) (Or.inl ⟨by kernel_rfl,?_⟩) (by assumption) ?_
    rotate_left
    ·(intro w hSw;(try dsimp only at hSw);(try obtain⟨o0,o1,o2,o3,o4,o5,o6,o7,o8,o9⟩:=hSw);go_simp;try with_reducible rfl)
    try simp only[Act.put,lA,lB,lC]
    refine wpAnyH_take (i:=10) (v:=?_) rfl (by kernel_rfl) (by kernel_rfl) (by kernel_rfl) (fun _ _ _ h=>h) (Or.inl ⟨by kernel_rfl,?_⟩) (by assumption) ?_
    rotate_left
    ·(intro w hSw;(try dsimp only at hSw);(try obtain⟨o0,o1,o2,o3,o4,o5,o6,o7,o8,o9⟩:=hSw);go_simp;try with_reducible rfl)
    try simp only[Act.put,lA,lB,lC]
    refine wpAnyH_take (i:=11) (v:=?_) rfl (by kernel_rfl) (by kernel_rfl) (by kernel_rfl) (fun _ _ _ h=>h) (Or.inl ⟨by kernel_rfl,?_⟩) (by assumption) ?_
    rotate_left
    ·(intro w hSw;(try dsimp only at hSw);(try obtain⟨o0,o1,o2,o3,o4,o5,o6,o7,o8,o9⟩:=hSw);go_simp;try with_reducible rfl)
    try simp only[Act.put,lA,lB,lC]
    refine wpAnyH_ready (rs:=[12]) (by kernel_rfl) (by simp) ?_
    refine AllReadyH.cons rfl (fun K hK=>?_) AllReadyH.nil
    go_simp
    refine (HM.out _ Hbdd.out).mono ?_
    rintro e wy ⟨rfl,hby⟩
    have hb1y:=Hbdd.out.trans (hby.mono Hbdd.out.size)
    have hSy:=Hcz.out _ hb1y
    obtain⟨Hb1y,Hby⟩:=hd2 hb1y hby;clear hb1y hby
    go_wp2_with fail
    refine hK.out _ _ (by exact hSy) (fun hHeld=>?_)
    clear hK K
    try simp only[Act.put,lA,lB,lC]
    cases bs with
    | false =>
     refine wpAnyH_take (i:=13) (v:=?_) rfl (by kernel_rfl) (by kernel_rfl) (by kernel_rfl) (fun _ _ _ h=>h) (Or.inl ⟨by kernel_rfl,?_⟩) (by assumption) ?_
     rotate_left
     ·(intro w hSw;(try dsimp only at hSw);(try obtain⟨o0,o1,o2,o3,o4,o5,o6,o7,o8,o9⟩:=hSw);go_simp;try with_reducible rfl)
     try simp only[Act.put,lA,lB,lC]
     refine wpAnyH_take (i:=14) (v:=?_) rfl (by kernel_rfl) (by kernel_rfl) (by kernel_rfl) (fun _ _ _ h=>h) (Or.inl ⟨by kernel_rfl,?_⟩) (by assumption) ?_
     rotate_left
     ·(intro w hSw;(try dsimp only at hSw);(try obtain⟨o0,o1,o2,o3,o4,o5,o6,o7,o8,o9⟩:=hSw);go_simp;try with_reducible rfl)
     try simp only[Act.put,lA,lB,lC]
     refine wpAnyH_take (i:=15) (v:=undef) rfl (by kernel_rfl) (by kernel_rfl) (by kernel_rfl) (fun _ _ _ h=>h) (Or.inr ⟨by kernel_rfl,rfl⟩) (by assumption) ?_
     simp only[Act.put,List.getElem_toArray,List.getElem_cons_succ,List.getElem_cons_zero,lA,lB,lC]
     refine wpAnyH_take (i:=16) (v:=undef) rfl (by kernel_rfl) (by kernel_rfl) (by kernel_rfl) (fun _ _ _ h=>h) (Or.inr ⟨by kernel_rfl,rfl⟩) (by assumption) ?_
     simp only[Act.put,List.getElem_toArray,List.getElem_cons_succ,List.getElem_cons_zero,lA,lB,lC]
     refine wpAnyH_take (i:=17) (v:=undef) rfl (by kernel_rfl) (by kernel_rfl) (by kernel_rfl) (fun _ _ _ h=>h) (Or.inr ⟨by kernel_rfl,rfl⟩) (by assumption) ?_
     simp only[Act.put,List.getElem_toArray,List.getElem_cons_succ,List.getElem_cons_zero,lA,lB,lC]
     refine wpAnyH_take (i:=18) (v:=undef) rfl (by kernel_rfl) (by kernel_rfl) (by kernel_rfl) (fun _ _ _ h=>h) (Or.inr ⟨by kernel_rfl,rfl⟩) (by assumption) ?_
     simp only[Act.put,List.getElem_toArray,List.getElem_cons_succ,List.getElem_cons_zero,lA,lB,lC]
     refine wpAnyH_take (i:=19) (v:=undef) rfl (by kernel_rfl) (by kernel_rfl) (by kernel_rfl) (fun _ _ _ h=>h) (Or.inr ⟨by kernel_rfl,rfl⟩) (by assumption) ?_
     simp only[Act.put,List.getElem_toArray,List.getElem_cons_succ,List.getElem_cons_zero,lA,lB,lC]
     refine wpAnyH_take (i:=20) (v:=undef) rfl (by kernel_rfl) (by kernel_rfl) (by kernel_rfl) (fun _ _ _ h=>h) (Or.inr ⟨by kernel_rfl,rfl⟩) (by assumption) ?_
     simp only[Act.put,List.getElem_toArray,List.getElem_cons_succ,List.getElem_cons_zero,lA,lB,lC]
     refine wpAnyH_take (i:=21) (v:=undef) rfl (by kernel_rfl) (by kernel_rfl) (by kernel_rfl) (fun _ _ _ h=>h) (Or.inr ⟨by kernel_rfl,rfl⟩) (by assumption) ?_
     simp only[Act.put,List.getElem_toArray,List.getElem_cons_succ,List.getElem_cons_zero,lA,lB,lC]
     refine wpAnyH_take (i:=22) (v:=undef) rfl (by kernel_rfl) (by kernel_rfl) (by kernel_rfl) (fun _ _ _ h=>h) (Or.inr ⟨by kernel_rfl,rfl⟩) (by assumption) ?_
     simp only[Act.put,List.getElem_toArray,List.getElem_cons_succ,List.getElem_cons_zero,lA,lB,lC]
     refine wpAnyH_take (i:=23) (v:=undef) rfl (by kernel_rfl) (by kernel_rfl) (by kernel_rfl) (fun _ _ _ h=>h) (Or.inr ⟨by kernel_rfl,rfl⟩) (by assumption) ?_
     simp only[Act.put,List.getElem_toArray,List.getElem_cons_succ,List.getElem_cons_zero,lA,lB,lC]
     refine wpAnyH_take (i:=24) (v:=undef) rfl (by kernel_rfl) (by kernel_rfl) (by kernel_rfl) (fun _ _ _ h=>h) (Or.inr ⟨by kernel_rfl,rfl⟩) (by assumption) ?_
     simp only[Act.put,List.getElem_toArray,List.getElem_cons_succ,List.getElem_cons_zero,lA,lB,lC]
     refine wpAnyH_take (i:=25) (v:=undef) rfl (by kernel_rfl) (by kernel_rfl) (by kernel_rfl) (fun _ _ _ h=>h) (Or.inr ⟨by kernel_rfl,rfl⟩) (by assumption) ?_
     simp only[Act.put,List.getElem_toArray,List.getElem_cons_succ,List.getElem_cons_zero,lA,lB,lC]
     refine wpAnyH_take (i:=26) (v:=undef) rfl (by kernel_rfl) (by kernel_rfl) (by kernel_rfl) (fun _ _ _ h=>h) (Or.inr ⟨by kernel_rfl,rfl⟩) (by assumption) ?_
     simp only[Act.put,List.getElem_toArray,List.getElem_cons_succ,List.getElem_cons_zero,lA,lB,lC]
     refine wpAnyH_take (i:=27) (v:=undef) rfl (by kernel_rfl) (by kernel_rfl) (by kernel_rfl) (fun _ _ _ h=>h) (Or.inr ⟨by kernel_rfl,rfl⟩) (by assumption) ?_
     simp only[Act.put,List.getElem_toArray,List.getElem_cons_succ,List.getElem_cons_zero,lA,lB,lC]
     refine wpAnyH_take (i:=28) (v:=undef) rfl (by kernel_rfl) (by kernel_rfl) (by kernel_rfl) (fun _ _ _ h=>h) (Or.inr ⟨by kernel_rfl,rfl⟩) (by assumption) ?_
     simp only[Act.put,List.getElem_toArray,List.getElem_cons_succ,List.getElem_cons_zero,lA,lB,lC]
     refine wpAnyH_take (i:=29) (v:=undef) rfl (by kernel_rfl) (by kernel_rfl) (by kernel_rfl) (fun _ _ _ h=>h) (Or.inr ⟨by kernel_rfl,rfl⟩) (by assumption) ?_
     simp only[Act.put,List.getElem_toArray,List.getElem_cons_succ,List.getElem_cons_zero,lA,lB,lC]
     refine wpAnyH_take (i:=30) (v:=undef) rfl (by kernel_rfl) (by kernel_rfl) (by kernel_rfl) (fun _ _ _ h=>h) (Or.inr ⟨by kernel_rfl,rfl⟩) (by assumption) ?_
     simp only[Act.put,List.getElem_toArray,List.getElem_cons_succ,List.getElem_cons_zero,lA,lB,lC]
     refine wpAnyH_take (i:=31) (v:=?_) rfl (by kernel_rfl) (by kernel_rfl) (by kernel_rfl) (fun _ _ _ h=>h) (Or.inl ⟨by kernel_rfl,?_⟩) (by assumption) ?_
     rotate_left
     ·(intro w hSw;(try dsimp only at hSw);(try obtain⟨o0,o1,o2,o3,o4,o5,o6,o7,o8,o9⟩:=hSw);go_simp;try with_reducible rfl)
     try simp only[Act.put,lA,lB,lC]
     refine wpAnyH_done (by kernel_rfl) ?_ _
     go_simp
     go_wp2_with fail
     go_meet
     exact⟨rfl,Hb1y.out⟩
    | true =>
     cases ln with
     | false =>
      refine wpAnyH_take (i:=13) (v:=?_) rfl (by kernel_rfl) (by kernel_rfl) (by kernel_rfl) (fun _ _ _ h=>h) (Or.inl ⟨by kernel_rfl,?_⟩) (by assumption) ?_
      rotate_left
      ·(intro w hSw;(try dsimp only at hSw);(try obtain⟨o0,o1,o2,o3,o4,o5,o6,o7,o8,o9⟩:=hSw);go_simp;try with_reducible rfl)
      try simp only[Act.put,lA,lB,lC]
      refine wpAnyH_take (i:=14) (v:=?_) rfl (by kernel_rfl) (by kernel_rfl) (by kernel_rfl) (fun _ _ _ h=>h) (Or.inl ⟨by kernel_rfl,?_⟩) (by assumption) ?_
      rotate_left
      ·(intro w hSw;(try dsimp only at hSw);(try obtain⟨o0,o1,o2,o3,o4,o5,o6,o7,o8,o9⟩:=hSw);go_simp;try with_reducible rfl)
      try simp only[Act.put,lA,lB,lC]
      refine wpAnyH_take (i:=15) (v:=?_) rfl (by kernel_rfl) (by kernel_rfl) (by kernel_rfl) (fun _ _ _ h=>h) (Or.inl ⟨by kernel_rfl,?_⟩) (by assumption) ?_
      rotate_left
      ·(intro w hSw;(try dsimp only at hSw);(try obtain⟨o0,o1,o2,o3,o4,o5,o6,o7,o8,o9⟩:=hSw);go_simp;try with_reducible rfl)
      try simp only[Act.put,lA,lB,lC]
      refine wpAnyH_take (i:=16) (v:=?_) rfl (by kernel_rfl) (by kernel_rfl) (by kernel_rfl) (fun _ _ _ h=>h) (Or.inl ⟨by kernel_rfl,?_⟩) (by assumption) ?_
      rotate_left
      ·(intro w hSw;(try dsimp only at hSw);(try obtain⟨o0,o1,o2,o3,o4,o5,o6,o7,o8,o9⟩:=hSw);go_simp;try with_reducible rfl)
      try simp only[Act.put,lA,lB,lC]
      refine wpAnyH_take (i:=17) (v:=undef) rfl (by kernel_rfl) (by kernel_rfl) (by kernel_rfl) (fun _ _ _ h=>h) (Or.inr ⟨by kernel_rfl,rfl⟩) (by assumption) ?_
      simp only[Act.put,List.getElem_toArray,List.getElem_cons_succ,List.getElem_cons_zero,lA,lB,lC]
      refine wpAnyH_take (i:=18) (v:=undef) rfl (by kernel_rfl) (by kernel_rfl) (by kernel_rfl) (fun _ _ _ h=>h) (Or.inr ⟨by kernel_rfl,rfl⟩) (by assumption) ?_
      simp only[Act.put,List.getElem_toArray,List.getElem_cons_succ,List.getElem_cons_zero,lA,lB,lC]
      refine wpAnyH_take (i:=19) (v:=undef) rfl (by kernel_rfl) (by kernel_rfl) (by kernel_rfl) (fun _ _ _ h=>h) (Or.inr ⟨by kernel_rfl,rfl⟩) (by assumption) ?_
      simp only[Act.put,List.getElem_toArray,List.getElem_cons_succ,List.getElem_cons_zero,lA,lB,lC]
      refine wpAnyH_take (i:=20) (v:=undef) rfl (by kernel_rfl) (by kernel_rfl) (by kernel_rfl) (fun _ _ _ h=>h) (Or.inr ⟨by kernel_rfl,rfl⟩) (by assumption) ?_
      simp only[Act.put,List.getElem_toArray,List.getElem_cons_succ,List.getElem_cons_zero,lA,lB,lC]
      refine wpAnyH_take (i:=21) (v:=undef) rfl (by kernel_rfl) (by kernel_rfl) (by kernel_rfl) (fun _ _ _ h=>h) (Or.inr ⟨by kernel_rfl,rfl⟩) (by assumption) ?_
      simp only[Act.put,List.getElem_toArray,List.getElem_cons_succ,List.getElem_cons_zero,lA,lB,lC]
      refine wpAnyH_take (i:=22) (v:=undef) rfl (by kernel_rfl) (by kernel_rfl) (by kernel_rfl) (fun _ _ _ h=>h) (Or.inr ⟨by kernel_rfl,rfl⟩) (by assumption) ?_
      simp only[Act.put,List.getElem_toArray,List.getElem_cons_succ,List.getElem_cons_zero,lA,lB,lC]
      refine wpAnyH_take (i:=23) (v:=undef) rfl (by kernel_rfl) (by kernel_rfl) (by kernel_rfl) (fun _ _ _ h=>h) (Or.inr ⟨by kernel_rfl,rfl⟩) (by assumption) ?_
      simp only[Act.put,List.getElem_toArray,List.getElem_cons_succ,List.getElem_cons_zero,lA,lB,lC]
      refine wpAnyH_take (i:=24) (v:=undef) rfl (by kernel_rfl) (by kernel_rfl) (by kernel_rfl) (fun _ _ _ h=>h) (Or.inr ⟨by kernel_rfl,rfl⟩) (by assumption) ?_
      simp only[Act.put,List.getElem_toArray,List.getElem_cons_succ,List.getElem_cons_zero,lA,lB,lC]
      refine wpAnyH_take (i:=25) (v:=undef) rfl (by kernel_rfl) (by kernel_rfl) (by kernel_rfl) (fun _ _ _ h=>h) (Or.inr ⟨by kernel_rfl,rfl⟩) (by assumption) ?_
      simp only[Act.put,List.getElem_toArray,List.getElem_cons_succ,List.getElem_cons_zero,lA,lB,lC]
      refine wpAnyH_take (i:=26) (v:=undef) rfl (by kernel_rfl) (by kernel_rfl) (by kernel_rfl) (fun _ _ _ h=>h) (Or.inr ⟨by kernel_rfl,rfl⟩) (by assumption) ?_
      simp only[Act.put,List.getElem_toArray,List.getElem_cons_succ,List.getElem_cons_zero,lA,lB,lC]
      refine wpAnyH_take (i:=27) (v:=undef) rfl (by kernel_rfl) (by kernel_rfl) (by kernel_rfl) (fun _ _ _ h=>h) (Or.inr ⟨by kernel_rfl,rfl⟩) (by assumption) ?_
      simp only[Act.put,List.getElem_toArray,List.getElem_cons_succ,List.getElem_cons_zero,lA,lB,lC]
      refine wpAnyH_take (i:=28) (v:=undef) rfl (by kernel_rfl) (by kernel_rfl) (by kernel_rfl) (fun _ _ _ h=>h) (Or.inr ⟨by kernel_rfl,rfl⟩) (by assumption) ?_
      simp only[Act.put,List.getElem_toArray,List.getElem_cons_succ,List.getElem_cons_zero,lA,lB,lC]
      refine wpAnyH_take (i:=29) (v:=undef) rfl (by kernel_rfl) (by kernel_rfl) (by kernel_rfl) (fun _ _ _ h=>h) (Or.inr ⟨by kernel_rfl,rfl⟩) (by assumption) ?_
      simp only[Act.put,List.getElem_toArray,List.getElem_cons_succ,List.getElem_cons_zero,lA,lB,lC]
      refine wpAnyH_take (i:=30) (v:=?_) rfl (by kernel_rfl) (by kernel_rfl) (by kernel_rfl) (fun _ _ _ h=>h) (Or.inl ⟨by kernel_rfl,?_⟩) (by assumption) ?_
      rotate_left
      ·(intro w hSw;(try dsimp only at hSw);(try obtain⟨o0,o1,o2,o3,o4,o5,o6,o7,o8,o9⟩:=hSw);go_simp;try with_reducible rfl)
      try simp only[Act.put,lA,lB,lC]
      refine wpAnyH_take (i:=31) (v:=?_) rfl (by kernel_rfl) (by kernel_rfl) (by kernel_rfl) (fun _ _ _ h=>h) (Or.inl ⟨by kernel_rfl,?_⟩) (by assumption) ?_
      rotate_left
      ·(intro w hSw;(try dsimp only at hSw);(try obtain⟨o0,o1,o2,o3,o4,o5,o6,o7,o8,o9⟩:=hSw);go_simp;try with_reducible rfl)
      try simp only[Act.put,lA,lB,lC]
      refine wpAnyH_done (by kernel_rfl) ?_ _
      go_simp
      go_wp2_with fail
      go_meet
      exact⟨rfl,Hb1y.out⟩
     | true =>
      refine wpAnyH_take (i:=13) (v:=?_) rfl (by kernel_rfl) (by kernel_rfl) (by kernel_rfl) (fun _ _ _ h=>h) (Or.inl ⟨by kernel_rfl,?_⟩) (by assumption) ?_
      rotate_left
      ·(intro w hSw;(try dsimp only at hSw);(try obtain⟨o0,o1,o2,o3,o4,o5,o6,o7,o8,o9⟩:=hSw);go_simp;try with_reducible rfl)
      try simp only[Act.put,lA,lB,lC]
      refine wpAnyH_take (i:=14) (v:=?_) rfl (by kernel_rfl) (by kernel_rfl) (by kernel_rfl) (fun _ _ _ h=>h) (Or.inl ⟨by kernel_rfl,?_⟩) (by assumption) ?_
      rotate_left
      ·(intro w hSw;(try dsimp only at hSw);(try obtain⟨o0,o1,o2,o3,o4,o5,o6,o7,o8,o9⟩:=hSw);go_simp;try with_reducible rfl)
      try simp only[Act.put,lA,lB,lC]
      refine wpAnyH_take (i:=15) (v:=?_) rfl (by kernel_rfl) (by kernel_rfl) (by kernel_rfl) (fun _ _ _ h=>h) (Or.inl ⟨by kernel_rfl,?_⟩) (by assumption) ?_
      rotate_left
      ·(intro w hSw;(try dsimp only at hSw);(try obtain⟨o0,o1,o2,o3,o4,o5,o6,o7,o8,o9⟩:=hSw);go_simp;try with_reducible rfl)
      try simp only[Act.put,lA,lB,lC]
      refine wpAnyH_take (i:=16) (v:=?_) rfl (by kernel_rfl) (by kernel_rfl) (by kernel_rfl) (fun _ _ _ h=>h) (Or.inl ⟨by kernel_rfl,?_⟩) (by assumption) ?_
      rotate_left
      ·(intro w hSw;(try dsimp only at hSw);(try obtain⟨o0,o1,o2,o3,o4,o5,o6,o7,o8,o9⟩:=hSw);go_simp;try with_reducible rfl)
      try simp only[Act.put,lA,lB,lC]
      refine wpAnyH_take (i:=17) (v:=?_) rfl (by kernel_rfl) (by kernel_rfl) (by kernel_rfl) (fun _ _ _ h=>h) (Or.inl ⟨by kernel_rfl,?_⟩) (by assumption) ?_
      rotate_left
      ·(intro w hSw;(try dsimp only at hSw);(try obtain⟨o0,o1,o2,o3,o4,o5,o6,o7,o8,o9⟩:=hSw);go_simp;try with_reducible rfl)
      try simp only[Act.put,lA,lB,lC]
      refine wpAnyH_take (i:=18) (v:=?_) rfl (by kernel_rfl) (by kernel_rfl) (by kernel_rfl) (fun _ _ _ h=>h) (Or.inl ⟨by kernel_rfl,?_⟩) (by assumption) ?_
      rotate_left
      ·(intro w hSw;(try dsimp only at hSw);(try obtain⟨o0,o1,o2,o3,o4,o5,o6,o7,o8,o9⟩:=hSw);go_simp;try with_reducible rfl)
      try simp only[Act.put,lA,lB,lC]
      refine wpAnyH_take (i:=19) (v:=?_) rfl (by kernel_rfl) (by kernel_rfl) (by kernel_rfl) (fun _ _ _ h=>h) (Or.inl ⟨by kernel_rfl,?_⟩) (by assumption) ?_
      rotate_left
      ·(intro w hSw;(try dsimp only at hSw);(try obtain⟨o0,o1,o2,o3,o4,o5,o6,o7,o8,o9⟩:=hSw);go_simp;try with_reducible rfl)
      try simp only[Act.put,lA,lB,lC]
      refine wpAnyH_take (i:=20) (v:=?_) rfl (by kernel_rfl) (by kernel_rfl) (by kernel_rfl) (fun _ _ _ h=>h) (Or.inl ⟨by kernel_rfl,?_⟩) (by assumption) ?_
      rotate_left
      ·(intro w hSw;(try dsimp only at hSw);(try obtain⟨o0,o1,o2,o3,o4,o5,o6,o7,o8,o9⟩:=hSw);go_simp;try with_reducible rfl)
      try simp only[Act.put,lA,lB,lC]
      refine wpAnyH_take (i:=21) (v:=?_) rfl (by kernel_rfl) (by kernel_rfl) (by kernel_rfl) (fun _ _ _ h=>h) (Or.inl ⟨by kernel_rfl,?_⟩) (by assumption) ?_
      rotate_left
      ·(intro w hSw;(try dsimp only at hSw);(try obtain⟨o0,o1,o2,o3,o4,o5,o6,o7,o8,o9⟩:=hSw);go_simp;try with_reducible rfl)
      try simp only[Act.put,lA,lB,lC]
      refine wpAnyH_take (i:=22) (v:=?_) rfl (by kernel_rfl) (by kernel_rfl) (by kernel_rfl) (fun _ _ _ h=>h) (Or.inl ⟨by kernel_rfl,?_⟩) (by assumption) ?_
      rotate_left
      ·(intro w hSw;(try dsimp only at hSw);(try obtain⟨o0,o1,o2,o3,o4,o5,o6,o7,o8,o9⟩:=hSw);go_simp;try with_reducible rfl)
      try simp only[Act.put,lA,lB,lC]
      refine wpAnyH_take (i:=23) (v:=?_) rfl (by kernel_rfl) (by kernel_rfl) (by kernel_rfl) (fun _ _ _ h=>h) (Or.inl ⟨by kernel_rfl,?_⟩) (by assumption) ?_
      rotate_left
      ·(intro w hSw;(try dsimp only at hSw);(try obtain⟨o0,o1,o2,o3,o4,o5,o6,o7,o8,o9⟩:=hSw);go_simp;try with_reducible rfl)
      try simp only[Act.put,lA,lB,lC]
      refine wpAnyH_take (i:=24) (v:=?_) rfl (by kernel_rfl) (by kernel_rfl) (by kernel_rfl) (fun _ _ _ h=>h) (Or.inl ⟨by kernel_rfl,?_⟩) (by assumption) ?_
      rotate_left
      ·(intro w hSw;(try dsimp only at hSw);(try obtain⟨o0,o1,o2,o3,o4,o5,o6,o7,o8,o9⟩:=hSw);go_simp;try with_reducible rfl)
      try simp only[Act.put,lA,lB,lC]
      refine wpAnyH_take (i:=25) (v:=?_) rfl (by kernel_rfl) (by kernel_rfl) (by kernel_rfl) (fun _ _ _ h=>h) (Or.inl ⟨by kernel_rfl,?_⟩) (by assumption) ?_
      rotate_left
      ·(intro w hSw;(try dsimp only at hSw);(try obtain⟨o0,o1,o2,o3,o4,o5,o6,o7,o8,o9⟩:=hSw);go_simp;try with_reducible rfl)
      try simp only[Act.put,lA,lB,lC]
      refine wpAnyH_take (i:=26) (v:=?_) rfl (by kernel_rfl) (by kernel_rfl) (by kernel_rfl) (fun _ _ _ h=>h) (Or.inl ⟨by kernel_rfl,?_⟩) (by assumption) ?_
      rotate_left
      ·(intro w hSw;(try dsimp only at hSw);(try obtain⟨o0,o1,o2,o3,o4,o5,o6,o7,o8,o9⟩:=hSw);go_simp;try with_reducible rfl)
      try simp only[Act.put,lA,lB,lC]
      refine wpAnyH_take (i:=27) (v:=?_) rfl (by kernel_rfl) (by kernel_rfl) (by kernel_rfl) (fun _ _ _ h=>h) (Or.inl ⟨by kernel_rfl,?_⟩) (by assumption) ?_
      rotate_left
      ·(intro w hSw;(try dsimp only at hSw);(try obtain⟨o0,o1,o2,o3,o4,o5,o6,o7,o8,o9⟩:=hSw);go_simp;try with_reducible rfl)
      try simp only[Act.put,lA,lB,lC]
      refine wpAnyH_take (i:=28) (v:=?_) rfl (by kernel_rfl) (by kernel_rfl) (by kernel_rfl) (fun _ _ _ h=>h) (Or.inl ⟨by kernel_rfl,?_⟩) (by assumption) ?_
      rotate_left
      ·(intro w hSw;(try dsimp only at hSw);(try obtain⟨o0,o1,o2,o3,o4,o5,o6,o7,o8,o9⟩:=hSw);go_simp;try with_reducible rfl)
      try simp only[Act.put,lA,lB,lC]
      refine wpAnyH_take (i:=29) (v:=?_) rfl (by kernel_rfl) (by kernel_rfl) (by kernel_rfl) (fun _ _ _ h=>h) (Or.inl ⟨by kernel_rfl,?_⟩) (by assumption) ?_
      rotate_left
      ·(intro w hSw;(try dsimp only at hSw);(try obtain⟨o0,o1,o2,o3,o4,o5,o6,o7,o8,o9⟩:=hSw);go_simp;try with_reducible rfl)
      try simp only[Act.put,lA,lB,lC]
      refine wpAnyH_take (i:=30) (v:=?_) rfl (by kernel_rfl) (by kernel_rfl) (by kernel_rfl) (fun _ _ _ h=>h) (Or.inl ⟨by kernel_rfl,?_⟩) (by assumption) ?_
      rotate_left
      ·(intro w hSw;(try dsimp only at hSw);(try obtain⟨o0,o1,o2,o3,o4,o5,o6,o7,o8,o9⟩:=hSw);go_simp;try with_reducible rfl)
      try simp only[Act.put,lA,lB,lC]
      refine wpAnyH_take (i:=31) (v:=?_) rfl (by kernel_rfl) (by kernel_rfl) (by kernel_rfl) (fun _ _ _ h=>h) (Or.inl ⟨by kernel_rfl,?_⟩) (by assumption) ?_
      rotate_left
      ·(intro w hSw;(try dsimp only at hSw);(try obtain⟨o0,o1,o2,o3,o4,o5,o6,o7,o8,o9⟩:=hSw);go_simp;try with_reducible rfl)
      try simp only[Act.put,lA,lB,lC]
      refine wpAnyH_done (by kernel_rfl) ?_ _
      go_simp
      go_wp2_with fail
      go_meet
      exact⟨rfl,Hb1y.out⟩
   case rest =>
    obtain⟨rfl,hbc⟩:=hcut
    cases hq:(bs && (!ln || bl)) with
    | false =>
     have hf:=Hbd.out hq
     obtain⟨Hbc,Hf,Hq⟩:=hd3 hbc hf hq;clear hbc hf hq
     go_wp2_with fail
     go_ret
     exact⟨zad Hf.out.symm,Hb1.out.trans (Hbc.out.mono Hb1.out.size)⟩
    | true =>
     have hnx2:=Hnx.out hq
     obtain⟨Hbc,Hnx2,Hq⟩:=hd3 hbc hnx2 hq;clear hbc hnx2 hq
     go_wp2_with fail
     go_roundw
     case rel=>exact⟨k+1,by omega,by go_num,Hnx2.out,Hbc.out⟩
     case measure=>simp[RowKit.intOf];omega
  obtain rfl:n=k:=by omega
  have hf:r=true:=by
   rw[Hr.out]
   exact zjk (by rw[← Hn.out,← Hn2.out,Hne.out]) (fun j h1 h2=>hno j h1 h2 (by have:=Hn.out;omega))
  obtain⟨Hno,Hf⟩:=hd2 hno hf;clear hno hf
  go_wp2_with fail
  go_ret
  exact⟨zad Hf.out.symm,Hb1.out.trans (hbq.mono Hb1.out.size)⟩
end

section
open Go.Shelf Go.RowKit Go.Lib VerN VarM
attribute [local go_sem ↓] Go.wp_at_zero Go.wp_at_succ
theorem wh_eqs (a b c d:Int) (W:World):(binOp .eql 40 (.agg #[.int .i64 a,.int .i64 b]) (.agg #[.int .i64 c,.int .i64 d])).run Tryz.prog W = .ok (.bool (decide (a=c) && decide (b=d))) W:=by
 have u9:=Tryz.underlying3
 have hS:Tryz.prog.underlying 40=some (.struct (Tryz.prog.fieldsOf 40)):=by kernel_rfl
 have hp:Tryz.prog.stoodInHeld 40=false:=by kernel_rfl
 rw[run_eql_struct,show (10000:Nat)=9999+1 from rfl,run_equalIn_agg W 9999 40 _ _ hS hp]
 simp only[Program.fieldsOf,Tryz.underlying40]
 go_simp
 by_cases h1:a=c <;> by_cases h2:b=d <;> simp[h1,h2] <;> simp_all
theorem zof {w:World} (hD:zbi w):Calls Tryz.prog 27 #[] w fun e w'=>e = .returned (.bool true)∧Below w.heap.size w w':=by
 have hP:=zm4 fx8T (by decide) hD
 obtain⟨s,hs,hn⟩:=fx8_req
 rw[hs] at hP
 unfold zon at hP
 unfold fx8T at hP
 clear hs
 obtain⟨HP,HD⟩:=hd2 hP hD;clear hP hD
 go_enter Tryz.func27,Tryz.ntmps27
 go_wp2_with fail
 refine HP.out.mono ?_
 rintro e w1 ⟨v,rfl,hrt,hb1⟩
 obtain⟨a,cap,rfl,-,hat⟩:=ze6 hrt
 obtain⟨b,off,b1,n1,c1,b2,n2,c2,rfl,d0,-,-,d3,-,-⟩:=hat 0 _ rfl
 rw[Nat.zero_mul,Nat.add_zero] at d0 d3
 obtain⟨tx,htx⟩ : ∃ t,t=s.1:=⟨_,rfl⟩
 simp only[← htx] at d0
 have hte:(tx.toList == [97])=true:=by
  rw[htx,hn,Lib.toList_data]
  rfl
 obtain⟨g,hg⟩ : ∃ g,g=w1.heap.size:=⟨_,rfl⟩
 obtain⟨w2,hw2⟩ : ∃ W,W=(w1.alloc (.cells #[.slice (some ⟨b,off,none⟩) 1 cap] 38)).alloc (.cells #[.int .i64 0,.int .i64 0] 40):=⟨_,rfl⟩
 have hb2:Below w1.heap.size w1 w2:=by rw[hw2];exact (za2 _ _).alloc (by simp) _
 have p0:zrq g (.slice (some ⟨b,off,none⟩) 1 cap) w2:=by rw[hw2,hg];exact za0 (za2 _ _) (za6 rfl)
 obtain⟨x0,-⟩:=zc5 p0
 have e0:=cell_later hb2 d0
 have e3:=cell_later hb2 d3
 have hbw:=hb1.trans (hb2.mono hb1.size)
 clear d0 d3 hat
 obtain⟨Hrt,Hb1,Hb2,Hp0,Hbw,Htx,Hn⟩:=hd7 hrt hb1 hb2 p0 hbw htx hn;clear hrt hb1 hb2 p0 hbw htx hn
 go_upto_region 2 with (fail)
 rw[← hw2,← hg]
 clear hw2 hg
 go_wp2_with fail
 go_ret
 exact⟨rfl,Hbw.out⟩
end
end Go.Proofs.YteailgjiifdgcaaGreatDoor
