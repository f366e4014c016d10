/- Walks and plain facts. Condition: none beyond what each says. -/
import Derived.Test.YthgibhhbmmkjmaaGreatDoorPrW5
set_option linter.unusedVariables false
set_option linter.unusedSimpArgs false
set_option maxRecDepth 10000
set_option maxHeartbeats 40000000
namespace Go.Proofs.YthgibhhbmmkjmaaGreatDoor
open Go.Proofs.Tryz
variable {B N b bs c e2 g k n n1 n2 n3 n4 n5 n6 r x:Nat}
variable {T:Nat→Prop}
variable {W W' w w9:World}
variable {a a1:Option Addr}
variable {bN css:List (List Value)}
variable {e:TypeId}
variable {l:List ByteArray}
variable {q s:ByteArray}
variable {u v v9 z:Value}
variable {p:List UInt8}
variable {t:Nat→Nat}
section
open Shelf RowKit Lib av cy
open ac (Wd Ln jT)
attribute [local go_sem ↓] wp_at_zero wp_at_succ
set_option linter.unusedVariables false in
theorem line06_A{l:Ln}(dT:j7 w [.slice a n c] l.2)(hl:jT 70000 l){pa:Option Addr}{pn pc:Nat}{fa:Option Addr}{fn fc:Nat}{x:ch}
  (aP:RcV w t B (.slice pa pn pc) (.slice fa fn fc) x) (ta:∀p,a=some p→9<t p.block) (iO:B≤w.heap.size) {k:Nat} (hx:xu k x) (hk:k≤70000) (ax:¬(aD l.2 0=lF∨aD l.2 0=kv)∧¬(aD l.2 0=nZ∨aD l.2 0=n8∨aD l.2 0=kX∨aD l.2 0=kY)) :
  Calls prog 41 #[.agg #[.int .i64 l.1,.slice a n c],.agg #[.slice pa pn pc,.slice fa fn fc]] w (NV t B l.1 l.2 x w):=by
 obtain⟨ln,ws⟩:=l;obtain⟨oG,bL,my,gJ⟩:=hl;simp only at dT oG bL my gJ ax⊢;have U:=aH ax;clear ax;obtain⟨hn,hz,aU⟩:=pF dT;have lT:0<n:=by exact WH
 have bM:n≤40:=Z;obtain⟨x1,dB,nR⟩:=zmw hn lT;obtain⟨b,off,rfl,d0,d1,_⟩:=aU (n-1) x1 dB;revert d0 d1;refine V3 ?_;intro jk xc d0 vz xt d1 vA Sf Ab fin eH;have pw:∀j,cO ws fin j≠0:=fun j=>by exact Rs
 refine WD ?_;intro wX cz cR;have Df:∀p,some (⟨b,off,none⟩:Addr)=some p→p.block<w.heap.size∧9<t p.block:=fun p hp=>by exact Xp
 revert d0 d1;refine V1 ?_;intro g hg W2 eh af p0 p1 p2 gH l1 bZ m d1 d0 hm k1 k2 k3 W3 uE nc r3 oE Gm q0 q1 W4 vS mw tA bA q4 t1 tR xi xA vP zF kf first wu
 have Ef:pn=x.pk.length:=by exact WB
 have DV:fn=x.pf.length:=by exact WI
 revert aP iO hx hk oG bL my gJ hn hz dB nR ta dT aU jk vz vA eH pw wX Df af p0 p1 p2 hm nc r3 mw tA bA q4 tR xi xA vP zF wu Ef DV;refine XH ?_;intro Se Sd mk kp Ai cJ yv Hn fS gD vU yK PY PZ fM Gg wC bh dR fG q9 Hm Er gZ V NB dL DM PW PV EX so jR HW lQ HH P_ Bg HU nU EW kV tJ mH HG xx;go_upto_region 1 with (fail);rw[←eh,←hg,show g+1+1=g+2 from rfl];clear eh hg;go_upto_region 2 with (fail);rw[←uE];clear uE d0 d1 l1;go_upto_region 3 with (fail);rw[←vS];clear vS q0 q1 Gm gH oE;obtain⟨⟨bF,bG,bH,bD⟩,-⟩:=a8 so.o.pb;go_wp2_with fail;revert bF bG bH bD;refine WA ?_;intro w5 bF bG bH bD cQ fH Ge;go_wp2_with fail;refine Ge.o.mono ?_;rintro e w6 ⟨j6,gW,rfl,rZ,cX⟩;obtain⟨rfl,rfl⟩:j6=1∧gW=0:=by exact Ws
 have ay:=fH.o.to cX;clear bF bG bH bD rZ;obtain⟨⟨bF,bG,bH,bD⟩,cC,cD,cB,cF⟩:=a8 ay.pb;obtain⟨je,D5⟩:=ak cX ay;clear cX ay;go_upto_region 5 with (fail);clear bF bG bH bD cC cD cB cF;refine XL ?_;intro w7 b_ iF;go_upto_region 6 with (fail);clear b_ kp;refine VU ?_;intro bp kP bf kF uo qS;go_upto_block 0 with (fail);go_cut [] (fun W=>EndL w t g B (some ⟨b,off,none⟩) n c ln fin ws x W)
 case first=>
  go_upto_if 50 with (fail)
  clear kP
  cases bp with
  |true=>
   refine amj ?_;intro s bF bG bH bD L7 Hs ir;go_wp2_with fail;refine L7.o.mono ?_;rintro e w8 ⟨rfl,eD⟩;have aa:=iF.o.to eD;clear bF bG bH bD;obtain⟨si,QI⟩:=ak eD aa;clear eD aa;go_upto_region 10 with (fail);go_cut [] (fun W=>NxL w t g B (some ⟨b,off,none⟩) n c ln fin ws 1 (eL s) t1 (.slice pa pn pc) (.slice fa fn fc) x W)
   case first=>exact afw
   case rest=>
    obtain⟨j3,da,F,p_⟩:=hcut;obtain⟨w9,fN⟩:=Y wc;rw[←fN]at F⊢;clear fN;obtain⟨sB,pJ⟩:=ak F p_;clear F p_;have L:=sB.o.rc;obtain⟨bN,aY,E9,EU,Af⟩:=L.pk.open;have ad:w9.ownsRow B 45 8 (.slice pa pn pc) pn bN.flatten:=by rw[Bg.o];rw[Bg.o]at aY;exact aY
    obtain⟨N,ah⟩:=Y bN.flatten;rw[←ah]at ad;have aB:B≤w9.heap.size:=fu mH.o (fu (jg HG.o) sB.o.gc.size);have b_:=J L.box 0;have ai:=J sB.o.lb 0;simp only[aq,ar,aw]at b_ ai;revert L aY E9 EU Af ad ah;refine eb ?_;intro yp bY Qq Qr EI ql HN;go_wp2_with (at_builtin;(refine kZ zoy rfl (.tmp 59) (.tmp 64) rfl B (.slice pa pn pc) pn N rfl ql.o 1 #[.string s,.int .i64 ln,.slice none 0 0,.slice none 0 0,.slice none 0 0,.slice none 0 0,.slice none 0 0,.slice none 0 0] rfl rfl dW Z cY aB ?_;intro v9 wx aZ aT ia;obtain⟨a9,c9,rfl⟩:=bg aZ;have u:=bI yp.o.box (eS aT) (fun e=>by have bj:=EI.o _ e;have e2:=yp.o.o9;omega);have al:=J u 0;have aC:=aG u 0;simp only[aq,ar,aw]at al;obtain⟨uA,dY,fq,Hmv9⟩:=kg u aZ aT ia;clear aZ aT ia u));have ao:=yp.o.pkg bY.o Qq.o Qr.o EI.o (v9:=.slice a9 (pn+1) c9) (s:=s) (line:=ln) (by rw[←HN.o,←Bg.o];exact dY.o) fq.o Hmv9.o;have A:am (fun k=>(Value.slice pa pn pc).ownBlock=some k∨k=g+1) w9 (wx.setCell ⟨g+1,0,none⟩ (.slice a9 (pn+1) c9)):=((eS fq.o).mono fun _ _ h=>Or.inl h).trans (aN (am.refl (fun k=>k=g+1) wx) _ _) fun _ _ h=>Or.inr h
    have X:=sB.o.on wC.o A (fun k _ h=>by
     rcases h with h|h
     ·rw[EI.o k h];omega
     rw[h,yp.o.o9];omega) ao (fun k hk h=>E5 hk pH)
    obtain⟨cH,R⟩:=Y (wx.setCell ⟨g+1,0,none⟩ (.slice a9 (pn+1) c9));rw[←R]at X⊢;clear R al aC b_ ai ao A;have aM:=O X;clear X;refine cK ?_;go_meet;refine⟨a9,pn+1,c9,fa,fn,fc,j3,da,aM.o.end,?_⟩;have hn:=Hn.o;have lT:=xx.o;have C:az ws 0=first::az ws 1:=by rw[fy Z,←jR.o]
    rcases pJ.o with⟨h1,h2,h3,h4⟩|⟨h1,h2⟩
    ·refine aM.o.endC h4 (fun hj=>?_) (fun hj=>?_) Z
     ·rw[C,Iq (ed uo.o.symm),Ib Z (by rw[←Hs.o];exact h1),←Hs.o];rfl
     rw[C,Iq (ed uo.o.symm),vT (.inr (.inr Z))];rfl
    refine .inr ⟨h2,?_⟩;rw[C,Iq (ed uo.o.symm),vT (h1.elim (fun h=>.inr (.inl (by rw[←Hs.o];exact h))) fun h=>.inl Z)];rfl
  |false=>
   go_upto_if 67 with (fail)
   clear kF
   cases bf with
   |true=>
    refine amj ?_;intro s bF bG bH bD L7 Hs ir;go_wp2_with fail;refine L7.o.mono ?_;rintro e w8 ⟨rfl,eD⟩;have aa:=iF.o.to eD;clear bF bG bH bD;obtain⟨si,QI⟩:=ak eD aa;clear eD aa;go_upto_region 14 with (fail);go_cut [] (fun W=>NxL w t g B (some ⟨b,off,none⟩) n c ln fin ws 1 (eL s) t1 (.slice pa pn pc) (.slice fa fn fc) x W)
    case first=>exact afw
    case rest=>
     obtain⟨j3,da,F,p_⟩:=hcut;obtain⟨w9,fN⟩:=Y wc;rw[←fN]at F⊢;clear fN;obtain⟨sB,pJ⟩:=ak F p_;clear F p_;have aE:=zs6 sB.o.wds cz Gg.o fM.o j3 da false;rw[ye0]at aE;obtain⟨⟨bF,bG,bH,bD⟩,-⟩:=a8 sB.o.pb;have bk:=O aE;clear aE;go_wp2_with fail;refine bk.o.mono ?_;rintro e x9 ⟨la,lm,ld,j5,cG,rfl,dJ,uH⟩;clear bF bG bH bD;obtain⟨k2,eE⟩:=Y x9.heap.size;obtain⟨kr,sx⟩:=Y (x9.alloc (.cells #[.slice (some ⟨b,off,none⟩) n c,.int .i64 j5,.int .i64 fin,.int .i64 cG] 150));have aX:Below x9.heap.size x9 kr:=by rw[sx];exact aS _ _
     have bm:es k2 (some ⟨b,off,none⟩) n c j5 fin cG kr:=by rw[sx,eE];exact dq _ _
     have aF:=sB.o.to uH;have au:=aF.to aX;have bO:g+5≤k2:=by have h1:=(bS.1 aF.pb).1;omega
     go_upto_region 16 with (fail)
     rw[←sx,←eE];clear sx eE;have L:=au.rc;obtain⟨css,hr⟩:=L.pf;have ad:kr.ownsRow B 47 3 (.slice fa fn fc) fn css.flatten:=by have h1:=hr.row;rw[←HU.o]at h1;exact h1
     obtain⟨N,ah⟩:=Y css.flatten;rw[←ah]at ad;have aB:B≤kr.heap.size:=fu mH.o (fu (jg HG.o) au.gc.size);have b_:=J L.box 1;have ai:=J au.lb 0;simp only[aq,ar,aw]at b_ ai;revert dJ uH aX bm aF au L hr ad ah;refine dE ?_;intro B4 ED ade EH aEa CZ yp Hr ql HN;go_upto_region 17 with (at_builtin;(refine kZ acw rfl (.tmp 81) (.tmp 87) rfl B (.slice fa fn fc) fn N rfl ql.o 1 #[.string s,.slice la lm ld,.int .i64 ln] rfl rfl dW Z cY aB ?_;intro v9 wx aZ aT ia;obtain⟨a9,c9,rfl⟩:=bg aZ;have u:=bI yp.o.box (eS aT) (fun e=>by have bj:=Hr.o.tag _ e;have e2:=yp.o.o9;omega);have al:=J u 1;have aC:=aG u 1;simp only[aq,ar,aw]at al;obtain⟨uA,dY,fq,Hmv9⟩:=kg u aZ aT ia;clear aZ aT ia u));have A:am (fun k=>(Value.slice fa fn fc).ownBlock=some k∨k=g+1) kr (wx.setCell ⟨g+1,1,none⟩ (.slice a9 (fn+1) c9)):=((eS fq.o).mono fun _ _ h=>Or.inl h).trans (aN (am.refl (fun k=>k=g+1) wx) _ _) fun _ _ h=>Or.inr h
     have an:∀k,k<kr.heap.size→((Value.slice fa fn fc).ownBlock=some k∨k=g+1)→t1 k≤9:=fun k _ h=>by
      rcases h with h|h
      ·rw[Hr.o.tag k h];omega
      rw[h,yp.o.o9];omega
     have aI:es k2 (some ⟨b,off,none⟩) n c j5 fin cG (wx.setCell ⟨g+1,1,none⟩ (.slice a9 (fn+1) c9)):=bI EH.o A (fun h=>by
      have h1:=an k2 (bS.1 EH.o).1 h;rw[EX.o k2 Z Z,E Z]at h1;rcases h with h|h
      ·have h2:=Hr.o.tag k2 h;rw[EX.o k2 Z Z,E Z]at h2;omega
      omega)
     obtain⟨cH,R⟩:=Y (wx.setCell ⟨g+1,1,none⟩ (.slice a9 (fn+1) c9))
     have a1:LnE w t g (some ⟨b,off,none⟩) n c fin j3 da (.slice pa pn pc) (.slice a9 (fn+1) c9) cH:=by
      rw[R];have a6:∀k,k<kr.heap.size→t1 k=10→¬((Value.slice fa fn fc).ownBlock=some k∨k=g+1):=fun k hk e h=>by have:=an k hk h;omega
      have a7:∀{k:Nat} {o:Obj},kr.heap[k]?=some o→k<kr.heap.size:=fun h=>(bS.1 h).1;exact⟨ag _ (g+1) 1 _ _ _ uA.o,bI CZ.o.rb A (a6 _ (a7 CZ.o.rb) (CZ.o.new _ Z Z Z)),bI CZ.o.pb A (a6 _ (a7 CZ.o.pb) (CZ.o.new _ Z Z Z)),CZ.o.fr A an⟩
     have hn:=Hn.o;have lT:=xx.o;have C:az ws 0=first::az ws 1:=by rw[fy Z,←jR.o]
     have bn:EndC w t g B (some ⟨b,off,none⟩) n c ln ws x (.slice pa pn pc) (.slice a9 (fn+1) c9) j5 cG cH:=by
      have aJ:∀r,wQ ln (az ws 1)=r→dy ln (az ws 0) x=r.map fun q=>{ x with pf:=x.pf++[q] }:=fun r hr=>by rw[C,P6 (ed qS.o.symm),hr]
      rcases pJ.o with⟨h1,h2,h3,h4⟩|⟨h1,h2⟩
      ·have av:wQ ln (az ws 1)=(eQ eL (az ws 2)).map fun q=>(s,q,ln):=by rw[LW Z,M (by rw[←Hs.o];exact h1),←Hs.o]
       rcases B4.o with⟨_,T,l,k3,_,aK,bq⟩|⟨T,k3⟩
       ·obtain⟨_,_,e0⟩:=bg aK;have bT:lm=l.length:=yV;have hx:Ft kr (Fx kr t1) fun W'=>AC W' [.string s,.slice la lm ld,.int .i64 ln] (s,l,ln):=by have h5:=fh aK ade.o;refine ((Qj h5 (fun x hx=>by have:=bq x hx;unfold maxLen;omega)).mono fun k hk hkv=>.inl ?_).imp fun bP hV=>⟨_,rfl,hV⟩;have h6:=(aK.lt k hkv).1;have h7:=(bS.1 sB.o.pb).1;rw[EX.o k Z Z,E Z]
        have ao:=yp.o.pref Hr.o hx (v9:=.slice a9 (fn+1) c9) (by rw[←HU.o,←HN.o];exact dY.o) fq.o Hmv9.o;have X:=CZ.o.on wC.o A an ao (fun k hk _=>aR hk);rw[←R]at X;refine X.endC T (fun hj=>?_) (fun hj=>Z) Z;rw[h3]at k3;rw[aJ _ av,k3];rfl
       refine .inr ⟨T,?_⟩;have:=k3 h4;rw[h3]at this;rw[aJ _ av,this];rfl
      have av:wQ ln (az ws 1)=none:=by
       by_cases hl:1<ws.length
       ·rw[LW hl,E];rcases h1 with h1|h1
        ·rw[←Hs.o,h1];simp
        omega
       rw[mA Z];rfl
      rcases B4.o with⟨T,_⟩|⟨T,k3⟩
      ·exact absurd T h2
      exact .inr ⟨T,by rw[aJ _ av];rfl⟩
     rw[←R]at aI⊢;clear R al aC b_ ai A an hn lT C;obtain⟨⟨bF,bG,bH,bD⟩,-⟩:=a8 aI;obtain⟨⟨iD,fb,fC,fD⟩,cC,cD,cB,cF⟩:=a8 a1.pb;revert aI a1 bn;refine fo ?_;intro yD aAd aAc;go_wp2_with fail;go_meet
     exact zqp aAd.o aAc.o bZ fun p hp=>(wC.o p hp).1
   |false=>
    refine XF ?_;intro bv Gk ba Gh bo Gj bi Gi bd Kr bc Kq rA gk Dl Dk dI nA;go_upto_if 91 with (fail);refine Xm ?_;intro bl vZ;go_cut [91] (fun v W=>v=.bool bl∧W=w7)
    case first=>exact Xr
    case rest=>
     obtain⟨rfl,br⟩:=hcut;obtain rfl:w7=wc:=br.symm;clear Gk Gh Gj Gi;have C:az ws 0=first::az ws 1:=Ym
     have bb:∀W,j7 W [.slice (some ⟨b,off,none⟩) n c] ws→∃c0:Int,W.cell? ⟨b,off,none⟩=some (.int .i64 c0)∧c0≠0:=fun W hW=>by exact VW
     obtain⟨bs,Ua⟩:=ak C bb;clear C bb
     cases bl with
     |false=>
      have aj:dy ln (az ws 0) x=none:=by
       have hs:=vZ.o;have bu:=rA.o;have bw:=gk.o;have bx:=Dl.o;have bC:=Dk.o;have bE:=dI.o;have bJ:=nA.o;have bL:∀(z:Bool)(o:ByteArray),z=decide (first=o)→z=false→first≠o:=fun z o h1 h2=>lC (h1.symm.trans h2)
       have bK:bv=false∧ba=false∧bo=false∧bi=false∧bd=false∧bc=false:=by simpa using hs.symm
       obtain⟨n1,n2,n3,n4,n5,n6⟩:=bK;have hr:∀p l,dw first ln p l=none:=fun p l=>by unfold dw;rw[E (bL _ _ bu n1),E (bL _ _ bw n2),E (bL _ _ bx n3),E (bL _ _ bE n5),E (bL _ _ bJ n6),E (bL _ _ bC n4)]
       rw[bs.o];rcases A8 x.pk with e|⟨_,p,e⟩
       ·exact zmu (lC uo.o.symm) (lC qS.o.symm) e
       rw[A9]at e;rw[Ip (lC uo.o.symm) (lC qS.o.symm) e,hr];rfl
      have cd:=O aj;clear aj;exact akd
     |true=>
      have h:=vZ.o.symm;simp only[n_]at h;rcases h with h|h|h|h|h|h
      ·exact absurd (.inl (jR.o.symm.trans (ed (rA.o.symm.trans h)))) U.o.2
      ·exact absurd (.inr (.inl (jR.o.symm.trans (ed (gk.o.symm.trans h))))) U.o.2
      ·exact absurd (.inr (.inr (.inl (jR.o.symm.trans (ed (Dl.o.symm.trans h)))))) U.o.2
      ·exact absurd (.inr (.inr (.inr (jR.o.symm.trans (ed (Dk.o.symm.trans h)))))) U.o.2
      ·exact absurd (.inl (jR.o.symm.trans (ed (dI.o.symm.trans h)))) U.o.1
      exact absurd (.inr (jR.o.symm.trans (ed (nA.o.symm.trans h)))) U.o.1
 case rest=>exact XI
end
end Go.Proofs.YthgibhhbmmkjmaaGreatDoor
