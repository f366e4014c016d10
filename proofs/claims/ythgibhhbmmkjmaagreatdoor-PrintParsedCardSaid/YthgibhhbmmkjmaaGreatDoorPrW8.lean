/- Walks and plain facts. Condition: none beyond what each says. -/
import Derived.Test.YthgibhhbmmkjmaaGreatDoorPrW5
set_option linter.unusedVariables false
set_option linter.unusedSimpArgs false
set_option maxRecDepth 10000
set_option maxHeartbeats 40000000
namespace Go.Proofs.YthgibhhbmmkjmaaGreatDoor
open Go.Proofs.Tryz
variable {B N b c d3 d4 d5 d6 d7 g k m m2 m3 m4 m5 m6 m7 n pb x:Nat}
variable {S T:Nat→Prop}
variable {W w w':World}
variable {a b2 b3 b4 b5 b6 b7 d2:Option Addr}
variable {bN:List (List Value)}
variable {e:TypeId}
variable {l:List ByteArray}
variable {li:Int}
variable {nm:ByteArray}
variable {u v v2 v3 v4 v5 v6 v7:Value}
variable {p:List UInt8}
variable {t:Nat→Nat}
section
open Shelf RowKit Lib av cy
open ac (Wd Ln jT)
attribute [local go_sem ↓] wp_at_zero wp_at_succ
set_option linter.unusedVariables false in
theorem line06_B{l:Ln}(dT:j7 w [.slice a n c] l.2)(hl:jT 70000 l){pa:Option Addr}{pn pc:Nat}{fa:Option Addr}{fn fc:Nat}{x:ch}
  (aP:RcV w t B (.slice pa pn pc) (.slice fa fn fc) x) (ta:∀p,a=some p→9<t p.block) (iO:B≤w.heap.size) {k:Nat} (hx:xu k x) (hk:k≤70000) (u:aD l.2 0=nZ∨aD l.2 0=n8∨aD l.2 0=kX∨aD l.2 0=kY) :
  Calls prog 41 #[.agg #[.int .i64 l.1,.slice a n c],.agg #[.slice pa pn pc,.slice fa fn fc]] w (NV t B l.1 l.2 x w):=by
 obtain⟨ln,ws⟩:=l;obtain⟨oG,bL,my,gJ⟩:=hl;simp only at dT oG bL my gJ u⊢;have Hq:=aH u;clear u;obtain⟨hn,hz,aU⟩:=pF dT;have lT:0<n:=by exact WH
 have an:n≤40:=Z;obtain⟨x1,dB,nR⟩:=zmw hn lT;obtain⟨b,off,rfl,d0,d1,_⟩:=aU (n-1) x1 dB;revert d0 d1;refine V3 ?_;intro jk xc d0 vz xt d1 vA Sf Ab fin eH;have pw:∀j,cO ws fin j≠0:=fun j=>by exact Rs
 refine WD ?_;intro wX cz cR;have Df:∀p,some (⟨b,off,none⟩:Addr)=some p→p.block<w.heap.size∧9<t p.block:=fun p hp=>by exact Xp
 revert d0 d1;refine V1 ?_;intro g hg W2 eh af p0 p1 p2 gH l1 bZ m d1 d0 hm k1 k2 k3 W3 uE nc r3 oE Gm q0 q1 W4 vS mw tA bA q4 t1 tR xi xA vP zF kf first wu
 have Ef:pn=x.pk.length:=by exact WB
 have DV:fn=x.pf.length:=by exact WI
 revert aP iO hx hk oG bL my gJ hn hz dB nR ta dT aU jk vz vA eH pw wX Df af p0 p1 p2 hm nc r3 mw tA bA q4 tR xi xA vP zF wu Ef DV;refine XH ?_;intro Se Sd mk kp Ai cJ yv Hn fS gD vU yK PY PZ fM Gg wC bh dR fG q9 Hm Er gZ V NB dL DM PW PV EX so jR HW lQ HH P_ Bg HU nU EW kV tJ mH HG xx;go_upto_region 1 with (fail);rw[←eh,←hg,show g+1+1=g+2 from rfl];clear eh hg;go_upto_region 2 with (fail);rw[←uE];clear uE d0 d1 l1;go_upto_region 3 with (fail);rw[←vS];clear vS q0 q1 Gm gH oE;obtain⟨⟨bF,bG,bH,bD⟩,-⟩:=a8 so.o.pb;go_wp2_with fail;revert bF bG bH bD;refine WA ?_;intro w5 bF bG bH bD cQ fH Ge;go_wp2_with fail;refine Ge.o.mono ?_;rintro e w6 ⟨j6,gW,rfl,rZ,cX⟩;obtain⟨rfl,rfl⟩:j6=1∧gW=0:=by exact Ws
 have A:=fH.o.to cX;clear bF bG bH bD rZ;obtain⟨⟨bF,bG,bH,bD⟩,cC,cD,cB,cF⟩:=a8 A.pb;obtain⟨je,D5⟩:=ak cX A;clear cX A;go_upto_region 5 with (fail);clear bF bG bH bD cC cD cB cF;refine XL ?_;intro w7 b_ iF;go_upto_region 6 with (fail);clear b_ kp;refine VU ?_;intro bp kP bf kF uo qS;go_upto_block 0 with (fail);go_cut [] (fun W=>EndL w t g B (some ⟨b,off,none⟩) n c ln fin ws x W)
 case first=>
  go_upto_if 50 with (fail)
  clear kP
  cases bp with
  |true=>have hE:=jR.o.symm.trans (ed uo.o.symm);exact aoa
  |false=>
   go_upto_if 67 with (fail)
   clear kF
   cases bf with
   |true=>have hE:=jR.o.symm.trans (ed qS.o.symm);exact aoa
   |false=>
    refine XF ?_;intro bv Gk ba Gh bo Gj bi Gi bd Kr bc Kq rA gk Dl Dk dI nA;go_upto_if 91 with (fail);refine Xm ?_;intro bl vZ;go_cut [91] (fun v W=>v=.bool bl∧W=w7)
    case first=>exact Xr
    case rest=>
     obtain⟨rfl,C⟩:=hcut;obtain rfl:w7=wc:=C.symm;clear Gk Gh Gj Gi;have F:az ws 0=first::az ws 1:=Ym
     have N:∀W,j7 W [.slice (some ⟨b,off,none⟩) n c] ws→∃c0:Int,W.cell? ⟨b,off,none⟩=some (.int .i64 c0)∧c0≠0:=fun W hW=>by exact VW
     obtain⟨UP,Ua⟩:=ak F N;clear F N
     cases bl with
     |false=>
      have h:=vZ.o.symm;simp only[MK]at h;obtain⟨R,T,U,X,_,_⟩:=h;rcases Hq.o with g|g|g|g
      ·exact absurd (aO (jR.o.trans g)) (by rw[←rA.o,R];decide)
      ·exact absurd (aO (jR.o.trans g)) (by rw[←gk.o,T];decide)
      ·exact absurd (aO (jR.o.trans g)) (by rw[←Dl.o,U];decide)
      exact absurd (aO (jR.o.trans g)) (by rw[←Dk.o,X];decide)
     |true=>
      rcases iF.o.rc.pk with⟨dt,GG⟩|⟨ps,p,bN,v2,v3,v4,v5,v6,v7,yI,L⟩
      ·exact afq
      obtain⟨pb,cap',hv,aa,_⟩:=AH L.row Z;obtain⟨e1,Ma,e3⟩:pa=some ⟨pb,0,none⟩∧pn=ps.length+1∧pc=cap':=by cases hv;exact⟨rfl,rfl,rfl⟩
      subst e1;clear e3 hv aa;obtain⟨m,hm⟩:=Y ps.length;obtain rfl:mk=((m:Nat):Int):=YU;obtain⟨cs2,r2⟩:=L.last.rel;obtain⟨cs3,r3⟩:=L.last.vars;obtain⟨cs4,r4⟩:=L.last.cl;obtain⟨cs5,r5⟩:=L.last.gr;obtain⟨cs6,r6⟩:=L.last.ci;obtain⟨cs7,r7⟩:=L.last.files;obtain⟨b2,d2,rfl⟩:=bg r2.row;clear r2;obtain⟨b3,d3,rfl⟩:=bg r3.row;clear r3;obtain⟨b4,d4,rfl⟩:=bg r4.row;clear r4;obtain⟨b5,d5,rfl⟩:=bg r5.row;clear r5;obtain⟨b6,d6,rfl⟩:=bg r6.row;clear r6;obtain⟨b7,d7,rfl⟩:=bg r7.row;clear r7;revert L;refine aqi ?_;intro m2 m3 m4 m5 m6 m7 L nm zP li K8 MS oA re hL MY M9 MQ MX;have ad:∀W,am (fun k=>Live (t1 k)∧¬Ty w7 k) w7 W→∃cur,W.heap[pb]?=some (.cells cur 45 (0,0)):=fun W hF=>by exact anw
      refine aje ?_;intro fT sk D9 eE O4 OW;revert yI Ma hm L zP K8 MS oA re hL MY M9 MQ MX ad fT sk D9 eE O4;refine OT ?_;intro VA avi Hm HL mj rq auy kU azr HL YH Yz HB7 avg avf im Hrc gj CE IA;go_upto_region 26 with (fail);clear OW;obtain⟨br,aF⟩:=Y ((bd || bc));have bO:=O aF;clear aF;go_cut [111] (fun v W=>v=.bool br∧W=w7)
      case first=>exact ajm
      case rest=>
       obtain⟨rfl,C⟩:=hcut;obtain rfl:w7=wc:=C.symm;clear Kr Kq
       cases br with
       |true=>
        have nd:first=lF∨first=kv:=by exact ajs
        have lV:=O nd;clear nd;rcases lV.o with h|h<;>rcases Hq.o with g|g|g|g<;>exact absurd (h.symm.trans (jR.o.trans g)) D
       |false=>
        refine aep ?_;intro lV
        have hC:∀(W:World)(K:List Nat),Below w7.heap.size w7 W→(∀k∈K,w7.heap.size≤k∧k<W.heap.size)→Calls prog 79 #[.string first,.int .i64 ln,pv (some ⟨b,off,none⟩) n c 1 fin 0,.agg #[.string nm,.int .i64 li,.slice b2 m2 d2,.slice b3 m3 d3,.slice b4 m4 d4,.slice b5 m5 d5,.slice b6 m6 d6,.slice b7 m7 d7]] W (fun e w'=>∃v:RbV,e=.returned (.tuple #[.agg #[.string nm,.int .i64 li,.slice v.c2 v.x2 v.y2,.slice v.c3 v.x3 v.y3,.slice v.c4 v.x4 v.y4,.slice v.c5 v.x5 v.y5,.slice v.c6 v.x6 v.y6,.slice v.c7 v.x7 v.y7],pv (some ⟨b,off,none⟩) n c v.j fin v.bad])∧RbZ w7 t1 B K ws 1 first ln p v W w'):=fun W K hb hK=>
         (bodyC_any (iF.o.to hb).wds cz Gg.o fM.o mj.o rq.o (YH.o.to (am.ce (S:=fun _=>False) hb) (fun _ _ h=>h.elim) fun k hk _=>aR hk) Yz.o (fu HB7.o hb.size) lV.o).mono fun e w' h=>ybd mj.o rq.o hb hK h
        have HC:=O hC;clear hC;go_upto_region 30 with (fail);go_cut [16,17] (fun ah al W=>RbE w7 t1 B (some ⟨b,off,none⟩) n c fin ws 1 first ln p nm li ah al W)
        case first=>exact apy
        case rest=>
         obtain⟨k1,k2,v,rfl,rfl,dD,cc,xP,xQ,hQ,jJ⟩:=hcut;obtain⟨wq,vX⟩:=Y wc;rw[←vX]at dD cc hQ⊢;clear vX;obtain⟨-,-,-,-,-,zz0,aam,aap,abd,qq3,qq4,qq5,qq6,qq7⟩:=gj.o _ hQ.1;refine alk ?_;intro cur bW rQ rR uC uD xS xT xU Lh nN nM pW pX ti tj tk DY wr EZ hE IV hwr K2 K3;revert xP xQ jJ hQ cc dD bW EZ hE IV;refine dE ?_;intro xL xM GP HQ dZ dv kd HCC HE avh;go_upto_region 32 with (fail);exact afg
 case rest=>exact XI
end
end Go.Proofs.YthgibhhbmmkjmaaGreatDoor
