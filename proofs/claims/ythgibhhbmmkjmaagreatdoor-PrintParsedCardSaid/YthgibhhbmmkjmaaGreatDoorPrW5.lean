/- Walks and plain facts. Condition: none beyond what each says. -/
import Derived.Test.YthgibhhbmmkjmaaGreatDoorPrW4
set_option linter.unusedVariables false
set_option linter.unusedSimpArgs false
set_option maxRecDepth 10000
set_option maxHeartbeats 40000000
namespace Go.Proofs.YthgibhhbmmkjmaaGreatDoor
open Go.Proofs.Tryz
variable {B N b bs c c1 c2 c3 c4 c5 c6 c7 d3 d4 d5 d6 d7 e2 f g hi i j k m m2 m3 m4 m5 m6 m7 n n1 n2 n3 n4 n5 n6 n7 pb r x xb:Nat}
variable {S T:Nat→Prop}
variable {W W' w w' w0 w1 w3 w9:World}
variable {a a1 a2 b2 b3 b4 b5 b6 b7 d2:Option Addr}
variable {cs tmps:Array Value}
variable {bN css:List (List Value)}
variable {e ty:TypeId}
variable {l:List ByteArray}
variable {li:Int}
variable {nm q s:ByteArray}
variable {ov u u2 v v1 v2 v3 v4 v5 v6 v7 v9 vf vp wv y z:Value}
variable {p:List UInt8}
variable {rv:List Value}
variable {t:Nat→Nat}
section
open RowKit Shelf Lib av cy
attribute [local go_sem ↓] wp_at_zero wp_at_succ
theorem flat_at{α β:Type}{f:α→List β}{l:List α}{r:List β}{y:β}(b:k<l.length)(a:(f l[k])[j]?=some y):(l.flatMap f++r)[((l.take k).flatMap f).length+j]?=some y:=by
 have e:l=l.take k++l[k]::l.drop (k+1):=by rw[←rK b,mi]
 have e2:l.flatMap f=(l.take k).flatMap f++(f l[k]++(l.drop (k+1)).flatMap f):=by have h:=iB (List.flatMap f) e;rw[rm,oR]at h;exact h
 have c:=(ie.1 a).1;rw[e2,gq,nC Z,v_,gq,pS c];exact a
theorem zwg{α β:Type}{f:α→List β}{l:List α}(a:k<l.length):((l.take (k+1)).flatMap f).length=((l.take k).flatMap f).length+(f l[k]).length:=by
 rw[pP a,rm,bM];simp
theorem rc_pref{star:dj→Bool}{x:ch}(h:k<x.pf.length):(gz star x)[(x.pk.flatMap (ip star)).length+k]?=some (false,om x.pf[k]):=by
 unfold gz;rw[nC Z,v_,rC,bR h];rfl
theorem txT_nil{L:List K5}(h:nw L=[]):L=[]:=by
 cases L with
 |nil=>rfl
 |cons x L=>
  exfalso
  have e:nw (x::L)=lnT x++nw L:=rfl;rw[e]at h;have h1:=(XT.1 h).1;unfold lnT at h1;simp at h1
set_option linter.unusedVariables false in
theorem zk5{x:ch}(h:mg w (.slice a1 n1 c1) (.slice a2 n2 c2) x)(a7:SpR x)(aA:(nw (gz ei x)).length≤4398046511104)(a8:dN w):
  Calls prog 8 #[.agg #[.slice a1 n1 c1,.slice a2 n2 c2]] w fun e w'=>e=.returned (.tuple #[.string (rcR ei x).1,.bool (rcR ei x).2])∧Below w.heap.size w w':=by
 refine lM ?_;intro g hg;obtain⟨w0,hw0⟩:=Y (w.alloc (.cells #[.slice a1 n1 c1,.slice a2 n2 c2] 25));have ai:w0.heap.size=g+1:=by rw[hw0,hg];simp
 refine aos ?_;intro cM p0;obtain⟨w1,oe⟩:=Y (w0.alloc (.cells #[.pointer none,.slice none 0 0] 61));have T:Below w0.heap.size w0 w1:=by rw[oe];exact aS _ _
 obtain⟨L,aC⟩:=Y (gz ei x);have ba:PkT w0 w1 (g+1) L 0 w1:=⟨by rw[oe,Sq,←ai];exact BT.bld_new w0,T,BT.Kb _⟩;have bb:w1.heap[g+1]?=some (.cells #[.pointer none,.slice none 0 0] 61 (0,0)):=by rw[oe,←ai];exact dq _ _
 refine apr ?_;intro fe CC;obtain⟨_,_,e1,dD,PS⟩:=zti fe;obtain⟨_,_,e2,cc,EO⟩:=ztj CC;obtain⟨rfl,cz,rfl⟩:=JV e1;obtain⟨rfl,cS,rfl⟩:=JV e2;clear e1 e2;rw[←cz]at dD;rw[←cS]at cc;have bQ:w.heap.size≤g+1:=Z;rw[←aC]at aA;have aj:=J p0 0;have z:=J p0 1;simp only[aq,ar,aw]at aj z;have z:=ab T z;have bT:=ab T aj;have bc:∃q,q=rcR ei x:=⟨_,rfl⟩;obtain⟨res,hres⟩:=bc;rw[←hres];revert h a7 a8 ai cM p0 T aA aC ba bb fe CC dD cc PS cz EO cS hres;refine OT ?_;intro Hh Cb HD MN cr dR aB gM HL nX aye kV Hpf dv dZ Yu oY U6 fV Ik;go_enter func8,ntmps8;go_upto_region 1 with (fail);rw[←hw0,←hg];clear hw0 hg;go_upto_region 2 with (fail);rw[←oe,MN.o];clear oe aj;go_wp2_with fail;go_loopw [16] (fun i wr=>∃k:Nat,k≤n1∧i=.int .i64 k∧PkT w0 w1 (g+1) L ((x.pk.take k).flatMap (ip ei)).length wr∧(k=0→wr.heap[g+1]?=some (.cells #[.pointer none,.slice none 0 0] 61 (0,0)))) (fun i _=>n1-(RowKit.intOf i).toNat)
 case atStart=>exact⟨0,bj _,rfl,nX.o,fun _=>aye.o⟩
 case round=>
  obtain⟨k,al,rfl,hS,A⟩:=hrel;by_cases an:k<n1
  ·have aI:k<x.pk.length:=J5;obtain⟨p,hp⟩:=Y (x.pk[k]);obtain⟨b,off,b2,Lj,b3,c3,b4,c4,b5,c5,b6,c6,b7,c7,rfl,d0,d1,d2,d3,d4,d5,d6,d7,u⟩:=Yu.o k p asq;refine Ww ?_;intro d0 d1 d2 d3 d4 d5 d6;have d7:=ab hS.bm d7;refine We ?_;intro m2 jP m3 qV m4 pK m5 yH m6 yN m7 iJ;obtain⟨nm,dJ⟩:=mq p.name;obtain⟨li,yi⟩:=mq p.line;rw[←jP]at d2 u;rw[←qV]at d3 u;rw[←pK]at d4 u;rw[←yH]at d5 u;rw[←yN]at d6 u;rw[←iJ]at d7 u;rw[dJ]at d0;rw[yi]at d1;refine aeu ?_;intro wa cW za ll b9 pa y0;have B:=J pa 1;have bd:=J pa 2;have be:=J pa 3;have bf:=J pa 4;have bh:=J pa 5;have bk:=J pa 6;have bl:=J pa 7;simp only[aq,ar,aw]at y0 B bd be bf bh bk bl;have C:=pack_any (hS.to b9) (li:=li) dJ u (Cb.o p (by rw[hp];exact eZ aI)) (fun j y hj=>by rw[HL.o];exact flat_at aI (by rw[←hp];exact hj)) gM.o (HD.o.below cr.o);rw[hp,←zwg aI]at C;refine kG ?_;intro k5;have k6:(k:Int)<(n1:Int):=Z;have bn:k<9223372036854775807:=by have:=dv.o;omega
   revert hS A hp jP qV pK yH yN u iJ dJ yi b9 pa C;refine uv ?_;intro F U _ _ _ _ _ _ bo _ _ _ bp bq HP;go_upto_region 5 with (fail);rw[←cW,←ll];clear cW ll d0 d1 d2 d3 d4 d5 d6 d7;go_wp2_with fail;refine qJ ?_;rintro e wz ⟨rfl,kI⟩;have ao:=O kI;clear kI;go_wp2_with fail;go_roundw
   case rel=>exact⟨k+1,Z,cj,ao.o,fun h=>Z⟩
   case measure=>exact gT
  obtain rfl:n1=k:=Z;have aD:x.pk.take n1=x.pk:=lH (jg oY.o.symm);rw[aD]at hS;have z:=J (G hS.bm dR.o) 1;simp only[aq,ar,aw]at z;obtain⟨bE,hM⟩:=Y ((x.pk.flatMap (ip ei)).length);rw[←hM]at hS;obtain⟨wm,N⟩:=Y wr;rw[←N]at hS A z⊢;clear N;clear an al;revert aD hM A hS;refine bV ?_;intro jd HM U F;go_wp2_with fail;clear z;go_loopw [26] (fun i wr=>∃k:Nat,k≤n2∧i=.int .i64 k∧PkT w0 w1 (g+1) L (bE+k) wr∧(n1=0→k=0→wr.heap[g+1]?=some (.cells #[.pointer none,.slice none 0 0] 61 (0,0)))) (fun i _=>n2-(RowKit.intOf i).toNat)
  case atStart=>exact⟨0,bj _,rfl,F.o,fun h _=>U.o h⟩
  case round=>
   obtain⟨k,al,rfl,hS,A⟩:=hrel;by_cases an:k<n2
   ·have aI:k<x.pf.length:=EB;obtain⟨q,hq⟩:=Y (x.pf[k]);obtain⟨b,off,e1,g1,rfl,d0,d1,d2,K⟩:=U6.o k q S8;have d0:=ab hS.bm d0;have d1:=ab hS.bm d1;have d2:=ab hS.bm d2;have K:=iY K hS.bm;have au:L[bE+k]?=some (false,om q):=by rw[HL.o,HM.o,hq];exact rc_pref aI
    obtain⟨v,l,W⟩:=q;dsimp only at d0 d1 d2 K au;obtain⟨nl,fp⟩:=Y l.length;rw[←fp]at d1 K;have bW:nl≤4398046511104:=by have h1:(om (v,l,W)).length≤(nw L).length+1:=yag au;have av:(om (v,l,W)).length=l.length+2:=rfl;have:=gM.o;omega
    obtain⟨wa,cW⟩:=Y (wr.alloc (.cells #[.string v,.slice e1 nl g1,.int .i64 W] 47));refine KH ?_;intro za ll b9;have pa:wa.heap[za]?=some (.cells #[.string v,.slice e1 nl g1,.int .i64 W] 47 (0,0)):=I9;have y0:=J pa 0;have B:=J pa 1;simp only[aq,ar,aw]at y0 B;have ax:=b9.trans ((aS wa (.cells #[.string ⟨#[112,114,101,102,101,114]⟩,.string v] 9)).mono b9.size);have br:(wa.alloc (.cells #[.string ⟨#[112,114,101,102,101,114]⟩,.string v] 9)).ownsRow wr.heap.size 9 1 (.slice (some ⟨wa.heap.size,0,none⟩) 2 2) 2 [.string ⟨#[112,114,101,102,101,114]⟩,.string v]:=wG _ _ 2 b9.size cY ae;have bs:wr.heap.size≤(wa.alloc (.cells #[.string ⟨#[112,114,101,102,101,114]⟩,.string v] 9)).heap.size:=ax.size;have bt:=xn (iY K ax);have bX:=ab (aS wa (.cells #[.string ⟨#[112,114,101,102,101,114]⟩,.string v] 9)) B;refine Bn ?_;intro k5 k6;have bn:k<9223372036854775807:=by have:=dZ.o;omega
    revert hS A hq au K fp b9 pa ax br bs bt;refine nL ?_;intro F U _ bu _ _ bp bq bw aF aG AN;go_upto_region 10 with (fail);rw[←cW,←ll];clear cW ll d0 d1 d2;go_wp2_with (at_builtin;(refine vB A2 rfl (.tmp 32) (.tmp 34) rfl wr.heap.size (.slice (some ⟨wa.heap.size,0,none⟩) 2 2) 2 [.string ⟨#[112,114,101,102,101,114]⟩,.string v] rfl aF.o e1 nl g1 (l.map Value.string) rfl SW AN.o.2 dW Z cY aG.o ?_;intro v9 w9 aZ aT cg;obtain⟨a9,c9,rfl⟩:=bg aZ;have aH:=(iX bw.o aF.o (aE _) aT aG.o:Below wr.heap.size wr w9);obtain⟨dY,d_⟩:=ak aZ aH;clear aZ aT cg aH));refine (F.o.line d_.o (l:=lI::v::l) SV ae bu.o (zwh (lI::v::l)) gM.o).mono ?_;rintro e wz ⟨rfl,kI⟩;have ao:=O kI;clear kI;go_wp2_with fail;go_roundw
    case rel=>exact⟨k+1,Z,cj,ao.o,fun _ h=>Z⟩
    case measure=>exact gT
   obtain rfl:n2=k:=Z;have aJ:L.length=bE+n2:=asr;have ay:=hS.bld;rw[lH Z]at ay;obtain⟨s,hs⟩:=Y (rcT ei x);have X:s=⟨(nw L).toArray⟩:=by rw[hs,HL.o];rfl
   have aK:Calls prog 18 #[.pointer (some ⟨g+1,0,none⟩)] wr fun e w'=>e=.returned (.string s)∧Below (g+1) wr w':=by
    by_cases h0:nw L=[]
    ·have bx:=txT_nil h0;rw[bx,tO]at aJ;have bB:bE=0:=Z;have aL:n2=0:=Z
     have aN:n1=0:=by
      rw[oY.o];have h1:=HM.o;rw[bB]at h1
      cases hq:x.pk with
      |nil=>rfl
      |cons p r=>rw[hq,oR,bM,ybf]at h1;omega
     refine (BT.aar wr (A aN aL)).mono fun e w' R=>⟨by rw[R.1,X,h0],R.2.mono ?_⟩;have:=(bS.1 (A aN aL)).1;omega
    refine (BT.abi ay h0).mono fun e w' R=>⟨by rw[R.1,X],?_⟩;rw[←MN.o];exact R.2
   obtain⟨_,N⟩:=Y wr;rw[←N]at hS aK⊢;clear N
   have bY:s.size≤4398046511104:=by
    rw[X];show (nw L).toArray.size≤_;rw[Ad];exact gM.o
   clear an al;revert A aJ ay hs X aK hS;refine eb ?_;intro U _ _ bC bD bF F;go_wp2_with fail;refine bF.o.mono ?_;rintro e w3 ⟨rfl,aM⟩;have aO:Below w0.heap.size w0 w3:=F.o.bm.trans (by rw[MN.o];exact aM);have aP:=cr.o.trans (aO.mono cr.o.size);have C:=zl3 s Z (HD.o.below aP);have e2:mI s.data.toList=mI (nw (gz ei x)):=by rw[bD.o,←HL.o]
   rw[e2]at C;unfold NP at C;revert aM aO aP C e2;refine bU ?_;intro _ aR _ HP _;go_wp2_with fail;refine qJ ?_;rintro e w4 ⟨a3,n3,c3,a4,n4,c4,z,x2,er,rfl,hc,bA⟩;obtain⟨w5,eT⟩:=Y ((w4.alloc (.cells #[.slice a3 n3 c3,.slice a4 n4 c4] 25)).alloc (.cells #[.int .i64 z,.int .i64 x2] 31));obtain⟨zy,sO⟩:=Y w4.heap.size;have S:Below w4.heap.size w4 w5:=ass;have aa:w5.heap[zy]?=some (.cells #[.slice a3 n3 c3,.slice a4 n4 c4] 25 (0,0)):=by rw[eT,sO];exact G (aS _ _) (dx rfl)
   have az:=bA.trans (S.mono bA.size);have ad:=aR.o.trans (az.mono aR.o.size);have af:=cr.o.trans (ad.mono cr.o.size);have ag:=G ad dR.o;have y0:=J aa 0;have B:=J aa 1;have aU:=J ag 0;have aV:=J ag 1;simp only[aq,ar,aw]at y0 B aU aV;go_upto_region 14 with (fail);rw[←eT,←sO];clear eT sO;rcases hc with⟨y,bG,rfl,u⟩|⟨aW,aX⟩
   ·have bH:((0:Int) !=0)=false:=rfl;have aY:=zli (w:=w5) (x:=x) (y:=y) ⟨bz Fk _ _ _ _ Hh.o.1 af,bz AI _ _ _ _ Hh.o.2 af⟩ ⟨bz Fk _ _ _ _ u.1 S,bz AI _ _ _ _ u.2 S⟩;obtain⟨sm,a6⟩:=Y (zd x y);rw[←a6]at aY;revert bA S aa az ad af ag bG u aY a6;refine kH ?_;intro bI bJ bK bL bN oL bO Hy bo U2 nW;go_wp2_with fail;refine U2.o.mono ?_;rintro e w6 ⟨rfl,cX⟩;have Zt:=oL.o.trans (cX.mono oL.o.size);clear y0 B aU aV
    cases sm with
    |true=>
     have hr:res=(s,true):=by rw[Ik.o,AS ⟨y,Hy.o,(JK.1 nW.o.symm).symm⟩,bC.o]
     exact Ry
    |false=>
     have hr:res=(fd,false):=by rw[Ik.o,Be];rintro⟨y',ah,bP⟩;have h1:=Hy.o;rw[ah]at h1;cases h1;have av:=JK.2 bP.symm;rw[←nW.o]at av;cases av
     exact Ry
   have bH:(er !=0)=true:=by simpa using aX
   have hr:res=(fd,false):=by rw[Ik.o,Be];rintro⟨y',ah,_⟩;rw[aW]at ah;cases ah
   revert bA S aa az ad af ag aW aX hr;refine dE ?_;intro bI bJ bK bL bN oL bO _ _ Hr;exact RR
theorem zpt{p q:ap}{nm2:ByteArray}{li2:Int}{d3:Option Addr}{e3:Nat}{d4:Option Addr}{e4:Nat}{d5:Option Addr}{e5:Nat}{d6:Option Addr}{e6:Nat}{d7:Option Addr}{e7:Nat}
  (U:p.name=nm) (X:q.name=nm2) (hp:xa w (.slice b2 n2 c2) (.slice b3 n3 c3) (.slice b4 n4 c4) (.slice b5 n5 c5) (.slice b6 n6 c6) (.slice b7 n7 c7) p) (hq:xa w (.slice d2 m2 e2) (.slice d3 m3 e3) (.slice d4 m4 e4) (.slice d5 m5 e5) (.slice d6 m6 e6) (.slice d7 m7 e7) q) :
  Calls prog 26 #[.agg #[.string nm,.int .i64 li,.slice b2 n2 c2,.slice b3 n3 c3,.slice b4 n4 c4,.slice b5 n5 c5,.slice b6 n6 c6,.slice b7 n7 c7],.agg #[.string nm2,.int .i64 li2,.slice d2 m2 e2,.slice d3 m3 e3,.slice d4 m4 e4,.slice d5 m5 e5,.slice d6 m6 e6,.slice d7 m7 e7],.bool false] w fun e w'=>e=.returned (.bool (sF p q))∧Below w.heap.size w w':=by
 refine aqp ?_;intro W1 aK g hg ai jQ eA f_ eF;obtain⟨gG,cc,mZ⟩:=NQ f_.1;obtain⟨jl,iV,kO⟩:=NQ eF.1;obtain⟨z8,hz3,hg3⟩:=ND f_.2.1;obtain⟨rT,hy3,hf3⟩:=ND eF.2.1;obtain⟨L2,hL2⟩:=Y p.rel;obtain⟨M2,ri⟩:=Y q.rel;obtain⟨L3,hL3⟩:=Y p.vars;obtain⟨M3,y8⟩:=Y q.vars;have F:=zvf p q;rw[U,X,←hL2,←ri,←hL3,←y8]at F;rw[←hL2]at gG mZ;rw[←ri]at jl kO;rw[←hL3]at z8 hg3;rw[←y8]at rT hf3;obtain⟨r,fw⟩:=Y (sF p q);rw[←fw];rw[←fw]at F;obtain⟨q4,qv⟩:=Y (decide (p.cl=q.cl));obtain⟨q7,tU⟩:=Y (decide (p.files=q.files));obtain⟨q5,tT⟩:=Y ((nF p.gr q.gr&&nF p.ci q.ci));rw[←qv,←tU,←tT]at F;have aa:=fun(W:World)(k:Below W1.heap.size W1 W)=>zjb (iY f_.2.2.1 k) (iY eF.2.2.1 k);have ad:=fun(W:World)(k:Below W1.heap.size W1 W)=>zjb (iY f_.2.2.2.2.2 k) (iY eF.2.2.2.2.2 k);have ae:=fun(W:World)(k:Below W1.heap.size W1 W)=>ztc (nm:=nm) (nm2:=nm2) (li:=li) (li2:=li2) (f_.below k) (eF.below k);rw[←qv]at aa;rw[←tU]at ad;rw[←tT]at ae;have R:=J jQ 0;have a8:=J jQ 2;have ba:=J jQ 3;have T:=J eA 0;have bb:=J eA 2;have bc:=J eA 3;simp only[aq,ar,aw]at R a8 ba T bb bc;have bd:=em.gu nm nm2;obtain⟨bn,fR⟩:=Y (decide (nm=nm2));rw[←fR]at bd F;clear fw
 cases bn with
 |false=>
  obtain⟨z,B,C,aY,aZ,ks,aH,av,aJ,ao,aM,ax,aN,vj,a1,Hq⟩:=ke ai jQ eA f_ eF gG mZ jl kO z8 hg3 rT hf3 F hp hq;obtain⟨HL2,HM2,MH,HM3,Hc4,Hc7,Hc5,wj,Fe,HT5,yY,mj,Q7⟩:=aCf hL2 ri hL3 y8 qv tU tT aa ad ae fR U X;clear ai jQ eA f_ eF gG mZ jl kO z8 hg3 rT hf3 F hp hq hL2 ri hL3 y8 qv tU tT aa ad ae fR U X;go_enter func26,ntmps26;go_upto_region 1 with (fail);refine iE ?_;clear aK hg;go_wp2_with fail;go_ret;exact⟨by rw[vj.o];rfl,z.o⟩
 |true=>
  by_cases ah:n2=m2
  case neg=>
   have bf:((n2:Int) !=(m2:Int))=true:=aX;have N:decide (L2=M2)=false:=be fun e=>ah (by rw[gG,jl,e]);obtain⟨z,B,C,aY,aZ,ks,aH,av,aJ,ao,aM,ax,aN,vj,a1,Hq⟩:=ke ai jQ eA f_ eF gG mZ jl kO z8 hg3 rT hf3 F hp hq;obtain⟨HL2,HM2,MH,HM3,Hc4,Hc7,Hc5,wj,Fe,HT5,yY,mj,Q7,au,Hh2⟩:=xI hL2 ri hL3 y8 qv tU tT aa ad ae fR U X N ah;clear ai jQ eA f_ eF gG mZ jl kO z8 hg3 rT hf3 F hp hq hL2 ri hL3 y8 qv tU tT aa ad ae fR U X N ah;go_enter func26,ntmps26;go_upto_region 1 with (fail);refine iE ?_;clear aK hg;go_wp2_with fail;go_ret;exact⟨by rw[vj.o,au.o];rfl,z.o⟩
  have bf:((n2:Int) !=(m2:Int))=false:=aX;by_cases ay:n3=m3
  case neg=>
   have bg:((n3:Int) !=(m3:Int))=true:=aX;have N:decide (L3=M3)=false:=be fun e=>ay (by rw[z8,rT,e]);have bh:r=false:=by rw[F,N];simp
   obtain⟨z,B,C,aY,aZ,ks,aH,av,aJ,ao,aM,ax,aN,vj,a1,Hq⟩:=ke ai jQ eA f_ eF gG mZ jl kO z8 hg3 rT hf3 F hp hq;obtain⟨HL2,HM2,MH,HM3,Hc4,Hc7,Hc5,wj,Fe,HT5,yY,mj,Q7,au,Hh2,Hh3⟩:=ke hL2 ri hL3 y8 qv tU tT aa ad ae fR U X N ah ay;have bN:=O bh;clear ai jQ eA f_ eF gG mZ jl kO z8 hg3 rT hf3 F hp hq hL2 ri hL3 y8 qv tU tT aa ad ae fR U X N ah ay bh;go_enter func26,ntmps26;go_upto_region 1 with (fail);refine iE ?_;clear aK hg;go_wp2_with fail;go_ret;exact⟨by rw[bN.o];rfl,z.o⟩
  have bg:((n3:Int) !=(m3:Int))=false:=aX;obtain⟨z,B,C,aY,aZ,ks,aH,av,aJ,ao,aM,ax,aN,vj,a1,Hq⟩:=ke ai jQ eA f_ eF gG mZ jl kO z8 hg3 rT hf3 F hp hq;obtain⟨HL2,HM2,MH,HM3,Hc4,Hc7,Hc5,wj,Fe,HT5,yY,mj,Q7,Hh2,Hh3⟩:=xI hL2 ri hL3 y8 qv tU tT aa ad ae fR U X ah ay;clear ai jQ eA f_ eF gG mZ jl kO z8 hg3 rT hf3 F hp hq hL2 ri hL3 y8 qv tU tT aa ad ae fR U X ah ay;go_enter func26,ntmps26;go_upto_region 1 with (fail);refine iE ?_;clear aK hg;go_wp2_with fail;clear bf bg R a8 ba T bb bc bd;go_loopw [45] (fun i wr=>∃k:Nat,k≤n2∧i=.int .i64 k∧(∀j (h1:j<L2.length) (h2:j<M2.length),j<k→L2[j]=M2[j])∧Below W1.heap.size W1 wr) (fun i _=>n2-(RowKit.intOf i).toNat)
  case atStart=>exact⟨0,bj _,rfl,fun _ _ _ h=>Z,aL _ _⟩
  case round=>
   obtain⟨k,bP,rfl,aj,A⟩:=hrel;have az:=J (G A B.o) 2;have aB:=J (G A C.o) 2;simp only[aq,ar,aw]at az aB;by_cases bQ:k<n2
   ·have aI:k<L2.length:=ML;have gY:k<M2.length:=by have:=av.o;have:=Hh2.o;omega
    obtain⟨x,hx⟩:=Y (L2[k]);obtain⟨y,hy⟩:=Y (M2[k]);obtain⟨b,off,rfl,R,al⟩:=aH.o k x lD;obtain⟨b',gK,rfl,T,an⟩:=aJ.o k y Kh;have R:=ab A R;have al:=ab A al;have T:=ab A T;have an:=ab A an
    have af:x=y→∀j (h1:j<L2.length) (h2:j<M2.length),j<k+1→L2[j]=M2[j]:=fun h j h1 h2 bS=>by
     by_cases e:j=k
     ·subst e;rw[←hx,←hy,h]
     exact KT
    have ag:x≠y→L2≠M2:=fun h e=>h (by rw[hx,hy];subst e;rfl);have aC:=fun(W:World)=>yaz x.1 x.2 y.1 y.2 W;have bk:(decide (x.1=y.1)&&decide (x.2=y.2))=decide (x=y):=by rw[Cs];simp[Il]
    rw[bk]at aC;refine DQ ?_;intro s hs t ht;obtain⟨s',lS⟩:=Y y.1;obtain⟨t',nS⟩:=Y y.2;rw[←hs,←ht,←lS,←nS]at aC;rw[←hs]at R;rw[←ht]at al;rw[←lS]at T;rw[←nS]at an;clear bk;obtain⟨c,hc⟩:=Y (decide (x=y));rw[←hc]at aC;refine Bn ?_;intro k5 k6;have bT:(k:Int)<(m2:Int):=by have:=Hh2.o;omega
    cases c with
    |true=>
     have hq:=af (ed hc.symm);simp only[QM]at aC;obtain⟨aP,a6,aR,bl,bm,bU,bo,bW,bp,bX,Hq,bO⟩:=Bx aj af ag hx hy hc hs ht lS nS hq A;clear aj af ag hx hy hc hs ht lS nS hq A;go_wp2_with fail;go_region
     go_wp2_with fail
     go_roundw
     case rel=>exact⟨k+1,Z,cj,Hq.o,ath⟩
     case measure=>exact gT
    |false=>
     have hf:decide (L2=M2)=false:=be (ag (lC hc.symm));simp only[U8]at aC;obtain⟨aP,a6,aR,bl,bm,bU,bo,bW,bp,bX,bY,bO⟩:=Bx aj af ag hx hy hc hs ht lS nS hf A;clear aj af ag hx hy hc hs ht lS nS hf A;go_wp2_with fail;go_region
     go_wp2_with fail
     go_ret;exact⟨by rw[vj.o,bY.o];rfl,z.o.trans (Below.mono ath z.o.size)⟩
   obtain rfl:n2=k:=Z;have bZ:decide (L2=M2)=true:=aO (Ia (by rw[←ks.o,←av.o,Hh2.o]) (fun j h1 h2=>aj j h1 h2 ML));have bq:=J (G A B.o) 3;simp only[aq,ar,aw]at bq;clear az aB;revert A aj bZ;refine fo ?_;intro bO aP tM;go_wp2_with fail;clear bq;go_loopw [63] (fun i wr=>∃k:Nat,k≤n3∧i=.int .i64 k∧(∀j (h1:j<L3.length) (h2:j<M3.length),j<k→L3[j]=M3[j])∧Below W1.heap.size W1 wr) (fun i _=>n3-(RowKit.intOf i).toNat)
   case atStart=>exact⟨0,bj _,rfl,fun _ _ _ h=>Z,bO.o⟩
   case round=>
    obtain⟨k,bP,rfl,aj,A⟩:=hrel;by_cases bQ:k<n3
    ·have aI:k<L3.length:=by have:=ao.o;omega
     have gY:k<M3.length:=by have:=ax.o;have:=Hh3.o;omega
     obtain⟨x,hx⟩:=Y (L3[k]);obtain⟨y,hy⟩:=Y (M3[k]);obtain⟨b,off,ud,ue,rfl,R,al,nr⟩:=aM.o k x lD;obtain⟨b',gK,xj,fb,rfl,T,an,rj⟩:=aN.o k y Kh
     have af:x.1=y.1→x.2=y.2→∀j (h1:j<L3.length) (h2:j<M3.length),j<k+1→L3[j]=M3[j]:=fun h b0 j h1 h2 bS=>by
      by_cases e:j=k
      ·subst e;rw[←hx,←hy];exact zA h b0
      exact KT
     have ag:¬(x.1=y.1∧x.2=y.2)→decide (L3=M3)=false:=fun h=>be fun e=>h (by
      have:x=y:=by rw[hx,hy];subst e;rfl
      rw[this];exact⟨rfl,rfl⟩)
     have aT:=fun(W:World)(k:Below W1.heap.size W1 W)=>zjb (iY nr k) (iY rj k);obtain⟨pU,ma⟩:=Y x.2.length;obtain⟨xk,uX⟩:=Y y.2.length;obtain⟨s,hs⟩:=Y x.1;obtain⟨s',lS⟩:=Y y.1;rw[←hs]at R af ag;rw[←lS]at T af ag;rw[←ma]at al aT nr;rw[←uX]at an aT rj;obtain⟨cs,pC⟩:=Y (decide (x.2=y.2));rw[←pC]at aT;have b1:=em.gu s s';obtain⟨cn,kL⟩:=Y (decide (s=s'));rw[←kL]at b1;have b8:∀W,Below W1.heap.size W1 W→W.cell? ⟨g,3,none⟩=some (.slice (some ⟨b,off,none⟩) n3 c3)∧W.cell? ⟨g+1,3,none⟩=some (.slice (some ⟨b',gK,none⟩) m3 e3)∧W.cell? ⟨b,off+k*2,none⟩=some (.string s)∧W.cell? ⟨b,off+k*2+1,none⟩=some (.slice ud pU ue)∧W.cell? ⟨b',gK+k*2,none⟩=some (.string s')∧W.cell? ⟨b',gK+k*2+1,none⟩=some (.slice xj xk fb):=fun W hb=>by have az:=J (G hb B.o) 3;have aB:=J (G hb C.o) 3;simp only[aq,ar,aw]at az aB;exact⟨az,aB,ab hb R,ab hb al,ab hb T,ab hb an⟩
     refine kG ?_;intro k5;have k6:(k:Int)<(n3:Int):=Z;have bT:(k:Int)<(m3:Int):=by have:=Hh3.o;omega
     clear R al T an;revert aj A hx hy nr ma rj uX hs ag af lS aT pC kL b8;refine GB ?_;intro aP bO bl bm _ _ _ _ bo aR a6 bp b9 IG mE br;go_upto_region 12 with (fail);have aV:=br.o _ (dA bO.o);have a7:=dA bO.o;refine xZ (S:=fun W=>W.cell? ⟨g,3,none⟩=some (.slice (some ⟨b,off,none⟩) n3 c3)∧W.cell? ⟨g+1,3,none⟩=some (.slice (some ⟨b',gK,none⟩) m3 e3)∧W.cell? ⟨b,off+k*2,none⟩=some (.string s)∧W.cell? ⟨b,off+k*2+1,none⟩=some (.slice ud pU ue)∧W.cell? ⟨b',gK+k*2,none⟩=some (.string s')∧W.cell? ⟨b',gK+k*2+1,none⟩=some (.slice xj xk fb)) aA Oe (fun hHeld=>?_);generalize wr.drew=ca at aV a7⊢;have qL:=O a7;clear a7;refine Rn ?_;refine OM ?_;refine bB 13 ?_
     cases cn with
     |false=>
      refine kc 14 ?_;refine kc 15 ?_;refine kc 16 ?_;refine kc 17 ?_;refine kc 18 ?_;refine kc 19 ?_;refine kc 20 ?_;refine kc 21 ?_;refine kc 22 ?_;refine kc 23 ?_;refine kc 24 ?_;refine kc 25 ?_;refine kc 26 ?_;refine kc 27 ?_;refine bB 28 ?_;refine lq ?_;have N:=aR.o fun h=>ati;have au:=O N;clear N;go_wp2_with fail;go_ret;exact⟨by rw[vj.o,tM.o,au.o];rfl,z.o.trans (qL.o.mono z.o.size)⟩
     |true=>
      refine bB 14 ?_;refine bB 15 ?_;refine bB 16 ?_;refine bB 17 ?_;refine bB 18 ?_;refine bB 19 ?_;refine bB 20 ?_;refine bB 21 ?_;refine bB 22 ?_;refine bB 23 ?_;refine bB 24 ?_;refine bB 25 ?_;refine c_ 26 fun K bs=>?_;go_simp;refine (b9.o _ qL.o).mono ?_;rintro e aU ⟨rfl,qn,rfl⟩;have L:=dU qL.o qn;have bt:=br.o _ L;generalize ca.drewN qn=aU at L bt⊢;have mC:=O L;clear L;refine cK ?_;refine bs.out _ _ (by exact bt) (fun hHeld=>?_);clear bs K;refine iN ?_
      cases cs with
      |false=>
       refine bB 27 ?_;refine bB 28 ?_;refine lq ?_;have N:=aR.o fun h=>atj;have au:=O N;clear N;go_wp2_with fail;go_ret;exact⟨by rw[vj.o,tM.o,au.o];rfl,z.o.trans (mC.o.mono z.o.size)⟩
      |true=>refine bB 27 ?_;refine bB 28 ?_;refine lq ?_;have hq:=a6.o (ed mE.o.symm) (ed IG.o.symm);have Hq:=O hq;clear hq;exact Wf
    obtain rfl:n3=k:=Z;have cb:decide (L3=M3)=true:=aO (Ia (by rw[←ao.o,←ax.o,Hh3.o]) (fun j h1 h2=>aj j h1 h2 (by have:=ao.o;omega)));have aD:=J (G A B.o) 4;have aE:=J (G A C.o) 4;simp only[aq,ar,aw]at aD aE;have cd:=wj.o _ A;revert A aj cb cd;refine bV ?_;intro bO aP Mr IY;go_wp2_with fail;refine IY.o.mono ?_;rintro e aU ⟨rfl,qn,rfl⟩;have L:=dU bO.o qn;generalize wr.drewN qn=aU at L⊢;clear aD aE
    cases q4 with
    |false=>
     have mC:=O L;clear L;go_wp2_with fail;go_ret;exact⟨Yn,z.o.trans (mC.o.mono z.o.size)⟩
    |true=>
     have aF:=J (G L B.o) 7;have aG:=J (G L C.o) 7;simp only[aq,ar,aw]at aF aG;have bu:=Fe.o _ L;obtain⟨mC,cf⟩:=ak L bu;clear L bu;go_wp2_with fail;refine cf.o.mono ?_;rintro e cg ⟨rfl,qn,rfl⟩;have u:=dU mC.o qn;generalize aU.drewN qn=cg at u⊢;clear aF aG
     cases q7 with
     |false=>
      have aW:=O u;clear u;go_wp2_with fail;go_ret;exact⟨Yn,z.o.trans (aW.o.mono z.o.size)⟩
     |true=>
      have bw:=J (G u B.o) 0;have bx:=J (G u C.o) 0;have bz:=J (G u B.o) 1;have bA:=J (G u C.o) 1;have bC:=J (G u B.o) 2;have bD:=J (G u C.o) 2;have bE:=J (G u B.o) 3;have bF:=J (G u C.o) 3;have aD:=J (G u B.o) 4;have aE:=J (G u C.o) 4;have bG:=J (G u B.o) 5;have bH:=J (G u C.o) 5;have bI:=J (G u B.o) 6;have bJ:=J (G u C.o) 6;have aF:=J (G u B.o) 7;have aG:=J (G u C.o) 7;simp only[aq,ar,aw]at bw bx bz bA bC bD bE bF aD aE bG bH bI bJ aF aG;have bK:=HT5.o _ u;obtain⟨aW,ch⟩:=ak u bK;clear u bK;go_wp2_with fail;refine ch.o.mono ?_;rintro e wv ⟨rfl,vV⟩;have bL:=aW.o.trans (vV.mono aW.o.size);clear bw bz bC bE aD bG bI aF bx bA bD bF aE bH bJ aG;have bM:r=q5:=Yn;obtain⟨rA,eI,Hre⟩:=aQ vV bL bM;clear vV bL bM;go_wp2_with fail;go_ret;exact⟨by rw[Hre.o];rfl,z.o.trans (eI.o.mono z.o.size)⟩
theorem yd9{l m:List ap}(h1:k<l.length)(a:k<m.length)(h:sF l[k] m[k]=false):Dr l m=false:=be (Ji h1 a (lC h))
theorem zy1{l m:List ap}(b:l.length=m.length)(h:∀j (h1:j<l.length) (a:j<m.length),sF l[j] m[j]=true):Dr l m=true:=aO (JC b fun j h1 a=>ed (h j h1 a))
theorem zy2{l m:List ap}(h:l.length≠m.length):Dr l m=false:=be (ztx h)
theorem yda{l m:List ut}(h:l.length≠m.length):xp l m=false:=be (ztx h)
theorem zlq{x y:ch}{d1:Option Addr}{m1 e1:Nat}(hp:mg w (.slice a1 n1 c1) (.slice a2 n2 c2) x)(hq:mg w (.slice d1 m1 e1) (.slice d2 m2 e2) y):
  Calls prog 11 #[.agg #[.slice a1 n1 c1,.slice a2 n2 c2],.agg #[.slice d1 m1 e1,.slice d2 m2 e2],.bool false] w fun e w'=>e=.returned (.bool (zd x y))∧Below w.heap.size w w':=by
 refine afh ?_;intro W1 aK g hg ai jQ eA f_ eF;obtain⟨oG,dD,oM⟩:=pks_at f_.1;obtain⟨fB,dX,sh⟩:=pks_at eF.1;obtain⟨gG,cc,mZ⟩:=pfs_at f_.2;obtain⟨jl,iV,kO⟩:=pfs_at eF.2;obtain⟨r,fw⟩:=Y (zd x y);rw[←fw];unfold zd at fw;obtain⟨L1,Pg⟩:=Y x.pk;obtain⟨M1,Mc⟩:=Y y.pk;obtain⟨L2,hL2⟩:=Y x.pf;obtain⟨M2,ri⟩:=Y y.pf;rw[←Pg,←Mc,←hL2,←ri]at fw;rw[←Pg]at oG oM;rw[←Mc]at fB sh;rw[←hL2]at gG mZ;rw[←ri]at jl kO;have N:=J jQ 0;have R:=J jQ 1;have T:=J eA 0;have U:=J eA 1;simp only[aq,ar,aw]at N R T U;by_cases av:n1=m1
 case neg=>
  have aP:((n1:Int) !=(m1:Int))=true:=aX;have B:Dr L1 M1=false:=zy2 (by rw[←oG,←fB];exact av);revert hp hq ai jQ eA f_ eF oM oG Pg sh fB Mc mZ gG hL2 kO jl fw ri av B;refine Sb ?_;intro aQ Hq C an ax aR aT aD ao aU aE ay aW aF ks aY aG az yd aZ au qR;go_enter func11,ntmps11;go_upto_region 1 with (fail);refine iE ?_;clear aK hg;go_wp2_with fail;go_ret;exact⟨by rw[yd.o,qR.o];rfl,C.o⟩
 have aP:((n1:Int) !=(m1:Int))=false:=aX;by_cases aH:n2=m2
 case neg=>
  have a6:((n2:Int) !=(m2:Int))=true:=aX;have B:xp L2 M2=false:=yda (by rw[←gG,←jl];exact aH);revert hp hq ai jQ eA f_ eF oM oG Pg sh fB Mc mZ gG hL2 kO jl fw ri av aH B;refine aqt ?_;intro aQ Hq C an ax aR aT aD ao aU aE ay aW aF ks aY aG az yd aZ au aB qR;go_enter func11,ntmps11;go_upto_region 1 with (fail);refine iE ?_;clear aK hg;go_wp2_with fail;go_ret;exact⟨Yo,C.o⟩
 have a6:((n2:Int) !=(m2:Int))=false:=aX;revert hp hq ai jQ eA f_ eF oM oG Pg sh fB Mc mZ gG hL2 kO jl fw ri av aH;refine Sb ?_;intro aQ Hq C an ax aR aT aD ao aU aE ay aW aF ks aY aG az yd aZ au aB;go_enter func11,ntmps11;go_upto_region 1 with (fail);refine iE ?_;clear aK hg;go_wp2_with fail;clear aP a6 N R T U;go_loopw [30] (fun i wr=>∃k:Nat,k≤n1∧i=.int .i64 k∧(∀j (h1:j<L1.length) (h2:j<M1.length),j<k→sF L1[j] M1[j]=true)∧Below W1.heap.size W1 wr) (fun i _=>n1-(RowKit.intOf i).toNat)
 case atStart=>exact⟨0,bj _,rfl,fun _ _ _ h=>Z,aL _ _⟩
 case round=>
  obtain⟨k,bm,rfl,aj,F⟩:=hrel;by_cases bn:k<n1
  ·have aI:k<L1.length:=by have:=ao.o;omega
   have gY:k<M1.length:=by have:=ay.o;have:=au.o;omega
   obtain⟨p,hx⟩:=Y (L1[k]);obtain⟨q,hy⟩:=Y (M1[k]);obtain⟨b,off,xb2,zw,xb3,wL,xb4,wM,xb5,xc5,xb6,xc6,xb7,xc7,rfl,N,R,ad,x3,x4,x5,x6,x7,rx⟩:=aD.o k p lD;obtain⟨b',gK,yb2,fC,yb3,fD,yb4,Dh,yb5,yc5,yb6,yc6,yb7,yc7,rfl,T,U,ae,y3,y4,y5,y6,y7,ry⟩:=aE.o k q Kh
   have ah:sF p q=true→∀j (h1:j<L1.length) (h2:j<M1.length),j<k+1→sF L1[j] M1[j]=true:=fun h j h1 h2 bo=>by
    by_cases e:j=k
    ·subst e;rw[←hx,←hy];exact h
    exact KT
   have al:sF p q=false→Dr L1 M1=false:=fun h=>yd9 aI gY (by rw[←hx,←hy];exact h);have L:=fun(W:World)(k:Below W1.heap.size W1 W)(nm nm2:ByteArray)(li li2:Int)(e1:p.name=nm)(e2:q.name=nm2)=>zpt (li:=li) (li2:=li2) e1 e2 (rx.below k) (ry.below k);obtain⟨nm,dJ⟩:=Y p.name;obtain⟨nm2,BY⟩:=Y q.name;obtain⟨li,yi⟩:=Y p.line;obtain⟨li2,avz⟩:=Y q.line;obtain⟨sZ,mK⟩:=Y p.rel.length;obtain⟨s8,nB⟩:=Y p.vars.length;obtain⟨s9,nD⟩:=Y p.cl.length;obtain⟨xz5,QU⟩:=Y p.gr.length;obtain⟨xz6,QV⟩:=Y p.ci.length;obtain⟨xz7,QW⟩:=Y p.files.length;rw[←mK,←nB,←nD,←QU,←QV,←QW]at rx;simp only[←mK,←nB,←nD,←QU,←QV,←QW]at L;rw[←mK]at ad;rw[←nB]at x3;rw[←nD]at x4;rw[←QU]at x5;rw[←QV]at x6;rw[←QW]at x7;obtain⟨Dj,vo⟩:=Y q.rel.length;obtain⟨C2,vq⟩:=Y q.vars.length;obtain⟨C3,vr⟩:=Y q.cl.length;obtain⟨yz5,QY⟩:=Y q.gr.length;obtain⟨yz6,Q2⟩:=Y q.ci.length;obtain⟨yz7,Q3⟩:=Y q.files.length;rw[←vo,←vq,←vr,←QY,←Q2,←Q3]at ry;simp only[←vo,←vq,←vr,←QY,←Q2,←Q3]at L;rw[←vo]at ae;rw[←vq]at y3;rw[←vr]at y4;rw[←QY]at y5;rw[←Q2]at y6;rw[←Q3]at y7;rw[←dJ]at N;rw[←yi]at R;rw[←BY]at T;rw[←avz]at U;have L:=fun(W:World)(k:Below W1.heap.size W1 W)=>L W k nm nm2 li li2 dJ.symm BY.symm;obtain⟨cs,pC⟩:=Y (sF p q);rw[←pC]at L ah al
   have bp:∀W,Below W1.heap.size W1 W→W.cell? ⟨g,0,none⟩=some (.slice (some ⟨b,off,none⟩) n1 c1)∧W.cell? ⟨g+1,0,none⟩=some (.slice (some ⟨b',gK,none⟩) m1 e1)∧W.cell? ⟨b,off+k*8,none⟩=some (.string nm)∧W.cell? ⟨b,off+k*8+1,none⟩=some (.int .i64 li)∧W.cell? ⟨b,off+k*8+2,none⟩=some (.slice xb2 sZ zw)∧W.cell? ⟨b,off+k*8+3,none⟩=some (.slice xb3 s8 wL)∧W.cell? ⟨b,off+k*8+4,none⟩=some (.slice xb4 s9 wM)∧W.cell? ⟨b,off+k*8+5,none⟩=some (.slice xb5 xz5 xc5)∧W.cell? ⟨b,off+k*8+6,none⟩=some (.slice xb6 xz6 xc6)∧W.cell? ⟨b,off+k*8+7,none⟩=some (.slice xb7 xz7 xc7)∧W.cell? ⟨b',gK+k*8,none⟩=some (.string nm2)∧W.cell? ⟨b',gK+k*8+1,none⟩=some (.int .i64 li2)∧W.cell? ⟨b',gK+k*8+2,none⟩=some (.slice yb2 Dj fC)∧W.cell? ⟨b',gK+k*8+3,none⟩=some (.slice yb3 C2 fD)∧W.cell? ⟨b',gK+k*8+4,none⟩=some (.slice yb4 C3 Dh)∧W.cell? ⟨b',gK+k*8+5,none⟩=some (.slice yb5 yz5 yc5)∧W.cell? ⟨b',gK+k*8+6,none⟩=some (.slice yb6 yz6 yc6)∧W.cell? ⟨b',gK+k*8+7,none⟩=some (.slice yb7 yz7 yc7):=fun W A=>by have X:=J (G A an.o) 0;have a7:=J (G A ax.o) 0;simp only[aq,ar,aw]at X a7;exact⟨X,a7,ab A N,ab A R,ab A ad,ab A x3,ab A x4,ab A x5,ab A x6,ab A x7,ab A T,ab A U,ab A ae,ab A y3,ab A y4,ab A y5,ab A y6,ab A y7⟩
   refine kG ?_;intro k5;have k6:(k:Int)<(n1:Int):=Z;have bq:(k:Int)<(m1:Int):=by have:=au.o;omega
   clear N T R U ad ae x3 y3 x4 y4 x5 y5 x6 y6 x7 y7;revert aj F hx hy dJ BY yi avz mK nB nD QU QV rx QW vo vq vr QY Q2 ry Q3 al ah L pC bp;refine azl ?_;intro aJ ag br bs _ _ _ _ _ _ _ _ _ _ _ _ _ _ _ _ _ _ aC aM a8 IG bc;go_upto_region 6 with (fail);have aV:=bc.o _ (dA ag.o);have aN:=dA ag.o;refine xZ (S:=fun W=>W.cell? ⟨g,0,none⟩=some (.slice (some ⟨b,off,none⟩) n1 c1)∧W.cell? ⟨g+1,0,none⟩=some (.slice (some ⟨b',gK,none⟩) m1 e1)∧W.cell? ⟨b,off+k*8,none⟩=some (.string nm)∧W.cell? ⟨b,off+k*8+1,none⟩=some (.int .i64 li)∧W.cell? ⟨b,off+k*8+2,none⟩=some (.slice xb2 sZ zw)∧W.cell? ⟨b,off+k*8+3,none⟩=some (.slice xb3 s8 wL)∧W.cell? ⟨b,off+k*8+4,none⟩=some (.slice xb4 s9 wM)∧W.cell? ⟨b,off+k*8+5,none⟩=some (.slice xb5 xz5 xc5)∧W.cell? ⟨b,off+k*8+6,none⟩=some (.slice xb6 xz6 xc6)∧W.cell? ⟨b,off+k*8+7,none⟩=some (.slice xb7 xz7 xc7)∧W.cell? ⟨b',gK+k*8,none⟩=some (.string nm2)∧W.cell? ⟨b',gK+k*8+1,none⟩=some (.int .i64 li2)∧W.cell? ⟨b',gK+k*8+2,none⟩=some (.slice yb2 Dj fC)∧W.cell? ⟨b',gK+k*8+3,none⟩=some (.slice yb3 C2 fD)∧W.cell? ⟨b',gK+k*8+4,none⟩=some (.slice yb4 C3 Dh)∧W.cell? ⟨b',gK+k*8+5,none⟩=some (.slice yb5 yz5 yc5)∧W.cell? ⟨b',gK+k*8+6,none⟩=some (.slice yb6 yz6 yc6)∧W.cell? ⟨b',gK+k*8+7,none⟩=some (.slice yb7 yz7 yc7)) aA Oe (fun hHeld=>?_);generalize wr.drew=bD at aV aN⊢;have qL:=O aN;clear aN;refine Rn ?_;refine c_ 11 fun K hK=>?_;go_simp;refine (a8.o _ qL.o).mono ?_;rintro e bd ⟨rfl,Y0⟩;have aa:=qL.o.trans (Y0.mono qL.o.size);have bt:=bc.o _ aa;obtain⟨mC,aEh⟩:=ak aa Y0;clear aa Y0;refine cK ?_;refine hK.out _ _ (by exact bt) (fun hHeld=>?_);clear hK K;refine iN ?_
   cases cs with
   |false=>
    refine bB 12 ?_;refine lq ?_;have B:=aC.o rfl;have qR:=O B;clear B;go_wp2_with fail;go_ret;exact⟨by rw[yd.o,qR.o];rfl,C.o.trans (mC.o.mono C.o.size)⟩
   |true=>refine bB 12 ?_;refine lq ?_;have hq:=aM.o rfl;have Hq:=O hq;clear hq;exact Wf
  obtain rfl:n1=k:=Z;have bu:Dr L1 M1=true:=zy1 (by rw[←ao.o,←ay.o,au.o]) (fun j h1 h2=>aj j h1 h2 (by have:=ao.o;omega));have X:=J (G F an.o) 1;simp only[aq,ar,aw]at X;revert F aj bu;refine fo ?_;intro ag aJ ss;go_wp2_with fail;clear X;go_loopw [50] (fun i wr=>∃k:Nat,k≤n2∧i=.int .i64 k∧(∀j (h1:j<L2.length) (h2:j<M2.length),j<k→pO L2[j]=pO M2[j])∧Below W1.heap.size W1 wr) (fun i _=>n2-(RowKit.intOf i).toNat)
  case atStart=>exact⟨0,bj _,rfl,fun _ _ _ h=>Z,ag.o⟩
  case round=>
   obtain⟨k,bm,rfl,aj,F⟩:=hrel;have X:=J (G F an.o) 1;simp only[aq,ar,aw]at X;by_cases bn:k<n2
   ·have aI:k<L2.length:=ML;have gY:k<M2.length:=by have:=az.o;have:=aB.o;omega
    obtain⟨x,hx⟩:=Y (L2[k]);obtain⟨y,hy⟩:=Y (M2[k]);obtain⟨b,off,ud,ue,rfl,N,R,ad,nr⟩:=aF.o k x lD;obtain⟨b',gK,xj,fb,rfl,T,U,ae,rj⟩:=aG.o k y Kh
    have ah:x.1=y.1→x.2.1=y.2.1→∀j (h1:j<L2.length) (h2:j<M2.length),j<k+1→pO L2[j]=pO M2[j]:=fun h bw j h1 h2 bo=>by
     by_cases e:j=k
     ·subst e;rw[←hx,←hy];unfold pO;rw[h,bw]
     exact KT
    have al:¬(x.1=y.1∧x.2.1=y.2.1)→xp L2 M2=false:=fun h=>be (Ji aI gY (by rw[←hx,←hy];unfold pO;intro e;simp only[t_,lv]at e;exact h e));have L:=fun(W:World)(k:Below W1.heap.size W1 W)=>zjb (iY nr k) (iY rj k);obtain⟨pT,l_⟩:=Y x.1;obtain⟨pU,ma⟩:=Y x.2.1.length;obtain⟨Dg,yO⟩:=Y x.2.2;rw[←l_]at N ah al;rw[←ma]at R L nr;rw[←yO]at ad;obtain⟨wO,wk⟩:=Y y.1;obtain⟨xk,uX⟩:=Y y.2.1.length;obtain⟨Di,yP⟩:=Y y.2.2;rw[←wk]at T ah al;rw[←uX]at U L rj;rw[←yP]at ae;obtain⟨cs,pC⟩:=Y (decide (x.2.1=y.2.1));rw[←pC]at L;have bx:=em.gu pT wO;obtain⟨cn,kL⟩:=Y (decide (pT=wO));rw[←kL]at bx;have N:=ab F N;have R:=ab F R;have ad:=ab F ad;obtain⟨wa,cW⟩:=Y (wr.alloc (.cells #[.string pT,.slice ud pU ue,.int .i64 Dg] 47));obtain⟨ba,b9⟩:=Y wr.heap.size;have pa:wa.heap[ba]?=some (.cells #[.string pT,.slice ud pU ue,.int .i64 Dg] 47 (0,0)):=DE;have bf:Below wr.heap.size wr wa:=Pu;have dC:=F.trans (bf.mono F.size);have bg:=J (G dC ax.o) 1;simp only[aq,ar,aw]at bg;have T:=ab dC T;have U:=ab dC U;have ae:=ab dC ae;obtain⟨wb,eB⟩:=Y (wa.alloc (.cells #[.string wO,.slice xj xk fb,.int .i64 Di] 47));obtain⟨bb,kW⟩:=Y wa.heap.size;have pb:wb.heap[bb]?=some (.cells #[.string wO,.slice xj xk fb,.int .i64 Di] 47 (0,0)):=DF;refine Xt ?_;intro af iq eK;have bz:=L _ iq;refine Bn ?_;intro k5 k6;have bq:(k:Int)<(m2:Int):=by have:=aB.o;omega
    have w0:=J eK 0;have w1:=J eK 1;have bh:=J pb 0;have v1:=J pb 1;simp only[aq,ar,aw]at w0 w1 bh v1;revert aj F hx hy l_ nr ma yO al ah wk rj uX yP L pC kL pa bf dC pb af iq eK bz;refine OU ?_;intro aJ ag br bs _ _ _ _ aC aM _ _ _ _ a8 IG mE _ _ _ _ _ bk _ bA;go_upto_region 13 with (fail);rw[←cW,←b9];clear cW b9 N R ad X;go_upto_region 14 with (fail);rw[←eB,←kW];clear eB kW T U ae bg
    cases cn with
    |false=>
     have B:xp L2 M2=false:=aC.o fun h=>ati;have qR:=O B;clear B;go_wp2_with fail;go_ret;exact⟨Yo,C.o.trans (bk.o.mono C.o.size)⟩
    |true=>
     go_wp2_with fail
     refine bA.o.mono ?_;rintro bE bd ⟨rfl,bl,rfl⟩;have aa:=dU bk.o bl;generalize wb.drewN bl=bd at aa⊢;clear w0 w1 bh v1
     cases cs with
     |false=>
      have B:xp L2 M2=false:=aC.o fun h=>atj;obtain⟨qR,mC⟩:=ak B aa;clear B aa;go_wp2_with fail;go_ret;exact⟨Yo,C.o.trans (mC.o.mono C.o.size)⟩
     |true=>have hq:=aM.o (ed mE.o.symm) (ed IG.o.symm);obtain⟨Hq,mC⟩:=ak hq aa;clear hq aa;exact Wf
   obtain rfl:n2=k:=Z;have bC:xp L2 M2=true:=aO (JC (by rw[←ks.o,←az.o,aB.o]) (fun j h1 h2=>aj j h1 h2 ML));clear X;revert F aj bC;refine fo ?_;intro ag aJ tM;go_wp2_with fail;go_ret;exact⟨by rw[yd.o,ss.o,tM.o];rfl,C.o.trans (ag.o.mono C.o.size)⟩
end
section
open Shelf RowKit Lib av cy
open ac (Wd Ln)
attribute [local go_sem ↓] wp_at_zero wp_at_succ
theorem zv0:k_ (fd,gx,[])=ef:=by
 have a:dK (fd,gx,[])=fd:=by unfold dK;rw[if_pos rfl]
 unfold k_;rw[a];exact M rfl
theorem doc_star:ac.ej ef.data.toList=⟨[(1,[(1,[42])])],0,0,0⟩:=by kernel_rfl
theorem ydi:xw db (fd,gx,[])=(ef,true):=by
 have h:Jg db (k_ (fd,gx,[])) (fd,gx,[]):=by
  rw[zv0];unfold Jg;rw[doc_star];refine⟨rfl,_,rfl,rfl,?_⟩;have a:aD [((1:Int),[(42:UInt8)])] 0=ef:=by rw[Ec D];rfl
  exact znk a
 rw[zv1 h,zv0]
theorem Ju{s:dj}(h:tQ s):∃l,Sp s l:=by
 obtain⟨h1,_,⟨_,b⟩,c⟩:=h
 have d:∀L:List h8,(∀z∈L,z.1.size≤100∧z.2.size≤100)→∃l:List Tp,L=tB l∧l.length=L.length:=by
  intro L
  induction L with
  |nil=>intro _;exact⟨[],rfl,rfl⟩
  |cons z L e=>intro h;obtain⟨l,a,e2⟩:=e (fun x hx=>h x Oc);have f:=h z ae;exact⟨⟨z,Z⟩::l,by rw[a];rfl,by simp[e2]⟩
 obtain⟨l,a,e2⟩:=d s.2.1 b;exact⟨l,a,Z,Z,Z,fun x hx=>by have:=c x hx;omega⟩
theorem zqo(m:dN w):Calls prog 7 #[] w fun e w'=>e=.returned (.bool true)∧Below w.heap.size w w':=by
 obtain⟨W1,aK⟩:=Y (w.alloc (.cells #[.string ⟨#[]⟩,.string ⟨#[]⟩] 51));have n:Below w.heap.size w W1:=yF;have p:gy W1 [.slice (some ⟨w.heap.size,0,none⟩) 1 1] gx:=by rw[aK];exact (Jp w).1
 have q:fm W1 [.slice none 0 0] []:=⟨_,0,rfl,bj _,bj _,fun i x hi=>vm⟩;obtain⟨l,hl⟩:=Ju (s:=(fd,gx,[])) ⟨D,D,⟨D,fun z hz=>by simp[gx]at hz;rw[hz];decide⟩,fun x hx=>wZ⟩;have j:=zth (nm:=fd) p q hl (m.below n);rw[ydi]at j;have e:fd=⟨#[]⟩:=rfl;have e2:ef=⟨#[42]⟩:=rfl;rw[e,e2]at j;refine lM ?_;intro g hg;rw[←hg]at j;clear e e2;revert m n p q hl j;refine bX ?_;intro HD aB Hr Hs Hl HP;go_enter func7,ntmps7;go_wp2_with fail;refine iE ?_;clear aK hg;refine qJ ?_;refine KS ?_;intro w2 bh;go_wp2_with fail;go_ret;exact⟨rfl,aB.o.trans (bh.o.mono aB.o.size)⟩
end
section
open Lib av cy
theorem zxq{s:dj}(h:tQ s):(k_ s).size≤20369042:=by
 obtain⟨l,a⟩:=Ju h;have h1:=a.first;have b:=zqn a.sz s.2.2.length (dK s) (aE _);rw[List.take_length]at b;have c:=h.2.1;unfold k_;split
 ·decide
 omega
theorem zqy(a:ByteArray)(l:List ByteArray):dp (a::l)=a.size+1+dp l:=rfl
theorem zn6{s:dj}(h:tQ s):dp (cI s)≤20369043:=by
 have h1:=zqh (JN s);have a:=zxq h;rw[Jt]at a;rw[em.len]at h1;omega
theorem zsg:∀{l:List ByteArray},(∀x∈l,x.size≤100)→dp l≤101*l.length
 |[],_=>aE _
 |x::l,h=>by have h1:=zsg (l:=l) fun y hy=>h y vy;have a:=h x ae;rw[zqy,fO];omega
theorem zqx(h:Dw l):dp l≤5050:=by
 have h1:=zsg h.2;have a:=h.1;omega
theorem costL_le{L:List K5}{C:Nat}(h:∀m∈L,dp m.2≤C):gQ (L.map (·.2))≤C*L.length:=by
 induction L with
 |nil=>exact bj _
 |cons x L a=>have h1:=a fun m b=>h m (by simp[b]);have c:=h x ae;have e:gQ ((x::L).map (·.2))=dp x.2+gQ (L.map (·.2)):=rfl;rw[e,fO,Nat.mul_succ];omega
theorem pk_cost{star:dj→Bool}{p:ap}(h:zuh p):(∀m∈ip star p,dp m.2≤41000000)∧(ip star p).length≤231:=by
 constructor
 ·intro m b;unfold ip at b;simp only[iC,ff,gb]at b;rcases b with rfl|⟨q,a,rfl⟩|⟨q,a,rfl⟩|⟨q,a,rfl⟩|⟨q,a,rfl⟩|⟨q,a,rfl⟩|⟨q,a,rfl⟩
  ·have:=h.name;have e:dp [iK,p.name]=8+(p.name.size+1):=rfl;rw[e];omega
  ·have:=h.rel.2 q a;have e:dp (xd q)=8+(q.1.size+1+dp (if q.2=true then [D1] else [])):=rfl;have e2:dp (if q.2=true then [D1] else [])≤4:=by split<;>decide
   rw[e];omega
  ·have h1:=(h.vars.2 q a).1;have c:=zqx (h.vars.2 q a).2;have e:dp (qC q)=8+(q.1.size+1+dp q.2):=rfl;rw[e];omega
  ·have:=h.cl.2 q a;have e:dp [kX,q]=9+(q.size+1):=rfl;rw[e];omega
  ·have h1:=zn6 (h.gr.2 q a).1;have c:=zn6 (h.gr.2 q a).2;have e:dp (mf star q)=8+dp (cI q.1++if star q.2.1=true then [] else oZ::cI q.2.1):=rfl
   have e2:dp (if star q.2.1=true then [] else oZ::cI q.2.1)≤5+dp (cI q.2.1):=by
    split
    ·exact bj _
    exact aE _
   rw[e,zqz];omega
  ·have h1:=zn6 (h.ci.2 q a).1;have c:=zn6 (h.ci.2 q a).2
   have e2:dp (kC q)≤10+(dp (cI q.1)+(5+dp (cI q.2.1))):=by
    unfold kC;rw[zqy,zqz];have d:kv.size=9:=rfl;split
    ·have:dp []=0:=rfl;omega
    rw[zqy];have f:rI.size=4:=rfl;omega
   show dp (kC q)≤_
   omega
  have:=h.files.2 q a;have e:dp [kY,q]=5+(q.size+1):=rfl;rw[e];omega
 rw[ybf];have h1:=h.rel.1;have c:=h.vars.1;have g:=h.cl.1;have i:=h.gr.1;have j:=h.ci.1;have k:=h.files.1;omega
theorem kz{α β:Type}{f:α→List β}{C:Nat}:∀{l:List α},(∀x∈l,(f x).length≤C)→(l.flatMap f).length≤C*l.length
 |[],_=>aE _
 |x::l,h=>by have h1:=kz (l:=l) fun y hy=>h y vy;have a:=h x ae;rw[oR,bM,fO,Nat.mul_succ];omega
theorem zt7{star:dj→Bool}{x:ch}(h:FY x):(nw (gz star x)).length≤4398046511104:=by
 have g:∀m∈gz star x,dp m.2≤41000000:=fun m a=>by
  unfold gz at a;rcases ff.1 a with a|a
  ·obtain⟨p,b,a⟩:=Sm.1 a;exact (pk_cost (h.1.2 p b)).1 m a
  obtain⟨q,i,rfl⟩:=gb.1 a;have h1:=h.2.2 q i;have c:=zqx h1.2;have d:=h1.1;have e:dp (om q)=7+(q.1.size+1+dp q.2.1):=rfl;show dp (om q)≤_;rw[e];omega
 have j:(gz star x).length≤6950:=by have h1:=kz (f:=ip star) (C:=231) fun p b=>(pk_cost (star:=star) (h.1.2 p b)).2;have c:=h.1.1;have d:=h.2.1;unfold gz;rw[bM,gi];omega
 have h1:=zxp _ (zyh (star:=star) (x:=x));have c:=costL_le g;have d:41000000*(gz star x).length≤41000000*6950:=Nat.mul_le_mul_left _ j;omega
theorem zv4{x:ch}(h:FY x):SpR x:=fun p b=>⟨fun d O=>⟨Ju ((h.1.2 p b).gr.2 d O).1,Ju ((h.1.2 p b).gr.2 d O).2⟩,fun d O=>⟨Ju ((h.1.2 p b).ci.2 d O).1,Ju ((h.1.2 p b).ci.2 d O).2⟩⟩
def RowsOk(x:ch):Prop:=(∀p∈x.pk,∀q∈p.vars,q.2.length≤70000∧∀y∈q.2,y.size≤70000)∧∀q∈x.pf,q.2.1.length≤70000∧∀y∈q.2.1,y.size≤70000
theorem zry{x:ch}(h:FY x):RowsOk x:=by
 refine⟨fun p c q a=>?_,fun q a=>?_⟩
 ·have h1:=((h.1.2 p c).vars.2 q a).2;exact⟨fu h1.1 D,fun y b=>fu (h1.2 y b) D⟩
 have h1:=(h.2.2 q a).2;exact⟨fu h1.1 D,fun y b=>fu (h1.2 y b) D⟩
theorem tx_all{L:List K5}{m:K5}(a:m∈L)(h0:m.2≠[]):m.2.length≤(nw L).length+1∧∀y∈m.2,y.size≤(nw L).length+1:=by
 obtain⟨i,hi,e⟩:=oS a;have h:L[i]?=some m:=by rw[bR hi,e]
 have h1:=tx_le (L:=L) (i+1);rw[zsw h,bM]at h1;have c:(e_ m.2).size+1≤(lnT m).length:=by unfold lnT;rw[bM,bM,em.len,rD];omega
 obtain⟨_,b⟩:=zss h0;exact⟨Z,fun y hy=>by have:=b y hy;omega⟩
theorem text_rows{x:ch}(h:(nw (gz ei x)).length≤60000):RowsOk x:=by
 refine⟨fun p d q a=>?_,fun q a=>?_⟩
 ·have b:(true,qC q)∈ip ei p:=by
   unfold ip;simp only[iC,ff,gb];exact .inr (.inr (.inl ⟨q,a,rfl⟩))
  obtain⟨h1,c⟩:=tx_all (zy6 d b) (by simp[qC]);have e:(qC q).length=q.2.length+2:=rfl;have h1:(qC q).length≤(nw (gz ei x)).length+1:=h1;refine⟨Z,fun y hy=>?_⟩;have:=c y (by show y∈n8::q.1::q.2;simp[hy]);omega
 have b:(false,om q)∈gz ei x:=by unfold gz;exact ff.2 (.inr (gb.2 ⟨q,a,rfl⟩))
 obtain⟨h1,c⟩:=tx_all b (by simp[om]);have e:(om q).length=q.2.1.length+2:=rfl;have h1:(om q).length≤(nw (gz ei x)).length+1:=h1;refine⟨Z,fun y hy=>?_⟩;have:=c y (by show y∈lI::q.1::q.2.1;simp[hy]);omega
end
section
open RowKit Lib av cy
theorem zni(f:ByteArray)(r:List ByteArray):e_ (f::r)=f++iM r:=by
 apply em.ext
 rw[fz,C5,uf,eU,zD];congr 1
 induction r with
 |nil=>rfl
 |cons x r a=>rw[eU,oR,←a];rfl
theorem zp9(a b:List ByteArray):iM (a++b)=iM a++iM b:=by
 apply em.ext
 rw[fz,C5,C5,C5,rm]
theorem zrn(h:l≠[]):iM l=⟨#[32]⟩++e_ l:=by
 cases l with
 |nil=>exact absurd rfl h
 |cons x r=>
  rw[zni];apply em.ext;simp only[fz,C5,oR];simp
def lnB(x:K5):ByteArray:=⟨(lnT x).toArray⟩
theorem ybj(x:K5):(lnB x).data.toList=lnT x:=rfl
theorem Jw(f:ByteArray)(r:List ByteArray):lnB (true,f::r)=⟨#[32,32]⟩++f++iM r++⟨#[10]⟩:=by
 apply em.ext
 rw[ybj];unfold lnT;show [32,32]++((e_ (f::r)).data.toList++[10])=_;rw[zni];simp only[fz];simp
theorem zw3(f:ByteArray)(r:List ByteArray):lnB (false,f::r)=f++iM r++⟨#[10]⟩:=by
 apply em.ext
 rw[ybj];unfold lnT;show []++((e_ (f::r)).data.toList++[10])=_;rw[zni];simp only[fz];simp
theorem zmb(x:ByteArray):iM [x]=⟨#[32]⟩++x:=by rw[zrn (by simp),FP]
theorem Nh(x:ByteArray)(r:List ByteArray):iM (x::r)=⟨#[32]⟩++x++iM r:=by
 rw[show x::r=[x]++r from rfl,zp9,zmb]
theorem zkx(s:dj):iM (cI s)=⟨#[32]⟩++k_ s:=by rw[zrn (JN s),Jt]
theorem rel_text(v:ByteArray)(o:Bool):lnB (true,xd (v,o))=⟨#[32,32,118,101,114,115,105,111,110,32]⟩++v++(if o=true then ⟨#[32,111,108,100]⟩ else fd)++⟨#[10]⟩:=by
 unfold xd;rw[Jw,Nh];apply em.ext;cases o<;>simp only[fz,C5]<;>simp[nZ,D1,fd]
theorem var_text(v:ByteArray)(l:List ByteArray):lnB (true,qC (v,l))=⟨#[32,32,118,97,114,105,97,110,116,32]⟩++v++iM l++⟨#[10]⟩:=by
 unfold qC;rw[Jw,Nh];refine xC ?_;simp[n8]
theorem prov_text(v:ByteArray):lnB (true,[kX,v])=⟨#[32,32,112,114,111,118,105,100,101,115,32]⟩++v++⟨#[10]⟩:=by
 rw[Jw,zmb];refine xC ?_;simp[kX]
theorem file_text(v:ByteArray):lnB (true,[kY,v])=⟨#[32,32,102,105,108,101,32]⟩++v++⟨#[10]⟩:=by
 rw[Jw,zmb];refine xC ?_;simp[kY]
theorem zvu(v:ByteArray):lnB (false,[iK,v])=⟨#[112,97,99,107,97,103,101,32]⟩++v++⟨#[10]⟩:=by
 rw[zw3,zmb];refine xC ?_;simp[iK]
theorem pref_text(v:ByteArray)(l:List ByteArray)(n:Int):lnB (false,om (v,l,n))=⟨#[112,114,101,102,101,114,32]⟩++v++iM l++⟨#[10]⟩:=by
 unfold om;rw[zw3,Nh];refine xC ?_;simp[lI]
theorem dep_text(d:ky):lnB (true,mf gP d)=⟨#[32,32,100,101,112,101,110,100,115,32]⟩++k_ d.1++(if gP d.2.1=true then fd else ⟨#[32,119,104,101,110,32]⟩++k_ d.2.1)++⟨#[10]⟩:=by
 unfold mf;rw[Jw,zp9,zkx];apply em.ext;by_cases h:gP d.2.1=true
 ·rw[M h,M h];simp only[fz,C5];simp[lF,fd]
 rw[E h,E h,Nh,zkx];simp only[fz];simp[lF,oZ]
theorem conf_text(d:ky):lnB (true,kC d)=⟨#[32,32,99,111,110,102,108,105,99,116,115,32]⟩++k_ d.1++(if d.2.1.1=fd then fd else ⟨#[32,119,105,116,104,32]⟩++k_ d.2.1)++⟨#[10]⟩:=by
 unfold kC;rw[Jw,zp9,zkx];apply em.ext;by_cases h:d.2.1.1=fd
 ·rw[M h,M h];simp only[fz,C5];simp[kv,fd]
 rw[E h,E h,Nh,zkx];simp only[fz];simp[kv,rI]
def ul(L:List K5)(m:Nat):ByteArray:=⟨(nw (L.take m)).toArray⟩
theorem xm{L:List K5}{x:K5}(h:L[m]?=some x):ul L (m+1)=ul L m++lnB x:=by
 apply em.ext
 rw[fz];exact zsw h
theorem uh{L:List K5}(h:(nw L).length≤N)(m:Nat):(ul L m).size≤N:=by
 rw[←em.len];exact fu (tx_le m) h
theorem Dq{L:List K5}{x:K5}(h:L[m]?=some x)(a:(nw L).length≤N):(lnB x).size≤N:=by
 have h1:=uh a (m+1);rw[xm h,iU]at h1;omega
theorem txB_zero(L:List K5):ul L 0=fd:=rfl
theorem tx_seg{L R:List K5}(h:∀j x,R[j]?=some x→L[m+j]?=some x):∀k,k≤R.length→ul L (m+k)=ul L m++ul R k
 |0,_=>by rw[txB_zero];exact (ByteArray.append_empty).symm
 |k+1,b=>by have h1:=tx_seg h k Z;have a:R[k]?=some R[k]:=bR Z;rw[←rn,xm (h k _ a),xm a,h1,DK]
end
section
open RowKit Shelf Lib av cy
attribute [local go_sem ↓] wp_at_zero wp_at_succ
noncomputable def qzu(p:ap):List K5:=p.gr.map (fun q=>(true,mf gP q))++p.ci.map (fun q=>(true,kC q))
theorem rl_dep{p:ap}(h:k<p.gr.length):(qzu p)[k]?=some (true,mf gP p.gr[k]):=JD h
theorem rl_conf{p:ap}(h:k<p.ci.length):(qzu p)[p.gr.length+k]?=some (true,kC p.ci[k]):=by
 unfold qzu;rw[oX,rC,bR h];rfl
set_option linter.unusedVariables false in
theorem zy4{p:ap}(ah:xa w (.slice b2 n2 c2) (.slice b3 n3 c3) (.slice b4 n4 c4) (.slice b5 n5 c5) (.slice b6 n6 c6) (.slice b7 n7 c7) p)(L:SpP p)(aE:(nw (qzu p)).length≤4398046511104):
  Calls prog 20 #[.agg #[.string nm,.int .i64 li,.slice b2 n2 c2,.slice b3 n3 c3,.slice b4 n4 c4,.slice b5 n5 c5,.slice b6 n6 c6,.slice b7 n7 c7]] w fun e w'=>e=.returned (.string (ul (qzu p) (qzu p).length))∧Below w.heap.size w w':=by
 have Pw:=vC ah.2.2.2.1;have Py:=vC ah.2.2.2.2.1;refine aev ?_;intro kh kj W1 aK bx de ai C9;obtain⟨R,hR⟩:=Y (qzu p);have aN:R.length=n5+n6:=by rw[hR,Pw.1,Py.1];unfold qzu;rw[List.length_append,List.length_map,List.length_map]
 rw[←hR]at aE⊢;have A:=J C9 5;simp only[aq,ar,aw]at A;revert ah L Pw Py kh kj ai C9 aE hR aN;refine kH ?_;intro _ aF tF yw G5 ns S T af aG aP;go_enter func20,ntmps20;go_upto_region 1 with (fail);rw[←aK,←de];clear aK de;go_wp2_with fail;clear A;go_loopw [3,10] (fun v i wr=>∃k:Nat,k≤n5∧i=.int .i64 k∧v=.string (ul R (k))∧Below W1.heap.size W1 wr) (fun _ i _=>n5-(RowKit.intOf i).toNat)
 case atStart=>exact⟨0,bj _,rfl,rfl,aL _ _⟩
 case round=>
  obtain⟨k,aj,rfl,rfl,z⟩:=hrel;by_cases al:k<n5
  ·refine ans ?_;intro k5 k6 yr aI x hx;obtain⟨e0,off,e1,g1,e2,g2,e3,g3,e4,g4,rfl,d0,d1,d2,d3,d4,d5,d6,⟨t1,t2⟩,t3,t4⟩:=tF.o.2.2 k x lD;have cR:=S.o.trans (z.mono S.o.size);have d0:=ab cR d0;have d1:=ab cR d1;have d2:=ab cR d2;have d3:=ab cR d3;have d4:=ab cR d4;have d5:=ab cR d5;clear d6;have B:R[k]?=some (true,mf gP x):=by rw[aG.o,hx];exact rl_dep aI
   have L:=aF.o.1 x EP;obtain⟨s,c,an⟩:=x;dsimp only at d0 d1 d2 d3 d4 d5 t1 t2 t3 t4 B L;obtain⟨⟨l1,S1⟩,l2,S2⟩:=L;have bJ:=xm B;have a_:=Dq B af.o;rw[dep_text (s,c,an)]at bJ a_;dsimp only at bJ a_;revert d0 d1 d2 d3 d4 d5 bJ a_;refine adn ?_;intro q1 sf q2 mX q3 BP q4 Ce d1 d2 d4 d5 sn BM cn kL d0 d3 u1 Ct u2 uI aK eh bJ a_;have ao:=uh af.o (k);obtain⟨cur,bW⟩:=Y (ul R (k));rw[←bW]at bJ ao⊢;have aR:u1.size≤4398046511104:=by exact OI
   obtain⟨st,U⟩:=Y (gP c);have bm:(u2.toList==[42])=st:=by rw[jb u2 [42] ef rfl,U,uI];rfl
   rw[←U]at bJ a_
   have aH:u2.size≤4398046511104:=by
    cases st with
    |true=>
     have:u2=ef:=by rw[uI];unfold gP at U;exact ed U.symm
     rw[this];decide
    |false=>rw[iU,iU,iU,E ae,iU]at a_;omega
   have au:=aK wr (aL _ _);have A:=J (G z T.o) 5;simp only[aq,ar,aw]at A;revert z cR hx t1 t2 t3 t4 B S1 S2 sf mX BP Ce BM kL Ct uI aK eh bW a_ bJ U au;refine OU ?_;intro C av aT aU aV aW aX aY aZ a1 a6 a7 a8 ba bb ax bc bd bf ay az bg X _ aA;go_wp2_with fail;refine aA.o.mono ?_;rintro e w3 ⟨rfl,aM⟩;have aa:=ay.o w3 aM;have N:=C.o.trans (aM.mono C.o.size);have aB:=ab aM d3;have aC:=ab aM d4;have aD:=ab aM d5;have ad:=J (G N T.o) 5;simp only[aq,ar,aw]at ad;obtain⟨bK,I3,Ul⟩:=aQ aM N aa;clear aM N aa;go_wp2_with fail;refine Ul.o.mono ?_;rintro e w4 ⟨rfl,bA⟩;have Mu:=I3.o.trans (bA.mono I3.o.size);clear d0 d1 d2 d3 d4 d5 aB aC aD A ad
   cases st with
   |true=>
    have cq:ul R (k+1)=cur++⟨#[32,32,100,101,112,101,110,100,115,32]⟩++u1++⟨#[10]⟩:=by rw[X.o,M rfl];refine xC ?_;simp[fd]
    exact ahp
   |false=>
    have cq:ul R (k+1)=cur++⟨#[32,32,100,101,112,101,110,100,115,32]⟩++u1++⟨#[32,119,104,101,110,32]⟩++u2++⟨#[10]⟩:=by rw[X.o,E ae];refine xC ?_;simp
    exact ahp
  obtain rfl:n5=k:=Z;clear al aj;have A:=J (G z T.o) 6;simp only[aq,ar,aw]at A;have C:=O z;clear z;go_wp2_with fail;clear A;go_loopw [3,42] (fun v i wr=>∃k:Nat,k≤n6∧i=.int .i64 k∧v=.string (ul R (n5+k))∧Below W1.heap.size W1 wr) (fun _ i _=>n6-(RowKit.intOf i).toNat)
  case atStart=>exact⟨0,bj _,rfl,rfl,C.o⟩
  case round=>
   obtain⟨k,aj,rfl,rfl,z⟩:=hrel;by_cases al:k<n6
   ·refine apl ?_;intro k5 k6 yr aI x hx;obtain⟨e0,off,e1,g1,e2,g2,e3,g3,e4,g4,rfl,d0,d1,d2,d3,d4,d5,d6,⟨t1,t2⟩,t3,t4⟩:=yw.o.2.2 k x lD;have cR:=S.o.trans (z.mono S.o.size);have d0:=ab cR d0;have d1:=ab cR d1;have d2:=ab cR d2;have d3:=ab cR d3;have d4:=ab cR d4;have d5:=ab cR d5;clear d6;have B:R[n5+k]?=some (true,kC x):=by rw[aG.o,hx];rw[tF.o.1];exact rl_conf aI
    have L:=aF.o.2 x EP;obtain⟨s,c,an⟩:=x;dsimp only at d0 d1 d2 d3 d4 d5 t1 t2 t3 t4 B L;obtain⟨⟨l1,S1⟩,l2,S2⟩:=L;have bJ:=xm B;have a_:=Dq B af.o;rw[conf_text (s,c,an)]at bJ a_;dsimp only at bJ a_;revert d0 d1 d2 d3 d4 d5 bJ a_;refine adn ?_;intro q1 sf q2 mX q3 BP q4 Ce d1 d2 d4 d5 sn BM cn kL d0 d3 u1 Ct u2 uI aK eh bJ a_;have ao:=uh af.o (n5+k);obtain⟨cur,bW⟩:=Y (ul R (n5+k));rw[←bW]at bJ ao⊢;have aR:u1.size≤4398046511104:=by exact OI
    have ag:=em.ii cn;have aH:cn≠fd→u2.size≤4398046511104:=fun h=>by rw[kL]at h;rw[iU,iU,iU,E h,iU]at a_;omega
    have au:=aK wr (aL _ _);have A:=J (G z T.o) 6;simp only[aq,ar,aw]at A;revert z cR hx t1 t2 t3 t4 B S1 S2 sf mX BP Ce BM kL Ct uI aK eh a_ bJ bW aH au;refine OU ?_;intro C av aT aU aV aW aX aY aZ a1 a6 a7 a8 ba bb ax bc bd bf ay bg X az bh aA;go_wp2_with fail;refine aA.o.mono ?_;rintro e w3 ⟨rfl,aM⟩;have aa:=ay.o w3 aM;have N:=C.o.trans (aM.mono C.o.size);have aB:=ab aM d3;have aC:=ab aM d4;have aD:=ab aM d5;have ad:=J (G N T.o) 6;simp only[aq,ar,aw]at ad;obtain⟨bK,I3,Ul⟩:=aQ aM N aa;clear aM N aa;by_cases F:cn.size=0
    ·have aJ:cn.toList.isEmpty=true:=by rw[ag];exact aO F
     clear ag;have K:cn=fd:=em.ext (oT (by rw[em.len];exact F));have cq:ul R (n5+k+1)=cur++⟨#[32,32,99,111,110,102,108,105,99,116,115,32]⟩++u1++⟨#[10]⟩:=by rw[X.o,M (by rw[←ax.o];exact K)];refine xC ?_;simp[fd]
     obtain⟨bk,bl,dV⟩:=aQ F K cq;clear F K cq;go_wp2_with fail;go_roundw
     case rel=>exact⟨k+1,Z,cj,Mo,I3.o⟩
     case measure=>exact gT
    have aJ:cn.toList.isEmpty=false:=by rw[ag];exact be F
    clear ag;have K:cn≠fd:=fun h=>F (by rw[h];rfl);have bn:=bh.o K;have cq:ul R (n5+k+1)=cur++⟨#[32,32,99,111,110,102,108,105,99,116,115,32]⟩++u1++⟨#[32,119,105,116,104,32]⟩++u2++⟨#[10]⟩:=by rw[X.o,E (by rw[←ax.o];exact K)];refine xC ?_;simp
    obtain⟨bk,bl,dV⟩:=aQ F K cq;clear F K cq;go_wp2_with fail;refine Ul.o.mono ?_;rintro e w4 ⟨rfl,bA⟩;have Mu:=I3.o.trans (bA.mono I3.o.size);clear d0 d1 d2 d3 d4 d5 aB aC aD A ad aJ;obtain⟨dL,UR⟩:=ak bA Mu;clear bA Mu;go_wp2_with fail;go_roundw
    case rel=>exact⟨k+1,Z,cj,Mo,UR.o⟩
    case measure=>exact gT
   obtain rfl:n6=k:=Z;clear al aj;have cR:=S.o.trans (z.mono S.o.size);obtain⟨cur,bW⟩:=Y (ul R (n5+n6));rw[←bW];obtain⟨C,av,az⟩:=aQ z cR bW;clear z cR bW;go_wp2_with fail;go_ret;exact⟨by rw[aP.o,←az.o];rfl,av.o⟩
end
section
open Shelf RowKit Lib av cy
open ac (Wd)
attribute [local go_sem ↓] wp_at_zero wp_at_succ
def okNm(vals:Bool)(s:ByteArray):Bool:=eL s || (vals&&qp s)
theorem okNm_true:okNm true=qp:=by
 funext s
 unfold okNm eL qp pM;cases fW s.data.toList<;>simp
theorem ye0:okNm false=eL:=by
 funext s
 unfold okNm;simp
structure Nm6(w:World)(g:Nat)(a:Option Addr)(n c:Nat)(fin:Int)(ws:List Wd)(i:Nat)(ok:ByteArray→Bool)(k:Nat)(out:List ByteArray)(bad:Int)(v:Value)(W:World):Prop where
 box:es g a n c (i+k) fin bad W
 B0:es (g+1) none 0 0 0 0 0 W
 row:W.ownsRow (g+2) 9 1 v out.length (out.map Value.string)
 bm:Below w.heap.size w W
 sz:∀x∈out,x.size≤70000
 st:(bad=0∧out.length=k∧(k=0∨i+k≤ws.length)∧out=(az ws i).take k∧out.all ok=true)∨(bad≠0∧eQ ok (az ws i)=none)
section
variable {w W W':World}{g:Nat}{a:Option Addr}{n c:Nat}{fin:Int}{ws:List Wd}{i k:Nat}{ok:ByteArray→Bool}{out:List ByteArray}{bad:Int}{v:Value}
theorem Nm6.to(h:Nm6 w g a n c fin ws i ok k out bad v W)(b:Below W.heap.size W W'):Nm6 w g a n c fin ws i ok k out bad v W' :=
 ⟨G b h.box,G b h.B0,fh h.row b,h.bm.trans (b.mono h.bm.size),h.sz,h.st⟩
theorem axd(h:i+j<ws.length):(az ws i)[j]?=some (aD ws (i+j)):=Is h
theorem axj{x:ByteArray}(h:l[j]?=some x)(a:ok x=false):eQ ok l=none:=by
 unfold eQ;rw[E];rintro⟨_,b⟩;have:=qy.1 b x (uQ h);rw[a]at this;cases this
theorem axi:eQ ok []=none:=E (by simp)
theorem Nm6.done(h:Nm6 w g a n c fin ws i ok k out 0 v W)(_:k≠0)(_:ws.length≤i+k):eQ ok (az ws i)=some out:=by
 rcases h.st with⟨_,h1,_,d,f⟩|⟨h,_⟩
 ·have b:(az ws i).length=k:=SS;have e:out=az ws i:=by rw[d,lH (jg b)]
  unfold eQ;rw[M ⟨by intro j;rw[j]at b;simp at b;omega,by rw[←e];exact f⟩,e]
 exact GA
end
def Names06(a:Option Addr)(n c:Nat)(fin:Int)(ws:List Wd)(i:Nat)(ok:ByteArray→Bool)(w:World)(e:Ending)(w':World):Prop :=
 ∃b m d j bad,e=.returned (.tuple #[.slice b m d,pv a n c j fin bad])∧((∃l,eQ ok (az ws i)=some l∧bad=0∧j=ws.length∧w'.ownsRow w.heap.size 9 1 (.slice b m d) l.length (l.map Value.string)∧∀x∈l,x.size≤70000)∨(eQ ok (az ws i)=none∧bad≠0))∧Below w.heap.size w w'
theorem Nm6.back{w W:World}{g:Nat}{a:Option Addr}{n c:Nat}{fin:Int}{ws:List Wd}{i k:Nat}{ok:ByteArray→Bool}{out:List ByteArray}{bad:Int}{v:Value}(bZ:w.heap.size≤g)(h0:es g a n c m fin 0 W)(h1:es (g+1) none 0 0 0 0 0 W)(hb:Below w.heap.size w W)(a_:∀y∈out,y.size≤70000)(ho:W.ownsRow (g+2) 9 1 v out.length (out.map Value.string))
  (bJ:(bad=0∧out.length=k∧(k=0∨i+k≤ws.length)∧out=(az ws i).take k∧out.all ok=true)∨(bad≠0∧eQ ok (az ws i)=none)) {p:Nat} (hp:p=i+k) :
  Nm6 w g a n c fin ws i ok k out bad v ((((W.setCell ⟨g,0,none⟩ (.slice a n c)).setCell ⟨g,1,none⟩ (.int .i64 p)).setCell ⟨g,2,none⟩ (.int .i64 fin)).setCell ⟨g,3,none⟩ (.int .i64 bad)):=by
 exact afb
theorem axg{ws:List Wd}{i k:Nat}{ok:ByteArray→Bool}{out:List ByteArray}(a:i+k<ws.length)(h:out=(az ws i).take k)(b:out.all ok=true)(c:ok (aD ws (i+k))=true):out++[aD ws (i+k)]=(az ws i).take (k+1)∧(out++[aD ws (i+k)]).all ok=true:=by
 refine⟨?_,by rw[CX,b];simp[c]⟩;rw[List.take_add_one,axd a,h];rfl
theorem own_lower{W:World}{a:Nat}{size:Nat}{v:Value}{n:Nat}{xs:List Value}(h:W.ownsRow B e size v n xs)(_:a≤B):W.ownsRow a e size v n xs:=by
 refine⟨h.1,?_⟩;rcases h.2 with b|⟨g,cap,c,rfl,_,rest⟩
 ·exact .inl b
 exact .inr ⟨g,cap,c,rfl,Z,rest⟩
theorem zza{w:World}{a:Option Addr}{n c:Nat}{ws:List Wd}(L:j7 w [.slice a n c] ws)(cz:n≤1000)(hz:∀x∈ws,x.2.length≤70000){fin:Int}(aq:∀j,cO ws fin j≠0)(i:Nat)(vals:Bool):Calls prog 77 #[pv a n c i fin 0,.bool vals] w (Names06 a n c fin ws i (okNm vals) w):=by
 have ar:=(pF L).1;obtain⟨ok,R⟩:=Y (okNm vals);rw[←R];refine lM ?_;intro g hg;refine aiy ?_;intro W0 bw cM th
 have au:Nm6 w g a n c fin ws i ok 0 [] 0 (.slice (some ⟨g+2,0,none⟩) 0 0) (W0.alloc (.cells #[] 9)):=by
  refine⟨G (aS _ _) ?_,G (aS _ _) ?_,?_,cM.alloc cM.size _,(fun x hx=>wZ),.inl ⟨rfl,rfl,.inl rfl,rfl,rfl⟩⟩
  ·rw[bw,hg];exact G (aS _ _) (dx rfl)
  ·rw[bw,hg];exact dx ae
  have:=wG (base:=g+2) (e:=9) (size:=1) W0 #[] 0 (jg th.symm) D rfl;rw[th]at this;exact this
 refine ur ?_;intro bZ;refine Ot ?_;intro fe;revert L hz aq ar R cM au fe;refine fg ?_;intro Hw Hz fM Hn ev cr LK kV;go_enter func77,ntmps77;go_upto_region 1 with (fail);rw[←bw,←hg];clear bw hg;go_wp2_with fail;go_loopw [6] (fun v wr=>∃(k:Nat)(out:List ByteArray)(bad:Int),Nm6 w g a n c fin ws i ok k out bad v wr) (fun _ wr=>(mOf g (n+1) wr))
 case atStart=>first|exact⟨0,[],0,LK.o⟩|(rw[th];exact⟨0,[],0,LK.o⟩)
 case round=>
  obtain⟨q,T⟩:=Y wr;rw[←T]at hrel⊢;clear T wr;obtain⟨k,out,bad,hI⟩:=hrel;obtain⟨ao,co,rfl⟩:=bg hI.row;obtain⟨ol,tG⟩:=Y out.length;have B:=Ld (n:=n+1) hI.box;obtain⟨⟨c0,c1,c2,c3⟩,-⟩:=a8 hI.box;obtain⟨_,f0,f1,f2,f3⟩:=a8 hI.B0;obtain⟨m,hm⟩:=Y (i+k);rw[←hm]at c1;by_cases jJ:bad=0
  case neg=>
   have t:(bad==0)=false:=Ra
   have iv:eQ ok (az ws i)=none:=by
    rcases hI.st with⟨h,_⟩|⟨_,h⟩
    ·exact absurd h jJ
    exact h
   rw[←tG];revert hI tG B hm jJ iv;refine bX ?_;intro r vd D2 Hm av iQ;go_wp2_with fail;go_region
   go_wp2_with fail
   have hp:=Bf (a:=a) (n:=n) (c:=c) (i:=m) (fin:=fin) (x:=bad) bZ r.o.B0 r.o.bm;refine KI ?_;exact⟨_,_,_,m,bad,rfl,.inr ⟨iQ.o,av.o⟩,dA hp.2⟩
  subst jJ
  obtain⟨U,X,aa,ab⟩:out.length=k∧(k=0∨i+k≤ws.length)∧out=(az ws i).take k∧out.all ok=true:=by
   rcases hI.st with⟨_,h1,aw,ax,ay⟩|⟨h,_⟩
   ·exact⟨h1,aw,ax,ay⟩
   exact GA
  have u:=CI q a n c m fin 0;by_cases C:n≤m∧k≠0
  ·rw[be Z]at u;have ad:((ol:Int)==0)=false:=l9;have aC:=hI.done C.2 gl;rw[←tG];revert tG hm hI B U X aa ab C aC;refine dE ?_;intro vd Hm r D2 Io Vs GL jd ya aE;go_wp2_with fail;refine u.mono ?_;rintro e w2 ⟨rfl,af⟩;have zR:=r.o.to af;obtain⟨⟨d0,d1,d2,d3⟩,-⟩:=a8 zR.box;obtain⟨_,f0,f1,f2,f3⟩:=a8 zR.B0;rw[←Hm.o]at d1;clear c0 c1 c2 c3;obtain⟨lx,bh⟩:=ak zR af;clear zR af;go_wp2_with fail;go_region
   go_wp2_with fail
   have hp:=Bf (a:=a) (n:=n) (c:=c) (i:=m) (fin:=fin) (x:=0) bZ lx.o.B0 lx.o.bm;have aF:am (fun z=>z=g+1) w2 ((((w2.setCell ⟨g+1,0,none⟩ (.slice a n c)).setCell ⟨g+1,1,none⟩ (.int .i64 (m:Int))).setCell ⟨g+1,2,none⟩ (.int .i64 fin)).setCell ⟨g+1,3,none⟩ (.int .i64 0)).drew:=(aN (aN (aN (aN (am.refl _ _) 0 _) 1 _) 2 _) 3 _).drew;refine KI ?_;have ag:=aF.owns lx.o.row (fun z hz e=>dM lx.o.row lx.o.B0 D (by rw[hz,e]));rw[←vd.o]at ag;exact⟨_,_,_,m,0,rfl,.inl ⟨out,aE.o,rfl,by have:=Vs.o;have:=Hm.o;have:=Hn.o;have:=ya.o;omega,by rw[←vd.o];exact own_lower ag Z,lx.o.sz⟩,dA hp.2⟩
  obtain⟨s,hs⟩:=Y (aD ws m);have ah:=fun(W:World)(t:Below q.heap.size q W)=>B3 (bz lz _ _ _ _ Hw.o (hI.bm.trans (t.mono hI.bm.size))) m fin 0;simp only[←hs]at ah;have aG:s.size≤70000:=by rw[hs];exact kV.o _
  obtain⟨aj,A⟩:=Y (decide (m<n));rw[←A]at u;have ad:aj=false→((ol:Int)==0)=true:=fun h=>by rw[h]at A;have:=lC A.symm;have nT:k=0:=Z;have:(ol:Int)=0:=Z;rw[this];rfl
  rw[←tG];have al:=hI;rw[←tG]at al;revert tG hm hI B U X aa ab C hs ah aG A ad al;refine uv ?_;intro vd Hm r D2 Io Vs GL jd ya Hs HW ir _ aI aJ;have an:∀W,Below q.heap.size q W→Nm6 w g a n c fin ws i ok k out 0 (.slice ao ol co) W:=fun W t=>aJ.o.to t;have avc:=O an;clear an;go_wp2_with fail;refine u.mono ?_;rintro e w1 ⟨rfl,ai⟩;have F:=avc.o _ ai;obtain⟨⟨d0,d1,d2,d3⟩,-⟩:=a8 F.box;rw[←Hm.o]at d1;clear c0 c1 c2 c3 f0 f1 f2 f3;have aB:=aH ai;have aK:=O F;clear F;clear ai
  cases aj with
  |true=>exact aei
  |false=>have aM:=aI.o rfl;exact aei
end
section
open RowKit Shelf av cy
open ac (Wd)
section
variable {W w9:World}{t:Nat→Nat}{B:Nat}{p:ap}{v2 v3 v4 v5 v6 v7 v9:Value}{css:List (List Value)}{cs:List Value}
theorem zz.aaj{q:K1}(h:zz W t B p v2 v3 v4 v5 v6 v7)(hr:RowL W t 4 B 66 2 o_ v2 p.rel css)(f:Ft W (Fx W t) fun W'=>o_ W' cs q)
  (g:w9.ownsRow B 66 2 v9 (p.rel.length+1) (css.flatten++cs)) (d:W.grownBy w9 v2.ownBlock) (i:mh W v2 v9) :
  zz w9 (aJ t W.heap.size 4) B { p with rel:=p.rel++[q] } v9 v3 v4 v5 v6 v7:=by
 have hF:=eS d;have a:∀{c:Nat},c≠4→c≠3→∀k,k<W.heap.size→v2.ownBlock=some k→t k≠c∧t k≠3∧¬Ty W k:=fun hc _ k _ hk=>by exact vI
 have b:∀k,k<W.heap.size→t k=3→aJ t W.heap.size 4 k=3:=fun k hk h=>vx;exact⟨⟨_,hr.push D Z f rfl g d i⟩,h.vars.elim fun css hq=>⟨css,hq.to hF (a Z Z) b fun k k1 e=>(aR k1).trans e⟩,h.cl.elim fun css hq=>⟨css,hq.to hF (a Z Z) b fun k k1 e=>(aR k1).trans e⟩,h.gr.elim fun css hq=>⟨css,hq.to hF (a Z Z) b fun k k1 e=>(aR k1).trans e⟩,h.ci.elim fun css hq=>⟨css,hq.to hF (a Z Z) b fun k k1 e=>(aR k1).trans e⟩,h.files.elim fun css hq=>⟨css,hq.to hF (a Z Z) b fun k k1 e=>(aR k1).trans e⟩⟩
theorem zz.aaw{q:qF}(h:zz W t B p v2 v3 v4 v5 v6 v7)(hr:RowL W t 5 B 68 2 n9 v3 p.vars css)(f:Ft W (Fx W t) fun W'=>n9 W' cs q)
  (g:w9.ownsRow B 68 2 v9 (p.vars.length+1) (css.flatten++cs)) (d:W.grownBy w9 v3.ownBlock) (i:mh W v3 v9) :
  zz w9 (aJ t W.heap.size 5) B { p with vars:=p.vars++[q] } v2 v9 v4 v5 v6 v7:=by
 have hF:=eS d;have a:∀{c:Nat},c≠5→c≠3→∀k,k<W.heap.size→v3.ownBlock=some k→t k≠c∧t k≠3∧¬Ty W k:=fun hc _ k _ hk=>by exact vI
 have b:∀k,k<W.heap.size→t k=3→aJ t W.heap.size 5 k=3:=fun k hk h=>vx;exact⟨h.rel.elim fun css hq=>⟨css,hq.to hF (a Z Z) b fun k k1 e=>(aR k1).trans e⟩,⟨_,hr.push D Z f rfl g d i⟩,h.cl.elim fun css hq=>⟨css,hq.to hF (a Z Z) b fun k k1 e=>(aR k1).trans e⟩,h.gr.elim fun css hq=>⟨css,hq.to hF (a Z Z) b fun k k1 e=>(aR k1).trans e⟩,h.ci.elim fun css hq=>⟨css,hq.to hF (a Z Z) b fun k k1 e=>(aR k1).trans e⟩,h.files.elim fun css hq=>⟨css,hq.to hF (a Z Z) b fun k k1 e=>(aR k1).trans e⟩⟩
theorem zz.aav(h:zz W t B p v2 v3 v4 v5 v6 v7)(hr:RowL W t 6 B 9 1 qr v4 p.cl css)(f:Ft W (Fx W t) fun W'=>qr W' cs q)
  (g:w9.ownsRow B 9 1 v9 (p.cl.length+1) (css.flatten++cs)) (d:W.grownBy w9 v4.ownBlock) (i:mh W v4 v9) :
  zz w9 (aJ t W.heap.size 6) B { p with cl:=p.cl++[q] } v2 v3 v9 v5 v6 v7:=by
 have hF:=eS d;have a:∀{c:Nat},c≠6→c≠3→∀k,k<W.heap.size→v4.ownBlock=some k→t k≠c∧t k≠3∧¬Ty W k:=fun hc _ k _ hk=>by exact vI
 have b:∀k,k<W.heap.size→t k=3→aJ t W.heap.size 6 k=3:=fun k hk h=>vx;exact⟨h.rel.elim fun css hq=>⟨css,hq.to hF (a Z Z) b fun k k1 e=>(aR k1).trans e⟩,h.vars.elim fun css hq=>⟨css,hq.to hF (a Z Z) b fun k k1 e=>(aR k1).trans e⟩,⟨_,hr.push D Z f rfl g d i⟩,h.gr.elim fun css hq=>⟨css,hq.to hF (a Z Z) b fun k k1 e=>(aR k1).trans e⟩,h.ci.elim fun css hq=>⟨css,hq.to hF (a Z Z) b fun k k1 e=>(aR k1).trans e⟩,h.files.elim fun css hq=>⟨css,hq.to hF (a Z Z) b fun k k1 e=>(aR k1).trans e⟩⟩
theorem zz.WP{q:ky}(h:zz W t B p v2 v3 v4 v5 v6 v7)(hr:RowL W t 7 B 96 7 fX v5 p.gr css)(f:Ft W (Fx W t) fun W'=>fX W' cs q)
  (g:w9.ownsRow B 96 7 v9 (p.gr.length+1) (css.flatten++cs)) (d:W.grownBy w9 v5.ownBlock) (i:mh W v5 v9) :
  zz w9 (aJ t W.heap.size 7) B { p with gr:=p.gr++[q] } v2 v3 v4 v9 v6 v7:=by
 have hF:=eS d;have a:∀{c:Nat},c≠7→c≠3→∀k,k<W.heap.size→v5.ownBlock=some k→t k≠c∧t k≠3∧¬Ty W k:=fun hc _ k _ hk=>by exact vI
 have b:∀k,k<W.heap.size→t k=3→aJ t W.heap.size 7 k=3:=fun k hk h=>vx;exact⟨h.rel.elim fun css hq=>⟨css,hq.to hF (a Z Z) b fun k k1 e=>(aR k1).trans e⟩,h.vars.elim fun css hq=>⟨css,hq.to hF (a Z Z) b fun k k1 e=>(aR k1).trans e⟩,h.cl.elim fun css hq=>⟨css,hq.to hF (a Z Z) b fun k k1 e=>(aR k1).trans e⟩,⟨_,hr.push D Z f rfl g d i⟩,h.ci.elim fun css hq=>⟨css,hq.to hF (a Z Z) b fun k k1 e=>(aR k1).trans e⟩,h.files.elim fun css hq=>⟨css,hq.to hF (a Z Z) b fun k k1 e=>(aR k1).trans e⟩⟩
theorem zz.J3{q:ky}(h:zz W t B p v2 v3 v4 v5 v6 v7)(hr:RowL W t 8 B 98 7 fX v6 p.ci css)(f:Ft W (Fx W t) fun W'=>fX W' cs q)
  (g:w9.ownsRow B 98 7 v9 (p.ci.length+1) (css.flatten++cs)) (d:W.grownBy w9 v6.ownBlock) (i:mh W v6 v9) :
  zz w9 (aJ t W.heap.size 8) B { p with ci:=p.ci++[q] } v2 v3 v4 v5 v9 v7:=by
 have hF:=eS d;have a:∀{c:Nat},c≠8→c≠3→∀k,k<W.heap.size→v6.ownBlock=some k→t k≠c∧t k≠3∧¬Ty W k:=fun hc _ k _ hk=>by exact vI
 have b:∀k,k<W.heap.size→t k=3→aJ t W.heap.size 8 k=3:=fun k hk h=>vx;exact⟨h.rel.elim fun css hq=>⟨css,hq.to hF (a Z Z) b fun k k1 e=>(aR k1).trans e⟩,h.vars.elim fun css hq=>⟨css,hq.to hF (a Z Z) b fun k k1 e=>(aR k1).trans e⟩,h.cl.elim fun css hq=>⟨css,hq.to hF (a Z Z) b fun k k1 e=>(aR k1).trans e⟩,h.gr.elim fun css hq=>⟨css,hq.to hF (a Z Z) b fun k k1 e=>(aR k1).trans e⟩,⟨_,hr.push D Z f rfl g d i⟩,h.files.elim fun css hq=>⟨css,hq.to hF (a Z Z) b fun k k1 e=>(aR k1).trans e⟩⟩
theorem zz.Pi(h:zz W t B p v2 v3 v4 v5 v6 v7)(hr:RowL W t 9 B 9 1 qr v7 p.files css)(f:Ft W (Fx W t) fun W'=>qr W' cs q)
  (g:w9.ownsRow B 9 1 v9 (p.files.length+1) (css.flatten++cs)) (d:W.grownBy w9 v7.ownBlock) (i:mh W v7 v9) :
  zz w9 (aJ t W.heap.size 9) B { p with files:=p.files++[q] } v2 v3 v4 v5 v6 v9:=by
 have hF:=eS d;have a:∀{c:Nat},c≠9→c≠3→∀k,k<W.heap.size→v7.ownBlock=some k→t k≠c∧t k≠3∧¬Ty W k:=fun hc _ k _ hk=>by exact vI
 have b:∀k,k<W.heap.size→t k=3→aJ t W.heap.size 9 k=3:=fun k hk h=>vx;exact⟨h.rel.elim fun css hq=>⟨css,hq.to hF (a Z Z) b fun k k1 e=>(aR k1).trans e⟩,h.vars.elim fun css hq=>⟨css,hq.to hF (a Z Z) b fun k k1 e=>(aR k1).trans e⟩,h.cl.elim fun css hq=>⟨css,hq.to hF (a Z Z) b fun k k1 e=>(aR k1).trans e⟩,h.gr.elim fun css hq=>⟨css,hq.to hF (a Z Z) b fun k k1 e=>(aR k1).trans e⟩,h.ci.elim fun css hq=>⟨css,hq.to hF (a Z Z) b fun k k1 e=>(aR k1).trans e⟩,⟨_,hr.push D Z f rfl g d i⟩⟩
end
def zh(a:Option Addr)(n c:Nat)(fin:Int)(ws:List Wd)(i:Nat)(t:Nat→Nat)(B:Nat)(first:ByteArray)(line:Int)(p:ap)(w:World)(e:Ending)(w':World):Prop :=
 ∃(b2 b3 b4 b5 b6 b7:Option Addr)(m2 d2 m3 d3 m4 d4 m5 d5 m6 d6 m7 d7 j:Nat)(bad:Int),e=.returned (.tuple #[.agg #[.string p.name,.int .i64 p.line,.slice b2 m2 d2,.slice b3 m3 d3,.slice b4 m4 d4,.slice b5 m5 d5,.slice b6 m6 d6,.slice b7 m7 d7],pv a n c j fin bad])∧
  ((bad=0∧∃q t',q.name=p.name∧q.line=p.line∧zz w' t' B q (.slice b2 m2 d2) (.slice b3 m3 d3) (.slice b4 m4 d4) (.slice b5 m5 d5) (.slice b6 m6 d6) (.slice b7 m7 d7)∧(j=ws.length→dw first line p (az ws i)=some q)∧(j<ws.length→dw first line p (az ws i)=none)∧j≤ws.length∧∀k,k<w.heap.size→t' k=t k)∨(bad≠0∧dw first line p (az ws i)=none))∧am (fun k=>Live (t k)∧¬Ty w k) w w'
end
section
open Shelf RowKit Lib av cy
open ac (Wd)
structure Bd6(w:World)(g:Nat)(a:Option Addr)(n c:Nat)(fin:Int)(A:Array Value)(j:Nat)(bad:Int)(W:World):Prop where
 pb:es g a n c j fin bad W
 xb:W.heap[g+1]?=some (.cells A 45 (0,0))
 r1:W.heap[g+2]?=some (.cells #[.string ⟨#[]⟩,.int .i64 0,.slice none 0 0,.slice none 0 0,.slice none 0 0,.slice none 0 0,.slice none 0 0,.slice none 0 0] 45 (0,0))
 r2:es (g+3) none 0 0 0 0 0 W
 bm:Below w.heap.size w W
section
variable {w W W':World}{g:Nat}{a:Option Addr}{n c:Nat}{fin:Int}{A:Array Value}{j j':Nat}{bad bad':Int}
theorem Bd6.to(h:Bd6 w g a n c fin A j bad W)(b:Below W.heap.size W W'):Bd6 w g a n c fin A j bad W':=⟨G b h.pb,G b h.xb,G b h.r1,G b h.r2,h.bm.trans (b.mono h.bm.size)⟩
theorem Bd6.abn(h:Bd6 w g a n c fin A j bad W)(d:w.heap.size≤g):Bd6 w g a n c fin A j' bad' ((((W.setCell ⟨g,0,none⟩ (.slice a n c)).setCell ⟨g,1,none⟩ (.int .i64 j')).setCell ⟨g,2,none⟩ (.int .i64 fin)).setCell ⟨g,3,none⟩ (.int .i64 bad')):=by
 have e:∀{b:Nat} {o:Obj},b≠g→W.heap[b]?=some o→((((W.setCell ⟨g,0,none⟩ (.slice a n c)).setCell ⟨g,1,none⟩ (.int .i64 j')).setCell ⟨g,2,none⟩ (.int .i64 fin)).setCell ⟨g,3,none⟩ (.int .i64 bad')).heap[b]?=some o:=fun hb h=>
  ah (ah (ah (ah h hb) hb) hb) hb
 exact⟨abe h.pb,e Z h.xb,e Z h.r1,e Z h.r2,(((h.bm.setCell (p:=⟨g,0,none⟩) d _).setCell (p:=⟨g,1,none⟩) d _).setCell (p:=⟨g,2,none⟩) d _).setCell (p:=⟨g,3,none⟩) d _⟩
end
def Nx6(a:Option Addr)(n c i:Nat)(fin:Int)(ws:List Wd)(b:Bool)(w:World)(e:Ending)(w':World):Prop :=
 ∃j bad,e=.returned (pv a n c j fin bad)∧((b=true∧i<n∧j=i+1∧bad=0)∨((b=false∨n≤i)∧bad≠0))∧Below w.heap.size w w'
theorem Lk{w:World}{a:Option Addr}{n c:Nat}{ws:List Wd}(g:j7 w [.slice a n c] ws)(k:n≤1000){fin:Int}(l:∀j,cO ws fin j≠0)(i:Nat)(b:Bool):Calls prog 75 #[pv a n c i fin 0,.bool b] w (Nx6 a n c i fin ws b w) :=
 (Ed g k i fin b).mono fun e w' h=>by
  rcases h with⟨⟨h1,m,d⟩|⟨h1,d⟩,f⟩
  ·exact⟨i+1,0,d,.inl ⟨h1,m,rfl,rfl⟩,f⟩
  exact⟨i,_,d,.inr ⟨h1,l i⟩,f⟩
end
section
open Shelf RowKit Lib av cy
open ac (Wd)
attribute [local go_sem ↓] wp_at_zero wp_at_succ
set_option linter.unusedVariables false in
theorem zxd{ws:List Wd}(hw:j7 w [.slice a n c] ws)(T:n≤1000)(hz:∀x∈ws,x.2.length≤70000){fin:Int}(U:∀j,cO ws fin j≠0)(i:Nat){first:ByteArray}{line:Int}{p:ap}{d2:Nat} 
  (X:p.name=nm) (aa:p.line=li) (aP:zz w t B p (.slice b2 m2 d2) (.slice b3 m3 d3) (.slice b4 m4 d4) (.slice b5 m5 d5) (.slice b6 m6 d6) (.slice b7 m7 d7)) (hp:z9 p) (iO:B≤w.heap.size) (hf:first=kY) :
  Calls prog 79 #[.string first,.int .i64 line,pv a n c i fin 0,.agg #[.string nm,.int .i64 li,.slice b2 m2 d2,.slice b3 m3 d3,.slice b4 m4 d4,.slice b5 m5 d5,.slice b6 m6 d6,.slice b7 m7 d7]] w (zh a n c fin ws i t B first line p w):=by
 refine KY ?_;intro hn g hg W1 aK eV fA bZ fe jL s hs hW a_ c0 c1 c2 c3;have ay:(first.toList==[118,101,114,115,105,111,110])=false:=CM;have aB:(first.toList==[118,97,114,105,97,110,116])=false:=IK;have aC:(first.toList==[112,114,111,118,105,100,101,115])=false:=QS;have aE:(first.toList==[102,105,108,101])=true:=ase;obtain⟨bt,fP⟩:=Y (uk s);have aF:decide ((s.size:Int)≤60)=bt:=by rw[fP];unfold uk;exact decide_eq_decide.2 Z
 revert hw hz U X aa aP hf hn eV fA fe jL hs hW a_ fP;refine GB ?_;intro _ _ ab mj rq HH y Hn _ ad _ ai A aj ir C;revert hp iO;refine RY ?_;intro Ak mH HG;go_upto_region 1 with (fail);refine KB ?_;clear aK hg;go_wp2_with fail;refine aj.o.mono ?_;rintro e w2 ⟨rfl,af⟩;have r:=ad.o.to af;clear c0 c1 c2 c3;have F:=Lk (ai.o _ r.bm) T ab.o i bt;obtain⟨⟨bF,bG,bH,bD⟩,-⟩:=a8 r.pb;obtain⟨bh,uW,lQ⟩:=aQ af r F;clear af r F;go_wp2_with fail;refine lQ.o.mono ?_;rintro e wz ⟨j3,da,rfl,p_,H⟩;have K:=uW.o.to H;clear bF bG bH bD;obtain⟨pJ,gV,df⟩:=aQ p_ H K;clear p_ H K;obtain⟨⟨bF,bG,bH,bD⟩,cC,cD,cB,cF⟩:=a8 df.o.pb;go_upto_region 19 with (fail);revert bF bG bH bD cC cD cB cF;refine aik ?_;intro w3 cN;refine Gy ?_;intro iw;obtain⟨css,hr⟩:=iw.files;obtain⟨_,_,e0⟩:=bg hr.row;have cg:m7=p.files.length:=yV;clear e0;refine Bk ?_;intro N aY hN;have aI:m7≤70000:=by rw[cg];exact Ak.o.2.2.2.2.2
 refine Gw ?_;intro sj;have b_:=J cN.o.xb 7;simp only[aq,ar,aw]at b_;revert iw hr cg aY hN;refine bU ?_;intro uR Hr qT bY HN;go_wp2_with (at_builtin;(refine kZ Ag rfl (.tmp 84) (.tmp 86) rfl B (.slice b7 m7 d7) m7 N rfl bY.o 1 #[.string s] rfl rfl dW Z cY sj ?_;intro v9 w9 aZ aT ia;obtain⟨a9,c9,rfl⟩:=bg aZ;have v:=bI cN.o.xb (eS aT) (dM bY.o cN.o.xb D);have L:=J v 7;have ak:=aG v 7;simp only[aq,ar,aw]at L;obtain⟨Hxb9,dY,fq,Hmv9⟩:=kg v aZ aT ia;clear aZ aT ia v));have eY:=eS fq.o;have qZ:=bI cN.o.pb eY (dM bY.o cN.o.pb D);refine Rq ?_;intro lY lZ;have al:=uR.o.Pi (q:=s) Hr.o (zou ⟨rfl,auk⟩) (v9:=.slice a9 (m7+1) c9) I_ fq.o Hmv9.o;obtain⟨cH,et⟩:=Y (w9.setCell ⟨g+1,7,none⟩ (.slice a9 (m7+1) c9));have an:cH.heap[g+1]?=some (.cells #[.string nm,.int .i64 li,.slice b2 m2 d2,.slice b3 m3 d3,.slice b4 m4 d4,.slice b5 m5 d5,.slice b6 m6 d6,.slice a9 (m7+1) c9] 45 (0,0)):=by rw[et];exact ag w9 (g+1) 7 _ _ _ Hxb9.o
 have ao:es g a n c j3 fin da cH:=Mp;refine Gx ?_;intro nh ng ep;clear et L ak b_;revert eY qZ lY lZ al an ao nh ng ep;refine dE ?_;intro kJ IM CN CO wD qM BW fY mB lW;refine Bl ?_;intro bF bG bH bD iD fb fC fD cC cD cB cF jV jW jX jY jZ j8 j9 jU b_ fU hd g_ jt jw jB jx jD jy jE jz jF jA jG js;go_wp2_with fail;obtain⟨WF,eJ⟩:=Y (((((((((((((cH).setCell ⟨g+2,0,none⟩ (.string nm)).setCell ⟨g+2,1,none⟩ (.int .i64 li)).setCell ⟨g+2,2,none⟩ (.slice b2 m2 d2)).setCell ⟨g+2,3,none⟩ (.slice b3 m3 d3)).setCell ⟨g+2,4,none⟩ (.slice b4 m4 d4)).setCell ⟨g+2,5,none⟩ (.slice b5 m5 d5)).setCell ⟨g+2,6,none⟩ (.slice b6 m6 d6)).setCell ⟨g+2,7,none⟩ (.slice a9 (m7+1) c9)).setCell ⟨g+3,0,none⟩ (.slice a n c)).setCell ⟨g+3,1,none⟩ (.int .i64 j3)).setCell ⟨g+3,2,none⟩ (.int .i64 fin)).setCell ⟨g+3,3,none⟩ (.int .i64 da));have x1:WF.heap[g+2]?=some (.cells #[.string nm,.int .i64 li,.slice b2 m2 d2,.slice b3 m3 d3,.slice b4 m4 d4,.slice b5 m5 d5,.slice b6 m6 d6,.slice a9 (m7+1) c9] 45 (0,0)):=by rw[eJ];exact ah (b:=g+3) (i:=3) (u:=.int .i64 da) (ah (b:=g+3) (i:=2) (u:=.int .i64 fin) (ah (b:=g+3) (i:=1) (u:=.int .i64 j3) (ah (b:=g+3) (i:=0) (u:=.slice a n c) (ag _ (g+2) 7 _ _ (.slice a9 (m7+1) c9) (ag _ (g+2) 6 _ _ (.slice b6 m6 d6) (ag _ (g+2) 5 _ _ (.slice b5 m5 d5) (ag _ (g+2) 4 _ _ (.slice b4 m4 d4) (ag _ (g+2) 3 _ _ (.slice b3 m3 d3) (ag _ (g+2) 2 _ _ (.slice b2 m2 d2) (ag _ (g+2) 1 _ _ (.int .i64 li) (ag _ (g+2) 0 _ _ (.string nm) (fY.o))))))))) Z) Z) Z) Z
 have x2:es (g+3) a n c j3 fin da WF:=by rw[eJ];exact ag _ (g+3) 3 _ _ (.int .i64 da) (ag _ (g+3) 2 _ _ (.int .i64 fin) (ag _ (g+3) 1 _ _ (.int .i64 j3) (ag _ (g+3) 0 _ _ (.slice a n c) (ah (b:=g+2) (i:=7) (u:=.slice a9 (m7+1) c9) (ah (b:=g+2) (i:=6) (u:=.slice b6 m6 d6) (ah (b:=g+2) (i:=5) (u:=.slice b5 m5 d5) (ah (b:=g+2) (i:=4) (u:=.slice b4 m4 d4) (ah (b:=g+2) (i:=3) (u:=.slice b3 m3 d3) (ah (b:=g+2) (i:=2) (u:=.slice b2 m2 d2) (ah (b:=g+2) (i:=1) (u:=.int .i64 li) (ah (b:=g+2) (i:=0) (u:=.string nm) (mB.o) Z) Z) Z) Z) Z) Z) Z) Z))))
 revert bF bG bH bD iD fb fC fD cC cD cB cF jV jW jX jY jZ j8 j9 jU b_ fU hd g_ jt jw jB jx jD jy jE jz jF jA jG js eJ;refine Ky ?_;intro gE;have au:am (fun z=>(g≤z)∨(aJ t w.heap.size 10 z=9∧¬Ty w z)) w3 w9:=kJ.o.mono fun z _ hz=>.inr ⟨Hr.o.tag z hz,fun rY=>ly Hr.o D hz (rY.o8 (am.ce (S:=fun _=>False) cN.o.bm) id)⟩;have rf:am (fun z=>(g≤z)∨(aJ t w.heap.size 10 z=9∧¬Ty w z)) w3 WF:=(au.trans lW.o fun z _ hz=>.inl Mq).trans gE fun z _ hz=>.inl EE;refine Oq ?_;intro pN;have lR:∀z,g≤z→aJ (aJ t w.heap.size 10) w3.heap.size 9 z=(if z<w3.heap.size then 10 else 9):=fun z hz=>by exact Ow
 have aM:g+3<w3.heap.size:=(bS.1 cN.o.r2).1
 have xW:=(wD.o.to (t':=aJ (aJ t w.heap.size 10) w3.heap.size 9) lW.o (fun z _ hz=>by
  rw[hz,lR _ Z,M Z];exact⟨pH,Z,dF Hxb9.o D⟩) (fun _ _ _=>rfl)).to (t':=aJ (aJ t w.heap.size 10) w3.heap.size 9) gE (fun z _ hz=>by
  revert hz;refine Oz ?_;intro h;exact⟨pH,Z,dF mB.o D⟩) (fun _ _ _=>rfl)
 refine WR ?_;intro xW;rcases pJ.o with⟨h1,R,_,av⟩|⟨h1,R⟩
 ·refine .inl ⟨av,{ p with files:=p.files++[s] },_,rfl,rfl,xW,fun ax=>?_,fun ax=>?_,gl,fun k hk=>?_⟩
  ·rw[y.o];show (p8 uk (az ws i)).map _=_;rw[Ib Z (by rw[←A.o,←C.o];exact h1),←A.o];rfl
  ·rw[y.o];show (p8 uk (az ws i)).map _=_;rw[vT (.inr (.inr Z))];rfl
  exact Oy
 refine .inr ⟨R,?_⟩;rw[y.o];show (p8 uk (az ws i)).map _=_
 rw[vT (by
  rcases h1 with h|h
  ·exact .inr (.inl (by rw[←A.o,←C.o];exact h))
  exact .inl gl)]
 rfl
set_option linter.unusedVariables false in
theorem zxc{ws:List Wd}(hw:j7 w [.slice a n c] ws)(cz:n≤1000)(hz:∀x∈ws,x.2.length≤70000){fin:Int}(A:∀j,cO ws fin j≠0)(i:Nat){first:ByteArray}{line:Int}{p:ap}{d2:Nat} 
  (C:p.name=nm) (F:p.line=li) (aP:zz w t B p (.slice b2 m2 d2) (.slice b3 m3 d3) (.slice b4 m4 d4) (.slice b5 m5 d5) (.slice b6 m6 d6) (.slice b7 m7 d7)) (hp:z9 p) (iO:B≤w.heap.size) (hf:first=kX) :
  Calls prog 79 #[.string first,.int .i64 line,pv a n c i fin 0,.agg #[.string nm,.int .i64 li,.slice b2 m2 d2,.slice b3 m3 d3,.slice b4 m4 d4,.slice b5 m5 d5,.slice b6 m6 d6,.slice b7 m7 d7]] w (zh a n c fin ws i t B first line p w):=by
 refine KY ?_;intro hn g hg W1 aK eV fA bZ fe jL s hs hW a_ c0 c1 c2 c3;have L:(first.toList==[118,101,114,115,105,111,110])=false:=CM;have R:(first.toList==[118,97,114,105,97,110,116])=false:=IK;have T:(first.toList==[112,114,111,118,105,100,101,115])=true:=QS;revert hw hz A C F aP hf hn eV fA fe jL hs hW a_;refine uv ?_;intro Hw Hz fM mj rq HH Hf Hn ss nX kV qg Hs HW ir;revert hp iO;refine RY ?_;intro Ak mH HG;go_upto_region 1 with (fail);refine KB ?_;clear aK hg;go_wp2_with fail;refine HW.o.mono ?_;rintro e w2 ⟨rfl,af⟩;have r:=nX.o.to af;clear c0 c1 c2 c3;obtain⟨bh,uW⟩:=ak af r;clear af r;go_upto_region 15 with (fail);refine WS ?_;intro oU hHeld wd bQ aV;have y:=CG s Ih wd;obtain⟨dI,qO,Lx⟩:=aQ bQ aV y;clear bQ aV y;refine KL ?_;refine dO rfl (fun K hK=>?_) (dO rfl (fun K hK=>?_) ij)
 ·revert K hK;refine zM ?_;intro hHeld;refine c_ 2 fun K hK=>?_;revert K hK;refine R7 ?_;intro wt bt he qH ki hHeld gC;exact adt
 revert K hK;refine R7 ?_;intro wt bt he qH ki hHeld gC;refine Kt ?_;intro hHeld;exact adt
end
section
open Shelf RowKit Lib av cy
open ac (Wd)
attribute [local go_sem ↓] wp_at_zero wp_at_succ
section
variable (w:World)(g:Nat)(a:Option Addr)(n c:Nat)(fin:Int)(A:Array Value)(ws:List Wd)(i:Nat)(b:Bool)
def NxC(W:World):Prop:=∃j bad,Bd6 w g a n c fin A j bad W∧((b=true∧i<n∧j=i+1∧bad=0)∨((b=false∨n≤i)∧bad≠0))
def MidC(v:Value)(W:World):Prop:=∃old j bad,v=.bool old∧Bd6 w g a n c fin A j bad W∧((b=true∧i<n∧j=i+1∧bad=0∧old=decide (i+1<n))∨((b=false∨n≤i)∧bad≠0∧old=false))
def VerD(ws:List Wd)(old:Bool)(j:Nat)(bad:Int):Prop :=
 (bad=0∧b=true∧i<n∧((old=false∧j=i+1∧n≤i+1)∨(old=true∧j=i+2∧i+1<n∧aD ws (i+1)=D1)))∨(bad≠0∧(b=false∨n≤i∨(i+1<n∧aD ws (i+1)≠D1)))
def VerC(v:Value)(W:World):Prop:=∃old j bad,v=.bool old∧Bd6 w g a n c fin A j bad W∧VerD n i b ws old j bad
end
set_option linter.unusedVariables false in
theorem ya0{w:World}{a:Option Addr}{n c:Nat}{ws:List Wd}(hw:j7 w [.slice a n c] ws)(cz:n≤1000)(hz:∀x∈ws,x.2.length≤70000){fin:Int}(au:∀j,cO ws fin j≠0)(i:Nat){first:ByteArray}{line:Int}{p:ap}{d2:Nat} 
  (av:p.name=nm) (ax:p.line=li) (aP:zz w t B p (.slice b2 m2 d2) (.slice b3 m3 d3) (.slice b4 m4 d4) (.slice b5 m5 d5) (.slice b6 m6 d6) (.slice b7 m7 d7)) (hp:z9 p) (iO:B≤w.heap.size) (hf:first=nZ) :
  Calls prog 79 #[.string first,.int .i64 line,pv a n c i fin 0,.agg #[.string nm,.int .i64 li,.slice b2 m2 d2,.slice b3 m3 d3,.slice b4 m4 d4,.slice b5 m5 d5,.slice b6 m6 d6,.slice b7 m7 d7]] w (zh a n c fin ws i t B first line p w):=by
 refine KY ?_;intro hn g hg W1 aK eV fA bZ fe jL s hs hW a_ c0 c1 c2 c3;have aX:(first.toList==[118,101,114,115,105,111,110])=true:=CM;obtain⟨bv,vV⟩:=Y (tS s);revert hw hz au av ax aP hf hn eV fA fe jL hs hW a_;refine uv ?_;intro Hw Hz fM mj rq HH Hf Hn ss nX kV qg Hs HW ir;revert hp iO;refine RY ?_;intro Ak mH HG;go_upto_region 1 with (fail);refine KB ?_;clear aK hg;go_wp2_with fail;refine HW.o.mono ?_;rintro e w2 ⟨rfl,af⟩;have ab:=nX.o.to af;clear c0 c1 c2 c3;have rA:=aH vV;clear vV;obtain⟨bh,uW⟩:=ak af ab;clear af ab;go_upto_region 4 with (fail);go_cut [22] (fun _ W=>NxC w g a n c fin #[.string nm,.int .i64 li,.slice b2 m2 d2,.slice b3 m3 d3,.slice b4 m4 d4,.slice b5 m5 d5,.slice b6 m6 d6,.slice b7 m7 d7] i bv W)
 case first=>
  refine WS ?_;intro oU hHeld wd bQ aV;have ad:=NI s Ih wd;obtain⟨dI,qO,Lx⟩:=aQ bQ aV ad;clear bQ aV ad;refine KL ?_;refine dO rfl (fun K hK=>?_) (dO rfl (fun K hK=>?_) ij)
  ·revert K hK;refine zM ?_;intro hHeld;refine c_ 2 fun K hK=>?_;revert K hK;refine amu ?_;intro wt bt he qH ki hHeld gC;exact Rl
  revert K hK;refine amu ?_;intro wt bt he qH ki hHeld gC;refine Kt ?_;intro hHeld;exact Rl
 case rest=>
  obtain⟨j3,da,mV,p_⟩:=hcut;obtain⟨w3,ea⟩:=Y wc;rw[←ea]at mV⊢;clear ea;have cN:=aH mV;clear mV;go_upto_region 5 with (fail);go_cut [11] (fun v W=>MidC w g a n c fin #[.string nm,.int .i64 li,.slice b2 m2 d2,.slice b3 m3 d3,.slice b4 m4 d4,.slice b5 m5 d5,.slice b6 m6 d6,.slice b7 m7 d7] i bv v W)
  case first=>
   rcases p_ with⟨h1,h2,A,C⟩|⟨h1,h2⟩
   ·subst C;obtain⟨⟨bF,bG,bH,bD⟩,-⟩:=a8 cN.o.pb;have ay:=CI w3 a n c j3 fin 0;revert h1 h2 A ay;refine bV ?_;intro H1 H2 H3 Lu;go_wp2_with fail;refine Lu.o.mono ?_;rintro e w4 ⟨rfl,bA⟩;have F:=cN.o.to bA;clear bF bG bH bD;obtain⟨dL,R⟩:=ak bA F;clear bA F;go_wp2_with fail;go_meet
    exact⟨_,j3,0,rfl,R.o,.inl ⟨H1.o,H2.o,H3.o,rfl,by rw[H3.o]⟩⟩
   have a1:(da==0)=false:=SN;obtain⟨⟨bF,bG,bH,bD⟩,-⟩:=a8 cN.o.pb;obtain⟨H1,H2⟩:=ak h1 h2;clear h1 h2;go_wp2_with fail;go_meet
   exact⟨_,j3,da,rfl,cN.o,.inr ⟨H1.o,H2.o,rfl⟩⟩
  case rest=>
   obtain⟨_,j4,aB,rfl,F,ai⟩:=hcut;obtain⟨w4,eM⟩:=Y wc;rw[←eM]at F⊢;clear eM p_;have R:=aH F;clear F;go_upto_if 30 with (fail);go_cut [11] (fun v W=>VerC w g a n c fin #[.string nm,.int .i64 li,.slice b2 m2 d2,.slice b3 m3 d3,.slice b4 m4 d4,.slice b5 m5 d5,.slice b6 m6 d6,.slice b7 m7 d7] ws i bv v W)
   case first=>
    rcases ai with⟨h1,h2,A,C,y⟩|⟨h1,h2,y⟩
    ·subst C;by_cases T:i+1<n
     ·rw[aO T]at y;subst y;revert h1 h2 A T;refine bV ?_;intro H1 H2 H3 LI;go_upto_region 7 with (fail);refine vH ?_;intro oU hHeld;have bQ:Below w4.heap.size w4 w4.drew:=dA (aL _ _);generalize w4.drew=wd at bQ⊢;have aV:=R.o.to bQ;have aj:=B3 (qg.o _ aV.bm) j4 fin 0;obtain⟨o6,CA⟩:=Y (aD ws j4);rw[←CA]at aj;have aC:=jb o6 [111,108,100] D1 rfl;obtain⟨bt,fP⟩:=Y (decide (o6=D1));rw[←fP]at aC;revert bQ aV aj CA fP;refine bU ?_;intro dI qO ZN PG ki;refine mr (rs:=[0,1]) aA ae ?_;refine dO rfl (fun K hK=>?_) (dO rfl (fun K hK=>?_) ij)
      ·revert K hK;refine zM ?_;intro hHeld;refine c_ 1 fun K hK=>?_;exact aij
      revert K hK;refine zM ?_;intro hHeld;refine mr (rs:=[0,2]) aA ae ?_;refine dO rfl (fun K hK=>?_) (dO rfl (fun K hK=>?_) ij)
      ·exact aij
      refine Ro ?_;intro wt eI gC;revert K hK;refine j_ ?_;intro hHeld;refine bB 3 ?_;refine Kt ?_;intro hHeld;exact ahe
     rw[be T]at y;subst y;revert h1 h2 A T;refine bV ?_;intro H1 H2 H3 LI;go_wp2_with fail;go_meet
     exact⟨_,j4,0,rfl,R.o,.inl ⟨rfl,H1.o,H2.o,.inl ⟨rfl,H3.o,by have:=LI.o;omega⟩⟩⟩
    subst y;obtain⟨H1,H2⟩:=ak h1 h2;clear h1 h2;go_wp2_with fail;go_meet
    exact⟨_,j4,aB,rfl,R.o,.inr ⟨H2.o,H1.o.elim .inl fun h=>.inr (.inl h)⟩⟩
   case rest=>
    obtain⟨X,j3,da,rfl,mV,al⟩:=hcut;obtain⟨w3,ea⟩:=Y wc;rw[←ea]at mV⊢;clear ea ai cN;obtain⟨cN,HE⟩:=ak mV al;clear mV al;refine Gy ?_;intro iw;obtain⟨css,hr⟩:=iw.rel;obtain⟨_,_,e0⟩:=bg hr.row;have cg:m2=p.rel.length:=yV;clear e0;refine Bk ?_;intro N aY hN;have a6:m2≤70000:=by rw[cg];exact Ak.o.1
    refine Gw ?_;intro sj;have b_:=J cN.o.xb 2;simp only[aq,ar,aw]at b_;revert iw hr cg aY hN;refine bU ?_;intro uR Hr qT bY HN;go_wp2_with (at_builtin;(refine kZ zu9 rfl (.tmp 37) (.tmp 41) rfl B (.slice b2 m2 d2) m2 N rfl bY.o 1 #[.string s,.bool X] rfl rfl dW Z cY sj ?_;intro v9 w9 aZ aT ia;obtain⟨a9,c9,rfl⟩:=bg aZ;have U:=bI cN.o.xb (eS aT) (dM bY.o cN.o.xb D);have an:=J U 2;have aE:=aG U 2;simp only[aq,ar,aw]at an;obtain⟨Hxb9,dY,fq,Hmv9⟩:=kg U aZ aT ia;clear aZ aT ia U));have eY:=eS fq.o;have qZ:=bI cN.o.pb eY (dM bY.o cN.o.pb D);refine Rq ?_;intro lY lZ;have aF:=uR.o.aaj (q:=(s,X)) Hr.o (zou rfl) (v9:=.slice a9 (m2+1) c9) I_ fq.o Hmv9.o;obtain⟨cH,et⟩:=Y (w9.setCell ⟨g+1,2,none⟩ (.slice a9 (m2+1) c9));have aI:cH.heap[g+1]?=some (.cells #[.string nm,.int .i64 li,.slice a9 (m2+1) c9,.slice b3 m3 d3,.slice b4 m4 d4,.slice b5 m5 d5,.slice b6 m6 d6,.slice b7 m7 d7] 45 (0,0)):=by rw[et];exact ag w9 (g+1) 2 _ _ _ Hxb9.o
    have aM:es g a n c j3 fin da cH:=Mp;refine Gx ?_;intro nh ng ep;clear et an aE b_;revert eY qZ lY lZ aF aI aM nh ng ep;refine dE ?_;intro kJ IM CN CO wD qM BW fY mB lW;refine Bl ?_;intro bF bG bH bD iD fb fC fD cC cD cB cF jV jW jX jY jZ j8 j9 jU b_ fU hd g_ jt jw jB jx jD jy jE jz jF jA jG js;go_wp2_with fail;obtain⟨WF,eJ⟩:=Y (((((((((((((cH).setCell ⟨g+2,0,none⟩ (.string nm)).setCell ⟨g+2,1,none⟩ (.int .i64 li)).setCell ⟨g+2,2,none⟩ (.slice a9 (m2+1) c9)).setCell ⟨g+2,3,none⟩ (.slice b3 m3 d3)).setCell ⟨g+2,4,none⟩ (.slice b4 m4 d4)).setCell ⟨g+2,5,none⟩ (.slice b5 m5 d5)).setCell ⟨g+2,6,none⟩ (.slice b6 m6 d6)).setCell ⟨g+2,7,none⟩ (.slice b7 m7 d7)).setCell ⟨g+3,0,none⟩ (.slice a n c)).setCell ⟨g+3,1,none⟩ (.int .i64 j3)).setCell ⟨g+3,2,none⟩ (.int .i64 fin)).setCell ⟨g+3,3,none⟩ (.int .i64 da));have x1:WF.heap[g+2]?=some (.cells #[.string nm,.int .i64 li,.slice a9 (m2+1) c9,.slice b3 m3 d3,.slice b4 m4 d4,.slice b5 m5 d5,.slice b6 m6 d6,.slice b7 m7 d7] 45 (0,0)):=by rw[eJ];exact ah (b:=g+3) (i:=3) (u:=.int .i64 da) (ah (b:=g+3) (i:=2) (u:=.int .i64 fin) (ah (b:=g+3) (i:=1) (u:=.int .i64 j3) (ah (b:=g+3) (i:=0) (u:=.slice a n c) (ag _ (g+2) 7 _ _ (.slice b7 m7 d7) (ag _ (g+2) 6 _ _ (.slice b6 m6 d6) (ag _ (g+2) 5 _ _ (.slice b5 m5 d5) (ag _ (g+2) 4 _ _ (.slice b4 m4 d4) (ag _ (g+2) 3 _ _ (.slice b3 m3 d3) (ag _ (g+2) 2 _ _ (.slice a9 (m2+1) c9) (ag _ (g+2) 1 _ _ (.int .i64 li) (ag _ (g+2) 0 _ _ (.string nm) (fY.o))))))))) Z) Z) Z) Z
    have x2:es (g+3) a n c j3 fin da WF:=by rw[eJ];exact ag _ (g+3) 3 _ _ (.int .i64 da) (ag _ (g+3) 2 _ _ (.int .i64 fin) (ag _ (g+3) 1 _ _ (.int .i64 j3) (ag _ (g+3) 0 _ _ (.slice a n c) (ah (b:=g+2) (i:=7) (u:=.slice b7 m7 d7) (ah (b:=g+2) (i:=6) (u:=.slice b6 m6 d6) (ah (b:=g+2) (i:=5) (u:=.slice b5 m5 d5) (ah (b:=g+2) (i:=4) (u:=.slice b4 m4 d4) (ah (b:=g+2) (i:=3) (u:=.slice b3 m3 d3) (ah (b:=g+2) (i:=2) (u:=.slice a9 (m2+1) c9) (ah (b:=g+2) (i:=1) (u:=.int .i64 li) (ah (b:=g+2) (i:=0) (u:=.string nm) (mB.o) Z) Z) Z) Z) Z) Z) Z) Z))))
    revert bF bG bH bD iD fb fC fD cC cD cB cF jV jW jX jY jZ j8 j9 jU b_ fU hd g_ jt jw jB jx jD jy jE jz jF jA jG js eJ;refine Ky ?_;intro gE;have aU:am (fun z=>(g≤z)∨(aJ t w.heap.size 10 z=4∧¬Ty w z)) w3 w9:=kJ.o.mono fun z _ hz=>.inr ⟨Hr.o.tag z hz,fun rY=>ly Hr.o D hz (rY.o8 (am.ce (S:=fun _=>False) cN.o.bm) id)⟩;have rf:am (fun z=>(g≤z)∨(aJ t w.heap.size 10 z=4∧¬Ty w z)) w3 WF:=(aU.trans lW.o fun z _ hz=>.inl Mq).trans gE fun z _ hz=>.inl EE;refine Oq ?_;intro pN;have lR:∀z,g≤z→aJ (aJ t w.heap.size 10) w3.heap.size 4 z=(if z<w3.heap.size then 10 else 4):=fun z hz=>by exact Ow
    have a7:g+3<w3.heap.size:=(bS.1 cN.o.r2).1
    have xW:=(wD.o.to (t':=aJ (aJ t w.heap.size 10) w3.heap.size 4) lW.o (fun z _ hz=>by
     rw[hz,lR _ Z,M Z];exact⟨pH,Z,dF Hxb9.o D⟩) (fun _ _ _=>rfl)).to (t':=aJ (aJ t w.heap.size 10) w3.heap.size 4) gE (fun z _ hz=>by
     revert hz;refine Oz ?_;intro h;exact⟨pH,Z,dF mB.o D⟩) (fun _ _ _=>rfl)
    refine WR ?_;intro xW
    have L:∀r,Fr (az ws i)=r→dw first line p (az ws i)=r.map fun q=>{ p with rel:=p.rel++[q] }:=fun r h=>by
     rw[Hf.o];show (Fr (az ws i)).map _=_;rw[h]
    have ba:=Hn.o;rcases HE.o with⟨h1,h2,A,C⟩|⟨h1,h2⟩
    ·rw[rA.o,Hs.o]at h2;refine .inl ⟨h1,{ p with rel:=p.rel++[(s,X)] },_,rfl,rfl,xW,fun aW=>?_,fun aW=>?_,by rcases C with⟨_,h,_⟩|⟨_,h,_⟩<;>omega,fun k hk=>?_⟩
     ·rcases C with⟨rfl,y,aa⟩|⟨rfl,y,aa,ao⟩
      ·rw[L _ (yaf Z h2),←Hs.o];rfl
      rw[L _ (yae Z h2 ao),←Hs.o];rfl
     ·rcases C with⟨rfl,y,aa⟩|⟨rfl,y,aa,ao⟩
      ·omega
      rw[L _ (zoh Z (.inr Z))];rfl
     exact Oy
    refine .inr ⟨h1,?_⟩;rcases h2 with h2|h2|⟨h2,A⟩
    ·rw[L _ (zpg (.inr (by rw[←Hs.o,←rA.o];exact h2)))];rfl
    ·rw[L _ (zpg (.inl Z))];rfl
    rw[L _ (zoh Z (.inl A))];rfl
end
section
open Shelf RowKit Lib av cy
open ac (Wd)
structure Rq6(w w5:World)(hp hc:Nat)(a:Option Addr)(n c:Nat)(fin:Int)(T:TypeId)(A:Array Value)(j:Nat)(bad:Int)(W:World):Prop where
 pb:es hp a n c j fin bad W
 cb:W.heap[hc]?=some (.cells A T (0,0))
 bm:Below w.heap.size w W
 gc:am (fun k=>k=hp∨k=hc) w5 W
section
variable {w w5 W W':World}{hp hc:Nat}{a:Option Addr}{n c:Nat}{fin:Int}{T:TypeId}{A:Array Value}{j j':Nat}{bad bad':Int}
theorem Rq6.to(h:Rq6 w w5 hp hc a n c fin T A j bad W)(b:Below W.heap.size W W'):Rq6 w w5 hp hc a n c fin T A j bad W':=⟨G b h.pb,G b h.cb,h.bm.trans (b.mono h.bm.size),kS h.gc b⟩
theorem Rq6.abn(h:Rq6 w w5 hp hc a n c fin T A j bad W)(b:w.heap.size≤hp∧hc≠hp):Rq6 w w5 hp hc a n c fin T A j' bad' ((((W.setCell ⟨hp,0,none⟩ (.slice a n c)).setCell ⟨hp,1,none⟩ (.int .i64 j')).setCell ⟨hp,2,none⟩ (.int .i64 fin)).setCell ⟨hp,3,none⟩ (.int .i64 bad')):=by
 refine⟨abe h.pb,ah (ah (ah (ah h.cb b.2) b.2) b.2) b.2,(((h.bm.setCell (p:=⟨hp,0,none⟩) b.1 _).setCell (p:=⟨hp,1,none⟩) b.1 _).setCell (p:=⟨hp,2,none⟩) b.1 _).setCell (p:=⟨hp,3,none⟩) b.1 _,?_⟩;exact (((h.gc.setCell (p:=⟨hp,0,none⟩) (.inr (.inl rfl)) _).setCell (p:=⟨hp,1,none⟩) (.inr (.inl rfl)) _).setCell (p:=⟨hp,2,none⟩) (.inr (.inl rfl)) _).setCell (p:=⟨hp,3,none⟩) (.inr (.inl rfl)) _
theorem Rq6.setc(h:Rq6 w w5 hp hc a n c fin T A j bad W)(b:w.heap.size≤hc∧hc≠hp)(k:Nat)(v:Value):Rq6 w w5 hp hc a n c fin T (A.setIfInBounds k v) j bad (W.setCell ⟨hc,k,none⟩ v) :=
 ⟨ah h.pb b.2.symm,ag _ _ _ _ _ _ h.cb,h.bm.setCell (p:=⟨hc,k,none⟩) b.1 _,h.gc.setCell (p:=⟨hc,k,none⟩) (.inr (.inr rfl)) _⟩
end
theorem Bd6.gc{w W W':World}{a:Option Addr}{n c:Nat}{fin:Int}{A:Array Value}{j:Nat}{bad:Int}{T:Nat→Prop}(h:Bd6 w g a n c fin A j bad W)(_:w.heap.size≤g)(hF:am T W W')(hT:∀k,T k→g+4≤k):Bd6 w g a n c fin A j bad W' :=
 ⟨bI h.pb hF fun k=>S9,bI h.xb hF fun k=>S9,bI h.r1 hF fun k=>S9,bI h.r2 hF fun k=>S9,h.bm.trans (hF.below h.bm.size fun k hk=>by have:=hT _ hk;omega)⟩
def RuC(L:Int→List ByteArray→Option ky)(w w5:World)(hp hc:Nat)(a:Option Addr)(n c:Nat)(fin:Int)(T:TypeId)(xs:ByteArray)(u v:Value)(line:Int)(ws:List Wd)(i:Nat)(W:World):Prop :=
 ∃(y:ByteArray)(d:Option Addr)(dn dc:Nat)(e:Option Addr)(en ec j5:Nat)(cG:Int),Rq6 w w5 hp hc a n c fin T #[.string xs,u,v,.string y,.slice d dn dc,.slice e en ec,.int .i64 line] j5 cG W∧
  ((cG=0∧∃s c2,Ft W (Ty W) (fun W'=>nK W' (.string xs) u v s)∧Ft W (Ty W) (fun W'=>nK W' (.string y) (.slice d dn dc) (.slice e en ec) c2)∧(j5=ws.length→L line (az ws i)=some (s,c2,line))∧(j5<ws.length→L line (az ws i)=none)∧j5≤ws.length)∨(cG≠0∧L line (az ws i)=none))
def SpC(R:List Wd→Nat→Option dj×Nat)(a:Option Addr)(n c:Nat)(fin:Int)(ws:List Wd)(j:Nat)(bad:Int)(w:World)(e:Ending)(w':World):Prop :=
 ∃x b1 n1 c1 b2 n2 c2 j5 cG,e=.returned (.tuple #[.agg #[.string x,.slice b1 n1 c1,.slice b2 n2 c2],pv a n c j5 fin cG])∧((bad=0∧cG=0∧∃s,R ws j=(some s,j5)∧x=s.1∧hU w' (.slice b1 n1 c1) s.2.1∧iy w' (.slice b2 n2 c2) s.2.2)∨(cG≠0∧(bad=0→∃k,R ws j=(none,k))))∧Below w.heap.size w w'
theorem zuq{w:World}{a:Option Addr}{n c:Nat}{ws:List Wd}(b:j7 w [.slice a n c] ws)(d:n≤1000)(f:∀x∈ws,x.2.length≤70000){fin:Int}(pw:∀j,cO ws fin j≠0)(j:Nat)(bad:Int):Calls prog 109 #[pv a n c j fin bad] w (SpC eR a n c fin ws j bad w):=by
 by_cases hb:bad=0
 ·subst hb;refine (ycy b d f pw j).mono fun e w' h=>?_;exact afs
 refine (ycx a n c j fin hb).mono fun e w' h=>?_;exact ajj
theorem zx3{w:World}{a:Option Addr}{n c:Nat}{ws:List Wd}(b:j7 w [.slice a n c] ws)(d:n≤1000)(f:∀x∈ws,x.2.length≤70000){fin:Int}(pw:∀j,cO ws fin j≠0)(j:Nat)(bad:Int):Calls prog 111 #[pv a n c j fin bad] w (SpC db a n c fin ws j bad w):=by
 by_cases hb:bad=0
 ·subst hb;refine (yf5 b d f pw j).mono fun e w' h=>?_;exact afs
 refine (yf4 a n c j fin hb).mono fun e w' h=>?_;exact ajj
end
section
open Shelf RowKit Lib av cy
open ac (Wd)
attribute [local go_sem ↓] wp_at_zero wp_at_succ
set_option linter.unusedVariables false in
theorem zvh{ws:List Wd}(hw:j7 w [.slice a n c] ws)(cz:n≤1000)(hz:∀x∈ws,x.2.length≤70000){fin:Int}(aj:∀j,cO ws fin j≠0)(i:Nat){first:ByteArray}{line:Int}{p:ap}{d2:Nat} 
  (aU:p.name=nm) (aW:p.line=li) (aP:zz w t B p (.slice b2 m2 d2) (.slice b3 m3 d3) (.slice b4 m4 d4) (.slice b5 m5 d5) (.slice b6 m6 d6) (.slice b7 m7 d7)) (hp:z9 p) (al:B≤w.heap.size) (hf:first=kv) :
  Calls prog 78 #[.string first,.int .i64 line,pv a n c i fin 0,.agg #[.string nm,.int .i64 li,.slice b2 m2 d2,.slice b3 m3 d3,.slice b4 m4 d4,.slice b5 m5 d5,.slice b6 m6 d6,.slice b7 m7 d7]] w (zh a n c fin ws i t B first line p w):=by
 refine KY ?_;intro hn g hg W1 aK eV fA bZ fe jL s hs hW a_ c0 c1 c2 c3;have bE:(first.toList==[100,101,112,101,110,100,115])=false:=Og;have an:=zx3 (jL W1 fA.bm) cz hz aj i 0;revert hw hz aj aU aW aP hf hn eV fA fe jL hs hW a_;refine uv ?_;intro Hw Hz fM mj rq HH Hf Hn ss nX kV qg Hs HW ir;have ao:=aH hp;have mH:=aH al;have HG:=aH hg;have aX:=aH an;clear hp al an;go_enter func78,ntmps78;go_upto_region 1 with (fail);refine KB ?_;clear aK hg;go_wp2_with fail;refine aX.o.mono ?_;rintro e w4 ⟨xs,ua,un,uc,va,vn,vc,j3,da,rfl,rV,bA⟩;have au:=nX.o.to bA;clear c0 c1 c2 c3;obtain⟨dL,so⟩:=ak bA au;clear bA au;obtain⟨hh,A6⟩:=Y w4.heap.size;obtain⟨w5,eT⟩:=Y (((w4.alloc (.cells #[.string xs,.slice ua un uc,.slice va vn vc] 55)).alloc (.cells #[.slice a n c,.int .i64 j3,.int .i64 fin,.int .i64 da] 150)).alloc (.cells #[.string xs,.slice ua un uc,.slice va vn vc,.string ⟨#[]⟩,.slice none 0 0,.slice none 0 0,.int .i64 line] 98));have GJ:Below w4.heap.size w4 w5:=by rw[eT];exact ((aS _ _).alloc ae _).alloc TD _
 have Im:Rq6 w w5 (hh+1) (hh+2) a n c fin 98 #[.string xs,.slice ua un uc,.slice va vn vc,.string ⟨#[]⟩,.slice none 0 0,.slice none 0 0,.int .i64 line] j3 da w5:=by
  refine⟨?_,?_,so.o.bm.trans (GJ.mono so.o.bm.size),am.refl _ _⟩
  ·rw[eT,A6];exact G (aS _ _) (dx ae)
  rw[eT,A6];exact dx ae
 have a1:=so.o.to GJ;have a6:g+4≤hh:=asz
 have a7:(da=0∧∃s,db ws i=(some s,j3)∧Ft w5 (Ty w5) (fun W'=>nK W' (.string xs) (.slice ua un uc) (.slice va vn vc) s))∨(da≠0∧mP line (az ws i)=none):=by
  rcases rV with⟨_,h1,s,h2,h3,h4,h5⟩|⟨h1,h2⟩
  ·exact api
  obtain⟨k,hk⟩:=h2 rfl;exact .inr ⟨h1,zx1 hk⟩
 obtain⟨hp,aa⟩:=Y (hh+1);obtain⟨hc,uZ⟩:=Y (hh+2);have vX:w.heap.size≤hp∧hc≠hp:=Z;have Tq:w.heap.size≤hc∧hc≠hp:=Z;have bJ:g+4≤hp:=Z;have bL:g+4≤hc:=Z;go_upto_region 13 with (fail);rw[←eT,←A6,show hh+1+1=hh+2 from rfl,←aa,←uZ];rw[←aa,←uZ]at Im;clear eT A6 aa uZ rV a6;have ba:∀W P,am (fun k=>k=hp∨k=hc) w5 W→Ft w5 (Ty w5) P→Ft W (Ty W) P:=fun W P hF h=>uY h hF fun k _ hk=>by exact aob
 revert GJ a1 a7 Im ba;refine bU ?_;intro _ bb av Mk ax;go_cut [74] (fun v W=>v=.bool (decide (da=0)&&decide (j3<n))∧Rq6 w w5 hp hc a n c fin 98 #[.string xs,.slice ua un uc,.slice va vn vc,.string ⟨#[]⟩,.slice none 0 0,.slice none 0 0,.int .i64 line] j3 da W)
 case first=>obtain⟨⟨bF,bG,bH,bD⟩,-⟩:=a8 Mk.o.pb;have D3:=CI w5 a n c j3 fin 0;exact aeg
 case rest=>
  obtain⟨rfl,yB⟩:=hcut;obtain⟨w6,cL⟩:=Y wc;rw[←cL]at yB⊢;clear cL;have Ay:=aH yB;clear yB;obtain⟨mo,Aj⟩:=Y ((decide (da=0)&&decide (j3<n)));rw[←Aj];have B7:=aH Aj;clear Aj;go_upto_if 74 with (fail);go_cut [74] (fun _ W=>RuC mP w w5 hp hc a n c fin 98 xs (.slice ua un uc) (.slice va vn vc) line ws i W)
  case first=>
   cases mo with
   |false=>
    go_wp2_with fail
    go_meet
    refine⟨⟨#[]⟩,none,0,0,none,0,0,j3,da,Ay.o,?_⟩;rcases av.o with⟨h1,C,h2,h3⟩|⟨h1,h2⟩
    ·have r:¬j3<n:=fun h=>by
      have:=B7.o;rw[aO h1,aO h]at this;cases this
     have bc:j3≤ws.length:=(zp6 h2).2;have OC:=Hn.o;exact .inl ⟨h1,C,_,ax.o _ _ Ay.o.gc h3,none_ty _,fun r=>zx0 h2 r,fun r=>Z,bc⟩
    exact .inr ⟨h1,h2⟩
   |true=>
    have bd:da=0∧j3<n:=by exact aox
    obtain⟨rfl,ay⟩:=bd
    obtain⟨C,aB,aC⟩:∃s,db ws i=(some s,j3)∧Ft w5 (Ty w5) (fun W'=>nK W' (.string xs) (.slice ua un uc) (.slice va vn vc) s):=by
     rcases av.o with⟨_,h⟩|⟨h,_⟩
     ·exact h
     exact GA
    obtain⟨Ui,R,bf⟩:=aQ ay aB aC;clear ay aB aC;go_upto_region 14 with (fail);go_cut [79] (fun _ W=>∃j6 gW,Rq6 w w5 hp hc a n c fin 98 #[.string xs,.slice ua un uc,.slice va vn vc,.string ⟨#[]⟩,.slice none 0 0,.slice none 0 0,.int .i64 line] j6 gW W∧((aD ws j3=rI∧j6=j3+1∧gW=0)∨(aD ws j3≠rI∧gW≠0)))
    case first=>refine vH ?_;intro oU hHeld;refine ant ?_;intro wd bQ aV o6 LO CA;have kt:=jb o6 [119,105,116,104] rI rfl;obtain⟨bt,fP⟩:=Y (decide (o6=rI));exact akv
    case rest=>
     obtain⟨j6,gW,F,rZ⟩:=hcut;obtain⟨w7,gL⟩:=Y wc;rw[←gL]at F⊢;clear gL;have aE:=zuq (qg.o _ F.bm) cz Hz.o fM.o j6 gW;obtain⟨⟨bF,bG,bH,bD⟩,-⟩:=a8 F.pb;obtain⟨HR7,Aa,qW⟩:=aQ F rZ aE;clear F rZ aE;go_wp2_with fail;refine qW.o.mono ?_;rintro e w8 ⟨y,d,dn,dc,e2,en,ec,j5,cG,rfl,BG,eD⟩;have IW:=HR7.o.to eD;clear bF bG bH bD;refine aeo ?_;intro kk xR w9 fN qi mJ wW G1 PE GF dB nR Zh Zi Zj;have bh:(gW=0∧cG=0∧∃s,eR ws j6=(some s,j5)∧Ft w9 (Ty w9) (fun W'=>nK W' (.string y) (.slice d dn dc) (.slice e2 en ec) s))∨(cG≠0∧(gW=0→∃k,eR ws j6=(none,k))):=by exact ajr
     go_upto_region 16 with (fail)
     rw[←fN,←xR];clear fN xR BG IW;have bj:=J wW 0;have bk:=J wW 1;have bl:=J wW 2;have bM:=aG mJ.cb 3;have bN:=aG mJ.cb 4;have bO:=aG mJ.cb 5;have bn:=J mJ.cb 3;have bo:=J mJ.cb 4;have bp:=J mJ.cb 5;obtain⟨⟨bF,bG,bH,bD⟩,-⟩:=a8 G1;obtain⟨⟨iD,fb,fC,fD⟩,cC,cD,cB,cF⟩:=a8 mJ.pb;simp only[aq,ar,aw]at bj bk bl bn bo bp;revert eD qi mJ wW G1 bh;refine bX ?_;intro si QL Me Hk9 Hq9 YM;go_wp2_with fail;go_meet
     refine akq ?_;intro Kd OC;rcases YM.o with⟨h1,h2,bq,h3,h4⟩|⟨h1,h2⟩
     ·have hw:aD ws j3=rI∧j6=j3+1:=by
       exact ams
      rw[hw.2]at h3;refine .inl ⟨h2,C,bq,ax.o _ _ Kd.gc bf.o,?_,fun r=>zwz R.o DH hw.1 h3 r,fun r=>zsi R.o DH h3 r,(zof h3).2⟩;exact adr
     refine .inr ⟨h1,?_⟩;rcases Aa.o with⟨k1,k2,k3⟩|⟨k1,k2⟩
     ·obtain⟨k,hk⟩:=h2 k3;rw[k2]at hk;exact zsj R.o DH hk
     exact zsh R.o DH k1
  case rest=>
   obtain⟨y,d,dn,dc,e2,en,ec,j5,cG,U,aF⟩:=hcut;obtain⟨w3,ea⟩:=Y wc;rw[←ea]at U aF⊢;clear ea;have aI:=bb.o.gc bZ U.gc (fun k hk=>by rcases hk with h|h<;>omega);obtain⟨xO,cN⟩:=ak U aI;clear U aI;rcases aF with⟨h0,C,c2,h1,h2,h3,h4,h5⟩|⟨h0,h1⟩
   ·revert h0 h1 h2 h3 h4 h5;refine bX ?_;intro ab ad br bs bu bw;refine Gy ?_;intro iw;obtain⟨css,hr⟩:=iw.ci;obtain⟨_,_,e0⟩:=bg hr.row;have cg:m6=p.ci.length:=yV;clear e0;refine Bk ?_;intro N aY hN;have bx:m6≤70000:=by rw[cg];exact ao.o.2.2.2.2.1
    refine Gw ?_;intro sj;have b_:=J cN.o.xb 6;revert iw hr cg aY hN b_;refine Rp ?_;intro b_ yG yM yQ yR yS yT yU uR Hr qT bY HN;go_wp2_with (at_builtin;(refine kZ zn3 rfl (.tmp 89) (.tmp 91) rfl B (.slice b6 m6 d6) m6 N rfl bY.o 1 #[.string xs,.slice ua un uc,.slice va vn vc,.string y,.slice d dn dc,.slice e2 en ec,.int .i64 line] rfl rfl dW Z cY sj ?_;intro v9 w9 aZ aT ia;obtain⟨a9,c9,rfl⟩:=bg aZ;have A:=bI cN.o.xb (eS aT) (dM bY.o cN.o.xb D);have L:=J A 6;have af:=aG A 6;simp only[aq,ar,aw]at L;obtain⟨Hxb9,dY,fq,Hmv9⟩:=kg A aZ aT ia;clear aZ aT ia A));refine RU ?_;intro eY qZ lY lZ;have bC:=uR.o.J3 (q:=(C,c2,line)) Hr.o ((MD (ad.o.and br.o)).imp fun bP hV=>⟨_,_,_,_,_,_,rfl,hV.1,hV.2⟩) (v9:=.slice a9 (m6+1) c9) I_ fq.o Hmv9.o;refine ago ?_;intro cH et oK oJ;refine Gx ?_;intro nh ng ep;clear et L af b_ yG yM yQ yR yS yT yU;revert eY qZ lY lZ bC oK oJ nh ng ep;refine dE ?_;intro kJ IM CN CO wD qM BW fY mB lW;refine Bl ?_;intro bF bG bH bD iD fb fC fD cC cD cB cF jV jW jX jY jZ j8 j9 jU b_ fU hd g_ jt jw jB jx jD jy jE jz jF jA jG js;go_wp2_with fail;revert bF bG bH bD iD fb fC fD cC cD cB cF jV jW jX jY jZ j8 j9 jU b_ fU hd g_ jt jw jB jx jD jy jE jz jF jA jG js;refine apg ?_;intro WF x1 x2 gE rh rf pN;have lR:∀z,g≤z→aJ (aJ t w.heap.size 10) w3.heap.size 8 z=(if z<w3.heap.size then 10 else 8):=fun z hz=>by exact Ow
    have bR:g+3<w3.heap.size:=(bS.1 cN.o.r2).1
    have ai:=(wD.o.to (t':=aJ (aJ t w.heap.size 10) w3.heap.size 8) lW.o (fun z _ hz=>by
     rw[hz,lR _ Z,M Z];exact⟨pH,Z,dF Hxb9.o D⟩) (fun _ _ _=>rfl)).to (t':=aJ (aJ t w.heap.size 10) w3.heap.size 8) gE (fun z _ hz=>by
     revert hz;refine Oz ?_;intro h;exact⟨pH,Z,dF mB.o D⟩) (fun _ _ _=>rfl)
    have ai:=ai.below (dA (aL _ _));refine Ox ?_;have X:dw first line p (az ws i)=(mP line (az ws i)).map fun q=>{ p with ci:=p.ci++[q] }:=by rw[Hf.o];rfl
    refine .inl ⟨ab.o,{ p with ci:=p.ci++[(C,c2,line)] },_,rfl,rfl,ai,fun r=>?_,fun r=>?_,bw.o,fun k hk=>?_⟩
    ·rw[X,bs.o r];rfl
    ·rw[X,bu.o r];rfl
    exact Oy
   obtain⟨ab,ad⟩:=ak h0 h1;clear h0 h1;refine Gy ?_;intro iw;obtain⟨css,hr⟩:=iw.ci;obtain⟨_,_,e0⟩:=bg hr.row;have cg:m6=p.ci.length:=yV;clear e0;refine Bk ?_;intro N aY hN;have bx:m6≤70000:=by rw[cg];exact ao.o.2.2.2.2.1
   refine Gw ?_;intro sj;have b_:=J cN.o.xb 6;revert iw hr cg aY hN b_;refine Rp ?_;intro b_ yG yM yQ yR yS yT yU uR Hr qT bY HN;go_wp2_with (at_builtin;(refine kZ zn3 rfl (.tmp 89) (.tmp 91) rfl B (.slice b6 m6 d6) m6 N rfl bY.o 1 #[.string xs,.slice ua un uc,.slice va vn vc,.string y,.slice d dn dc,.slice e2 en ec,.int .i64 line] rfl rfl dW Z cY sj ?_;intro v9 w9 aZ aT ia;obtain⟨a9,c9,rfl⟩:=bg aZ;have A:=bI cN.o.xb (eS aT) (dM bY.o cN.o.xb D);have L:=J A 6;have af:=aG A 6;simp only[aq,ar,aw]at L;obtain⟨Hxb9,dY,fq,Hmv9⟩:=kg A aZ aT ia;clear aZ aT ia A));refine RU ?_;intro eY qZ lY lZ;refine ago ?_;intro cH et oK oJ;refine Gx ?_;intro nh ng ep;clear et L af b_ yG yM yQ yR yS yT yU;revert eY qZ lY lZ oK oJ nh ng ep;refine fK ?_;intro kJ IM CN CO qM BW fY mB lW;refine Bl ?_;intro bF bG bH bD iD fb fC fD cC cD cB cF jV jW jX jY jZ j8 j9 jU b_ fU hd g_ jt jw jB jx jD jy jE jz jF jA jG js;go_wp2_with fail;revert bF bG bH bD iD fb fC fD cC cD cB cF jV jW jX jY jZ j8 j9 jU b_ fU hd g_ jt jw jB jx jD jy jE jz jF jA jG js;refine apg ?_;intro WF x1 x2 gE rh rf pN;refine Ox ?_;have X:dw first line p (az ws i)=(mP line (az ws i)).map fun q=>{ p with ci:=p.ci++[q] }:=by rw[Hf.o];rfl
   refine .inr ⟨ab.o,?_⟩;rw[X,ad.o];rfl
set_option linter.unusedVariables false in
theorem zy5{ws:List Wd}(hw:j7 w [.slice a n c] ws)(cz:n≤1000)(hz:∀x∈ws,x.2.length≤70000){fin:Int}(aW:∀j,cO ws fin j≠0)(i:Nat){first:ByteArray}{line:Int}{p:ap}{d2:Nat} 
  (bu:p.name=nm) (bw:p.line=li) (aP:zz w t B p (.slice b2 m2 d2) (.slice b3 m3 d3) (.slice b4 m4 d4) (.slice b5 m5 d5) (.slice b6 m6 d6) (.slice b7 m7 d7)) (hp:z9 p) (aX:B≤w.heap.size) (hf:first=lF) :
  Calls prog 78 #[.string first,.int .i64 line,pv a n c i fin 0,.agg #[.string nm,.int .i64 li,.slice b2 m2 d2,.slice b3 m3 d3,.slice b4 m4 d4,.slice b5 m5 d5,.slice b6 m6 d6,.slice b7 m7 d7]] w (zh a n c fin ws i t B first line p w):=by
 refine KY ?_;intro hn g hg W1 aK eV fA bZ fe jL s hs hW a_ c0 c1 c2 c3;have ck:(first.toList==[100,101,112,101,110,100,115])=true:=Og;have a1:=zuq (jL W1 fA.bm) cz hz aW i 0;revert hw hz aW bu bw aP hf hn eV fA fe jL hs hW a_;refine uv ?_;intro Hw Hz fM mj rq HH Hf Hn ss nX kV qg Hs HW ir;have a6:=aH hp;have mH:=aH aX;have HG:=aH hg;have bx:=aH a1;clear hp aX a1;go_enter func78,ntmps78;go_upto_region 1 with (fail);refine KB ?_;clear aK hg;go_wp2_with fail;refine bx.o.mono ?_;rintro e w4 ⟨xs,ua,un,uc,va,vn,vc,j3,da,rfl,rV,bA⟩;have a7:=nX.o.to bA;clear c0 c1 c2 c3;obtain⟨dL,so⟩:=ak bA a7;clear bA a7;obtain⟨hh,A6⟩:=Y w4.heap.size;obtain⟨w5,eT⟩:=Y ((w4.alloc (.cells #[.string xs,.slice ua un uc,.slice va vn vc] 55)).alloc (.cells #[.slice a n c,.int .i64 j3,.int .i64 fin,.int .i64 da] 150));have GJ:Below w4.heap.size w4 w5:=ass;have ba:w5.heap[hh]?=some (.cells #[.string xs,.slice ua un uc,.slice va vn vc] 55 (0,0)):=by rw[eT,A6];exact G (aS _ _) (dx rfl)
 have bb:es (hh+1) a n c j3 fin da w5:=by rw[eT,A6];exact dx ae
 have av:=so.o.to GJ;have cl:g+4≤hh:=asz
 have ax:(da=0∧∃s,eR ws i=(some s,j3)∧Ft w5 (Ty w5) (fun W'=>nK W' (.string xs) (.slice ua un uc) (.slice va vn vc) s))∨(da≠0∧qx line (az ws i)=none):=by
  rcases rV with⟨_,h1,s,h2,h3,h4,h5⟩|⟨h1,h2⟩
  ·exact api
  obtain⟨k,hk⟩:=h2 rfl;exact .inr ⟨h1,yc8 hk⟩
 obtain⟨hp,ay⟩:=Y (hh+1);have bC:∀W,Below w5.heap.size w5 W→W.cell? ⟨hh,0,none⟩=some (.string xs)∧W.cell? ⟨hh,1,none⟩=some (.slice ua un uc)∧W.cell? ⟨hh,2,none⟩=some (.slice va vn vc)∧True:=fun W hb=>by have h:=G hb ba;have h0:=J h 0;have h1:=J h 1;have h2:=J h 2;simp only[aq,ar,aw]at h0 h1 h2;exact⟨h0,h1,h2,trivial⟩
 go_upto_region 3 with (fail)
 rw[←eT,←A6,←ay];rw[←ay]at bb;have cm:g+4≤hp:=Z;clear eT A6 ay rV;revert GJ ba av ax bb bC;refine bX ?_;intro _ _ al U bc AD;go_cut [12] (fun v W=>∃hc kA,v=.pointer (some ⟨hc,0,none⟩)∧w5.heap.size≤hc∧Below w5.heap.size w5 W∧W.heap[hc]?=some (.cells #[.string xs,.slice ua un uc,.slice va vn vc,.string ⟨#[]⟩,.slice (some kA) 1 1,.slice none 0 0,.int .i64 line] 96 (0,0))∧Ft W (Ty W) (fun W'=>nK W' (.string ⟨#[]⟩) (.slice (some kA) 1 1) (.slice none 0 0) um))
 case first=>
  refine xZ (S:=fun W=>W.cell? ⟨hh,0,none⟩=some (.string xs)∧W.cell? ⟨hh,1,none⟩=some (.slice ua un uc)∧W.cell? ⟨hh,2,none⟩=some (.slice va vn vc)∧True) aA (AD.o _ (dA (aL _ _))) (fun hHeld=>?_);have bQ:Below w5.heap.size w5 w5.drew:=dA (aL _ _);generalize w5.drew=wd at bQ⊢;have aV:=AD.o _ bQ;have dI:=O bQ;clear bQ;refine bB 0 ?_;refine bB 3 ?_;refine mr (rs:=[1,5]) aA ae ?_;refine dO rfl (fun K hK=>?_) (dO rfl (fun K hK=>?_) ij)
  ·go_simp;refine (Nt _).mono ?_;rintro e wt ⟨rfl,C⟩;have ha:=all_ty wd;rw[←C]at ha;have fP:Below wd.heap.size wd wt:=by rw[C];exact aS _ _
   obtain⟨kA,X⟩:∃k:Addr,k=⟨wd.heap.size,0,none⟩:=⟨_,rfl⟩;rw[←X]at ha⊢;clear C X;have aa:=(dI.o).trans (fP.mono (dI.o).size);obtain⟨Ha,ki,AL⟩:=aQ ha fP aa;clear ha fP aa;refine cK ?_;refine hK.out _ _ (AD.o _ (AL.o)) (fun hHeld=>?_);clear hK K;refine iN ?_;clear aV;have aV:=AD.o _ AL.o;refine bB 2 ?_;refine bB 4 ?_;refine c_ 5 fun K hK=>?_;go_simp;obtain⟨hc,uZ⟩:=Y wt.heap.size;obtain⟨wa,cW⟩:=Y (wt.alloc (.cells #[.string ⟨#[]⟩,.slice none 0 0,.slice none 0 0,.string ⟨#[]⟩,.slice none 0 0,.slice none 0 0,.int .i64 0] 96));have F:Below wt.heap.size wt wa:=Pu;have ab:=(AL.o).trans (F.mono (AL.o).size);refine ako ?_;intro m_;have ad:w5.heap.size≤hc:=by rw[uZ];exact (AL.o).size
   have rl:=aH ad;clear cW ad;obtain⟨bd,L,lO⟩:=aQ F ab m_;clear F ab m_;refine hK.out _ _ (AD.o _ (L.o)) (fun hHeld=>?_);clear hK K;refine iN ?_;rw[←uZ];clear uZ;have bf:=wi Ha.o bd.o;have QK:=O bf;clear bf;refine ajo ?_;intro rQ rR uC uD xS xT xU nN nM pW pX ti tj tk K hK;obtain⟨w6,cL⟩:=Y ((((((((wa).setCell ⟨hc,0,none⟩ (.string xs)).setCell ⟨hc,1,none⟩ (.slice ua un uc)).setCell ⟨hc,2,none⟩ (.slice va vn vc)).setCell ⟨hc,3,none⟩ (.string ⟨#[]⟩)).setCell ⟨hc,4,none⟩ (.slice (some kA) 1 1)).setCell ⟨hc,5,none⟩ (.slice none 0 0)).setCell ⟨hc,6,none⟩ (.int .i64 line));have cX:Below w5.heap.size w5 w6:=by rw[cL];exact (((((((L.o).setCell (p:=⟨hc,0,none⟩) rl.o _).setCell (p:=⟨hc,1,none⟩) rl.o _).setCell (p:=⟨hc,2,none⟩) rl.o _).setCell (p:=⟨hc,3,none⟩) rl.o _).setCell (p:=⟨hc,4,none⟩) rl.o _).setCell (p:=⟨hc,5,none⟩) rl.o _).setCell (p:=⟨hc,6,none⟩) rl.o _
   refine alg ?_;intro nu;have ZE:am (fun z=>z=hc) wa w6:=by rw[cL];exact aN (aN (aN (aN (aN (aN (aN (am.refl (fun z=>z=hc) wa) 0 _) 1 _) 2 _) 3 _) 4 _) 5 _) 6 _
   exact aeq
  go_simp;obtain⟨hc,uZ⟩:=Y wd.heap.size;obtain⟨wa,cW⟩:=Y (wd.alloc (.cells #[.string ⟨#[]⟩,.slice none 0 0,.slice none 0 0,.string ⟨#[]⟩,.slice none 0 0,.slice none 0 0,.int .i64 0] 96));have F:Below wd.heap.size wd wa:=Pu;have ab:=(dI.o).trans (F.mono (dI.o).size);refine ako ?_;intro m_;have ad:w5.heap.size≤hc:=by rw[uZ];exact (dI.o).size
  have rl:=aH ad;clear cW ad;obtain⟨bd,L,lO⟩:=aQ F ab m_;clear F ab m_;refine hK.out _ _ (AD.o _ (L.o)) (fun hHeld=>?_);clear hK K;refine iN ?_;rw[←uZ];clear uZ;refine c_ 1 fun K hK=>?_;go_simp;refine (Nt _).mono ?_;rintro e wt ⟨rfl,C⟩;have ha:=all_ty wa;rw[←C]at ha;have fP:Below wa.heap.size wa wt:=by rw[C];exact aS _ _
  obtain⟨kA,X⟩:∃k:Addr,k=⟨wa.heap.size,0,none⟩:=⟨_,rfl⟩;rw[←X]at ha⊢;clear C X;have aa:=(L.o).trans (fP.mono (L.o).size);obtain⟨Ha,ki,AL⟩:=aQ ha fP aa;clear ha fP aa;refine cK ?_;refine hK.out _ _ (AD.o _ (AL.o)) (fun hHeld=>?_);clear hK K;refine iN ?_;clear aV;have aV:=AD.o _ AL.o;refine bB 2 ?_;refine bB 4 ?_;have bh:=G ki.o lO.o;clear lO;have lO:=aH bh;clear bh;have QK:=Ha;refine ajo ?_;intro rQ rR uC uD xS xT xU nN nM pW pX ti tj tk K hK;obtain⟨w6,cL⟩:=Y ((((((((wt).setCell ⟨hc,0,none⟩ (.string xs)).setCell ⟨hc,1,none⟩ (.slice ua un uc)).setCell ⟨hc,2,none⟩ (.slice va vn vc)).setCell ⟨hc,3,none⟩ (.string ⟨#[]⟩)).setCell ⟨hc,4,none⟩ (.slice (some kA) 1 1)).setCell ⟨hc,5,none⟩ (.slice none 0 0)).setCell ⟨hc,6,none⟩ (.int .i64 line));have cX:Below w5.heap.size w5 w6:=by rw[cL];exact (((((((AL.o).setCell (p:=⟨hc,0,none⟩) rl.o _).setCell (p:=⟨hc,1,none⟩) rl.o _).setCell (p:=⟨hc,2,none⟩) rl.o _).setCell (p:=⟨hc,3,none⟩) rl.o _).setCell (p:=⟨hc,4,none⟩) rl.o _).setCell (p:=⟨hc,5,none⟩) rl.o _).setCell (p:=⟨hc,6,none⟩) rl.o _
  refine alg ?_;intro nu;have ZE:am (fun z=>z=hc) wt w6:=by rw[cL];exact aN (aN (aN (aN (aN (aN (aN (am.refl (fun z=>z=hc) wt) 0 _) 1 _) 2 _) 3 _) 4 _) 5 _) 6 _
  exact aeq
 case rest=>
  obtain⟨hc,kA,rfl,bE,af,nu,bj⟩:=hcut;obtain⟨wb,eB⟩:=Y wc;rw[←eB]at af nu bj⊢;clear eB;have bk:=G af bc.o;have aB:=al.o.to af;have cn:hp<hc:=by have:=(bS.1 bc.o).1;omega
  have bl:=U.o.imp (fun⟨h1,s,h2,h3⟩=>(⟨h1,s,h2,wi h3 af⟩:da=0∧∃s,eR ws i=(some s,j3)∧Ft wb (Ty wb) (fun W'=>nK W' (.string xs) (.slice ua un uc) (.slice va vn vc) s))) id;clear al U;have av:=aB;have ax:=bl;have Im:Rq6 w wb hp hc a n c fin 96 #[.string xs,.slice ua un uc,.slice va vn vc,.string ⟨#[]⟩,.slice (some kA) 1 1,.slice none 0 0,.int .i64 line] j3 da wb:=⟨bk,nu,aB.bm,am.refl _ _⟩;have vX:w.heap.size≤hp∧hc≠hp:=Z;have Tq:w.heap.size≤hc∧hc≠hp:=Z;have cp:g+4≤hc:=Z;clear bl;revert bE bj nu af bk aB;refine bX ?_;intro Hch jd UW aAr Hqb HSb;go_upto_region 4 with (fail);have bJ:∀W P,am (fun k=>k=hp∨k=hc) wb W→Ft wb (Ty wb) P→Ft W (Ty W) P:=fun W P hF h=>uY h hF fun k _ hk=>by exact aob
  revert av ax Im bJ;refine bV ?_;intro al U Mk aC;go_cut [38] (fun v W=>v=.bool (decide (da=0)&&decide (j3<n))∧Rq6 w wb hp hc a n c fin 96 #[.string xs,.slice ua un uc,.slice va vn vc,.string ⟨#[]⟩,.slice (some kA) 1 1,.slice none 0 0,.int .i64 line] j3 da W)
  case first=>obtain⟨⟨bF,bG,bH,bD⟩,-⟩:=a8 Mk.o.pb;have D3:=CI wb a n c j3 fin 0;exact aeg
  case rest=>
   obtain⟨rfl,yB⟩:=hcut;obtain⟨w6,cL⟩:=Y wc;rw[←cL]at yB⊢;clear cL;have Ay:=aH yB;clear yB;obtain⟨mo,Aj⟩:=Y ((decide (da=0)&&decide (j3<n)));rw[←Aj];have B7:=aH Aj;clear Aj;go_upto_if 38 with (fail);go_cut [38] (fun _ W=>RuC qx w wb hp hc a n c fin 96 xs (.slice ua un uc) (.slice va vn vc) line ws i W)
   case first=>
    cases mo with
    |false=>
     go_wp2_with fail
     go_meet
     refine⟨⟨#[]⟩,some kA,1,1,none,0,0,j3,da,Ay.o,?_⟩;rcases U.o with⟨h1,R,h2,h3⟩|⟨h1,h2⟩
     ·have r:¬j3<n:=fun h=>by
       have:=B7.o;rw[aO h1,aO h]at this;cases this
      have bL:j3≤ws.length:=(zof h2).2;have OC:=Hn.o;exact .inl ⟨h1,R,_,aC.o _ _ Ay.o.gc h3,aC.o _ _ Ay.o.gc jd.o,fun r=>ybz h2 r,fun r=>Z,bL⟩
     exact .inr ⟨h1,h2⟩
    |true=>
     have bM:da=0∧j3<n:=by exact aox
     obtain⟨rfl,bn⟩:=bM
     obtain⟨R,bo,bp⟩:∃s,eR ws i=(some s,j3)∧Ft wb (Ty wb) (fun W'=>nK W' (.string xs) (.slice ua un uc) (.slice va vn vc) s):=by
      rcases U.o with⟨_,h⟩|⟨h,_⟩
      ·exact h
      exact GA
     obtain⟨Ui,an,bN⟩:=aQ bn bo bp;clear bn bo bp;go_upto_region 5 with (fail);go_cut [43] (fun _ W=>∃j6 gW,Rq6 w wb hp hc a n c fin 96 #[.string xs,.slice ua un uc,.slice va vn vc,.string ⟨#[]⟩,.slice (some kA) 1 1,.slice none 0 0,.int .i64 line] j6 gW W∧((aD ws j3=oZ∧j6=j3+1∧gW=0)∨(aD ws j3≠oZ∧gW≠0)))
     case first=>refine vH ?_;intro oU hHeld;refine ant ?_;intro wd bQ aV o6 LO CA;have kt:=jb o6 [119,104,101,110] oZ rfl;obtain⟨bt,fP⟩:=Y (decide (o6=oZ));exact akv
     case rest=>
      obtain⟨j6,gW,ai,rZ⟩:=hcut;obtain⟨w7,gL⟩:=Y wc;rw[←gL]at ai⊢;clear gL;have bq:=zx3 (qg.o _ ai.bm) cz Hz.o fM.o j6 gW;obtain⟨⟨bF,bG,bH,bD⟩,-⟩:=a8 ai.pb;obtain⟨HR7,Aa,qW⟩:=aQ ai rZ bq;clear ai rZ bq;go_wp2_with fail;refine qW.o.mono ?_;rintro e w8 ⟨y,d,dn,dc,e2,en,ec,j5,cG,rfl,BG,eD⟩;have IW:=HR7.o.to eD;clear bF bG bH bD;refine aeo ?_;intro kk xR w9 fN qi mJ wW G1 PE GF dB nR Zh Zi Zj;have bO:(gW=0∧cG=0∧∃s,db ws j6=(some s,j5)∧Ft w9 (Ty w9) (fun W'=>nK W' (.string y) (.slice d dn dc) (.slice e2 en ec) s))∨(cG≠0∧(gW=0→∃k,db ws j6=(none,k))):=by exact ajr
      go_upto_region 7 with (fail)
      rw[←fN,←xR];clear fN xR BG IW;have bR:=J wW 0;have bT:=J wW 1;have bW:=J wW 2;have cq:=aG mJ.cb 3;have cr:=aG mJ.cb 4;have ct:=aG mJ.cb 5;have b0:=J mJ.cb 3;have b1:=J mJ.cb 4;have b8:=J mJ.cb 5;obtain⟨⟨bF,bG,bH,bD⟩,-⟩:=a8 G1;obtain⟨⟨iD,fb,fC,fD⟩,cC,cD,cB,cF⟩:=a8 mJ.pb;simp only[aq,ar,aw]at bR bT bW b0 b1 b8;revert eD qi mJ wW G1 bO;refine bX ?_;intro si QL Me Hk9 Hq9 YM;go_wp2_with fail;go_meet
      refine akq ?_;intro Kd OC;rcases YM.o with⟨h1,h2,b9,h3,h4⟩|⟨h1,h2⟩
      ·have hw:aD ws j3=oZ∧j6=j3+1:=by
        exact ams
       rw[hw.2]at h3;refine .inl ⟨h2,R,b9,aC.o _ _ Kd.gc bN.o,?_,fun r=>yby an.o DH hw.1 h3 r,fun r=>zwu an.o DH h3 r,(zp6 h3).2⟩;exact adr
      refine .inr ⟨h1,?_⟩;rcases Aa.o with⟨k1,k2,k3⟩|⟨k1,k2⟩
      ·obtain⟨k,hk⟩:=h2 k3;rw[k2]at hk;exact zwv an.o DH hk
      exact zwt an.o DH k1
   case rest=>
    obtain⟨y,d,dn,dc,e2,en,ec,j5,cG,ao,br⟩:=hcut;obtain⟨w3,ea⟩:=Y wc;rw[←ea]at ao br⊢;clear ea;have bs:=al.o.gc bZ ao.gc (fun k hk=>by rcases hk with h|h<;>omega);obtain⟨xO,cN⟩:=ak ao bs;clear ao bs;rcases br with⟨h0,R,c2,h1,h2,h3,h4,h5⟩|⟨h0,h1⟩
    ·revert h0 h1 h2 h3 h4 h5;refine bX ?_;intro aE aF ca cc cd cf;refine Gy ?_;intro iw;obtain⟨css,hr⟩:=iw.gr;obtain⟨_,_,e0⟩:=bg hr.row;have cg:m5=p.gr.length:=yV;clear e0;refine Bk ?_;intro N aY hN;have ch:m5≤70000:=by rw[cg];exact a6.o.2.2.2.1
     refine Gw ?_;intro sj;have b_:=J cN.o.xb 5;revert iw hr cg aY hN b_;refine Rp ?_;intro b_ yG yM yQ yR yS yT yU uR Hr qT bY HN;go_wp2_with (at_builtin;(refine kZ zoz rfl (.tmp 53) (.tmp 55) rfl B (.slice b5 m5 d5) m5 N rfl bY.o 1 #[.string xs,.slice ua un uc,.slice va vn vc,.string y,.slice d dn dc,.slice e2 en ec,.int .i64 line] rfl rfl dW Z cY sj ?_;intro v9 w9 aZ aT ia;obtain⟨a9,c9,rfl⟩:=bg aZ;have A:=bI cN.o.xb (eS aT) (dM bY.o cN.o.xb D);have aj:=J A 5;have aI:=aG A 5;simp only[aq,ar,aw]at aj;obtain⟨Hxb9,dY,fq,Hmv9⟩:=kg A aZ aT ia;clear aZ aT ia A));refine RU ?_;intro eY qZ lY lZ;have cj:=uR.o.WP (q:=(R,c2,line)) Hr.o ((MD (aF.o.and ca.o)).imp fun bP hV=>⟨_,_,_,_,_,_,rfl,hV.1,hV.2⟩) (v9:=.slice a9 (m5+1) c9) I_ fq.o Hmv9.o;refine agp ?_;intro cH et oK oJ;refine Gx ?_;intro nh ng ep;clear et aj aI b_ yG yM yQ yR yS yT yU;revert eY qZ lY lZ cj oK oJ nh ng ep;refine dE ?_;intro kJ IM CN CO wD qM BW fY mB lW;refine Bl ?_;intro bF bG bH bD iD fb fC fD cC cD cB cF jV jW jX jY jZ j8 j9 jU b_ fU hd g_ jt jw jB jx jD jy jE jz jF jA jG js;go_wp2_with fail;revert bF bG bH bD iD fb fC fD cC cD cB cF jV jW jX jY jZ j8 j9 jU b_ fU hd g_ jt jw jB jx jD jy jE jz jF jA jG js;refine apn ?_;intro WF x1 x2 gE rh rf pN;have lR:∀z,g≤z→aJ (aJ t w.heap.size 10) w3.heap.size 7 z=(if z<w3.heap.size then 10 else 7):=fun z hz=>by exact Ow
     have cu:g+3<w3.heap.size:=(bS.1 cN.o.r2).1
     have aU:=(wD.o.to (t':=aJ (aJ t w.heap.size 10) w3.heap.size 7) lW.o (fun z _ hz=>by
      rw[hz,lR _ Z,M Z];exact⟨pH,Z,dF Hxb9.o D⟩) (fun _ _ _=>rfl)).to (t':=aJ (aJ t w.heap.size 10) w3.heap.size 7) gE (fun z _ hz=>by
      revert hz;refine Oz ?_;intro h;exact⟨pH,Z,dF mB.o D⟩) (fun _ _ _=>rfl)
     have aU:=aU.below (dA (aL _ _));refine Ox ?_;have au:dw first line p (az ws i)=(qx line (az ws i)).map fun q=>{ p with gr:=p.gr++[q] }:=by rw[Hf.o];rfl
     refine .inl ⟨aE.o,{ p with gr:=p.gr++[(R,c2,line)] },_,rfl,rfl,aU,fun r=>?_,fun r=>?_,cf.o,fun k hk=>?_⟩
     ·rw[au,cc.o r];rfl
     ·rw[au,cd.o r];rfl
     exact Oy
    obtain⟨aE,aF⟩:=ak h0 h1;clear h0 h1;refine Gy ?_;intro iw;obtain⟨css,hr⟩:=iw.gr;obtain⟨_,_,e0⟩:=bg hr.row;have cg:m5=p.gr.length:=yV;clear e0;refine Bk ?_;intro N aY hN;have ch:m5≤70000:=by rw[cg];exact a6.o.2.2.2.1
    refine Gw ?_;intro sj;have b_:=J cN.o.xb 5;revert iw hr cg aY hN b_;refine Rp ?_;intro b_ yG yM yQ yR yS yT yU uR Hr qT bY HN;go_wp2_with (at_builtin;(refine kZ zoz rfl (.tmp 53) (.tmp 55) rfl B (.slice b5 m5 d5) m5 N rfl bY.o 1 #[.string xs,.slice ua un uc,.slice va vn vc,.string y,.slice d dn dc,.slice e2 en ec,.int .i64 line] rfl rfl dW Z cY sj ?_;intro v9 w9 aZ aT ia;obtain⟨a9,c9,rfl⟩:=bg aZ;have A:=bI cN.o.xb (eS aT) (dM bY.o cN.o.xb D);have aj:=J A 5;have aI:=aG A 5;simp only[aq,ar,aw]at aj;obtain⟨Hxb9,dY,fq,Hmv9⟩:=kg A aZ aT ia;clear aZ aT ia A));refine RU ?_;intro eY qZ lY lZ;refine agp ?_;intro cH et oK oJ;refine Gx ?_;intro nh ng ep;clear et aj aI b_ yG yM yQ yR yS yT yU;revert eY qZ lY lZ oK oJ nh ng ep;refine fK ?_;intro kJ IM CN CO qM BW fY mB lW;refine Bl ?_;intro bF bG bH bD iD fb fC fD cC cD cB cF jV jW jX jY jZ j8 j9 jU b_ fU hd g_ jt jw jB jx jD jy jE jz jF jA jG js;go_wp2_with fail;revert bF bG bH bD iD fb fC fD cC cD cB cF jV jW jX jY jZ j8 j9 jU b_ fU hd g_ jt jw jB jx jD jy jE jz jF jA jG js;refine apn ?_;intro WF x1 x2 gE rh rf pN;refine Ox ?_;have au:dw first line p (az ws i)=(qx line (az ws i)).map fun q=>{ p with gr:=p.gr++[q] }:=by rw[Hf.o];rfl
    refine .inr ⟨aE.o,?_⟩;rw[au,aF.o];rfl
theorem zz9(a:Option Addr)(n c i:Nat)(fin:Int){bad:Int}(jJ:bad≠0)(j:Bool):Calls prog 77 #[pv a n c i fin bad,.bool j] w fun e w'=>(∃b m d,e=.returned (.tuple #[.slice b m d,pv a n c i fin bad]))∧Below w.heap.size w w':=by
 refine lM ?_;intro g hg;refine air ?_;intro W0 bw cM th;have h0:es g a n c i fin bad W0:=asw;have h1:es (g+1) none 0 0 0 0 0 W0:=YP;refine ur ?_;intro bZ;have q:(bad==0)=false:=Ra;obtain⟨cr,H0,H1⟩:=aQ cM h0 h1;clear cM h0 h1;go_enter func77,ntmps77;go_upto_region 1 with (fail);rw[←bw,←hg];clear bw hg;go_wp2_with fail;go_loopw [6] (fun v wr=>(∃b m d,v=.slice b m d)∧Below W0.heap.size W0 wr) (fun _ _=>0)
 case atStart=>exact⟨⟨_,_,_,rfl⟩,aS _ _⟩
 case round=>
  obtain⟨⟨b,m,d,rfl⟩,f⟩:=hrel;obtain⟨⟨c0,c1,c2,c3⟩,-⟩:=a8 (G f H0.o);obtain⟨⟨d0,d1,d2,d3⟩,f0,f1,f2,f3⟩:=a8 (G f H1.o);have l:=cr.o.trans (f.mono cr.o.size);have p:=G f H1.o;revert f l p;refine fo ?_;intro bO eI gD;go_wp2_with fail;go_region
  go_wp2_with fail
  have hp:=Bf (a:=a) (n:=n) (c:=c) (i:=i) (fin:=fin) (x:=bad) bZ gD.o eI.o;refine KI ?_;exact⟨⟨_,_,_,rfl⟩,dA hp.2⟩
def NmC(a:Option Addr)(n c:Nat)(fin:Int)(ws:List Wd)(j:Nat)(bad:Int)(ok:ByteArray→Bool)(w:World)(e:Ending)(w':World):Prop :=
 ∃b m d j5 cG,e=.returned (.tuple #[.slice b m d,pv a n c j5 fin cG])∧((bad=0∧cG=0∧∃l,eQ ok (az ws j)=some l∧j5=ws.length∧w'.ownsRow w.heap.size 9 1 (.slice b m d) l.length (l.map Value.string)∧∀x∈l,x.size≤70000)∨(cG≠0∧(bad=0→eQ ok (az ws j)=none)))∧Below w.heap.size w w'
theorem zs6{ws:List Wd}(o:j7 w [.slice a n c] ws)(p:n≤1000)(q:∀x∈ws,x.2.length≤70000){fin:Int}(r:∀j,cO ws fin j≠0)(j:Nat)(bad:Int)(f:Bool):Calls prog 77 #[pv a n c j fin bad,.bool f] w (NmC a n c fin ws j bad (okNm f) w):=by
 by_cases g:bad=0
 ·subst g;refine (zza o p q r j f).mono fun e w' h=>?_;obtain⟨b,m,d,j5,cG,he,h1,h2⟩:=h;refine⟨b,m,d,j5,cG,he,?_,h2⟩;rcases h1 with⟨l,i,k,s,t,u⟩|⟨i,k⟩
  ·exact .inl ⟨rfl,k,l,i,s,t,u⟩
  exact .inr ⟨k,fun _=>i⟩
 refine (zz9 a n c j fin g f).mono fun e w' h=>?_;obtain⟨⟨b,m,d,he⟩,h2⟩:=h;exact⟨b,m,d,j,bad,he,.inr ⟨g,fun h=>absurd h g⟩,h2⟩
set_option linter.unusedVariables false in
theorem ya5{ws:List Wd}(hw:j7 w [.slice a n c] ws)(cz:n≤1000)(hz:∀x∈ws,x.2.length≤70000){fin:Int}(aO:∀j,cO ws fin j≠0)(i:Nat){first:ByteArray}{line:Int}{p:ap}{d2:Nat} 
  (aU:p.name=nm) (aW:p.line=li) (aP:zz w t B p (.slice b2 m2 d2) (.slice b3 m3 d3) (.slice b4 m4 d4) (.slice b5 m5 d5) (.slice b6 m6 d6) (.slice b7 m7 d7)) (hp:z9 p) (iO:B≤w.heap.size) (hf:first=n8) :
  Calls prog 79 #[.string first,.int .i64 line,pv a n c i fin 0,.agg #[.string nm,.int .i64 li,.slice b2 m2 d2,.slice b3 m3 d3,.slice b4 m4 d4,.slice b5 m5 d5,.slice b6 m6 d6,.slice b7 m7 d7]] w (zh a n c fin ws i t B first line p w):=by
 refine KY ?_;intro hn g hg W1 aK eV fA bZ fe jL s hs hW a_ c0 c1 c2 c3;have bw:(first.toList==[118,101,114,115,105,111,110])=false:=CM;have bx:(first.toList==[118,97,114,105,97,110,116])=true:=IK;obtain⟨bv,vV⟩:=Y (eL s);obtain⟨T1,xG⟩:=Y (aJ (aJ t w.heap.size 10) (g+4) 3);have aX:∀z,z<w.heap.size→T1 z=t z:=fun z hz=>by rw[xG,aR Z,aR hz]
 have a1:∀z,g≤z→z<g+4→T1 z=10:=fun z h1 A=>by rw[xG,aR A,pL Z]
 have a6:∀z,g+4≤z→T1 z=3:=fun z h1=>by rw[xG,pL h1]
 clear xG;revert hw hz aO aU aW aP hf hn eV fA fe jL hs hW a_ aX a1 a6;refine OS ?_;intro _ a7 fM mj rq HH Hf Hn _ ba _ qg Hs bb ir U3 bc bd;revert hp iO;refine RY ?_;intro Ak mH HG;go_upto_region 1 with (fail);refine KB ?_;clear aK hg;go_wp2_with fail;refine bb.o.mono ?_;rintro e w2 ⟨rfl,af⟩;have ax:=ba.o.to af;clear c0 c1 c2 c3;have rA:=aH vV;clear vV;obtain⟨bh,uW⟩:=ak af ax;clear af ax;go_upto_region 10 with (fail);go_cut [49] (fun _ W=>NxC w g a n c fin #[.string nm,.int .i64 li,.slice b2 m2 d2,.slice b3 m3 d3,.slice b4 m4 d4,.slice b5 m5 d5,.slice b6 m6 d6,.slice b7 m7 d7] i bv W)
 case first=>
  refine WS ?_;intro oU hHeld wd bQ aV;have ay:=CG s Ih wd;obtain⟨dI,qO,Lx⟩:=aQ bQ aV ay;clear bQ aV ay;refine KL ?_;refine dO rfl (fun K hK=>?_) (dO rfl (fun K hK=>?_) ij)
  ·revert K hK;refine zM ?_;intro hHeld;refine c_ 2 fun K hK=>?_;revert K hK;refine R7 ?_;intro wt bt he qH ki hHeld gC;exact Rl
  revert K hK;refine R7 ?_;intro wt bt he qH ki hHeld gC;refine Kt ?_;intro hHeld;exact Rl
 case rest=>
  obtain⟨j3,da,mV,p_⟩:=hcut;obtain⟨w3,ea⟩:=Y wc;rw[←ea]at mV⊢;clear ea;have ai:=zs6 (qg.o _ mV.bm) cz a7.o fM.o j3 da true;rw[okNm_true]at ai;obtain⟨⟨bF,bG,bH,bD⟩,-⟩:=a8 mV.pb;obtain⟨cN,pJ,Iy⟩:=aQ mV p_ ai;clear mV p_ ai;go_wp2_with fail;refine Iy.o.mono ?_;rintro e w4 ⟨lb,lm,ld,j5,cG,rfl,dJ,bA⟩;obtain⟨w5,eT⟩:=Y (w4.alloc (.cells #[.slice a n c,.int .i64 j5,.int .i64 fin,.int .i64 cG] 150));have aC:Below w4.heap.size w4 w5:=Mx;obtain⟨QX,hhq⟩:=Y w4.heap.size;have be:es QX a n c j5 fin cG w5:=by rw[eT,hhq];exact dq _ _
  have bf:=(cN.o.to bA).to aC;have bC:g+4≤QX:=by have h1:=(bS.1 (cN.o.to bA).r2).1;omega
  have bE:¬QX=g+1:=Z;have bJ:¬QX=g:=Z;clear bF bG bH bD;revert bA aC be bf;refine bV ?_;intro _ bj X fH;go_upto_region 12 with (fail);rw[←eT,←hhq];clear eT hhq;rcases dJ with⟨h1,A,l,aa,ab,aj,aE⟩|⟨h1,A⟩
  ·have bk:=A
   have T:bv=true∧i<n∧j3=i+1:=by
    rcases pJ.o with⟨aF,al,bl,_⟩|⟨aF,al⟩
    ·exact⟨aF,al,bl⟩
    exact absurd h1 al
   have bn:eQ qp (az ws (i+1))=some l:=by rw[←T.2.2];exact aa
   have bK:=T.2.1;have T:=T.1;have bo:Ft w5 (Fx w5 T1) (fun W'=>n9 W' [.string s,.slice lb lm ld] (s,l)):=((Qj (fh aj bj.o) (fun x hx=>by have:=aE x hx;unfold maxLen;omega)).mono fun k hk hkv=>.inl (bd.o k (by have bL:=(aj.lt k hkv).1;have bM:=(bS.1 cN.o.r2).1;omega))).imp fun bP hV=>⟨_,rfl,hV⟩;have bp:=ab;revert h1 aa aj aE bk bn T bo bp;refine fK ?_;intro H1 H3 H5 H6 aAq mG aB aAz Hj5;clear ab A;refine ahm ?_;intro iw css hr;obtain⟨_,_,e0⟩:=bg hr.row;have cg:m3=p.vars.length:=yV;clear e0;refine Bk ?_;intro N aY hN;have bq:m3≤70000:=by rw[cg];exact Ak.o.2.1
   have an:B≤w5.heap.size:=fu mH.o fH.o.bm.size;have b_:=J fH.o.xb 3;simp only[aq,ar,aw]at b_;revert iw hr cg aY hN;refine bU ?_;intro aI Hr qT y HN;go_wp2_with (at_builtin;(refine kZ Vu rfl (.tmp 56) (.tmp 60) rfl B (.slice b3 m3 d3) m3 N rfl y.o 1 #[.string s,.slice lb lm ld] rfl rfl dW Z cY an ?_;intro v9 w9 aZ aT ia;obtain⟨a9,c9,rfl⟩:=bg aZ;have C:=bI fH.o.xb (eS aT) (dM y.o fH.o.xb D);have F:=bI X.o (eS aT) (dM y.o X.o D);have L:=bI fH.o.pb (eS aT) (dM y.o fH.o.pb D);obtain⟨⟨zq0,zq1,zq2,zq3⟩,-⟩:=a8 F;obtain⟨⟨zp0,zp1,zp2,zp3⟩,yl,ym,yn,yo⟩:=a8 L;have U:=J C 3;have ao:=aG C 3;simp only[aq,ar,aw]at U;obtain⟨Hxb9,IL,Hq9,dY,fq,Hmv9⟩:=By C L F aZ aT ia;clear aZ aT ia C L F));clear zq0 zq1 zq2 zq3 zp0 zp1 zp2 zp3 yl ym yn yo U ao b_;have R:=eS fq.o;have lY:=bI fH.o.r1 R (dM y.o fH.o.r1 D);have lZ:=bI fH.o.r2 R (dM y.o fH.o.r2 D);have br:=aI.o.aaw (q:=(s,l)) Hr.o aAz.o (v9:=.slice a9 (m3+1) c9) I_ fq.o Hmv9.o;refine aqq ?_;intro cH oK oJ nh ng ep;revert R lY lZ br oK oJ nh ng ep;refine fK ?_;intro kJ CN CO wD qM BW fY mB lW;refine Bl ?_;intro bF bG bH bD iD fb fC fD cC cD cB cF jV jW jX jY jZ j8 j9 jU b_ fU hd g_ jt jw jB jx jD jy jE jz jF jA jG js;go_wp2_with fail;revert bF bG bH bD iD fb fC fD cC cD cB cF jV jW jX jY jZ j8 j9 jU b_ fU hd g_ jt jw jB jx jD jy jE jz jF jA jG js;refine apv ?_;intro WF x1 x2 gE rh rf pN;have bN:g+3<w5.heap.size:=(bS.1 fH.o.r2).1;have ad:∀z,g≤z→z<g+4→aJ T1 w5.heap.size 5 z=10:=fun z h1 A=>by rw[aR Z,bc.o z h1 A]
   have au:=(wD.o.to (t':=aJ T1 w5.heap.size 5) lW.o (fun z _ hz=>by
    rcases hz with h|h
    ·rw[h,ad _ Z Z];exact⟨pH,Z,dF Hxb9.o D⟩
    ·rw[h,ad _ Z Z];exact⟨pH,Z,dF IL.o D⟩) (fun _ _ _=>rfl)).to (t':=aJ T1 w5.heap.size 5) gE (fun z _ hz=>by
    rcases hz with h|h
    ·rw[h,ad _ Z Z];exact⟨pH,Z,dF fY.o D⟩
    rw[h,ad _ Z Z];exact⟨pH,Z,dF mB.o D⟩) (fun _ _ _=>rfl)
   have au:=au.below (dA (aL _ _));refine ahb ?_;intro Bu G3;rw[Bu Z,M (by rw[←rA.o];exact aB.o),mG.o];refine .inl ⟨aAq.o,{ p with vars:=p.vars++[(s,l)] },_,rfl,rfl,au,fun _=>rfl,fun av=>absurd av (by rw[Hj5.o];omega),jg Hj5.o,fun k hk=>?_⟩;rw[aR (jq hk fH.o.bm.size),U3.o k hk]
  have aM:=h1;have aN:=A;obtain⟨bs,bu⟩:=ak aM aN;clear aM aN;clear h1 A;refine ahm ?_;intro iw css hr;obtain⟨_,_,e0⟩:=bg hr.row;have cg:m3=p.vars.length:=yV;clear e0;refine Bk ?_;intro N aY hN;have bq:m3≤70000:=by rw[cg];exact Ak.o.2.1
  have an:B≤w5.heap.size:=fu mH.o fH.o.bm.size;have b_:=J fH.o.xb 3;simp only[aq,ar,aw]at b_;revert iw hr cg aY hN;refine bU ?_;intro aI Hr qT y HN;go_wp2_with (at_builtin;(refine kZ Vu rfl (.tmp 56) (.tmp 60) rfl B (.slice b3 m3 d3) m3 N rfl y.o 1 #[.string s,.slice lb lm ld] rfl rfl dW Z cY an ?_;intro v9 w9 aZ aT ia;obtain⟨a9,c9,rfl⟩:=bg aZ;have C:=bI fH.o.xb (eS aT) (dM y.o fH.o.xb D);have F:=bI X.o (eS aT) (dM y.o X.o D);have L:=bI fH.o.pb (eS aT) (dM y.o fH.o.pb D);obtain⟨⟨zq0,zq1,zq2,zq3⟩,-⟩:=a8 F;obtain⟨⟨zp0,zp1,zp2,zp3⟩,yl,ym,yn,yo⟩:=a8 L;have U:=J C 3;have ao:=aG C 3;simp only[aq,ar,aw]at U;obtain⟨Hxb9,IL,Hq9,dY,fq,Hmv9⟩:=By C L F aZ aT ia;clear aZ aT ia C L F));clear zq0 zq1 zq2 zq3 zp0 zp1 zp2 zp3 yl ym yn yo U ao b_;have R:=eS fq.o;have lY:=bI fH.o.r1 R (dM y.o fH.o.r1 D);have lZ:=bI fH.o.r2 R (dM y.o fH.o.r2 D);refine aqq ?_;intro cH oK oJ nh ng ep;revert R lY lZ oK oJ nh ng ep;refine fg ?_;intro kJ CN CO qM BW fY mB lW;refine Bl ?_;intro bF bG bH bD iD fb fC fD cC cD cB cF jV jW jX jY jZ j8 j9 jU b_ fU hd g_ jt jw jB jx jD jy jE jz jF jA jG js;go_wp2_with fail;revert bF bG bH bD iD fb fC fD cC cD cB cF jV jW jX jY jZ j8 j9 jU b_ fU hd g_ jt jw jB jx jD jy jE jz jF jA jG js;refine apv ?_;intro WF x1 x2 gE rh rf pN;refine ahb ?_;intro Bu G3;refine .inr ⟨bs.o,?_⟩;by_cases hi:i<ws.length
  ·rw[Bu hi];rcases pJ.o with⟨h1,A,aa,ab⟩|⟨h1|h1,A⟩
   ·have av:eQ qp (az ws (i+1))=none:=by rw[←aa];exact bu.o ab
    rw[av];split<;>rfl
   ·rw[E (by rw[←rA.o,h1];simp)];rfl
   omega
  rw[Hf.o,mA Z];rfl
end
section
open Shelf RowKit Lib av cy
open ac (Wd Ln jT)
theorem gv.rest{W o g:World}{t t1:Nat→Nat}{B n:Nat}{vf:Value}{x:ch}{b:List ap}{p q:ap}{i j l m u7:Value}
  (h:gv W t B xb (.slice (some ⟨pb,0,none⟩) (b.length+1) n) vf x) (L:eW W t B (.slice (some ⟨pb,0,none⟩) (b.length+1) n) b p bN v2 v3 v4 v5 v6 v7)
  (hF:am (fun k=>Live (t k)∧¬Ty W k) W o) (ab:zz o t1 B q u2 i j l m u7) (r:∀k,k<W.heap.size→t1 k=t k) (y:Below o.heap.size o g) :
  gv ((((((((g.setCell ⟨pb,b.length*8,none⟩ (.string q.name)).setCell ⟨pb,b.length*8+1,none⟩ (.int .i64 q.line)).setCell ⟨pb,b.length*8+2,none⟩ (u2)).setCell ⟨pb,b.length*8+3,none⟩ (i)).setCell ⟨pb,b.length*8+4,none⟩ (j)).setCell ⟨pb,b.length*8+5,none⟩ (l)).setCell ⟨pb,b.length*8+6,none⟩ (m)).setCell ⟨pb,b.length*8+7,none⟩ (u7)) t1 B xb (.slice (some ⟨pb,0,none⟩) (b.length+1) n) vf ⟨b++[q],x.pf⟩:=by
 have ad:pb<W.heap.size:=(L.row.lt pb rfl).2;have z:t pb=1:=L.tag pb rfl;have u:=kS hF y;have ae:¬Ty W pb:=by obtain⟨af,v⟩:=tH L.row pb rfl;exact dF v D
 have A:=u.owns L.row (fun k c d=>by have ai:=L.tag k c;have e2:=d.1;unfold Live at e2;omega);have C:¬Ty g pb:=by obtain⟨af,v⟩:=tH A pb rfl;exact dF v D
 have aj:t1 pb=1:=by rw[r pb ad,z]
 have f:=AJ L.row;have F:=(A.stored (b.length*8) (.string q.name)).1;rw[yy _ _ Z,f,sS]at F;have K:=(F.stored (b.length*8+1) (.int .i64 q.line)).1;rw[yy _ _ Z,f,v_]at K;have N:=(K.stored (b.length*8+2) (u2)).1;rw[yy _ _ Z,f,v_]at N;have R:=(N.stored (b.length*8+3) (i)).1;rw[yy _ _ Z,f,v_]at R;have S:=(R.stored (b.length*8+4) (j)).1;rw[yy _ _ Z,f,v_]at S;have U:=(S.stored (b.length*8+5) (l)).1;rw[yy _ _ Z,f,v_]at U;have X:=(U.stored (b.length*8+6) (m)).1;rw[yy _ _ Z,f,v_]at X;have aa:=(X.stored (b.length*8+7) (u7)).1;rw[yy _ _ Z,f,v_]at aa;obtain⟨W3,s⟩:=Y (((((((((g.setCell ⟨pb,b.length*8,none⟩ (.string q.name)).setCell ⟨pb,b.length*8+1,none⟩ (.int .i64 q.line)).setCell ⟨pb,b.length*8+2,none⟩ (u2)).setCell ⟨pb,b.length*8+3,none⟩ (i)).setCell ⟨pb,b.length*8+4,none⟩ (j)).setCell ⟨pb,b.length*8+5,none⟩ (l)).setCell ⟨pb,b.length*8+6,none⟩ (m)).setCell ⟨pb,b.length*8+7,none⟩ (u7)));have w:am (fun k=>k=pb) g W3:=by rw[s];exact aN (aN (aN (aN (aN (aN (aN (aN (am.refl (fun k=>k=pb) g) _ _) _ _) _ _) _ _) _ _) _ _) _ _) _ _
 have ag:W3.ownsRow B 45 8 (.slice (some ⟨pb,0,none⟩) (b.length+1) n) (b.length+1) (bN.flatten++[.string q.name,.int .i64 q.line,u2,i,j,l,m,u7]):=by rw[s];exact aa
 rw[←s];clear s;have ah:eW W3 t1 B (.slice (some ⟨pb,0,none⟩) (b.length+1) n) b q bN u2 i j l m u7:=by refine⟨ag,L.len,(L.fix.fx u (fun k _ d=>⟨fun e=>by have e2:=d.1;unfold Live at e2;omega,d.2⟩) (fun k c e=>by rw[r k c,e])).fx w (fun k _ d=>by rw[d];exact⟨Z,C⟩) (fun _ _ e=>e),fun k c=>by rw[r k (L.row.lt k c).2];exact L.tag k c,?_⟩;exact (ab.below y).to w (fun k _ d=>by rw[d];exact⟨pH,Z,C⟩) (fun _ _ _=>rfl)
 refine h.step (p:=p) (T:=fun k=>(Live (t k)∧¬Ty W k)∨k=pb) ah ((u.mono fun _ _ h=>.inl h).trans w fun _ _ h=>.inr h) (fun k _ c=>?_) r;rcases c with c|c
 ·exact⟨.inl c.1,c.2⟩
 rw[c];exact⟨.inr z,ae⟩
structure LnE(w:World)(t:Nat→Nat)(g:Nat)(a:Option Addr)(n c:Nat)(fin:Int)(j:Nat)(bad:Int)(vp vf:Value)(W:World):Prop where
 xb:W.heap[g+1]?=some (.cells #[vp,vf] 25 (0,0))
 rb:W.heap[g+2]?=some (.cells #[.slice none 0 0,.slice none 0 0] 25 (0,0))
 pb:es (g+4) a n c j fin bad W
 gc:am (fun k=>t k≤9) w W
structure Ln6(w:World)(t:Nat→Nat)(g B:Nat)(a:Option Addr)(n c:Nat)(ln fin:Int)(ws:List Wd)(j:Nat)(bad:Int)(t':Nat→Nat)(vp vf:Value)(y:ch)(W:World):Prop where
 lb:W.heap[g]?=some (.cells #[.int .i64 ln,.slice a n c] 79 (0,0))
 rc:gv W t' B (g+1) vp vf y
 rb:W.heap[g+2]?=some (.cells #[.slice none 0 0,.slice none 0 0] 25 (0,0))
 pb:es (g+4) a n c j fin bad W
 wds:j7 W [.slice a n c] ws
 gc:am (fun k=>t k≤9) w W
 tags:∀k,k<w.heap.size→9<t k→t' k=t k
 new:∀k,g≤k→k≤g+4→k≠g+1→t' k=10
section
variable {w W W':World}{t t' t2:Nat→Nat}{g B:Nat}{a:Option Addr}{n c:Nat}{ln fin:Int}{ws:List Wd}{j j':Nat}{bad bad':Int}{vp vf acx PU:Value}{y y2:ch}{T:Nat→Prop}
theorem Ln6.to(h:Ln6 w t g B a n c ln fin ws j bad t' vp vf y W)(b:Below W.heap.size W W'):Ln6 w t g B a n c ln fin ws j bad t' vp vf y W' :=
 ⟨G b h.lb,h.rc.below b,G b h.rb,G b h.pb,bz lz _ _ _ _ h.wds b,kS h.gc b,h.tags,h.new⟩
theorem Ln6.end(h:Ln6 w t g B a n c ln fin ws j bad t' vp vf y W):LnE w t g a n c fin j bad vp vf W:=⟨h.rc.box,h.rb,h.pb,h.gc⟩
theorem Ln6.fr(h:Ln6 w t g B a n c ln fin ws j bad t' vp vf y W)(hF:am T W W')(d:∀k,k<W.heap.size→T k→t' k≤9):am (fun k=>t k≤9) w W' :=
 h.gc.trans hF fun k b e=>Sy fun h9=>by have f:=h.tags k b h9;have e2:=d k (jq b h.gc.size) e;omega
theorem Ln6.on(h:Ln6 w t g B a n c ln fin ws j bad t' vp vf y W)(l:∀p,a=some p→p.block<w.heap.size∧9<t p.block)(hF:am T W W')(e:∀k,k<W.heap.size→T k→t' k≤9)(m:gv W' t2 B (g+1) acx PU y2)(i:∀k,k<W.heap.size→9<t' k→t2 k=t' k):
  Ln6 w t g B a n c ln fin ws j bad t2 acx PU y2 W':=by
 have q:∀{k:Nat} {o:Obj},W.heap[k]?=some o→k<W.heap.size:=fun h=>(bS.1 h).1;have f:∀k,k<W.heap.size→g≤k→k≤g+4→k≠g+1→¬T k:=fun k h0 h1 h2 h3 b=>by have:=e k h0 b;rw[h.new k h1 h2 h3]at this;omega
 have u:=q h.pb;refine⟨bI h.lb hF (f g Z Z Z Z),m,bI h.rb hF (f _ Z Z Z Z),bI h.pb hF (f _ Z Z Z Z),QB h.wds hF fun p r b=>?_,h.fr hF e,fun k b h9=>?_,fun k h1 h2 h3=>?_⟩
 ·obtain⟨d,e2⟩:=l p r;have s:=e _ (jq d h.gc.size) b;rw[h.tags _ d e2]at s;omega
 ·have d:=h.tags k b h9;rw[i k (jq b h.gc.size) Z,d]
 have d:=h.new k h1 h2 h3;rw[i k Z Z,d]
theorem Ln6.abn(h:Ln6 w t g B a n c ln fin ws j bad t' vp vf y W)(_:w.heap.size≤g)(b:∀p,a=some p→p.block<w.heap.size∧9<t p.block):Ln6 w t g B a n c ln fin ws j' bad' t' vp vf y ((((W.setCell ⟨g+4,0,none⟩ (.slice a n c)).setCell ⟨g+4,1,none⟩ (.int .i64 j')).setCell ⟨g+4,2,none⟩ (.int .i64 fin)).setCell ⟨g+4,3,none⟩ (.int .i64 bad')):=by
 refine VM ?_;intro hF;refine⟨bI h.lb hF Z,h.rc.to hF (fun k _ hk=>?_) (fun _ _ _=>rfl),bI h.rb hF Z,abe h.pb,QB h.wds hF (fun p hp hk=>?_),h.gc.trans hF (fun k hk e=>absurd hk Z),h.tags,h.new⟩
 ·rw[hk,h.new _ Z Z Z];exact⟨Z,dF h.pb D⟩
 have:=(b p hp).1;omega
end
def EndC(w:World)(t:Nat→Nat)(g B:Nat)(a:Option Addr)(n c:Nat)(ln:Int)(ws:List Wd)(x:ch)(vp vf:Value)(j5:Nat)(cG:Int)(W:World):Prop :=
 (cG=0∧j7 W [.slice a n c] ws∧(∃y t',gv W t' B (g+1) vp vf y∧(∀k,k<w.heap.size→9<t k→t' k=t k)∧(∀k,g≤k→k≤g+4→k≠g+1→t' k=10)∧(j5=n→dy ln (az ws 0) x=some y))∧(j5<n→dy ln (az ws 0) x=none)∧j5≤n)∨(cG≠0∧dy ln (az ws 0) x=none)
def EndL(w:World)(t:Nat→Nat)(g B:Nat)(a:Option Addr)(n c:Nat)(ln fin:Int)(ws:List Wd)(x:ch)(W:World):Prop :=
 ∃(b1:Option Addr)(n1 c1:Nat)(b2:Option Addr)(n2 c2 j5:Nat)(cG:Int),LnE w t g a n c fin j5 cG (.slice b1 n1 c1) (.slice b2 n2 c2) W∧EndC w t g B a n c ln ws x (.slice b1 n1 c1) (.slice b2 n2 c2) j5 cG W
def EndF(w:World)(t:Nat→Nat)(g B:Nat)(a:Option Addr)(n c:Nat)(ln fin:Int)(ws:List Wd)(x:ch)(W:World):Prop :=
 ∃(b1:Option Addr)(n1 c1:Nat)(b2:Option Addr)(n2 c2 j5:Nat)(cG:Int),LnE w t g a n c fin j5 cG (.slice b1 n1 c1) (.slice b2 n2 c2) W∧
  ((cG=0∧∃y t',dy ln (az ws 0) x=some y∧gv W t' B (g+1) (.slice b1 n1 c1) (.slice b2 n2 c2) y∧(∀k,k<w.heap.size→9<t k→t' k=t k)∧t' (g+2)=10)∨(cG≠0∧dy ln (az ws 0) x=none))
section
variable {w W W':World}{t t':Nat→Nat}{g B:Nat}{a:Option Addr}{n c:Nat}{ln fin:Int}{ws:List Wd}{x y:ch}{vp vf:Value}{j j':Nat}{bad bad':Int}{b1 b2:Option Addr}{n1 c1 n2 c2:Nat}
theorem LnE.abn(h:LnE w t g a n c fin j bad vp vf W)(_:w.heap.size≤g):LnE w t g a n c fin j' bad' vp vf ((((W.setCell ⟨g+4,0,none⟩ (.slice a n c)).setCell ⟨g+4,1,none⟩ (.int .i64 j')).setCell ⟨g+4,2,none⟩ (.int .i64 fin)).setCell ⟨g+4,3,none⟩ (.int .i64 bad')):=by
 refine VM ?_;intro hF;exact⟨bI h.xb hF Z,bI h.rb hF Z,abe h.pb,h.gc.trans hF fun k hk e=>absurd hk Z⟩
theorem LnE.to(h:LnE w t g a n c fin j bad vp vf W)(b:Below W.heap.size W W'):LnE w t g a n c fin j bad vp vf W':=⟨G b h.xb,G b h.rb,G b h.pb,kS h.gc b⟩
theorem zqp(b:LnE w t g a n c fin j bad (.slice b1 n1 c1) (.slice b2 n2 c2) W)(f:EndC w t g B a n c ln ws x (.slice b1 n1 c1) (.slice b2 n2 c2) j' bad' W)(i:w.heap.size≤g)(l:∀p,a=some p→p.block<w.heap.size):
  EndL w t g B a n c ln fin ws x ((((W.setCell ⟨g+4,0,none⟩ (.slice a n c)).setCell ⟨g+4,1,none⟩ (.int .i64 j')).setCell ⟨g+4,2,none⟩ (.int .i64 fin)).setCell ⟨g+4,3,none⟩ (.int .i64 bad')):=by
 refine VM ?_;intro hF;refine⟨b1,n1,c1,b2,n2,c2,j',bad',b.abn i,?_⟩;rcases f with⟨h0,h1,⟨y,t',m,q,d,r⟩,s,u⟩|h
 ·refine .inl ⟨h0,QB h1 hF (fun p v e=>by have:=l p v;omega),⟨y,t',m.to hF (fun k _ e=>?_) (fun _ _ _=>rfl),q,d,r⟩,s,u⟩;rw[e,d _ Z Z Z];exact⟨Z,dF b.pb D⟩
 exact .inr h
theorem Ln6.endC(h:Ln6 w t g B a n c ln fin ws j bad t' vp vf y W)(h0:bad'=0)(b:j'=n→dy ln (az ws 0) x=some y)(d:j'<n→dy ln (az ws 0) x=none)(e:j'≤n):EndC w t g B a n c ln ws x vp vf j' bad' W :=
 .inl ⟨h0,h.wds,⟨y,t',h.rc,h.tags,h.new,b⟩,d,e⟩
theorem EndC.to(h:EndC w t g B a n c ln ws x vp vf j bad W)(b:Below W.heap.size W W'):EndC w t g B a n c ln ws x vp vf j bad W':=by
 rcases h with⟨h0,h1,⟨y,t',d,e,f,i⟩,k,l⟩|h
 ·exact .inl ⟨h0,bz lz _ _ _ _ h1 b,⟨y,t',d.below b,e,f,i⟩,k,l⟩
 exact .inr h
end
def RcV(W:World)(t:Nat→Nat)(B:Nat)(vp vf:Value)(x:ch):Prop:=(∃css,RowL W t 2 B 47 3 AC vf x.pf css)∧PkRow W t B vp x.pk
theorem gv.val{W:World}{t:Nat→Nat}{B:Nat}{vp vf:Value}{x:ch}(h:gv W t B xb vp vf x):RcV W t B vp vf x:=⟨h.pf,h.pk⟩
def NV(t:Nat→Nat)(B:Nat)(ln:Int)(ws:List Wd)(x:ch)(w:World)(e:Ending)(w':World):Prop :=
 ∃(b1:Option Addr)(n1 c1:Nat)(b2:Option Addr)(n2 c2:Nat)(bad:Int),e=.returned (.tuple #[.agg #[.slice b1 n1 c1,.slice b2 n2 c2],.int .i64 bad])∧
  ((bad=0∧∃y t',dy ln (az ws 0) x=some y∧RcV w' t' B (.slice b1 n1 c1) (.slice b2 n2 c2) y∧∀k,k<w.heap.size→9<t k→t' k=t k)∨(bad≠0∧dy ln (az ws 0) x=none))∧am (fun k=>t k≤9) w w'
end
section
open Shelf RowKit Lib av cy
open ac (Wd Ln jT)
section
variable {w:World}{a:Option Addr}{n c:Nat}{ws:List Wd}{fin:Int}{i:Nat}{t:Nat→Nat}{B:Nat}{first:ByteArray}{line:Int}{p:ap}{nm:ByteArray}{li:Int}{b2:Option Addr}{m2 d2:Nat}{b3:Option Addr}{m3 d3:Nat}{b4:Option Addr}{m4 d4:Nat}{b5:Option Addr}{m5 d5:Nat}{b6:Option Addr}{m6 d6:Nat}{b7:Option Addr}{m7 d7:Nat}
theorem bodyC_any(d:j7 w [.slice a n c] ws)(e:n≤1000)(f:∀x∈ws,x.2.length≤70000)(g:∀j,cO ws fin j≠0)(h:p.name=nm)(k:p.line=li)(aP:zz w t B p (.slice b2 m2 d2) (.slice b3 m3 d3) (.slice b4 m4 d4) (.slice b5 m5 d5) (.slice b6 m6 d6) (.slice b7 m7 d7))(l:z9 p)(m:B≤w.heap.size)(b:first=nZ∨first=n8∨first=kX∨first=kY):
  Calls prog 79 #[.string first,.int .i64 line,pv a n c i fin 0,.agg #[.string nm,.int .i64 li,.slice b2 m2 d2,.slice b3 m3 d3,.slice b4 m4 d4,.slice b5 m5 d5,.slice b6 m6 d6,.slice b7 m7 d7]] w (zh a n c fin ws i t B first line p w):=by
 rcases b with b|b|b|b
 ·exact ya0 d e f g i h k aP l m b
 ·exact ya5 d e f g i h k aP l m b
 ·exact zxc d e f g i h k aP l m b
 exact zxd d e f g i h k aP l m b
theorem ruleC_any(d:j7 w [.slice a n c] ws)(e:n≤1000)(f:∀x∈ws,x.2.length≤70000)(g:∀j,cO ws fin j≠0)(h:p.name=nm)(k:p.line=li)(aP:zz w t B p (.slice b2 m2 d2) (.slice b3 m3 d3) (.slice b4 m4 d4) (.slice b5 m5 d5) (.slice b6 m6 d6) (.slice b7 m7 d7))(l:z9 p)(m:B≤w.heap.size)(b:first=lF∨first=kv):
  Calls prog 78 #[.string first,.int .i64 line,pv a n c i fin 0,.agg #[.string nm,.int .i64 li,.slice b2 m2 d2,.slice b3 m3 d3,.slice b4 m4 d4,.slice b5 m5 d5,.slice b6 m6 d6,.slice b7 m7 d7]] w (zh a n c fin ws i t B first line p w):=by
 rcases b with b|b
 ·exact zy5 d e f g i h k aP l m b
 exact zvh d e f g i h k aP l m b
end
def RbR(first:ByteArray)(line:Int)(p:ap)(ws:List Wd)(i j:Nat)(q:ap):Prop :=
 q.name=p.name∧q.line=p.line∧(j=ws.length→dw first line p (az ws i)=some q)∧(j<ws.length→dw first line p (az ws i)=none)∧j≤ws.length
structure RbV where
 (c2 c3 c4 c5 c6 c7:Option Addr)
 (x2 y2 x3 y3 x4 y4 x5 y5 x6 y6 x7 y7 j:Nat)
 bad:Int
def RbQ(w7:World)(t:Nat→Nat)(B:Nat)(K:List Nat)(bad:Int)(R:ap→Prop)(v2 v3 v4 v5 v6 v7:Value)(W:World):Prop :=
 am (fun k=>Live (t k)∧¬Ty w7 k) w7 W∧(bad=0→∃q t',R q∧zz W t' B q v2 v3 v4 v5 v6 v7∧(∀k,k<w7.heap.size→t' k=t k)∧∀k∈K,w7.heap.size≤k∧k<W.heap.size∧t' k=10)
section
variable {w7 W W':World}{t:Nat→Nat}{B:Nat}{K:List Nat}{bad:Int}{R:ap→Prop}{v2 v3 v4 v5 v6 v7:Value}
theorem RbQ.alloc(h:RbQ w7 t B K bad R v2 v3 v4 v5 v6 v7 W)(o:Obj):RbQ w7 t B (W.heap.size::K) bad R v2 v3 v4 v5 v6 v7 (W.alloc o):=by
 have b:Below W.heap.size W (W.alloc o):=aS W o;refine⟨kS h.1 b,fun h0=>?_⟩;obtain⟨q,t',h1,h2,h3,h4⟩:=h.2 h0;refine⟨q,aJ t' W.heap.size 10,h1,h2.to (am.ce (S:=fun _=>False) b) (fun _ _ h=>h.elim) (fun k a _=>aR a),fun k a=>?_,fun k a=>?_⟩
 ·rw[aR (jq a h.1.size),h3 k a]
 rcases iC.1 a with rfl|a
 ·exact⟨h.1.size,ae,pL (aE _)⟩
 obtain⟨d,c,e⟩:=h4 k a;exact⟨d,jq c b.size,by rw[aR c,e]⟩
theorem RbQ.store(h:RbQ w7 t B K bad R v2 v3 v4 v5 v6 v7 W)(b:k∈K){fr:Nat×Nat}(_:w7.heap.size≤k)(c:W.heap[k]?=some (.cells cs e fr))(d:e≠51∧e≠137)(hF:am (fun z=>z=k) W W'):RbQ w7 t B K bad R v2 v3 v4 v5 v6 v7 W':=by
 refine⟨h.1.trans hF fun z a e=>absurd a Z,fun h0=>?_⟩;obtain⟨q,t',h1,h2,h3,h4⟩:=h.2 h0;refine⟨q,t',h1,h2.to hF (fun z _ e=>?_) (fun _ _ _=>rfl),h3,fun z a=>?_⟩
 ·subst e;have:=(h4 _ b).2.2;exact⟨pH,Z,dF c d⟩
 obtain⟨f,g,i⟩:=h4 z a;exact⟨f,jq g hF.size,i⟩
end
theorem rbq_call{w7 W:World}{t:Nat→Nat}{B:Nat}{K:List Nat}{a:Option Addr}{n c:Nat}{fin:Int}{ws:List Wd}{i:Nat}{first:ByteArray}{line:Int}{p:ap}{e:Ending}(d:Below w7.heap.size w7 W)(o:∀k∈K,w7.heap.size≤k∧k<W.heap.size)(h:zh a n c fin ws i (aJ t w7.heap.size 10) B first line p W e w'):
  ∃(b2 b3 b4 b5 b6 b7:Option Addr)(m2 d2 m3 d3 m4 d4 m5 d5 m6 d6 m7 d7 j:Nat)(bad:Int),e=.returned (.tuple #[.agg #[.string p.name,.int .i64 p.line,.slice b2 m2 d2,.slice b3 m3 d3,.slice b4 m4 d4,.slice b5 m5 d5,.slice b6 m6 d6,.slice b7 m7 d7],pv a n c j fin bad])∧
   RbQ w7 t B K bad (RbR first line p ws i j) (.slice b2 m2 d2) (.slice b3 m3 d3) (.slice b4 m4 d4) (.slice b5 m5 d5) (.slice b6 m6 d6) (.slice b7 m7 d7) w'∧(bad=0∨(bad≠0∧dw first line p (az ws i)=none))∧am (fun k=>k<w7.heap.size) W w':=by
 obtain⟨b2,b3,b4,b5,b6,b7,m2,d2,m3,d3,m4,d4,m5,d5,m6,d6,m7,d7,j,bad,r,f,hF⟩:=h;have s:am (fun k=>Live (t k)∧¬Ty w7 k) w7 w':=(am.ce d).trans hF fun k b hT=>by rw[aR b]at hT;exact⟨hT.1,fun h=>hT.2 (h.o8 (am.ce (S:=fun _=>False) d) fun h=>h)⟩
 have u:am (fun k=>k<w7.heap.size) W w':=hF.mono fun k _ hT=>by
  apply JU
  intro b;rw[pL b]at hT;have:=hT.1;exact OH
 refine⟨b2,b3,b4,b5,b6,b7,m2,d2,m3,d3,m4,d4,m5,d5,m6,d6,m7,d7,j,bad,r,⟨s,fun h0=>?_⟩,?_,u⟩
 ·rcases f with⟨_,q,t',h1,v,w,x,y,z,g⟩|⟨h1,_⟩
  ·refine⟨q,t',⟨h1,v,x,y,z⟩,w,fun k b=>?_,fun k b=>?_⟩
   ·rw[g k (jq b d.size),aR b]
   obtain⟨l,m⟩:=o k b;exact⟨l,jq m hF.size,by rw[g k m,pL l]⟩
  exact absurd h0 h1
 rcases f with⟨h,_⟩|h
 ·exact .inl h
 exact .inr h
def RbZ(w7:World)(t:Nat→Nat)(B:Nat)(K:List Nat)(ws:List Wd)(i:Nat)(first:ByteArray)(line:Int)(p:ap)(v:RbV)(W w':World):Prop :=
 RbQ w7 t B K v.bad (RbR first line p ws i v.j) (.slice v.c2 v.x2 v.y2) (.slice v.c3 v.x3 v.y3) (.slice v.c4 v.x4 v.y4) (.slice v.c5 v.x5 v.y5) (.slice v.c6 v.x6 v.y6) (.slice v.c7 v.x7 v.y7) w'∧(v.bad=0∨(v.bad≠0∧dw first line p (az ws i)=none))∧am (fun k=>k<w7.heap.size) W w'
theorem ybd{w7 W:World}{t:Nat→Nat}{B:Nat}{K:List Nat}{a:Option Addr}{n c:Nat}{fin:Int}{ws:List Wd}{i:Nat}{first:ByteArray}{line:Int}{p:ap}{nm:ByteArray}{li:Int}{e:Ending}(d:p.name=nm)(f:p.line=li)(g:Below w7.heap.size w7 W)(l:∀k∈K,w7.heap.size≤k∧k<W.heap.size)(h:zh a n c fin ws i (aJ t w7.heap.size 10) B first line p W e w'):
  ∃v:RbV,e=.returned (.tuple #[.agg #[.string nm,.int .i64 li,.slice v.c2 v.x2 v.y2,.slice v.c3 v.x3 v.y3,.slice v.c4 v.x4 v.y4,.slice v.c5 v.x5 v.y5,.slice v.c6 v.x6 v.y6,.slice v.c7 v.x7 v.y7],pv a n c v.j fin v.bad])∧RbZ w7 t B K ws i first line p v W w':=by
 obtain⟨b2,b3,b4,b5,b6,b7,m2,d2,m3,d3,m4,d4,m5,d5,m6,d6,m7,d7,j,bad,b,h1,m,o⟩:=rbq_call g l h;rw[d,f]at b;exact⟨⟨b2,b3,b4,b5,b6,b7,m2,d2,m3,d3,m4,d4,m5,d5,m6,d6,m7,d7,j,bad⟩,b,h1,m,o⟩
def RbE(w7:World)(t:Nat→Nat)(B:Nat)(a:Option Addr)(n c:Nat)(fin:Int)(ws:List Wd)(i:Nat)(first:ByteArray)(line:Int)(p:ap)(nm:ByteArray)(li:Int)(x y:Value)(W:World):Prop :=
 ∃(k1 k2:Nat)(v:RbV),x=.pointer (some ⟨k1,0,none⟩)∧y=.pointer (some ⟨k2,0,none⟩)∧
  W.heap[k1]?=some (.cells #[.string nm,.int .i64 li,.slice v.c2 v.x2 v.y2,.slice v.c3 v.x3 v.y3,.slice v.c4 v.x4 v.y4,.slice v.c5 v.x5 v.y5,.slice v.c6 v.x6 v.y6,.slice v.c7 v.x7 v.y7] 45 (0,0))∧es k2 a n c v.j fin v.bad W∧w7.heap.size≤k1∧w7.heap.size≤k2∧
  RbQ w7 t B [] v.bad (RbR first line p ws i v.j) (.slice v.c2 v.x2 v.y2) (.slice v.c3 v.x3 v.y3) (.slice v.c4 v.x4 v.y4) (.slice v.c5 v.x5 v.y5) (.slice v.c6 v.x6 v.y6) (.slice v.c7 v.x7 v.y7) W∧(v.bad=0∨(v.bad≠0∧dw first line p (az ws i)=none))
theorem RbQ.drop{w7 W:World}{t:Nat→Nat}{B:Nat}{K:List Nat}{bad:Int}{R:ap→Prop}{v2 v3 v4 v5 v6 v7:Value}(h:RbQ w7 t B K bad R v2 v3 v4 v5 v6 v7 W):RbQ w7 t B [] bad R v2 v3 v4 v5 v6 v7 W :=
 ⟨h.1,fun h0=>by obtain⟨q,t',h1,h2,h3,_⟩:=h.2 h0;exact⟨q,t',h1,h2,h3,fun k hk=>by simp at hk⟩⟩
def NxL(w:World)(t:Nat→Nat)(g B:Nat)(a:Option Addr)(n c:Nat)(ln fin:Int)(ws:List Wd)(i:Nat)(b:Bool)(t':Nat→Nat)(vp vf:Value)(y:ch)(W:World):Prop :=
 ∃j bad,Ln6 w t g B a n c ln fin ws j bad t' vp vf y W∧((b=true∧i<n∧j=i+1∧bad=0)∨((b=false∨n≤i)∧bad≠0))
theorem abv{P:Program}{b:Func}{p u:Tmp}{ty t:TypeId}(h:b.results=#[.cell p ty,.tmp u]){tmps:Array Value}{w:World}{g:Nat}{cs:Array Value}{d:TypeDesc}{x:Value}
  (hx:tmps.getD u undef=x) (hp:tmps.getD p undef=.pointer (some ⟨g,0,none⟩)) (hg:w.heap[g]?=some (.cells cs t (0,0)))
  (hu:P.underlying ty=some d) (O:(match d with | .struct _ | .array _ _=>true|_=>false)=true) (hi:(P.info? ty).map (·.size)=some cs.size) :
  (results b tmps).run P w=.ok (.tuple #[.agg cs,x]) w:=by
 exact agj
theorem rb_end{w w7 W:World}{t t1:Nat→Nat}{B:Nat}{a:Option Addr}{n c:Nat}{i fin:Int}{ws:List Wd}{l:Nat}{bad:Int}{x:ch}{b:List ap}{p:ap}{v2 v3 v4 v5 v6 v7 m s u v y:Value}{first nm:ByteArray}{li:Int}{K:List Nat}
  (d:Ln6 w t g B a n c i fin ws 1 0 t1 (.slice (some ⟨pb,0,none⟩) (b.length+1) l) vf x w7) (U:x.pk=b++[p]) (L:eW w7 t1 B (.slice (some ⟨pb,0,none⟩) (b.length+1) l) b p bN v2 v3 v4 v5 v6 v7)
  (A:RbQ w7 t1 B K bad (RbR first i p ws 1 j) u2 m s u v y W) (X:bad=0∨(bad≠0∧dw first i p (az ws 1)=none)) (aa:p.name=nm) (ab:p.line=li) (ad:first≠iK) (ae:first≠lI)
  (af:az ws 0=first::az ws 1) (_:n=ws.length) (ag:∀q,a=some q→q.block<w.heap.size∧9<t q.block) :
  LnE w t g a n c fin 1 0 (.slice (some ⟨pb,0,none⟩) (b.length+1) l) vf ((((((((W.setCell ⟨pb,b.length*8,none⟩ (.string nm)).setCell ⟨pb,b.length*8+1,none⟩ (.int .i64 li)).setCell ⟨pb,b.length*8+2,none⟩ (u2)).setCell ⟨pb,b.length*8+3,none⟩ (m)).setCell ⟨pb,b.length*8+4,none⟩ (s)).setCell ⟨pb,b.length*8+5,none⟩ (u)).setCell ⟨pb,b.length*8+6,none⟩ (v)).setCell ⟨pb,b.length*8+7,none⟩ (y))∧EndC w t g B a n c i ws x (.slice (some ⟨pb,0,none⟩) (b.length+1) l) vf j bad ((((((((W.setCell ⟨pb,b.length*8,none⟩ (.string nm)).setCell ⟨pb,b.length*8+1,none⟩ (.int .i64 li)).setCell ⟨pb,b.length*8+2,none⟩ (u2)).setCell ⟨pb,b.length*8+3,none⟩ (m)).setCell ⟨pb,b.length*8+4,none⟩ (s)).setCell ⟨pb,b.length*8+5,none⟩ (u)).setCell ⟨pb,b.length*8+6,none⟩ (v)).setCell ⟨pb,b.length*8+7,none⟩ (y)):=by
 have au:pb<w7.heap.size:=(L.row.lt pb rfl).2;have ah:t1 pb=1:=L.tag pb rfl;obtain⟨Wx,C⟩:=Y (((((((((W.setCell ⟨pb,b.length*8,none⟩ (.string nm)).setCell ⟨pb,b.length*8+1,none⟩ (.int .i64 li)).setCell ⟨pb,b.length*8+2,none⟩ (u2)).setCell ⟨pb,b.length*8+3,none⟩ (m)).setCell ⟨pb,b.length*8+4,none⟩ (s)).setCell ⟨pb,b.length*8+5,none⟩ (u)).setCell ⟨pb,b.length*8+6,none⟩ (v)).setCell ⟨pb,b.length*8+7,none⟩ (y)));have ai:am (fun k=>k=pb) W Wx:=by rw[C];exact aN (aN (aN (aN (aN (aN (aN (aN (am.refl (fun k=>k=pb) W) _ _) _ _) _ _) _ _) _ _) _ _) _ _) _ _
 have hF:am (fun k=>(Live (t1 k)∧¬Ty w7 k)∨k=pb) w7 Wx:=(A.1.mono fun _ _ h=>.inl h).trans ai fun _ _ h=>.inr h
 have F:∀k,k<w7.heap.size→((Live (t1 k)∧¬Ty w7 k)∨k=pb)→t1 k≤9∧0<t1 k:=fun k _ h=>by
  rcases h with h|h
  ·have:=h.1;exact OH
  rw[h,ah];omega
 have N:∀{k:Nat} {o:Obj},w7.heap[k]?=some o→k<w7.heap.size:=fun h=>(bS.1 h).1;have R:∀k,k<w7.heap.size→(t1 k=10∨t1 k=0)→¬((Live (t1 k)∧¬Ty w7 k)∨k=pb):=fun k f e h=>by have:=F k f h;omega
 have aj:LnE w t g a n c fin 1 0 (.slice (some ⟨pb,0,none⟩) (b.length+1) l) vf Wx :=
  ⟨bI d.rc.box hF (R _ (N d.rc.box) (.inr d.rc.o9)),bI d.rb hF (R _ (N d.rb) (.inl (d.new _ Z Z Z))),bI d.pb hF (R _ (N d.pb) (.inl (d.new _ Z Z Z))),d.fr hF fun k f h=>(F k f h).1⟩
 rw[←C];refine⟨aj,?_⟩;have S:∀r,dw first i p (az ws 1)=r→dy i (az ws 0) x=r.map fun q=>{ x with pk:=b++[q] }:=fun r z=>by rw[af,Ip ad ae U,z]
 rcases X with h0|⟨h0,h1⟩
 ·obtain⟨q,t',⟨ak,al,an,ao,_⟩,aq,T,-⟩:=A.2 h0;have z:=d.rc.rest L A.1 aq T (aL _ _);rw[ak,al,aa,ab,←C]at z;have ar:=d.on ag hF (fun k f h=>(F k f h).1) z fun k f _=>T k f;refine ar.endC h0 (fun hj=>?_) (fun hj=>?_) Z
  ·rw[S _ (an Z)];rfl
  rw[S _ (ao Z)];rfl
 exact .inr ⟨h0,by rw[S _ h1];rfl⟩
end
section
open RowKit
open ac (Bs Wd Ln St RS)
theorem zoo(c:UInt8)(w:World):Calls prog 107 #[.int .u8 c.toNat] w fun e w'=>e=.returned (.bool (ac.part c))∧w=w':=by
 have k:c.toNat<256:=c.toNat_lt;obtain⟨n,i⟩:=Y c.toNat;have b:ac.part c=(decide (32<n)&&decide (n<127)&&!decide (n=35)):=by rw[i];rfl
 rw[←i]at k⊢;obtain⟨p,g⟩:=Y (ac.part c);rw[←g]at b⊢;clear i;by_cases h1:32<n
 ·by_cases j:n<127
  ·by_cases d:n=35
   ·have f:p=false:=by rw[b];simp[d]
    have l:((n:Int) !=35)=false:=by rw[d];rfl
    subst f;clear b g d;exact RP
   have f:p=true:=by rw[b];simp[h1,j,d]
   have l:((n:Int) !=35)=true:=N_;subst f;clear b g d;exact RP
  have f:p=false:=by rw[b];simp[j]
  have d:127≤n:=Z;subst f;clear b g;exact RP
 have f:p=false:=by rw[b];simp[h1]
 have d:n≤32:=Z;subst f;clear b g;exact RP
def zuk(w:World)(r:List Wd×Int×Int)(e:Ending)(w':World):Prop:=∃v,e=.returned (.tuple #[v,.int .i64 r.2.1,.int .i64 r.2.2])∧w'.ownsRow w.heap.size 81 2 v r.1.length (r.1.flatMap mF)∧Below w.heap.size w w'
def LineGo(w0:World)(t:Bs)(room:Bool)(k:Nat)(v o:Value)(w:World):Prop :=
 ∃st:RS,ac.ms t room=ac.rgo t room st k (t.drop k)∧o=.bool st.off∧w.ownsRow w0.heap.size 81 2 v st.out.length (st.out.flatMap mF)∧st.out.length≤k∧Below w0.heap.size w0 w
theorem drop_at(s:ByteArray)(k:Nat)(h:k<s.size):s.data.toList.drop k=s[k]::s.data.toList.drop (k+1):=by
 rw[rK Yi];rfl
theorem ME(s:ByteArray)(k:Nat)(h:k<s.size):s.data.toList.getD k 0=s[k]:=by
 have a:k<s.data.toList.length:=Yi;rw[List.getD_eq_getElem?_getD,bR a];rfl
theorem NL{t:Bs}{b:Bool}{a:RS}{k:Nat}{c:UInt8}{r:Bs}{e:Int}(h:ac.EQ t b a k c=e)(d:e≠0):ac.rgo t b a k (c::r)=(a.out,(k:Int)+1,e):=by
 unfold ac.rgo;rw[if_neg (by rw[h];exact d),h]
theorem znt{t:Bs}{a:Bool}{b:RS}{c:UInt8}{r:Bs}(h:ac.EQ t a b k c=0):ac.rgo t a b k (c::r)=ac.rgo t a (ac.iu t b k c) (k+1) r:=by
 rw[ac.rgo,M h]
theorem zrc{p:UInt8→Bool}:∀(l:Bs)(m:Nat),m≤l.length→(∀j,j<m→p (l.getD j 0)=true)→(m<l.length→p (l.getD m 0)=false)→l.takeWhile p=l.take m:=by
 intro l
 induction l with
 |nil=>intro m b _ _;simp
 |cons a l e=>
  intro m b h1 c
  match m with
  |0=>have:=c ae;simp only[List.getD_cons_zero]at this;simp[this]
  |m+1=>have h0:=h1 0 Z;simp only[List.getD_cons_zero]at h0;simp only[List.takeWhile_cons,h0,axa,Si];rw[e m (by simpa using b) (fun j d=>by have:=h1 (j+1) Z;simpa using this) (fun d=>by have:=c (by simpa using d);simpa using this)]
theorem zst(s:ByteArray)(k q:Nat)(_:k≤q)(_:q≤s.size)(h1:∀j,k≤j→j<q→ac.part (s.data.toList.getD j 0)=true)(b:q<s.size→ac.part (s.data.toList.getD q 0)=false):bv (ac.wl s.data.toList k)=.string (s.extract k q):=by
 have c:s.data.toList.length=s.size:=SF
 have e:ac.wl s.data.toList k=(s.extract k q).data.toList:=by
  rw[Jd];unfold ac.wl;refine zrc _ _ (by rw[xf];omega) (fun j a=>?_) (fun a=>?_)
  ·have:=h1 (k+j) Z Z;simpa [List.getD,Sx] using this
  rw[xf]at a;have:=b Z;have e2:k+(q-k)=q:=Z;simpa [List.getD,Sx,e2] using this
 unfold bv;rw[e]
theorem ybk(s:ByteArray)(room:Bool)(w:World)(_:s.size≤1000000):Calls prog 73 #[.string s,.bool room] w (zuk w (ac.ms s.data.toList room)):=by
 obtain⟨t,y⟩:=Y s.data.toList;rw[←y]
 have h0:LineGo w t room 0 (.slice (some ⟨w.heap.size,0,none⟩) 0 0) (.bool false) (w.alloc (.cells #[] 81)) :=
  ⟨⟨false,[]⟩,rfl,rfl,wG (base:=w.heap.size) (e:=81) (size:=2) w #[] 0 (aE _) D rfl,aE _,(aL _ _).alloc (aE _) _⟩
 obtain⟨Ht,S⟩:=ak y h0;clear y h0;go_enter func73,ntmps73;go_wp2_with fail;go_loopw [7,8,9] (fun v o i wr=>∃k:Nat,k≤s.size∧i=.int .i64 k∧LineGo w t room k v o wr) (fun _ _ i _=>s.size-(intOf i).toNat)
 case atStart=>exact⟨0,bj _,rfl,S.o⟩
 case round=>
  obtain⟨k,hk,rfl,st,r,rfl,z,_,A⟩:=hrel;obtain⟨va,vc,rfl⟩:=bg z;have hB:=A.size;by_cases e8:k<s.size
  ·have p:=drop_at s k e8;rw[←Ht.o]at p;rw[p]at r;obtain⟨c,B⟩:=Y (s[k]);have T:c.toNat<256:=c.toNat_lt;obtain⟨n,hn⟩:=Y c.toNat;have fj:s[k].toNat=n:=by rw[hn,B]
   rw[←B]at r;rw[←hn]at T;obtain⟨off,K⟩:=Y st.off;rw[←K];revert A z p r B hn K;refine eb ?_;intro DS cZ Hdr Hg Hc Hn YE;by_cases hA:n<32∨126<n
   ·have tD:ac.ms t room=(st.out,(k:Int)+1,3):=by
     rw[Hg.o];exact NL (by unfold ac.EQ;rw[if_pos S3]) D
    have PH:=O tD;clear tD;by_cases ab:n<32
    ·exact aic
    have ad:126<n:=Z;exact aic
   have ae:32≤n:=Z;have af:n≤126:=Z;have L:ac.EQ t room st k c=if ac.ko t st k c=true then 0 else if st.out.length=40∨room=false then 4 else 0:=by unfold ac.EQ;rw[if_neg S3]
   have Hr:=O L;clear L;clear hA;cases off
   ·by_cases As:n=35
    ·have U:((n:Int)==35)=true:=Kg;have l:c.toNat=35:=S4;have fj:ac.ko t st k c=true:=by unfold ac.ko;simp[ac.Nm,l]
     refine RM ?_;intro uP aj;have rU:(ac.iu t st k c).off=true:=by unfold ac.iu ac.Nm;simp[l]
     revert fj uP aj rU;refine bV ?_;intro Ez I4 cd Au;clear l As;go_wp2_with fail;exact Rr
    have U:((n:Int)==35)=false:=l9;have l:c.toNat≠35:=S4;have N:ac.Nm st c=false:=by unfold ac.Nm;rw[←YE.o];simp[l]
    obtain⟨QF,_⟩:=ak N l;clear N l;clear As;obtain⟨pc,jI⟩:=Y (ac.part c);have HP:=aH (fun w=>zoo c w);rw[←jI,←Hn.o]at HP;have ES:=O jI;clear jI;cases pc
    ·have fj:ac.ko t st k c=true:=by unfold ac.ko;rw[←ES.o];simp
     refine RM ?_;intro uP aj;have rU:(ac.iu t st k c).off=false:=by unfold ac.iu ac.Nm;exact QF.o
     revert fj uP aj rU;refine bV ?_;intro Ez I4 cd Au;go_wp2_with (go_at_call 107;refine (HP.o _).mono ?_;rintro e w' ⟨rfl,rfl⟩);exact Rr
    obtain⟨pp,m⟩:=Y ((decide (0<k)&&ac.part (t.getD (k-1) 0)));have fj:ac.ko t st k c=pp:=by unfold ac.ko;rw[QF.o,←ES.o,m];rfl
    by_cases R:0<k
    ·have W:k-1<s.size:=Z;have u:=ME s (k-1) W;rw[←Ht.o]at u;have C:pp=ac.part s[k-1]:=by rw[m,u];simp[R]
     have HQ:=aH (fun w=>zoo s[k-1] w);rw[←C]at HQ;obtain⟨Hpv,Hgd,X⟩:=aQ C u m;clear C u m;cases pp
     ·have BZ:¬ac.ko t st k c=true:=by rw[fj];simp
      by_cases my:st.out.length=40
      ·have F:((st.out.length:Int)==40)=true:=Kg;have tD:ac.ms t room=(st.out,(k:Int)+1,4):=by rw[Hg.o];exact NL atb D
       exact ahk
      have F:((st.out.length:Int)==40)=false:=l9;cases room
      ·have tD:ac.ms t false=(st.out,(k:Int)+1,4):=by
        rw[Hg.o];exact NL atc D
       exact ahk
      have uP:ac.EQ t true st k c=0:=atd;refine aks ?_;intro aj rU fe;revert fj BZ my uP aj rU fe;refine eb ?_;intro Ez Vd UH I4 cd Au kV;go_wp2_with fail;refine (HP.o _).mono ?_;refine DR ?_;go_wp2_with fail;refine (HQ.o _).mono ?_;exact agh
     refine RM ?_;intro uP aj;have rU:(ac.iu t st k c).off=false:=QF.o;revert fj uP aj rU;refine bV ?_;intro Ez I4 cd Au;go_wp2_with fail;refine (HP.o _).mono ?_;refine DR ?_;go_wp2_with fail;refine (HQ.o _).mono ?_;refine DR ?_;go_wp2_with fail;exact Rr
    have aa:pp=false:=by rw[m];simp[R]
    subst aa;have X:=O m;clear m;have BZ:¬ac.ko t st k c=true:=by rw[fj];simp
    by_cases my:st.out.length=40
    ·have F:((st.out.length:Int)==40)=true:=Kg;have tD:ac.ms t room=(st.out,(k:Int)+1,4):=by rw[Hg.o];exact NL atb D
     exact alf
    have F:((st.out.length:Int)==40)=false:=l9;cases room
    ·have tD:ac.ms t false=(st.out,(k:Int)+1,4):=by
      rw[Hg.o];exact NL atc D
     exact alf
    have uP:ac.EQ t true st k c=0:=atd;refine aks ?_;intro aj rU fe;revert fj BZ my uP aj rU fe;refine eb ?_;intro Ez Vd UH I4 cd Au kV;go_wp2_with fail;refine (HP.o _).mono ?_;exact agh
   have fj:ac.ko t st k c=true:=by unfold ac.ko;simp[ac.Nm,←YE.o]
   refine RM ?_;intro uP aj;have rU:(ac.iu t st k c).off=true:=by unfold ac.iu ac.Nm;simp[←YE.o]
   revert fj uP aj rU;refine bV ?_;intro Ez I4 cd Au;go_wp2_with fail;exact Rr
  have p:t.drop k=[]:=F7 (by rw[Ht.o,ou];show s.data.size≤k;have:s.data.size=s.size:=rfl;omega);have tD:ac.ms t room=(st.out,0,0):=by rw[r,p];rfl
  revert A z tD;refine fo ?_;intro DS cZ PH;clear r p;go_wp2_with fail;refine fZ (v:=.tuple #[.slice va st.out.length vc,.int .i64 0,.int .i64 0]) UN rfl ?_;exact Xx
theorem zie(h:Below w.drew.heap.size w.drew w'):Below w.heap.size w w':=⟨h.os,h.tape,h.output,h.size,h.block⟩
structure vE(B:Nat)(out:List Ln)(ov:Value)(rv:List Value)(w:World):Prop where
 row:w.ownsRow B 79 2 ov out.length (vt out rv)
 K6:rv.length=out.length
 rows:∀(i:Nat)(ln:Ln)(v:Value),out[i]?=some ln→rv[i]?=some v→w.ownsRow B 81 2 v ln.2.length (ln.2.flatMap mF)
theorem vE.kept{out:List Ln}(h:vE B out ov rv w)(b:am S w w')(c:∀k cs,S k→w.heap[k]?=some (.cells cs 79 (0,0))→False)(d:∀k cs,S k→w.heap[k]?=some (.cells cs 81 (0,0))→False):vE B out ov rv w' :=
 ⟨b.owns h.row (fun k a e=>by obtain⟨cs,hc⟩:=tH h.row k a;exact c k cs e hc),h.K6,fun i ln v hi hv=>b.owns (h.rows i ln v hi hv) (fun k a e=>by obtain⟨cs,hc⟩:=tH (h.rows i ln v hi hv) k a;exact d k cs e hc)⟩
theorem vE.below{out:List Ln}(h:vE B out ov rv w)(a:Below w.heap.size w w'):vE B out ov rv w' :=
 h.kept (S:=fun _=>False) (am.ce a) (fun _ _ h=>h.elim) (fun _ _ h=>h.elim)
theorem vE.push{out:List Ln}{a:Value}(h:vE B out ov rv w)(n:Int)(ws:List Wd)(v:Value)(b:w.ownsRow B 81 2 v ws.length (ws.flatMap mF))
  (f:w3.ownsRow B 79 2 a (out.length+1) (vt out rv++[.int .i64 n,v])) (hg:w.grownBy w3 ov.ownBlock):vE B (out++[(n,ws)]) a (rv++[v]) w3:=by
 refine Xg ?_;intro f1;refine⟨by rw[zny h.K6,bM];exact f,by simp[h.K6],?_⟩;intro i ln u hi hu;by_cases c:i<out.length
 ·rw[pS c]at hi;rw[pS (by rw[h.K6];exact c)]at hu;have d:=h.rows i ln u hi hu;exact f1.owns d (fun k hk e=>zp d h.row D k hk e)
 have g:=(ie.1 hi).1;simp at g;obtain rfl:i=out.length:=Z;have j:=h.K6;rw[nC (aE _)]at hi;rw[←j,nC (aE _)]at hu;simp at hi hu;subst hi;subst hu;exact f1.owns b (fun k hk e=>zp b h.row D k hk e)
theorem vE.reads{out:List Ln}(h:vE B out ov rv w)(j:m≤10000000)(k:∀ln∈out,LnOk m ln):RLns w [ov] out:=by
 have f:(out.zip rv).length=out.length:=by simp[h.K6]
 have h1:=h.row;have l:ct 2 (fun w cs (y:Ln×Value)=>RLn w cs y.1) w [ov] (out.zip rv):=by refine zgq (B:=B) (e:=79) (fun x:Ln×Value=>[.int .i64 x.1.1,x.2]) _ (fun _ _=>rfl) ?_ (by rw[f];exact h1);intro y hy;obtain⟨i,hi,rfl⟩:=DJ.1 hy;have DZ:i<out.length:=Z;have d:i<rv.length:=S5;rw[List.getElem_zip];have o:=h.rows i out[i] rv[i] (bR DZ) (bR d);obtain⟨a,b,c⟩:=k _ (eZ DZ);exact⟨rv[i],rfl,zgq mF RWd (fun _ _=>rfl) (fun wd hw=>rword j (c wd hw)) o,zsv (n:=out[i].1) a Z⟩
 obtain⟨a,cap,g,g1,p,q⟩:=l;rw[f]at g g1;refine⟨a,cap,g,g1,p,fun i ln hi=>?_⟩;have DZ:=(ie.1 hi).1;have d:i<rv.length:=S5;have r:(out.zip rv)[i]?=some (ln,rv[i]):=by rw[List.getElem?_zip_eq_some];exact⟨hi,bR d⟩
 exact q i _ r
theorem yea(t:Bs)(h:t.length≤65536):∀ln∈(ac.ej t).lines,LnOk 200000 ln:=by
 rw[←ac.IH];unfold ac.lines;rw[E Z];unfold ac.close;split
 ·rename_i h0
  have h1:=zvg t ac.st0 0 yao h0;have a:=yax t ac.st0 0 yao ⟨J8,J8⟩ h0;exact ((zm5 h1 a).mono Z).out
 simp
def zun(w:World)(r:ac.Res)(e:Ending)(w':World):Prop:=∃v,e=.returned (.agg #[v,.int .i64 r.at1,.int .i64 r.at2,.int .i64 r.e])∧RLns w' [v] r.lines∧Below w.heap.size w w'
def DocAt(doc:ac.Res)(t:Bs)(i:Nat)(n:Int)(f:Nat)(out:List Ln):Prop :=
 (i≤t.length∧f≤i∧doc=ac.m9 n ((t.drop f).take (i-f)) out (t.drop i))∨(i=t.length+1∧f=i∧doc=⟨out,0,0,0⟩)
theorem docAt_on{b:ac.Res}{t:Bs}{n:Int}{out:List Ln}{c:UInt8}(h:DocAt b t i n f out)(hi:i<t.length)(d:t.getD i 0=c)(e:c.toNat≠10):DocAt b t (i+1) n f out:=by
 rcases h with⟨h1,_,g⟩|⟨h1,_,_⟩
 ·left
  refine⟨Z,Z,?_⟩
  have O:t.drop i=c::t.drop (i+1):=by
   rw[rK hi];congr 1;rw[←d];simp[List.getD,hi]
  rw[g,O]
  conv=>lhs;unfold ac.m9
  rw[E e];congr 1;have:i+1-f=(i-f)+1:=Z;rw[this,List.take_add_one];congr 1;rw[Sx,show f+(i-f)=i from Z];have:t[i]?=some c:=by rw[bR hi,←d];simp[List.getD,hi]
  rw[this];rfl
 omega
theorem zsf{d:ac.Res}{t:Bs}{n:Int}{out:List Ln}(h:DocAt d t i n f out)(hi:i≤t.length)(g:i<t.length→(t.getD i 0).toNat=10):
  let q:=ac.ms ((t.drop f).take (i-f)) (decide (out.length<2000))
  (q.2.2=0→DocAt d t (i+1) (n+1) (i+1) (ac.tg out n q.1))∧(q.2.2≠0→d=⟨[],n,q.2.1,q.2.2⟩):=by
 intro q;rcases h with⟨h1,_,b⟩|⟨h1,_,_⟩
 ·by_cases e:i<t.length
  ·have O:t.drop i=t.getD i 0::t.drop (i+1):=by
    rw[rK e];congr 1;simp[List.getD,e]
   rw[O]at b;unfold ac.m9 at b;rw[M (g e)]at b;dsimp only at b;constructor
   ·intro c;rw[M c]at b;left;refine⟨Z,aE _,?_⟩;rw[b,sS];rfl
   intro c;rw[E c]at b;exact b
  rw[F7 (show t.length≤i from Z)]at b;unfold ac.m9 at b;dsimp only at b;constructor
  ·intro c;rw[M c]at b;right;exact⟨Z,rfl,b⟩
  intro c;rw[E c]at b;exact b
 omega
abbrev uO(ov:Value):Array Value:=#[ov,.int .i64 0,.int .i64 0,.int .i64 0]
structure FM(w1:World)(x:Nat)(out:List Ln)(ov:Value)(rv:List Value)(w:World):Prop where
 cells:w.heap[x]?=some (.cells (uO ov) 111 (0,0))
 own:vE w1.heap.size out ov rv w
 bm:Below w1.heap.size w1 w
 xB:w1.heap.size≤x
theorem FM.below{out:List Ln}(h:FM w1 x out ov rv w)(a:Below w.heap.size w w'):FM w1 x out ov rv w' :=
 ⟨bI h.cells (am.ce (S:=fun _=>False) a) (fun h=>h),h.own.below a,h.bm.trans (a.mono h.bm.size),h.xB⟩
theorem FM.push{out:List Ln}{a:Value}(h:FM w1 x out ov rv w)(n:Int)(ws:List Wd)(v:Value)(d:w.ownsRow w1.heap.size 81 2 v ws.length (ws.flatMap mF))
  (f:w3.ownsRow w1.heap.size 79 2 a (out.length+1) (vt out rv++[.int .i64 n,v])) (hg:w.grownBy w3 ov.ownBlock):FM w1 x (out++[(n,ws)]) a (rv++[v]) (w3.setCell ⟨x,0,none⟩ a):=by
 have g:=dM h.own.row h.cells D;refine Xg ?_;intro f1;have c:=bI h.cells f1 g;have f2:=aN (am.refl (fun k=>k=x) w3) 0 a;refine⟨?_,?_,?_,h.xB⟩
 ·rw[ag w3 x 0 _ _ a c];rfl
 ·refine (h.own.push n ws v d f hg).kept f2 (fun k cs e b=>?_) (fun k cs e b=>?_)
  ·rw[e,c]at b;simp at b
  rw[e,c]at b;simp at b
 have b1:Below w1.heap.size w w3:=f1.below h.bm.size (fun k hk=>(h.own.row.lt k hk).1);exact WQ
def DocGo(w1:World)(x:Nat)(doc:ac.Res)(t:Bs)(i:Nat)(nv fv:Value)(w:World):Prop :=
 ∃(n:Int)(f:Nat)(out:List Ln)(ov:Value)(rv:List Value),nv=.int .i64 n∧fv=.int .i64 f∧f≤i∧DocAt doc t i n f out∧FM w1 x out ov rv w∧out.length≤i∧0≤n∧n≤i+1
theorem zua(s:ByteArray)(_:s.size≤140737488351232)(w:World)(h:65536<s.size):Calls prog 40 #[.string s] w (zun w (ac.ej s.data.toList)):=by
 have a:ac.ej s.data.toList=⟨[],0,0,4⟩:=by unfold ac.ej;rw[if_pos];rw[Array.length_toList];exact h
 rw[a];clear a;go_enter func40,ntmps40;go_wp2_with fail;refine fZ (v:=.agg #[.slice none 0 0,.int .i64 0,.int .i64 0,.int .i64 4]) (by simp[results,results40,go_sem]) rfl ⟨_,rfl,⟨none,0,rfl,aE _,bj _,fun i x hi=>vm⟩,?_⟩;exact ((aL _ _).alloc (aE _) _).alloc ae _
theorem zrm(s:ByteArray)(w:World)(h:s.size≤65536):Calls prog 40 #[.string s] w (zun w (ac.ej s.data.toList)):=by
 have y:s.data.toList.length=s.size:=SF;obtain⟨t,z⟩:=Y s.data.toList;rw[←z]at y⊢;have r:ac.ej t=ac.m9 1 [] [] t:=by unfold ac.ej;rw[if_neg Z]
 have A:=yea t Z;obtain⟨u,O⟩:=Y (ac.ej t);rw[←O]at A r⊢;obtain⟨w1,oe⟩:=Y (w.alloc (.cells (uO (.slice none 0 0)) 111));have B:w1.heap.size=w.heap.size+1:=by rw[oe];simp
 have h0:DocGo w1 (w.heap.size+1) u t 0 (.int .i64 1) (.int .i64 0) (w1.alloc (.cells (uO (.slice none 0 0)) 111)):=by refine⟨1,0,[],.slice none 0 0,[],rfl,rfl,aE _,.inl ⟨Z,aE _,by rw[r];simp⟩,⟨?_,⟨pd _ _ _ _,rfl,fun i ao v hi=>vm⟩,(aL _ _).alloc (aE _) _,Z⟩,ae,Z,Z⟩;have:=dq w1 (.cells (uO (.slice none 0 0)) 111);rw[B]at this;exact this
 have L:w1.heap[w.heap.size]?=some (.cells (uO (.slice none 0 0)) 111 (0,0)):=by rw[oe];exact dq w _
 have N:Below w.heap.size w w1:=by rw[oe];exact (aL _ _).alloc (aE _) _
 revert y z r A O B h0 L N;refine fK ?_;intro im Ht _ R _ ss T ava auz;go_enter func40,ntmps40;go_wp2_with fail;have C:(w.alloc (.cells #[.slice none 0 0,.int .i64 0,.int .i64 0,.int .i64 0] 111)).alloc (.cells #[.slice none 0 0,.int .i64 0,.int .i64 0,.int .i64 0] 111)=w1.alloc (.cells (uO (.slice none 0 0)) 111):=by rw[oe]
 rw[C];clear C oe;go_loopw [4,5,6] (fun U W i wr=>∃k:Nat,k≤s.size+1∧i=.int .i64 k∧DocGo w1 (w.heap.size+1) u t k U W wr) (fun _ _ i _=>s.size+1-(intOf i).toNat)
 case atStart=>exact⟨0,bj _,rfl,T.o⟩
 case round=>
  obtain⟨k,hk,rfl,n,f,out,ov,rv,rfl,rfl,_,aU,bJ,_,X,_⟩:=hrel;obtain⟨oa,oc,rfl⟩:=bg bJ.own.row;by_cases au:k≤s.size
  ·by_cases F:k<s.size
   ·by_cases p:s[k].toNat=10
    ·have TR:k<t.length→(t.getD k 0).toNat=10:=by
      intro _;rw[Ht.o,ME s k F];exact p
     obtain⟨m,l⟩:=Y (s[k].toNat);have aa:s[k].toNat=m:=l.symm;have ab:((m:Int) !=10)=false:=by rw[l,p];rfl
     clear l p;exact afr
    have ad:=docAt_on aU YO (show t.getD k 0=s[k] by rw[Ht.o];exact ME s k F) p;obtain⟨m,l⟩:=Y (s[k].toNat);have aa:s[k].toNat=m:=l.symm;have ab:((m:Int) !=10)=true:=by rw[bne_iff_ne,l];omega
    revert aU bJ ad;refine fo ?_;intro fS iS af;clear l p;go_wp2_with fail;go_roundw
    case rel=>exact⟨k+1,Z,cj,n,f,out,_,rv,rfl,rfl,Z,af.o,iS.o,Z,X,Z⟩
    case measure=>simp[intOf];omega
   have TR:k<t.length→(t.getD k 0).toNat=10:=by intro h1;have:=im.o;omega
   exact afr
  obtain rfl:k=s.size+1:=Z
  have Tm:u=⟨out,0,0,0⟩:=by
   rcases aU with⟨h1,_,_⟩|⟨_,_,ag⟩
   ·have:=im.o;omega
   exact ag
  have K:=R.o;rw[Tm]at K;have ji:wr.heap[w.heap.size]?=some (.cells (uO (.slice none 0 0)) 111 (0,0)):=by rw[bJ.bm.block _ YW];exact ava.o
  have ah:=J bJ.cells 0;have ai:=J bJ.cells 1;have aj:=J bJ.cells 2;have al:=J bJ.cells 3;have z0:=J ji 0;have z1:=J ji 1;have z2:=J ji 2;have z3:=J ji 3;have u0:=aG ji 0;have u1:=aG ji 1;have u2:=aG ji 2;have u3:=aG ji 3;simp only[uO,aq,aw,ar]at z0 z1 z2 z3 ah ai aj al;revert bJ aU Tm K ji;refine bU ?_;intro iS fS US an LG;go_wp2_with fail;refine fZ (v:=.agg #[.slice oa out.length oc,.int .i64 0,.int .i64 0,.int .i64 0]) aul rfl ?_;rw[US.o];refine⟨_,rfl,?_,?_⟩
  ·refine (iS.o.own.kept (S:=fun k=>k=w.heap.size) (aN (aN (aN (aN (am.refl _ wr) 0 _) 1 _) 2 _) 3 _) (fun k cs e hc=>?_) (fun k cs e hc=>?_)).reads (m:=200000) Z an.o
   ·rw[e,LG.o]at hc;simp at hc
   rw[e,LG.o]at hc;simp at hc
  exact ((((auz.o.trans (iS.o.bm.mono YW)).setCell (aE _) _).setCell (aE _) _).setCell (aE _) _).setCell (aE _) _
theorem zwr(s:ByteArray)(a:s.size≤140737488351232)(w:World):Calls prog 40 #[.string s] w (zun w (ac.ej s.data.toList)):=by
 by_cases h:65536<s.size
 ·exact zua s a w h
 exact zrm s w Z
end
section
open RowKit Shelf av cy
theorem A3:prog.cellsOf 9=1:=by kernel_rfl
theorem ze{α β:Type}{P:Program}{t:TypeId}{R:Rd α}{S:Rd β}(c:ic P t R)(d:∀w cs a,R w cs a→∃b,S w cs b):ic P t S:=by
 intro aP e9 w base e f g cs x h;obtain⟨y,hy⟩:=c e9 w base e f g cs x h;exact d w cs y hy
abbrev RTwo:Rd (ByteArray×ByteArray×Unit):=kD 1 qr (kD 1 qr RNil)
theorem zuv{cs:List Value}{x:ByteArray×ByteArray×Unit}(h:RTwo w cs x):cs=[.string x.1,.string x.2.1]∧x.1.size≤maxLen∧x.2.1.size≤maxLen:=by
 obtain⟨_,t0,rfl,_,⟨rfl,a⟩,a1,t1,rfl,_,⟨rfl,b⟩,c⟩:=h;obtain rfl:t1=[]:=c;exact⟨rfl,a,b⟩
theorem zyr:ic prog 51 RTwo:=by
 refine zm Oj ?_;have a:prog.cellsOf 51=0+1+1:=aA;rw[a];exact iL rfl A3 (zr ox) (iL rfl A3 (zr ox) zo)
theorem zri:ic prog 137 RTwo:=by
 refine zm underlying137 ?_;have a:prog.cellsOf 137=0+1+1:=aA;rw[a];exact iL rfl A3 (zr ox) (iL rfl A3 (zr ox) zo)
theorem ydr:ic prog 51 RSpn:=ze (R:=RTwo) (S:=RSpn) zyr fun _ _ x h=>⟨(x.1,x.2.1),zuv h⟩
theorem ztp:ic prog 137 RSet:=ze (R:=RTwo) (S:=RSet) zri fun _ _ x h=>⟨(x.1,x.2.1),zuv h⟩
theorem opens_sps:ic prog 52 gy:=AW Ok (by kernel_rfl) (by decide) ydr
theorem yds:ic prog 53 fm:=AW underlying53 (by kernel_rfl) (by decide) ztp
def RSpq:Rd dj:=fun w cs s=>∃v1 v2,cs=[.string s.1,v1,v2]∧s.1.size≤maxLen∧gy w [v1] s.2.1∧fm w [v2] s.2.2
abbrev RSpq3:Rd (ByteArray×List h8×List el×Unit):=kD 1 qr (kD 1 gy (kD 1 fm RNil))
theorem zyq:ic prog 55 RSpq3:=by
 refine zm xV ?_;have a:prog.cellsOf 55=0+1+1+1:=aA;rw[a];exact iL rfl A3 (zr ox) (iL rfl aA opens_sps (iL rfl aA yds zo))
theorem spq_of{cs:List Value}{x:ByteArray×List h8×List el×Unit}(h:RSpq3 w cs x):RSpq w cs (x.1,x.2.1,x.2.2.1):=by
 obtain⟨_,t0,rfl,_,⟨rfl,a⟩,a1,t1,rfl,b,h1,a2,t2,rfl,c,d,e⟩:=h;obtain rfl:t2=[]:=e
 match a1,b,a2,c with
 |[v1],_,[v2],_=>exact⟨v1,v2,rfl,a,h1,d⟩
theorem zl4:ic prog 55 RSpq:=ze (R:=RSpq3) (S:=RSpq) zyq fun _ _ x h=>⟨_,spq_of h⟩
theorem zjg:ic prog 41 Hj:=AW Sj (by kernel_rfl) (by decide) (zr ox)
abbrev RRls2:Rd (ByteArray×Bool×Unit):=kD 1 qr (kD 1 RBool RNil)
theorem ydt:ic prog 66 o_:=ze (R:=RRls2) (S:=o_) (by
 refine zm underlying66 ?_;have a:prog.cellsOf 66=0+1+1:=aA;rw[a];exact iL rfl A3 (zr ox) (iL rfl aA (ydy YN) zo)) fun w cs x h=>by
 obtain⟨_,t0,rfl,_,⟨rfl,_⟩,a1,t1,rfl,_,h1,b⟩:=h;obtain rfl:t1=[]:=b;obtain rfl:a1=[.bool x.2.1]:=h1;exact⟨(x.1,x.2.1),rfl⟩
abbrev RVar2:Rd (ByteArray×List ByteArray×Unit):=kD 1 qr (kD 1 Hj RNil)
theorem ydq:ic prog 68 n9:=ze (R:=RVar2) (S:=n9) (by
 refine zm underlying68 ?_;have a:prog.cellsOf 68=0+1+1:=aA;rw[a];exact iL rfl A3 (zr ox) (iL rfl aA zjg zo)) fun w cs x h=>by
 obtain⟨_,t0,rfl,_,⟨rfl,_⟩,a1,t1,rfl,b,h1,c⟩:=h;obtain rfl:t1=[]:=c
 match a1,b with
 |[v],_=>exact⟨(x.1,x.2.1),v,rfl,h1⟩
abbrev RDep3:Rd (dj×dj×Int×Unit):=kD 3 RSpq (kD 3 RSpq (kD 1 (RInt .i64) RNil))
theorem dep_of3{cs:List Value}{x:dj×dj×Int×Unit}(h:RDep3 w cs x):fX w cs (x.1,x.2.1,x.2.2.1):=by
 obtain⟨_,t0,rfl,_,⟨v1,v2,rfl,_,h1,a⟩,a1,t1,rfl,_,⟨v3,v4,rfl,_,b,c⟩,a2,t2,rfl,_,⟨rfl,_⟩,d⟩:=h;obtain rfl:t2=[]:=d;exact⟨_,_,_,_,_,_,rfl,⟨rfl,h1,a⟩,rfl,b,c⟩
theorem ydx:ic prog 96 fX:=ze (R:=RDep3) (S:=fX) (by
 refine zm underlying96 ?_;have a:prog.cellsOf 96=0+3+3+1:=aA;rw[a];exact iL rfl aA zl4 (iL rfl aA zl4 (iL rfl aA (zmq Sz) zo))) fun w cs x h=>⟨_,dep_of3 h⟩
theorem zyu:ic prog 98 fX:=ze (R:=RDep3) (S:=fX) (by
 refine zm underlying98 ?_;have a:prog.cellsOf 98=0+3+3+1:=aA;rw[a];exact iL rfl aA zl4 (iL rfl aA zl4 (iL rfl aA (zmq Sz) zo))) fun w cs x h=>⟨_,dep_of3 h⟩
abbrev RPf3:Rd (ByteArray×List ByteArray×Int×Unit):=kD 1 qr (kD 1 Hj (kD 1 (RInt .i64) RNil))
theorem opens_pfM:ic prog 47 AC:=ze (R:=RPf3) (S:=AC) (by
 refine zm underlying47 ?_;have a:prog.cellsOf 47=0+1+1+1:=aA;rw[a];exact iL rfl A3 (zr ox) (iL rfl aA zjg (iL rfl aA (zmq Sz) zo))) fun w cs x h=>by
 obtain⟨_,t0,rfl,_,⟨rfl,_⟩,a1,t1,rfl,b,h1,a2,t2,rfl,_,⟨rfl,_⟩,c⟩:=h;obtain rfl:t2=[]:=c
 match a1,b with
 |[v],_=>exact⟨(x.1,x.2.1,x.2.2.1),v,rfl,h1⟩
theorem zys:ic prog 39 (ct 2 o_):=AW underlying39 (by kernel_rfl) (by decide) ydt
theorem zyp:ic prog 40 (ct 2 n9):=AW underlying40 (by kernel_rfl) (by decide) ydq
theorem zyt:ic prog 42 (ct 7 fX):=AW underlying42 (by kernel_rfl) (by decide) ydx
theorem zvv:ic prog 43 (ct 7 fX):=AW underlying43 (by kernel_rfl) (by decide) zyu
theorem ydw:ic prog 23 (ct 3 AC):=AW underlying23 (by kernel_rfl) (by decide) opens_pfM
abbrev RPk8:Rd (ByteArray×Int×List K1×List qF×List ByteArray×List ky×List ky×List ByteArray×Unit) :=
 kD 1 qr (kD 1 (RInt .i64) (kD 1 (ct 2 o_) (kD 1 (ct 2 n9) (kD 1 Hj (kD 1 (ct 7 fX) (kD 1 (ct 7 fX) (kD 1 Hj RNil)))))))
theorem opens_pkM:ic prog 45 GE:=ze (R:=RPk8) (S:=GE) (by
 refine zm ZV ?_;have a:prog.cellsOf 45=0+1+1+1+1+1+1+1+1:=aA;rw[a]
 exact iL rfl A3 (zr ox) (iL rfl aA (zmq Sz) (iL rfl aA zys (iL rfl aA zyp
  (iL rfl aA zjg (iL rfl aA zyt (iL rfl aA zvv (iL rfl aA zjg zo)))))))) fun w cs x h=>by
 obtain⟨_,t0,rfl,_,⟨rfl,_⟩,a1,t1,rfl,_,⟨rfl,_⟩,a2,t2,rfl,b,c,d,t3,rfl,e,f,g,t4,rfl,i,j,k,t5,rfl,l,m,n,t6,rfl,o,p,q,t7,rfl,r,s,t⟩:=h;obtain rfl:t7=[]:=t
 match a2,b,d,e,g,i,k,l,n,o,q,r with
 |[v2],_,[v3],_,[v4],_,[v5],_,[v6],_,[v7],_=>exact⟨⟨x.1,x.2.1,x.2.2.1,x.2.2.2.1,x.2.2.2.2.1,x.2.2.2.2.2.1,x.2.2.2.2.2.2.1,x.2.2.2.2.2.2.2.1⟩,v2,v3,v4,v5,v6,v7,rfl,c,f,j,m,p,s⟩
theorem ydv:ic prog 22 (ct 8 GE):=AW underlying22 (by kernel_rfl) (by decide) opens_pkM
abbrev RRc2:Rd (List ap×List ut×Unit):=kD 1 (ct 8 GE) (kD 1 (ct 3 AC) RNil)
def RRcpC:Rd ch:=fun w cs x=>∃v u,cs=[v,u]∧mg w v u x
theorem ydu:ic prog 25 RRcpC:=ze (R:=RRc2) (S:=RRcpC) (by
 refine zm LU ?_;have a:prog.cellsOf 25=0+1+1:=aA;rw[a];exact iL rfl aA ydv (iL rfl aA ydw zo)) fun w cs x h=>by
 obtain⟨b,t0,rfl,c,h0,a1,t1,rfl,d,h1,e⟩:=h;obtain rfl:t1=[]:=e
 match b,c,a1,d with
 |[v],_,[u],_=>exact⟨⟨x.1,x.2.1⟩,v,u,rfl,h0,h1⟩
theorem zyv:OpensZ prog 25 RRcpC:=opensZ_of ydu
theorem rcpM_arg{x:ch}(h:RRcpC w cs.toList x):∃v u,cs=#[v,u]∧mg w v u x:=by
 obtain⟨v,u,a,h1⟩:=h;exact⟨v,u,by rw[←Array.toArray_toList (xs:=cs),a],h1⟩
end
end Go.Proofs.YthgibhhbmmkjmaaGreatDoor
