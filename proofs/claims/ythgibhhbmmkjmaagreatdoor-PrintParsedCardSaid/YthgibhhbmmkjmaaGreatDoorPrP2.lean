/- What the statement PrintParsed needs. Condition: none beyond what each says. -/
import Derived.Test.YthgibhhbmmkjmaaGreatDoorPrW9
set_option linter.unusedVariables false
set_option linter.unusedSimpArgs false
set_option maxRecDepth 10000
set_option maxHeartbeats 40000000
namespace Go.Proofs.YthgibhhbmmkjmaaGreatDoor
open Go.Proofs.Tryz
variable {B N bs c1 c2 c3 c4 k n1 n2 n3 n4 r x:Nat}
variable {S T:Nat→Prop}
variable {W w w' w1 w3 w9:World}
variable {a1 a2:Option Addr}
variable {e:TypeId}
variable {q s:ByteArray}
variable {u v y z:Value}
variable {t:Nat→Nat}
section
open Shelf RowKit Lib av cy
attribute [local go_sem ↓] wp_at_zero wp_at_succ
set_option linter.unusedVariables false in
theorem zq7(u:dN w):
  Calls prog 4 #[.string s] w fun e w'=>e=.returned (.bool true)∧Below w.heap.size w w':=by
 have hF:=fun(W:World)(k:Below w.heap.size w W)=>zqo (u.below k);have S:=aL w.heap.size w;by_cases F:s.size≤20000
 ·have bg:¬((20000:Int)<(s.size:Int)):=Z;have K:=zl3 s Z u;obtain⟨o,B⟩:=Y (mI s.data.toList);rw[←B]at K;unfold NP at K
  cases o with
  |none=>
   obtain⟨aP,U,an,ao,bh,aR⟩:=By u hF S K B F;clear u hF S K B F;go_enter func4,ntmps4;go_wp2_with fail;refine ao.o.mono ?_;rintro e w1 ⟨a1,n1,c1,a2,n2,c2,x1,x2,er,rfl,hc,ai⟩
   have aT:er≠0:=by
    rcases hc with⟨_,h,_⟩|⟨_,h⟩
    ·cases h
    exact h
   have bC:(er==0)=false:=by simpa using aT
   clear hc;obtain⟨w2,v⟩:=Y ((w1.alloc (.cells #[.slice a1 n1 c1,.slice a2 n2 c2] 25)).alloc (.cells #[.int .i64 x1,.int .i64 x2] 31));have af:Below w.heap.size w w2:=ai.trans (by rw[v];exact (((aS _ _).alloc ae _).mono ai.size));revert ai aT af;refine fo ?_;intro bj cJ L;go_upto_region 4 with (fail);rw[←v];clear v;go_wp2_with fail;refine (U.o _ L.o).mono ?_;rintro e wf ⟨rfl,mv⟩;have H:=L.o.trans (mv.mono L.o.size);exact Wp
  |some x=>
   obtain⟨-,ag,y,X,N⟩:=zvt (t:=s.data.toList) (by simpa using F) B.symm FQ;have au:qG ei x:=⟨y,X,N⟩;obtain⟨T,hT⟩:=Y (rcT ei x);have aa:T.data.toList=nw (gz ei x):=by rw[hT];exact ztf _ _
   have aU:T.size≤24001:=by have e:T.size=T.data.toList.length:=rfl;rw[e,aa];exact ag
   have ab:=parsed_sp B.symm;have ah:=text_rows (x:=x) Z;have av:=spR_bare N ab;have ad:=rcLs_same (s:=ei) N;have aj:rcR ei x=(T,true):=by rw[hT];exact AS au
   have C:rcR gP x=(T,true):=by rw[←aj];exact (rcR_two FQ yak x).symm
   have ax:rcR ei y=(T,true):=by
    have h:qG ei y:=by unfold qG;rw[ad];exact⟨y,X,rfl⟩
    rw[AS h,hT];unfold rcT;rw[ad]
   have aV:(nw (gz gP x)).length≤24001:=by
    have h:qG gP x:=by
     by_cases h:qG gP x
     ·exact h
     rw[Be h]at C;simp at C
    have bk:rcT gP x=T:=by rw[AS h]at C;exact iB Prod.fst C
    rw[←ztf,bk,aa];exact ag
   have aX:zd x y=true:=JK.2 N.symm;have bD:(T.toList==T.toList)=true:=atk;have ay:=fun (W:World) (k:Below w.heap.size w W) {a1 n1 c1 a2 n2 c2} (h:mg W (.slice a1 n1 c1) (.slice a2 n2 c2) x)=>zk5 h ab Z (u.below k);have az:=fun (W:World) {a1 n1 c1 a2 n2 c2} (h:mg W (.slice a1 n1 c1) (.slice a2 n2 c2) x)=>znv h ab ah.1 ah.2 Z;have aA:=fun (W:World) (k:Below w.heap.size w W) {a1 n1 c1 a2 n2 c2} (h:mg W (.slice a1 n1 c1) (.slice a2 n2 c2) y)=>zk5 h av (by rw[ad];omega) (u.below k);have aB:=fun(W:World)(k:Below w.heap.size w W)=>zl3 T Z (u.below k);rw[aa,X]at aB;rw[aj]at ay;rw[C]at az;rw[ax]at aA;obtain⟨aP,U,an,ao,bh,aR,im,Hy,mC,aEn,HT,HTd,HTz,aEr,aEo,aEs⟩:=ke u hF S K B F ag X N au hT aa aU ab ah av;obtain⟨Hly,fY,mB,xO,HtD,nW,HA,HB,HC,rk⟩:=GD ad aj C ax aV aX ay az aA aB;clear u hF S K B F ag X N au hT aa aU ab ah av ad aj C ax aV aX ay az aA aB;go_enter func4,ntmps4;go_wp2_with fail;refine ao.o.mono ?_;rintro e w1 ⟨a1,n1,c1,a2,n2,c2,x1,x2,er,rfl,hc,ai⟩;obtain⟨rfl,LX⟩:er=0∧mg w1 (.slice a1 n1 c1) (.slice a2 n2 c2) x:=by exact anl
   clear hc;obtain⟨w2,v⟩:=Y ((w1.alloc (.cells #[.slice a1 n1 c1,.slice a2 n2 c2] 25)).alloc (.cells #[.int .i64 x1,.int .i64 x2] 31));obtain⟨zx,Uy⟩:=Y w1.heap.size;have aC:Below w1.heap.size w1 w2:=by rw[v];exact (aS _ _).alloc ae _
   have aD:w2.heap[zx]?=some (.cells #[.slice a1 n1 c1,.slice a2 n2 c2] 25 (0,0)):=by rw[v,Uy];exact G (aS _ _) (dx rfl)
   have aY:=LX.below aC;have af:=ai.trans (aC.mono ai.size);have bl:=HA.o _ af aY;have q:=J aD 0;have r:=J aD 1;simp only[aq,ar,aw]at q r;revert ai LX aC aD aY af bl;refine eb ?_;intro bj bm _ bn bo L bp;go_upto_region 4 with (fail);rw[←v,←Uy];clear v Uy;go_wp2_with fail;refine bp.o.mono ?_;rintro e w3 ⟨rfl,aM⟩;clear q r;have aE:=G aM bn.o;have aZ:=bo.o.below aM;have bq:=L.o.trans (aM.mono L.o.size);have br:=HB.o _ aZ;have q:=J aE 0;have r:=J aE 1;simp only[aq,ar,aw]at q r;revert aM aE aZ bq br;refine bU ?_;intro bK qu aAh Ax Md;go_wp2_with fail;refine Md.o.mono ?_;rintro e w4 ⟨rfl,bA⟩;clear q r;have bs:=G bA qu.o;have bt:=aAh.o.below bA;have a6:=Ax.o.trans (bA.mono Ax.o.size);have a7:=rk.o _ a6;unfold NP at a7;revert bA bs bt a6 a7;refine bU ?_;intro dL C1 aAi AK HP4;go_wp2_with fail;refine HP4.o.mono ?_;rintro e w5 ⟨a3,n3,c3,a4,n4,c4,x3,x4,er,rfl,hc,aW⟩;obtain⟨rfl,LX⟩:er=0∧mg w5 (.slice a3 n3 c3) (.slice a4 n4 c4) y:=by exact anl
   clear hc;obtain⟨w6,cL⟩:=Y ((w5.alloc (.cells #[.slice a3 n3 c3,.slice a4 n4 c4] 25)).alloc (.cells #[.int .i64 x3,.int .i64 x4] 31));obtain⟨zy,sO⟩:=Y w5.heap.size;have aF:Below w5.heap.size w5 w6:=atl;have aG:w6.heap[zy]?=some (.cells #[.slice a3 n3 c3,.slice a4 n4 c4] 25 (0,0)):=atm;have a8:=LX.below aF;have al:=aW.trans (aF.mono aW.size);have ba:=AK.o.trans (al.mono AK.o.size);have bu:=G al C1.o;have bw:=aAi.o.below al;have bx:=HC.o _ ba a8;have z:=J aG 0;have A:=J aG 1;simp only[aq,ar,aw]at z A;revert aW LX aF aG a8 al ba bu bw bx;refine dE ?_;intro cQ bm aEd aBj aAk aAp Qd G4 aAj HC6;go_upto_region 13 with (fail);rw[←cL,←sO];clear cL sO;go_wp2_with fail;refine HC6.o.mono ?_;rintro e w7 ⟨rfl,lP⟩;clear z A;have aH:=Qd.o.trans (lP.mono Qd.o.size);have bb:=U.o _ aH;obtain⟨kM,aDv,HF7⟩:=aQ lP aH bb;clear lP aH bb;go_wp2_with fail;refine HF7.o.mono ?_;rintro e w8 ⟨rfl,eD⟩;have R:=kM.o.trans (eD.mono kM.o.size);have bz:=Qd.o.trans (R.mono Qd.o.size);have aI:=G R G4.o;have aJ:=G R aBj.o;have bc:=aAj.o.below R;have bd:=aAk.o.below R;have be:=zli bc bd;rw[nW.o]at be;have q:=J aI 0;have r:=J aI 1;have z:=J aJ 0;have A:=J aJ 1;simp only[aq,ar,aw]at q r z A;revert eD R bz aI aJ bc bd be;refine fg ?_;intro si aDw awe aBh aBi Hx8 Hy8 QI;go_wp2_with fail;refine QI.o.mono ?_;rintro e w9 ⟨rfl,ca⟩;clear q r z A;have bB:=awe.o.trans (ca.mono awe.o.size);have aK:=G ca aBh.o;have aN:=G ca aBi.o;have bf:=zlq (Hx8.o.below ca) (Hy8.o.below ca);rw[nW.o]at bf;have q:=J aK 0;have r:=J aK 1;have z:=J aN 0;have A:=J aN 1;simp only[aq,ar,aw]at q r z A;revert ca bB aK aN bf;refine bU ?_;intro d_ wI aEl aEm sB;go_wp2_with fail;refine sB.o.mono ?_;rintro e cH ⟨rfl,lX⟩;clear q r z A;have H:=wI.o.trans (lX.mono wI.o.size);obtain⟨Ug,gV⟩:=ak lX H;clear lX H;exact Xn
 have bg:(20000:Int)<(s.size:Int):=Z;revert u hF S F;refine bV ?_;intro aP U an aR;go_enter func4,ntmps4;go_wp2_with fail;refine (U.o _ an.o).mono ?_;rintro e wf ⟨rfl,mv⟩;have qS:=O mv;clear mv;go_wp2_with fail;go_ret;exact⟨rfl,qS.o⟩
end
end Go.Proofs.YthgibhhbmmkjmaaGreatDoor
