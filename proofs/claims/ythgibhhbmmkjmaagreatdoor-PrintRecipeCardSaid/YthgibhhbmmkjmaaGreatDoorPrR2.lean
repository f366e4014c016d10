/- What the statement PrintRecipe needs. Condition: none beyond what each says. -/
import Derived.Test.YthgibhhbmmkjmaaGreatDoorPrW9
set_option linter.unusedVariables false
set_option linter.unusedSimpArgs false
set_option maxRecDepth 10000
set_option maxHeartbeats 40000000
namespace Go.Proofs.YthgibhhbmmkjmaaGreatDoor
open Go.Proofs.Tryz
variable {B N c3 c4 e2 n3 n4 r x:Nat}
variable {w w' w3:World}
variable {e:TypeId}
variable {s:ByteArray}
variable {u v v1 v2 y z:Value}
variable {t:Nat→Nat}
section
open Shelf RowKit Lib av cy
attribute [local go_sem ↓] wp_at_zero wp_at_succ
set_option linter.unusedVariables false in
theorem zq6{x:ch}(B:mg w v1 v2 x)(N:dN w):
  Calls prog 3 #[.agg #[v1,v2]] w fun e w'=>e=.returned (.bool true)∧Below w.heap.size w w':=by
 obtain⟨a1,c1,rfl⟩:=rE B.1;obtain⟨a2,c2,rfl⟩:=rE B.2;obtain⟨n1,cz⟩:=Y x.pk.length;obtain⟨n2,cS⟩:=Y x.pf.length;rw[←cz,←cS]at B;rw[←cz,←cS];obtain⟨W1,aK⟩:=Y (w.alloc (.cells #[.slice a1 n1 c1,.slice a2 n2 c2] 25));refine lM ?_;intro g hg;have A:Below w.heap.size w W1:=yF;have R:W1.heap[g]?=some (.cells #[.slice a1 n1 c1,.slice a2 n2 c2] 25 (0,0)):=IJ;have C:=B.below A;have hF:=fun(W:World)(k:Below W1.heap.size W1 W)=>zqo (N.below (A.trans (k.mono A.size)));have aF:=yeo C;have S:=fun(r:FY x)(W:World)(k:Below W1.heap.size W1 W)=>zk5 (C.below k) (zv4 r) (zt7 r) (N.below (A.trans (k.mono A.size)));have F:=fun(r:FY x)(W:World)(k:Below W1.heap.size W1 W)=>znv (C.below k) (zv4 r) (zry r).1 (zry r).2 (zt7 r);have al:=rcR_two FQ yak x
 have T:FY x→(rcR ei x).1.size≤4398046511104:=fun r=>by
  by_cases h:qG ei x
  ·rw[AS h];show (nw (gz ei x)).toArray.size≤_;rw[Ad];exact zt7 r
  rw[Be h];decide
 have U:(rcR ei x).2=true→(rcR ei x).1=rcT ei x∧qG ei x:=fun h=>by
  by_cases X:qG ei x
  ·rw[AS X];exact⟨rfl,X⟩
  rw[Be X]at h;cases h
 obtain⟨q,an⟩:=Y (rcR ei x);simp only[←al]at F;simp only[←an]at S F T U;obtain⟨qt,qb⟩:=q;dsimp only at S F T U;have ao:∀W,Below W1.heap.size W1 W→W.cell? ⟨g,0,none⟩=some (.slice a1 n1 c1)∧W.cell? ⟨g,1,none⟩=some (.slice a2 n2 c2):=fun W hW=>⟨J (G hW R) 0,J (G hW R) 1⟩;obtain⟨t,u⟩:=ao W1 (aL _ _);have aZ:(qt.toList==qt.toList)=true:=atk;revert N cz B cS A R C hF aF al an S F T U ao;refine GB ?_;intro HD oY Hp fV s dR aG aa HG Ik Hq HA HB ir Lr ab;go_enter func3,ntmps3;go_upto_region 1 with (fail);refine iE ?_;clear aK hg;go_wp2_with fail;refine HG.o.mono ?_;rintro e w2 ⟨⟨r1,rfl,hsm⟩,af⟩;clear t u;have v:=O af;clear af
 cases r1 with
 |true=>
  clear hsm;go_wp2_with fail;refine (aa.o _ v.o).mono ?_;rintro e aH ⟨rfl,mv⟩;have H:=s.o.trans ((v.o.trans (mv.mono v.o.size)).mono s.o.size);exact Wp
 |false=>
  have r:=hsm rfl;clear hsm;have au:=HA.o r _ v.o;have a6:=ir.o r;obtain⟨t,u⟩:=ab.o _ v.o;obtain⟨Hs,Lw⟩:=ak r au;clear r au;clear ir;go_wp2_with fail;refine Lw.o.mono ?_;rintro e w3 ⟨rfl,aM⟩;have K:=v.o.trans (aM.mono v.o.size);have av:=HB.o Hs.o _ K;clear t u;obtain⟨t,u⟩:=ab.o _ K;obtain⟨bK,Ax,Md⟩:=aQ aM K av;clear aM K av;go_wp2_with fail;refine Md.o.mono ?_;rintro e w4 ⟨rfl,bA⟩;have ax:=Ax.o.trans (bA.mono Ax.o.size);clear t u;obtain⟨dL,AK⟩:=ak bA ax;clear bA ax
  cases qb with
  |false=>
   go_wp2_with fail
   refine (aa.o _ AK.o).mono ?_;rintro e aH ⟨rfl,mv⟩;have H:=s.o.trans ((AK.o.trans (mv.mono AK.o.size)).mono s.o.size);exact Wp
  |true=>
   obtain⟨h1,y,ay,aI⟩:=Lr.o rfl;have ad:=zl3 (w:=w4) qt Z (HD.o.below (s.o.trans (AK.o.mono s.o.size)));have e2:mI qt.data.toList=some y:=by rw[h1,ztf];exact ay
   rw[e2]at ad;unfold NP at ad;revert h1 ay aI ad e2;refine bU ?_;intro _ _ aJ aN _;go_wp2_with fail;refine aN.o.mono ?_;rintro e w5 ⟨a3,n3,c3,a4,n4,c4,x1,x2,er,rfl,hc,aW⟩
   obtain⟨z,aP,rfl,az⟩:∃z,some y=some z∧er=0∧mg w5 (.slice a3 n3 c3) (.slice a4 n4 c4) z:=by
    rcases hc with h|⟨h,_⟩
    ·exact h
    cases h
   cases aP;obtain⟨w6,cL⟩:=Y ((w5.alloc (.cells #[.slice a3 n3 c3,.slice a4 n4 c4] 25)).alloc (.cells #[.int .i64 x1,.int .i64 x2] 31));obtain⟨zy,sO⟩:=Y w5.heap.size;have ae:Below w5.heap.size w5 w6:=atl;have aR:w6.heap[zy]?=some (.cells #[.slice a3 n3 c3,.slice a4 n4 c4] 25 (0,0)):=atm;have aA:=aW.trans (ae.mono aW.size);have aT:=AK.o.trans (aA.mono AK.o.size);have aU:=az.below ae;clear hc;revert aW az ae aR aA aT aU;refine eb ?_;intro cQ HR aAr aV aAp ag aX;go_upto_region 10 with (fail);rw[←cL,←sO];clear cL sO;go_wp2_with fail;refine (aa.o _ ag.o).mono ?_;rintro e a7 ⟨rfl,L⟩;have ah:=ag.o.trans (L.mono ag.o.size);have ai:=G L aV.o;have aB:=J ai 0;have aC:=J ai 1;simp only[aq,ar,aw]at aB aC;obtain⟨t,u⟩:=ab.o _ ah;have aD:=zlq (aG.o.below ah) (aX.o.below L);rw[JK.2 aJ.o.symm]at aD;revert L ah ai aD;refine bV ?_;intro _ aE _ aY;go_wp2_with fail;refine aY.o.mono ?_;rintro e a8 ⟨rfl,aj⟩;have H:=s.o.trans ((aE.o.trans (aj.mono aE.o.size)).mono s.o.size);clear aB aC t u;obtain⟨_,gV⟩:=ak aj H;clear aj H;exact Xn
end
end Go.Proofs.YthgibhhbmmkjmaaGreatDoor
