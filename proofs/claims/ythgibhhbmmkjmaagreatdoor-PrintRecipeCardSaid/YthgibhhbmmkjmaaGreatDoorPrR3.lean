/- What the statement PrintRecipe needs. Condition: none beyond what each says. -/
import Derived.Test.YthgibhhbmmkjmaaGreatDoorPrR2
import Derived.Test.YthgibhhbmmkjmaaGreatDoorPrW1
set_option maxRecDepth 10000
namespace Go.Proofs.YthgibhhbmmkjmaaGreatDoor
open Go.Proofs.Tryz
variable {w:World}
variable {s:ByteArray}
namespace printRecipeRow
open ChangeShapes WideShapes ChangeAt RowKit
open ChangeMaps (open_string shut_string)
theorem lifted(os:Os)(o:os.Started)(aP:Type)(e9:TypeId×Value→aP)(F:Stop.Interp):
  ReturnsInHanded {} checked os 3 .any ((OpenSpec.ofChange Rows.printRecipeSpec).preRow e9 prog Tryz.f3 Rows.printRecipeRow.domain false Rows.printRecipeRow.laid) (((OpenSpec.ofChange Rows.printRecipeSpec).at F).post e9 prog Tryz.f3 false true false false):=by
 refine returnsInHanded_of_row (C:=checked) (s:=OpenSpec.ofChange Rows.printRecipeSpec) own o aA func3
  (ChangeSpec.witness_shaped (enc:=e9) (C:=checked) (os:=os) (s:=Rows.printRecipeSpec) (X:=fun w _=>laidMetH prog Rows.printRecipeRow.laid w) false (World.laidAll prog os Jv) #[.agg #[.slice none 0 0,.slice none 0 0]] 8 (World.laidAll_os _ _ _)
   (zps os _) aA aA aA (zvd os _)) ?_
 intro W base args a b eX c d _ _ f g i _;have r:dN W:=ybx g i;have k:(DataW.weightsEach prog (Tryz.f3.params.toList++Rows.printRecipeSpec.plain.varTypes prog) (a++b)).all (·≤reachBytes)=true:=f;clear f g i;have l:∀(j:Nat) t v,Tryz.f3.params[j]?=some t→args[j]?=some v→Value.okWide prog W .any base t v:=c;have abr:DataW.Whole e9 prog Tryz.f3.params.toList Rows.printRecipeSpec.vars false W args.toList a b eX:=d;obtain⟨p,q,MP,hV,rfl,ZJ,Lb⟩:=d;have n:DataW.TrodAll e9 prog W 0 (fun _=>true) true Tryz.f3.params.toList args.toList a p:=MP;rw[params3]at n l k;obtain⟨v0,vs0,d0,ds0,p0,q0,azt,rfl,rfl,h0,fU⟩:=trodAll_cons n;obtain⟨rfl,rfl,rfl⟩:=trodAll_nil fU;obtain rfl:args=#[v0]:=by cases args;simp_all
 obtain⟨rfl,rfl⟩:=trodVars_none hV;have lt0:∀x∈p0,x.block<W.heap.size:=atn;have awn:=h0;obtain⟨cs0,rfl⟩:=ydz LU (l 0 25 v0 rfl rfl);obtain⟨azs,azk⟩:=h0;obtain⟨l0,r0d⟩:=zyv e9 W _ _ _ azs _ _ azk (sized_arg k (j:=0) rfl rfl);simp only[Value.cells]at r0d;obtain⟨u0,t0,rfl,p0s⟩:=rcpM_arg r0d;clear MP c;refine (zq6 p0s r).mono fun e W' ⟨he,bm⟩=>?_;exact ahf
end printRecipeRow
end Go.Proofs.YthgibhhbmmkjmaaGreatDoor
