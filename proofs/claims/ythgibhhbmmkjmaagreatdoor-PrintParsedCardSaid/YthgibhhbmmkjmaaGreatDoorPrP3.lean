/- What the statement PrintParsed needs. Condition: none beyond what each says. -/
import Derived.Test.YthgibhhbmmkjmaaGreatDoorPrP2
import Derived.Test.YthgibhhbmmkjmaaGreatDoorPrW1
set_option maxRecDepth 10000
namespace Go.Proofs.YthgibhhbmmkjmaaGreatDoor
open Go.Proofs.Tryz
variable {w:World}
variable {s:ByteArray}
namespace printParsedRow
open ChangeShapes WideShapes ChangeAt RowKit
open ChangeMaps (open_string shut_string)
theorem lifted(os:Os)(o:os.Started)(aP:Type)(e9:TypeId×Value→aP)(F:Stop.Interp):
  ReturnsInHanded {} checked os 4 .any ((OpenSpec.ofChange Rows.printParsedSpec).preRow e9 prog Tryz.f4 Rows.printParsedRow.domain false Rows.printParsedRow.laid) (((OpenSpec.ofChange Rows.printParsedSpec).at F).post e9 prog Tryz.f4 false true false false):=by
 refine returnsInHanded_of_row (C:=checked) (s:=OpenSpec.ofChange Rows.printParsedSpec) own o aA func4
  (ChangeSpec.witness_shaped (enc:=e9) (C:=checked) (os:=os) (s:=Rows.printParsedSpec) (X:=fun w _=>laidMetH prog Rows.printParsedRow.laid w) false (World.laidAll prog os Jv) #[.string ⟨#[]⟩] 8 (World.laidAll_os _ _ _)
   (zps os _) aA aA aA (zvd os _)) ?_
 intro W base args a b eX c d _ _ f g i _;have r:dN W:=ybx g i;have k:(DataW.weightsEach prog (Tryz.f4.params.toList++Rows.printParsedSpec.plain.varTypes prog) (a++b)).all (·≤reachBytes)=true:=f;clear f g i;have l:∀(j:Nat) t v,Tryz.f4.params[j]?=some t→args[j]?=some v→Value.okWide prog W .any base t v:=c;have abr:DataW.Whole e9 prog Tryz.f4.params.toList Rows.printParsedSpec.vars false W args.toList a b eX:=d;obtain⟨p,q,MP,hV,rfl,ZJ,Lb⟩:=d;have n:DataW.TrodAll e9 prog W 0 (fun _=>true) true Tryz.f4.params.toList args.toList a p:=MP;rw[params4]at n l k;obtain⟨v0,vs0,d0,ds0,p0,q0,azt,rfl,rfl,h0,fU⟩:=trodAll_cons n;obtain⟨rfl,rfl,rfl⟩:=trodAll_nil fU;obtain rfl:args=#[v0]:=by cases args;simp_all
 obtain⟨rfl,rfl⟩:=trodVars_none hV;have lt0:∀x∈p0,x.block<W.heap.size:=atn;have awn:=h0;obtain⟨a0,rfl,rfl,rfl,w0⟩:=open_string ox (l 0 9 v0 rfl rfl) h0;have u:=zta (sized_string k (j:=0) rfl rfl);clear MP c;refine (zq7 r).mono fun e W' ⟨he,bm⟩=>?_;exact ahf
end printParsedRow
end Go.Proofs.YthgibhhbmmkjmaaGreatDoor
