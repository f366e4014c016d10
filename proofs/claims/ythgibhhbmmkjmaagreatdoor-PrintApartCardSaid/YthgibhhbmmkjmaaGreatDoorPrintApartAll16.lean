/- Walks and plain facts. Texts merged: PrintApartLift. Condition: none beyond what each says. -/
import Derived.Test.YthgibhhbmmkjmaaGreatDoorPrintApartAll15
set_option linter.unusedVariables false
set_option linter.unusedSimpArgs false
set_option maxRecDepth 10000
set_option maxHeartbeats 4000000
namespace Go.Proofs.YthgibhhbmmkjmaaGreatDoor
namespace printApartRow
open Go.ChangeShapes Go.WideShapes Go.ChangeAt Go.RowKit
open Go.ChangeMaps (open_string shut_string)
theorem lifted (os:Os) (started:os.Started) (H:Type) (enc:TypeId × Value→H) (F:Stop.Interp) :
  ReturnsInHanded {} Tryz.checked os 5 .any ((OpenSpec.ofChange Rows.printApartSpec).preRow enc Tryz.prog Tryz.f5 Rows.printApartRow.domain false Rows.printApartRow.laid) (((OpenSpec.ofChange Rows.printApartSpec).at F).post enc Tryz.prog Tryz.f5 false true false false):=by
 refine returnsInHanded_of_row (C:=Tryz.checked) (s:=OpenSpec.ofChange Rows.printApartSpec) own started (by kernel_rfl) Tryz.func5
  (ChangeSpec.witness_shaped (enc:=enc) (C:=Tryz.checked) (os:=os) (s:=Rows.printApartSpec) (X:=fun w _=>laidMetH Tryz.prog Rows.printApartRow.laid w) false (World.laidAll Tryz.prog os zi7) #[.agg #[.slice none 0 0,.slice none 0 0],.agg #[.slice none 0 0,.slice none 0 0]] 8 (World.laidAll_os _ _ _)
   (zq7 os _) (by kernel_rfl) (by kernel_rfl) (by kernel_rfl) (seat_laid os _)) ?_
 intro W base args ds gs before hval0 hW _ _ hsz0 hL hS _
 have hD:zbl W:=doors_of hL hS
 have hsz:(DataW.weightsEach Tryz.prog (Tryz.f5.params.toList ++ Rows.printApartSpec.plain.varTypes Tryz.prog) (ds ++ gs)).all (·≤reachBytes)=true:=hsz0
 clear hsz0 hL hS
 have hval:∀ (j:Nat) t v,Tryz.f5.params[j]? = some t→args[j]? = some v→Value.okWide Tryz.prog W .any base t v:=hval0
 have hW':DataW.Whole enc Tryz.prog Tryz.f5.params.toList Rows.printApartSpec.vars false W args.toList ds gs before:=hW
 obtain⟨p,q,hA0,hV,rfl,hfz,hnd⟩:=hW
 have hA:DataW.TrodAll enc Tryz.prog W 0 (fun _=>true) true Tryz.f5.params.toList args.toList ds p:=hA0
 rw[Tryz.params5] at hA hval hsz
 obtain⟨v0,vs0,d0,ds0,p0,q0,hargs,rfl,rfl,h0,rr0⟩:=trodAll_cons hA
 obtain⟨v1,vs1,d1,ds1,p1,q1,rfl,rfl,rfl,h1,rr1⟩:=trodAll_cons rr0
 obtain⟨rfl,rfl,rfl⟩:=trodAll_nil rr1
 obtain rfl:args=#[v0,v1]:=by cases args;simp_all
 obtain⟨rfl,rfl⟩:=trodVars_none hV
 have lt0:∀ x∈p0,x.block < W.heap.size:=by obtain⟨m,hm⟩:=h0;exact DataW.trod_lt m _ _ _ hm
 have kk0:=h0
 have lt1:∀ x∈p1,x.block < W.heap.size:=by obtain⟨m,hm⟩:=h1;exact DataW.trod_lt m _ _ _ hm
 have kk1:=h1
 obtain⟨cs0,rfl⟩:=zm4 Tryz.underlying25 (hval 0 25 v0 rfl rfl)
 obtain⟨fuel0,hf0⟩:=h0
 obtain⟨l0,r0d⟩:=zkh enc W _ _ _ fuel0 _ _ hf0 (zoa hsz (j:=0) rfl rfl)
 simp only[Value.cells] at r0d
 obtain⟨u0,t0,rfl,p0s⟩:=zsd r0d
 obtain⟨cs1,rfl⟩:=zm4 Tryz.underlying25 (hval 1 25 v1 rfl rfl)
 obtain⟨fuel1,hf1⟩:=h1
 obtain⟨l1,r1d⟩:=zkh enc W _ _ _ fuel1 _ _ hf1 (zoa hsz (j:=1) rfl rfl)
 simp only[Value.cells] at r1d
 obtain⟨u1,t1,rfl,p1s⟩:=zsd r1d
 clear hA0 hval0
 refine (zlm p0s p1s hD).mono fun e W' ⟨he,bel⟩=>?_
 subst he
 exact⟨_,rfl,_,_,_,[],_,[],hW',trodAll_mk1 (shut_bool Tryz.underlying4 _),(trodAll_cons_mk (Below.trod laidOut (by kernel_rfl) (of_decide_eq_true (by kernel_rfl)) kk0 bel lt0) (trodAll_cons_mk (Below.trod laidOut (by kernel_rfl) (of_decide_eq_true (by kernel_rfl)) kk1 bel lt1) trodAll_mk0)),rfl,bel.frame _,fun h=>by cases h⟩
end printApartRow
end Go.Proofs.YthgibhhbmmkjmaaGreatDoor
