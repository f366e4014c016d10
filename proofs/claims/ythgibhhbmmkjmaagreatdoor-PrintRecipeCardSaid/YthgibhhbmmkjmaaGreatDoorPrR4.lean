/- The given statement PrintRecipe. Condition: none beyond what each says. -/
import Derived.Test.YthgibhhbmmkjmaaGreatDoorPrR3
import Derived.Test.YthgibhhbmmkjmaaGreatDoorPrR1
import Derived.Test.YthgibhhbmmkjmaaGreatDoorPrW1
set_option maxRecDepth 10000
namespace Go.Proofs.YthgibhhbmmkjmaaGreatDoor
open Go.Proofs.Tryz
variable {b c f j:Nat}
variable {a:Option Addr}
variable {t:Nat→Nat}
namespace printRecipeRow
open ChangeShapes WideShapes ChangeAt RowKit
open ChangeMaps (open_string shut_string)
theorem over:Rows.PrintRecipeSaid:=
 OpenClaim.holds_of_cond 3 Tryz.f3 rfl rfl rfl rfl rfl rfl rfl ⟨rfl,rfl,rfl,rfl,rfl⟩ rfl rfl rfl rfl rfl aA func3 closed
  (ed aA) ato
  (fun os started aP e9 _ F=>atp)
theorem plain(f:FuncId)(a:Func)(b:Tryz.pinned.checked.prog.funcNamed "cooper/cooperlaw07.PrintRecipe" =some f)(c:Tryz.pinned.checked.prog.funcs[f]?=some a):
  true=Tryz.pinned.checked.prog.looks []∧∀(j:Nat) t,a.params[j]?=some t→Tryz.pinned.checked.prog.wantsStandIn t=false:=by
 obtain rfl:f=3:=nt ((show prog.funcNamed "cooper/cooperlaw07.PrintRecipe" =some 3 by kernel_rfl).symm.trans b) |>.symm;obtain rfl:a=Tryz.f3:=(nt (func3.symm.trans c)).symm;refine⟨aA,fun j t ht=>?_⟩;rw[params3]at ht;have hm:t∈[25]:=atq;have eC:([25].all fun u=>!prog.wantsStandIn u)=true:=aA;exact (show prog.wantsStandIn t=false from atr)
theorem proved:Rows.PrintRecipeCardSaid:=
 Claim7.holds_tied_plain_at .later [] _ _ _ _ over (fun _ h=>tm) aA (fun _ h=>tm) printRecipe_row_tie rfl ⟨rfl,rfl⟩ aA rfl plain aA
#print axioms proved
end printRecipeRow
end Go.Proofs.YthgibhhbmmkjmaaGreatDoor
