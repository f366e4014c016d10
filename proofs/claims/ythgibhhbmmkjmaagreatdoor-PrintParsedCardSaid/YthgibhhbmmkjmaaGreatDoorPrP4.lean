/- The given statement PrintParsed. Condition: none beyond what each says. -/
import Derived.Test.YthgibhhbmmkjmaaGreatDoorPrP3
import Derived.Test.YthgibhhbmmkjmaaGreatDoorPrP1
import Derived.Test.YthgibhhbmmkjmaaGreatDoorPrW1
set_option maxRecDepth 10000
namespace Go.Proofs.YthgibhhbmmkjmaaGreatDoor
open Go.Proofs.Tryz
variable {b c f j:Nat}
variable {a:Option Addr}
variable {t:Nat→Nat}
namespace printParsedRow
open ChangeShapes WideShapes ChangeAt RowKit
open ChangeMaps (open_string shut_string)
theorem over:Rows.PrintParsedSaid:=
 OpenClaim.holds_of_cond 4 Tryz.f4 rfl rfl rfl rfl rfl rfl rfl ⟨rfl,rfl,rfl,rfl,rfl⟩ rfl rfl rfl rfl rfl aA func4 closed
  (ed aA) ato
  (fun os started aP e9 _ F=>atp)
theorem plain(f:FuncId)(a:Func)(b:Tryz.pinned.checked.prog.funcNamed "cooper/cooperlaw07.PrintParsed" =some f)(c:Tryz.pinned.checked.prog.funcs[f]?=some a):
  true=Tryz.pinned.checked.prog.looks []∧∀(j:Nat) t,a.params[j]?=some t→Tryz.pinned.checked.prog.wantsStandIn t=false:=by
 obtain rfl:f=4:=nt ((show prog.funcNamed "cooper/cooperlaw07.PrintParsed" =some 4 by kernel_rfl).symm.trans b) |>.symm;obtain rfl:a=Tryz.f4:=(nt (func4.symm.trans c)).symm;refine⟨aA,fun j t ht=>?_⟩;rw[params4]at ht;have hm:t∈[9]:=atq;have eC:([9].all fun u=>!prog.wantsStandIn u)=true:=aA;exact (show prog.wantsStandIn t=false from atr)
theorem proved:Rows.PrintParsedCardSaid:=
 Claim7.holds_tied_plain_at .later [] _ _ _ _ over (fun _ h=>tm) aA (fun _ h=>tm) printParsed_row_tie rfl ⟨rfl,rfl⟩ aA rfl plain aA
#print axioms proved
end printParsedRow
end Go.Proofs.YthgibhhbmmkjmaaGreatDoor
