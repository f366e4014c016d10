/-
  No cell of these rows narrows 'for every input' (looked for: loops, veiled, ifaces, maps, wideKeys, modest, calm, conditions, laid).
  DERIVED. THE GIVEN ROWS OF THIS SEAT. 12 by the template 'for every input the law returns true; each argument reads behind the call as it read before'; 0 by the template 'total and deterministic' (their statements: YtoljhahmmdibfaaTotals.lean).
  GIVEN WITH THE SEED: the statements are not yours to turn. If you find one false, say at which input.
  Laid BY PROGRAM, IN A SANDBOX (cutbox-rows.mjs): the forced cells as the released guide's own fill.sh prints them over the translation 26d1f9b01749e0d3… (all of the seat's roots in one cut). By AI agents, Wed Nov 11 2026. No macro, syntax, notation, axiom, sorry.
-/
import Derived.Test.YtoljhahmmdibfaaChecked
import GoSem.Claim
import GoSem.ClaimJoined
import GoSem.ClaimMapViews
import Derived.JoinedTies
import Derived.KernelRfl
namespace Go.Proofs.Ytoljhahmmdibfaa
/- THE CELL 'sum', in the pinned program and in every row, IS THE sha256 OF THE DUMP (.gsa) THAT YtoljhahmmdibfaaProg.lean LOADS. Nothing in Lean hashes anything: it is a label: what it is worth is what the hold of that sum in a sandbox is worth. -/
noncomputable def Try.pinned : Pinned := { name := "ytoljhahmmdibfaa", sum := "26d1f9b01749e0d37ced8e2bd87299b194588f757eb236638b4fd9499572b215", checked := Try.checked }
namespace Rows
def none {H : Type} : Left H := { results := [], args := [] }

/-- 'cooperlaw11.AtomsRow': WHATEVER THE INPUT: true; the input reads as it did. -/
def atomsRowSpec : ChangeSpec := { name := "atomsRow", fn := fun _ => fun
  | [d1, d2] => { results := [.lit (.bool true)], args := [d1, d2] }
  | _ => none }
def atomsRowRow : OpenClaim := { program := "ytoljhahmmdibfaa", sum := "26d1f9b01749e0d37ced8e2bd87299b194588f757eb236638b4fd9499572b215", func := "cooper/cooperlaw11.AtomsRow", spec := "atomsRow", plainKeys := false, apart := false }
def AtomsRowSaid : Prop := atomsRowRow.holds Try.pinned (OpenSpec.ofChange atomsRowSpec)

/-- ITS FALSE NEIGHBOUR: 'it returns false'. Refute it at one input. -/
def atomsRowWrong : ChangeSpec := { name := "atomsRow", fn := fun _ => fun
  | [d1, d2] => { results := [.lit (.bool false)], args := [d1, d2] }
  | _ => none }
def AtomsRowWrongFalsely : Prop := atomsRowRow.holds Try.pinned (OpenSpec.ofChange atomsRowWrong)

/-- 'cooperlaw15.OrderCircle': WHATEVER THE INPUT: true; the input reads as it did. -/
def orderCircleSpec : ChangeSpec := { name := "orderCircle", fn := fun _ => fun
  | [d] => { results := [.lit (.bool true)], args := [d] }
  | _ => none }
def orderCircleRow : OpenClaim := { program := "ytoljhahmmdibfaa", sum := "26d1f9b01749e0d37ced8e2bd87299b194588f757eb236638b4fd9499572b215", func := "cooper/cooperlaw15.OrderCircle", spec := "orderCircle", recurses := true, plainKeys := false, apart := false }
def OrderCircleSaid : Prop := orderCircleRow.holds Try.pinned (OpenSpec.ofChange orderCircleSpec)

/-- ITS FALSE NEIGHBOUR: 'it returns false'. Refute it at one input. -/
def orderCircleWrong : ChangeSpec := { name := "orderCircle", fn := fun _ => fun
  | [d] => { results := [.lit (.bool false)], args := [d] }
  | _ => none }
def OrderCircleWrongFalsely : Prop := orderCircleRow.holds Try.pinned (OpenSpec.ofChange orderCircleWrong)

/-- 'cooperlaw15.OrderMore': WHATEVER THE INPUT: true; the input reads as it did. -/
def orderMoreSpec : ChangeSpec := { name := "orderMore", fn := fun _ => fun
  | [d1, d2, d3] => { results := [.lit (.bool true)], args := [d1, d2, d3] }
  | _ => none }
def orderMoreRow : OpenClaim := { program := "ytoljhahmmdibfaa", sum := "26d1f9b01749e0d37ced8e2bd87299b194588f757eb236638b4fd9499572b215", func := "cooper/cooperlaw15.OrderMore", spec := "orderMore", recurses := true, plainKeys := false, apart := false }
def OrderMoreSaid : Prop := orderMoreRow.holds Try.pinned (OpenSpec.ofChange orderMoreSpec)

/-- ITS FALSE NEIGHBOUR: 'it returns false'. Refute it at one input. -/
def orderMoreWrong : ChangeSpec := { name := "orderMore", fn := fun _ => fun
  | [d1, d2, d3] => { results := [.lit (.bool false)], args := [d1, d2, d3] }
  | _ => none }
def OrderMoreWrongFalsely : Prop := orderMoreRow.holds Try.pinned (OpenSpec.ofChange orderMoreWrong)

/-- 'cooperlaw20.LubyRow': WHATEVER THE INPUT: true; the input reads as it did. -/
def lubyRowSpec : ChangeSpec := { name := "lubyRow", fn := fun _ => fun
  | [d1, d2] => { results := [.lit (.bool true)], args := [d1, d2] }
  | _ => none }
def lubyRowRow : OpenClaim := { program := "ytoljhahmmdibfaa", sum := "26d1f9b01749e0d37ced8e2bd87299b194588f757eb236638b4fd9499572b215", func := "cooper/cooperlaw20.LubyRow", spec := "lubyRow", plainKeys := false, apart := false }
def LubyRowSaid : Prop := lubyRowRow.holds Try.pinned (OpenSpec.ofChange lubyRowSpec)

/-- ITS FALSE NEIGHBOUR: 'it returns false'. Refute it at one input. -/
def lubyRowWrong : ChangeSpec := { name := "lubyRow", fn := fun _ => fun
  | [d1, d2] => { results := [.lit (.bool false)], args := [d1, d2] }
  | _ => none }
def LubyRowWrongFalsely : Prop := lubyRowRow.holds Try.pinned (OpenSpec.ofChange lubyRowWrong)

/-- 'cooperlaw20.LubySums': WHATEVER THE INPUT: true; the input reads as it did. -/
def lubySumsSpec : ChangeSpec := { name := "lubySums", fn := fun _ => fun
  | [d] => { results := [.lit (.bool true)], args := [d] }
  | _ => none }
def lubySumsRow : OpenClaim := { program := "ytoljhahmmdibfaa", sum := "26d1f9b01749e0d37ced8e2bd87299b194588f757eb236638b4fd9499572b215", func := "cooper/cooperlaw20.LubySums", spec := "lubySums", plainKeys := false, apart := false }
def LubySumsSaid : Prop := lubySumsRow.holds Try.pinned (OpenSpec.ofChange lubySumsSpec)

/-- ITS FALSE NEIGHBOUR: 'it returns false'. Refute it at one input. -/
def lubySumsWrong : ChangeSpec := { name := "lubySums", fn := fun _ => fun
  | [d] => { results := [.lit (.bool false)], args := [d] }
  | _ => none }
def LubySumsWrongFalsely : Prop := lubySumsRow.holds Try.pinned (OpenSpec.ofChange lubySumsWrong)

/-- 'cooperlaw11.AtomsNil': WHATEVER THE INPUT: true; the input reads as it did. -/
def atomsNilSpec : ChangeSpec := { name := "atomsNil", fn := fun _ => fun
  | [d1, d2] => { results := [.lit (.bool true)], args := [d1, d2] }
  | _ => none }
def atomsNilRow : OpenClaim := { program := "ytoljhahmmdibfaa", sum := "26d1f9b01749e0d37ced8e2bd87299b194588f757eb236638b4fd9499572b215", func := "cooper/cooperlaw11.AtomsNil", spec := "atomsNil", plainKeys := false, apart := false }
def AtomsNilSaid : Prop := atomsNilRow.holds Try.pinned (OpenSpec.ofChange atomsNilSpec)

/-- ITS FALSE NEIGHBOUR: 'it returns false'. Refute it at one input. -/
def atomsNilWrong : ChangeSpec := { name := "atomsNil", fn := fun _ => fun
  | [d1, d2] => { results := [.lit (.bool false)], args := [d1, d2] }
  | _ => none }
def AtomsNilWrongFalsely : Prop := atomsNilRow.holds Try.pinned (OpenSpec.ofChange atomsNilWrong)

/-- 'cooperlaw05.LexLines': WHATEVER THE INPUT: true; the input reads as it did. -/
def lexLinesSpec : ChangeSpec := { name := "lexLines", fn := fun _ => fun
  | [d] => { results := [.lit (.bool true)], args := [d] }
  | _ => none }
def lexLinesRow : OpenClaim := { program := "ytoljhahmmdibfaa", sum := "26d1f9b01749e0d37ced8e2bd87299b194588f757eb236638b4fd9499572b215", func := "cooper/cooperlaw05.LexLines", spec := "lexLines", plainKeys := false, apart := false }
def LexLinesSaid : Prop := lexLinesRow.holds Try.pinned (OpenSpec.ofChange lexLinesSpec)

/-- ITS FALSE NEIGHBOUR: 'it returns false'. Refute it at one input. -/
def lexLinesWrong : ChangeSpec := { name := "lexLines", fn := fun _ => fun
  | [d] => { results := [.lit (.bool false)], args := [d] }
  | _ => none }
def LexLinesWrongFalsely : Prop := lexLinesRow.holds Try.pinned (OpenSpec.ofChange lexLinesWrong)

/-- 'cooperlaw05.LexMany': WHATEVER THE INPUT: true; the input reads as it did. -/
def lexManySpec : ChangeSpec := { name := "lexMany", fn := fun _ => fun
  | [d1, d2] => { results := [.lit (.bool true)], args := [d1, d2] }
  | _ => none }
def lexManyRow : OpenClaim := { program := "ytoljhahmmdibfaa", sum := "26d1f9b01749e0d37ced8e2bd87299b194588f757eb236638b4fd9499572b215", func := "cooper/cooperlaw05.LexMany", spec := "lexMany", plainKeys := false, apart := false }
def LexManySaid : Prop := lexManyRow.holds Try.pinned (OpenSpec.ofChange lexManySpec)

/-- ITS FALSE NEIGHBOUR: 'it returns false'. Refute it at one input. -/
def lexManyWrong : ChangeSpec := { name := "lexMany", fn := fun _ => fun
  | [d1, d2] => { results := [.lit (.bool false)], args := [d1, d2] }
  | _ => none }
def LexManyWrongFalsely : Prop := lexManyRow.holds Try.pinned (OpenSpec.ofChange lexManyWrong)

/-- 'cooperlaw20.LubyNil': WHATEVER THE INPUT: true; the input reads as it did. -/
def lubyNilSpec : ChangeSpec := { name := "lubyNil", fn := fun _ => fun
  | [d] => { results := [.lit (.bool true)], args := [d] }
  | _ => none }
def lubyNilRow : OpenClaim := { program := "ytoljhahmmdibfaa", sum := "26d1f9b01749e0d37ced8e2bd87299b194588f757eb236638b4fd9499572b215", func := "cooper/cooperlaw20.LubyNil", spec := "lubyNil", plainKeys := false, apart := false }
def LubyNilSaid : Prop := lubyNilRow.holds Try.pinned (OpenSpec.ofChange lubyNilSpec)

/-- ITS FALSE NEIGHBOUR: 'it returns false'. Refute it at one input. -/
def lubyNilWrong : ChangeSpec := { name := "lubyNil", fn := fun _ => fun
  | [d] => { results := [.lit (.bool false)], args := [d] }
  | _ => none }
def LubyNilWrongFalsely : Prop := lubyNilRow.holds Try.pinned (OpenSpec.ofChange lubyNilWrong)

/-- 'cooperlaw20.LubyPace': WHATEVER THE INPUT: true; the input reads as it did. -/
def lubyPaceSpec : ChangeSpec := { name := "lubyPace", fn := fun _ => fun
  | [d1, d2, d3] => { results := [.lit (.bool true)], args := [d1, d2, d3] }
  | _ => none }
def lubyPaceRow : OpenClaim := { program := "ytoljhahmmdibfaa", sum := "26d1f9b01749e0d37ced8e2bd87299b194588f757eb236638b4fd9499572b215", func := "cooper/cooperlaw20.LubyPace", spec := "lubyPace", plainKeys := false, apart := false }
def LubyPaceSaid : Prop := lubyPaceRow.holds Try.pinned (OpenSpec.ofChange lubyPaceSpec)

/-- ITS FALSE NEIGHBOUR: 'it returns false'. Refute it at one input. -/
def lubyPaceWrong : ChangeSpec := { name := "lubyPace", fn := fun _ => fun
  | [d1, d2, d3] => { results := [.lit (.bool false)], args := [d1, d2, d3] }
  | _ => none }
def LubyPaceWrongFalsely : Prop := lubyPaceRow.holds Try.pinned (OpenSpec.ofChange lubyPaceWrong)

/-- 'cooperlaw05.LexBlanks': WHATEVER THE INPUT: true; the input reads as it did. -/
def lexBlanksSpec : ChangeSpec := { name := "lexBlanks", fn := fun _ => fun
  | [d1, d2, d3, d4] => { results := [.lit (.bool true)], args := [d1, d2, d3, d4] }
  | _ => none }
def lexBlanksRow : OpenClaim := { program := "ytoljhahmmdibfaa", sum := "26d1f9b01749e0d37ced8e2bd87299b194588f757eb236638b4fd9499572b215", func := "cooper/cooperlaw05.LexBlanks", spec := "lexBlanks", inPlace := ["internal/abi.NoEscape"], plainKeys := false, apart := false }
def LexBlanksSaid : Prop := lexBlanksRow.holds Try.pinned (OpenSpec.ofChange lexBlanksSpec)

/-- ITS FALSE NEIGHBOUR: 'it returns false'. Refute it at one input. -/
def lexBlanksWrong : ChangeSpec := { name := "lexBlanks", fn := fun _ => fun
  | [d1, d2, d3, d4] => { results := [.lit (.bool false)], args := [d1, d2, d3, d4] }
  | _ => none }
def LexBlanksWrongFalsely : Prop := lexBlanksRow.holds Try.pinned (OpenSpec.ofChange lexBlanksWrong)

/-- 'cooperlaw20.LubyForget': WHATEVER THE INPUT: true; the input reads as it did. -/
def lubyForgetSpec : ChangeSpec := { name := "lubyForget", fn := fun _ => fun
  | [d] => { results := [.lit (.bool true)], args := [d] }
  | _ => none }
def lubyForgetRow : OpenClaim := { program := "ytoljhahmmdibfaa", sum := "26d1f9b01749e0d37ced8e2bd87299b194588f757eb236638b4fd9499572b215", func := "cooper/cooperlaw20.LubyForget", spec := "lubyForget", unfollowed := true, recurses := true, plainKeys := false, apart := false }
def LubyForgetSaid : Prop := lubyForgetRow.holds Try.pinned (OpenSpec.ofChange lubyForgetSpec)

/-- ITS FALSE NEIGHBOUR: 'it returns false'. Refute it at one input. -/
def lubyForgetWrong : ChangeSpec := { name := "lubyForget", fn := fun _ => fun
  | [d] => { results := [.lit (.bool false)], args := [d] }
  | _ => none }
def LubyForgetWrongFalsely : Prop := lubyForgetRow.holds Try.pinned (OpenSpec.ofChange lubyForgetWrong)

/- THE SECOND FORM. 'bulk': how many values and letters a reading holds, each counted each time it is reached (what is shared counts as often as it is met; a slice's spare places count too). A statement '..UptoSaid' is the law's where the arguments, and the package variables that the reading takes, are together of bulk at most 1048576: NARROWER than '..Said'. Prove '..Said' where nothing that the law and all that it calls make is longer than what came in: it says more and counts as full. Else prove '..UptoSaid'. A law counts once. -/
mutual
def uptoBulk {H : Type} : DataW H → Nat
  | .lit (.string bytes) => bytes.length + 1
  | .lit _ => 1
  | .nil => 1
  | .ptr d => uptoBulk d + 1
  | .slice elems spare => uptoBulkAll elems + uptoBulkAll spare + 1
  | .agg parts => uptoBulkAll parts + 1
  | .iface _ d => uptoBulk d + 1
  | .map entries => uptoBulkEntries entries + 1
  | .held _ => 1
def uptoBulkAll {H : Type} : List (DataW H) → Nat
  | [] => 0
  | d :: r => uptoBulk d + uptoBulkAll r
def uptoBulkEntries {H : Type} : List (Lit × DataW H) → Nat
  | [] => 0
  | x :: r => uptoBulkEntry x + uptoBulkEntries r
def uptoBulkEntry {H : Type} : Lit × DataW H → Nat
  | (.string bytes, d) => bytes.length + uptoBulk d + 1
  | (_, d) => uptoBulk d + 1
 end
def uptoSmall : (H : Type) → List (DataW H) → Bool := fun _ ds => decide (uptoBulkAll ds ≤ 1048576)
def OpenSpec.upto (s : _root_.Go.ChangeSpec) : _root_.Go.OpenSpec := { _root_.Go.OpenSpec.ofChange s with cond := some uptoSmall }

/-- 'cooperlaw11.AtomsRow', WHERE WHAT IT READS IS OF BULK AT MOST 1048576: true; the input reads as it did. -/
def atomsRowUptoRow : OpenClaim := { program := "ytoljhahmmdibfaa", sum := "26d1f9b01749e0d37ced8e2bd87299b194588f757eb236638b4fd9499572b215", func := "cooper/cooperlaw11.AtomsRow", spec := "atomsRow", plainKeys := false, apart := false, narrowed := true }
def AtomsRowUptoSaid : Prop := atomsRowUptoRow.holds Try.pinned (OpenSpec.upto atomsRowSpec)

/-- 'cooperlaw15.OrderCircle', WHERE WHAT IT READS IS OF BULK AT MOST 1048576: true; the input reads as it did. -/
def orderCircleUptoRow : OpenClaim := { program := "ytoljhahmmdibfaa", sum := "26d1f9b01749e0d37ced8e2bd87299b194588f757eb236638b4fd9499572b215", func := "cooper/cooperlaw15.OrderCircle", spec := "orderCircle", recurses := true, plainKeys := false, apart := false, narrowed := true }
def OrderCircleUptoSaid : Prop := orderCircleUptoRow.holds Try.pinned (OpenSpec.upto orderCircleSpec)

/-- 'cooperlaw15.OrderMore', WHERE WHAT IT READS IS OF BULK AT MOST 1048576: true; the input reads as it did. -/
def orderMoreUptoRow : OpenClaim := { program := "ytoljhahmmdibfaa", sum := "26d1f9b01749e0d37ced8e2bd87299b194588f757eb236638b4fd9499572b215", func := "cooper/cooperlaw15.OrderMore", spec := "orderMore", recurses := true, plainKeys := false, apart := false, narrowed := true }
def OrderMoreUptoSaid : Prop := orderMoreUptoRow.holds Try.pinned (OpenSpec.upto orderMoreSpec)

/-- 'cooperlaw20.LubyRow', WHERE WHAT IT READS IS OF BULK AT MOST 1048576: true; the input reads as it did. -/
def lubyRowUptoRow : OpenClaim := { program := "ytoljhahmmdibfaa", sum := "26d1f9b01749e0d37ced8e2bd87299b194588f757eb236638b4fd9499572b215", func := "cooper/cooperlaw20.LubyRow", spec := "lubyRow", plainKeys := false, apart := false, narrowed := true }
def LubyRowUptoSaid : Prop := lubyRowUptoRow.holds Try.pinned (OpenSpec.upto lubyRowSpec)

/-- 'cooperlaw20.LubySums', WHERE WHAT IT READS IS OF BULK AT MOST 1048576: true; the input reads as it did. -/
def lubySumsUptoRow : OpenClaim := { program := "ytoljhahmmdibfaa", sum := "26d1f9b01749e0d37ced8e2bd87299b194588f757eb236638b4fd9499572b215", func := "cooper/cooperlaw20.LubySums", spec := "lubySums", plainKeys := false, apart := false, narrowed := true }
def LubySumsUptoSaid : Prop := lubySumsUptoRow.holds Try.pinned (OpenSpec.upto lubySumsSpec)

/-- 'cooperlaw11.AtomsNil', WHERE WHAT IT READS IS OF BULK AT MOST 1048576: true; the input reads as it did. -/
def atomsNilUptoRow : OpenClaim := { program := "ytoljhahmmdibfaa", sum := "26d1f9b01749e0d37ced8e2bd87299b194588f757eb236638b4fd9499572b215", func := "cooper/cooperlaw11.AtomsNil", spec := "atomsNil", plainKeys := false, apart := false, narrowed := true }
def AtomsNilUptoSaid : Prop := atomsNilUptoRow.holds Try.pinned (OpenSpec.upto atomsNilSpec)

/-- 'cooperlaw05.LexLines', WHERE WHAT IT READS IS OF BULK AT MOST 1048576: true; the input reads as it did. -/
def lexLinesUptoRow : OpenClaim := { program := "ytoljhahmmdibfaa", sum := "26d1f9b01749e0d37ced8e2bd87299b194588f757eb236638b4fd9499572b215", func := "cooper/cooperlaw05.LexLines", spec := "lexLines", plainKeys := false, apart := false, narrowed := true }
def LexLinesUptoSaid : Prop := lexLinesUptoRow.holds Try.pinned (OpenSpec.upto lexLinesSpec)

/-- 'cooperlaw05.LexMany', WHERE WHAT IT READS IS OF BULK AT MOST 1048576: true; the input reads as it did. -/
def lexManyUptoRow : OpenClaim := { program := "ytoljhahmmdibfaa", sum := "26d1f9b01749e0d37ced8e2bd87299b194588f757eb236638b4fd9499572b215", func := "cooper/cooperlaw05.LexMany", spec := "lexMany", plainKeys := false, apart := false, narrowed := true }
def LexManyUptoSaid : Prop := lexManyUptoRow.holds Try.pinned (OpenSpec.upto lexManySpec)

/-- 'cooperlaw20.LubyNil', WHERE WHAT IT READS IS OF BULK AT MOST 1048576: true; the input reads as it did. -/
def lubyNilUptoRow : OpenClaim := { program := "ytoljhahmmdibfaa", sum := "26d1f9b01749e0d37ced8e2bd87299b194588f757eb236638b4fd9499572b215", func := "cooper/cooperlaw20.LubyNil", spec := "lubyNil", plainKeys := false, apart := false, narrowed := true }
def LubyNilUptoSaid : Prop := lubyNilUptoRow.holds Try.pinned (OpenSpec.upto lubyNilSpec)

/-- 'cooperlaw20.LubyPace', WHERE WHAT IT READS IS OF BULK AT MOST 1048576: true; the input reads as it did. -/
def lubyPaceUptoRow : OpenClaim := { program := "ytoljhahmmdibfaa", sum := "26d1f9b01749e0d37ced8e2bd87299b194588f757eb236638b4fd9499572b215", func := "cooper/cooperlaw20.LubyPace", spec := "lubyPace", plainKeys := false, apart := false, narrowed := true }
def LubyPaceUptoSaid : Prop := lubyPaceUptoRow.holds Try.pinned (OpenSpec.upto lubyPaceSpec)

/-- 'cooperlaw05.LexBlanks', WHERE WHAT IT READS IS OF BULK AT MOST 1048576: true; the input reads as it did. -/
def lexBlanksUptoRow : OpenClaim := { program := "ytoljhahmmdibfaa", sum := "26d1f9b01749e0d37ced8e2bd87299b194588f757eb236638b4fd9499572b215", func := "cooper/cooperlaw05.LexBlanks", spec := "lexBlanks", inPlace := ["internal/abi.NoEscape"], plainKeys := false, apart := false, narrowed := true }
def LexBlanksUptoSaid : Prop := lexBlanksUptoRow.holds Try.pinned (OpenSpec.upto lexBlanksSpec)

/-- 'cooperlaw20.LubyForget', WHERE WHAT IT READS IS OF BULK AT MOST 1048576: true; the input reads as it did. -/
def lubyForgetUptoRow : OpenClaim := { program := "ytoljhahmmdibfaa", sum := "26d1f9b01749e0d37ced8e2bd87299b194588f757eb236638b4fd9499572b215", func := "cooper/cooperlaw20.LubyForget", spec := "lubyForget", unfollowed := true, recurses := true, plainKeys := false, apart := false, narrowed := true }
def LubyForgetUptoSaid : Prop := lubyForgetUptoRow.holds Try.pinned (OpenSpec.upto lubyForgetSpec)

end Rows
end Go.Proofs.Ytoljhahmmdibfaa
