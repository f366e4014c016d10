/- Walks and plain facts. Texts merged: Shelf, Kit, Mem, Txt, Door, DoorRow, Open, Open2, VerN, VerO, VerC, VerP, VerQ, VerT, SpnM, SortM, SpsM, Row. Condition: none beyond what each says. -/
import Derived.Shelf.Strings.Builder1
import Derived.Shelf.Strings.Builder2
import Derived.Shelf.Strings.OnBuilder
import Derived.Shelf.Small.Wraps
import Derived.Shelf.Strconv.Atoi
import Derived.Shelf.Strconv.Itoa0
import Derived.Shelf.Strconv.Itoa1
import Derived.Shelf.LaysM
import Derived.Shelf.Strconv.Itoa2
import Derived.Shelf.Strconv.Itoa3
import Derived.Shelf.Strconv.AtoiErrFast
import Derived.Shelf.Strconv.ParseIntEmpty
import Derived.Shelf.Strconv.AtoiFail
import Derived.Shelf.Strconv.Clone
import Derived.Shelf.Strconv.SyntaxError
import Derived.Shelf.LaysC
import Derived.Shelf.Strconv.ToError
import Derived.Shelf.Strconv.Lower
import Derived.Shelf.Strconv.ParseUint10
import Derived.Shelf.Strconv.ParseUint10Empty
import Derived.Shelf.Strconv.ParseUint10Any
import Derived.Shelf.Strconv.ParseInt10
import Derived.Shelf.Strconv.AtoiLong
import Derived.Shelf.Strconv.AtoiInnerAll
import Derived.Shelf.Strconv.RangeError
import Derived.Shelf.Strconv.ToErrorRange
import Derived.Shelf.Strconv.AtoiAll
import Derived.Shelf.Strconv.ErrVarAll
import Derived.Shelf.Strings.Search1
import Derived.Shelf.Strings.Search2
import Derived.Shelf.Strings.Search3
import Derived.Shelf.Strings.Cut
import Derived.Shelf.Strings.Shaped
import Derived.Shelf.Strings.Prefix
import Derived.Shelf.Unicode.DecodeSlow
import Derived.Test.YteailgjiifdgcaaGreatDoorProg
import Derived.WalkKit
import Derived.WalkSpells
import Derived.WalkLawsBesides
import Derived.Lib.Hide
import Derived.BigQuiet
import Derived.Deep.QuietTactic
import Derived.StillTailTactics
import Derived.Deep.RegionLawGrows
import Derived.Laws.StructEq
import Derived.Lib.Strings
import Derived.WalkSmall
import Derived.Sort.Grow
import Derived.Test.YteailgjiifdgcaaGreatDoorCards
import Derived.Test.YteailgjiifdgcaaGreatDoorTie
import Derived.ProofKit
import Derived.OpenShut
import Derived.LaidMore
import Derived.Lay
import Derived.SevenTiedAt
import Derived.Stop.Joined
import Derived.Stop.LaidErr
import Derived.Deep.DeepHandedRow
import Derived.Lib.LaidTab
import Derived.Deep.Slices
import Derived.SizedLaws
import Derived.Lib.AtoiAll
import Derived.Lib.AtoiAllCases
import Derived.Lib.ItoaNum
import Derived.Lib.SplitLaws
import Derived.Lib.IndexBytes
import Derived.Lib.Split
import Derived.Below
set_option linter.unusedVariables false
set_option linter.unusedSimpArgs false
set_option maxRecDepth 10000
set_option maxHeartbeats 4000000
namespace Go.Proofs.YteailgjiifdgcaaGreatDoor
section
theorem hd {p : Prop} (h : p) : Go.RowKit.Hid p := h
theorem hd2 {p0 p1 : Prop} (hp0 : p0) (hp1 : p1) : Go.RowKit.Hid p0 ∧ Go.RowKit.Hid p1 := ⟨hp0, hp1⟩
theorem hd3 {p0 p1 p2 : Prop} (hp0 : p0) (hp1 : p1) (hp2 : p2) : Go.RowKit.Hid p0 ∧ Go.RowKit.Hid p1 ∧ Go.RowKit.Hid p2 := ⟨hp0, hp1, hp2⟩
theorem hd4 {p0 p1 p2 p3 : Prop} (hp0 : p0) (hp1 : p1) (hp2 : p2) (hp3 : p3) : Go.RowKit.Hid p0 ∧ Go.RowKit.Hid p1 ∧ Go.RowKit.Hid p2 ∧ Go.RowKit.Hid p3 := ⟨hp0, hp1, hp2, hp3⟩
theorem hd5 {p0 p1 p2 p3 p4 : Prop} (hp0 : p0) (hp1 : p1) (hp2 : p2) (hp3 : p3) (hp4 : p4) : Go.RowKit.Hid p0 ∧ Go.RowKit.Hid p1 ∧ Go.RowKit.Hid p2 ∧ Go.RowKit.Hid p3 ∧ Go.RowKit.Hid p4 := ⟨hp0, hp1, hp2, hp3, hp4⟩
theorem hd6 {p0 p1 p2 p3 p4 p5 : Prop} (hp0 : p0) (hp1 : p1) (hp2 : p2) (hp3 : p3) (hp4 : p4) (hp5 : p5) : Go.RowKit.Hid p0 ∧ Go.RowKit.Hid p1 ∧ Go.RowKit.Hid p2 ∧ Go.RowKit.Hid p3 ∧ Go.RowKit.Hid p4 ∧ Go.RowKit.Hid p5 := ⟨hp0, hp1, hp2, hp3, hp4, hp5⟩
theorem hd7 {p0 p1 p2 p3 p4 p5 p6 : Prop} (hp0 : p0) (hp1 : p1) (hp2 : p2) (hp3 : p3) (hp4 : p4) (hp5 : p5) (hp6 : p6) : Go.RowKit.Hid p0 ∧ Go.RowKit.Hid p1 ∧ Go.RowKit.Hid p2 ∧ Go.RowKit.Hid p3 ∧ Go.RowKit.Hid p4 ∧ Go.RowKit.Hid p5 ∧ Go.RowKit.Hid p6 := ⟨hp0, hp1, hp2, hp3, hp4, hp5, hp6⟩
theorem hd8 {p0 p1 p2 p3 p4 p5 p6 p7 : Prop} (hp0 : p0) (hp1 : p1) (hp2 : p2) (hp3 : p3) (hp4 : p4) (hp5 : p5) (hp6 : p6) (hp7 : p7) : Go.RowKit.Hid p0 ∧ Go.RowKit.Hid p1 ∧ Go.RowKit.Hid p2 ∧ Go.RowKit.Hid p3 ∧ Go.RowKit.Hid p4 ∧ Go.RowKit.Hid p5 ∧ Go.RowKit.Hid p6 ∧ Go.RowKit.Hid p7 := ⟨hp0, hp1, hp2, hp3, hp4, hp5, hp6, hp7⟩
theorem hd9 {p0 p1 p2 p3 p4 p5 p6 p7 p8 : Prop} (hp0 : p0) (hp1 : p1) (hp2 : p2) (hp3 : p3) (hp4 : p4) (hp5 : p5) (hp6 : p6) (hp7 : p7) (hp8 : p8) : Go.RowKit.Hid p0 ∧ Go.RowKit.Hid p1 ∧ Go.RowKit.Hid p2 ∧ Go.RowKit.Hid p3 ∧ Go.RowKit.Hid p4 ∧ Go.RowKit.Hid p5 ∧ Go.RowKit.Hid p6 ∧ Go.RowKit.Hid p7 ∧ Go.RowKit.Hid p8 := ⟨hp0, hp1, hp2, hp3, hp4, hp5, hp6, hp7, hp8⟩
theorem hd10 {p0 p1 p2 p3 p4 p5 p6 p7 p8 p9 : Prop} (hp0 : p0) (hp1 : p1) (hp2 : p2) (hp3 : p3) (hp4 : p4) (hp5 : p5) (hp6 : p6) (hp7 : p7) (hp8 : p8) (hp9 : p9) : Go.RowKit.Hid p0 ∧ Go.RowKit.Hid p1 ∧ Go.RowKit.Hid p2 ∧ Go.RowKit.Hid p3 ∧ Go.RowKit.Hid p4 ∧ Go.RowKit.Hid p5 ∧ Go.RowKit.Hid p6 ∧ Go.RowKit.Hid p7 ∧ Go.RowKit.Hid p8 ∧ Go.RowKit.Hid p9 := ⟨hp0, hp1, hp2, hp3, hp4, hp5, hp6, hp7, hp8, hp9⟩
theorem hd11 {p0 p1 p2 p3 p4 p5 p6 p7 p8 p9 p10 : Prop} (hp0 : p0) (hp1 : p1) (hp2 : p2) (hp3 : p3) (hp4 : p4) (hp5 : p5) (hp6 : p6) (hp7 : p7) (hp8 : p8) (hp9 : p9) (hp10 : p10) : Go.RowKit.Hid p0 ∧ Go.RowKit.Hid p1 ∧ Go.RowKit.Hid p2 ∧ Go.RowKit.Hid p3 ∧ Go.RowKit.Hid p4 ∧ Go.RowKit.Hid p5 ∧ Go.RowKit.Hid p6 ∧ Go.RowKit.Hid p7 ∧ Go.RowKit.Hid p8 ∧ Go.RowKit.Hid p9 ∧ Go.RowKit.Hid p10 := ⟨hp0, hp1, hp2, hp3, hp4, hp5, hp6, hp7, hp8, hp9, hp10⟩
theorem hd12 {p0 p1 p2 p3 p4 p5 p6 p7 p8 p9 p10 p11 : Prop} (hp0 : p0) (hp1 : p1) (hp2 : p2) (hp3 : p3) (hp4 : p4) (hp5 : p5) (hp6 : p6) (hp7 : p7) (hp8 : p8) (hp9 : p9) (hp10 : p10) (hp11 : p11) : Go.RowKit.Hid p0 ∧ Go.RowKit.Hid p1 ∧ Go.RowKit.Hid p2 ∧ Go.RowKit.Hid p3 ∧ Go.RowKit.Hid p4 ∧ Go.RowKit.Hid p5 ∧ Go.RowKit.Hid p6 ∧ Go.RowKit.Hid p7 ∧ Go.RowKit.Hid p8 ∧ Go.RowKit.Hid p9 ∧ Go.RowKit.Hid p10 ∧ Go.RowKit.Hid p11 := ⟨hp0, hp1, hp2, hp3, hp4, hp5, hp6, hp7, hp8, hp9, hp10, hp11⟩
theorem hd13 {p0 p1 p2 p3 p4 p5 p6 p7 p8 p9 p10 p11 p12 : Prop} (hp0 : p0) (hp1 : p1) (hp2 : p2) (hp3 : p3) (hp4 : p4) (hp5 : p5) (hp6 : p6) (hp7 : p7) (hp8 : p8) (hp9 : p9) (hp10 : p10) (hp11 : p11) (hp12 : p12) : Go.RowKit.Hid p0 ∧ Go.RowKit.Hid p1 ∧ Go.RowKit.Hid p2 ∧ Go.RowKit.Hid p3 ∧ Go.RowKit.Hid p4 ∧ Go.RowKit.Hid p5 ∧ Go.RowKit.Hid p6 ∧ Go.RowKit.Hid p7 ∧ Go.RowKit.Hid p8 ∧ Go.RowKit.Hid p9 ∧ Go.RowKit.Hid p10 ∧ Go.RowKit.Hid p11 ∧ Go.RowKit.Hid p12 := ⟨hp0, hp1, hp2, hp3, hp4, hp5, hp6, hp7, hp8, hp9, hp10, hp11, hp12⟩
theorem hd14 {p0 p1 p2 p3 p4 p5 p6 p7 p8 p9 p10 p11 p12 p13 : Prop} (hp0 : p0) (hp1 : p1) (hp2 : p2) (hp3 : p3) (hp4 : p4) (hp5 : p5) (hp6 : p6) (hp7 : p7) (hp8 : p8) (hp9 : p9) (hp10 : p10) (hp11 : p11) (hp12 : p12) (hp13 : p13) : Go.RowKit.Hid p0 ∧ Go.RowKit.Hid p1 ∧ Go.RowKit.Hid p2 ∧ Go.RowKit.Hid p3 ∧ Go.RowKit.Hid p4 ∧ Go.RowKit.Hid p5 ∧ Go.RowKit.Hid p6 ∧ Go.RowKit.Hid p7 ∧ Go.RowKit.Hid p8 ∧ Go.RowKit.Hid p9 ∧ Go.RowKit.Hid p10 ∧ Go.RowKit.Hid p11 ∧ Go.RowKit.Hid p12 ∧ Go.RowKit.Hid p13 := ⟨hp0, hp1, hp2, hp3, hp4, hp5, hp6, hp7, hp8, hp9, hp10, hp11, hp12, hp13⟩
theorem hd15 {p0 p1 p2 p3 p4 p5 p6 p7 p8 p9 p10 p11 p12 p13 p14 : Prop} (hp0 : p0) (hp1 : p1) (hp2 : p2) (hp3 : p3) (hp4 : p4) (hp5 : p5) (hp6 : p6) (hp7 : p7) (hp8 : p8) (hp9 : p9) (hp10 : p10) (hp11 : p11) (hp12 : p12) (hp13 : p13) (hp14 : p14) : Go.RowKit.Hid p0 ∧ Go.RowKit.Hid p1 ∧ Go.RowKit.Hid p2 ∧ Go.RowKit.Hid p3 ∧ Go.RowKit.Hid p4 ∧ Go.RowKit.Hid p5 ∧ Go.RowKit.Hid p6 ∧ Go.RowKit.Hid p7 ∧ Go.RowKit.Hid p8 ∧ Go.RowKit.Hid p9 ∧ Go.RowKit.Hid p10 ∧ Go.RowKit.Hid p11 ∧ Go.RowKit.Hid p12 ∧ Go.RowKit.Hid p13 ∧ Go.RowKit.Hid p14 := ⟨hp0, hp1, hp2, hp3, hp4, hp5, hp6, hp7, hp8, hp9, hp10, hp11, hp12, hp13, hp14⟩
theorem hd16 {p0 p1 p2 p3 p4 p5 p6 p7 p8 p9 p10 p11 p12 p13 p14 p15 : Prop} (hp0 : p0) (hp1 : p1) (hp2 : p2) (hp3 : p3) (hp4 : p4) (hp5 : p5) (hp6 : p6) (hp7 : p7) (hp8 : p8) (hp9 : p9) (hp10 : p10) (hp11 : p11) (hp12 : p12) (hp13 : p13) (hp14 : p14) (hp15 : p15) : Go.RowKit.Hid p0 ∧ Go.RowKit.Hid p1 ∧ Go.RowKit.Hid p2 ∧ Go.RowKit.Hid p3 ∧ Go.RowKit.Hid p4 ∧ Go.RowKit.Hid p5 ∧ Go.RowKit.Hid p6 ∧ Go.RowKit.Hid p7 ∧ Go.RowKit.Hid p8 ∧ Go.RowKit.Hid p9 ∧ Go.RowKit.Hid p10 ∧ Go.RowKit.Hid p11 ∧ Go.RowKit.Hid p12 ∧ Go.RowKit.Hid p13 ∧ Go.RowKit.Hid p14 ∧ Go.RowKit.Hid p15 := ⟨hp0, hp1, hp2, hp3, hp4, hp5, hp6, hp7, hp8, hp9, hp10, hp11, hp12, hp13, hp14, hp15⟩
theorem lA {α : Type _} (l : List α) (i : Nat) (a : α) : l.toArray.setIfInBounds i a = (l.set i a).toArray := List.setIfInBounds_toArray l i a
theorem lB {α : Type _} {a b : α} {l : List α} : (a :: l).set 0 b = b :: l := rfl
theorem lC {α : Type _} {a b : α} {l : List α} {n : Nat} : (a :: l).set (n + 1) b = a :: l.set n b := rfl
end
end Go.Proofs.YteailgjiifdgcaaGreatDoor
namespace Go.Proofs
open Go.Shelf
def Tryz.lays156_ren:Go.Shelf.Ren:=⟨fun | 156=>58 | 165=>115 | 166=>94 | 169=>95 | 240=>160 | 241=>172 | 276=>191 | 277=>205 | n=>n,fun | 31=>88 | 9=>9 | 3=>3 | 4=>4 | 0=>0 | 20=>20 | 72=>144 | 76=>147 | 70=>141 | 37=>142 | 75=>146 | 127=>213 | 164=>232 | 5=>5 | 80=>149 | n=>n,fun | n=>n⟩
theorem Tryz.lays156:Go.Proofs.Lays.n156 Tryz.prog Tryz.lays156_ren:={
 mixed:=by kernel_rfl
 f156:=Tryz.func58.trans (congrArg some (by kernel_rfl))
 f165:=Tryz.func115.trans (congrArg some (by kernel_rfl))
 f166:=Tryz.func94.trans (congrArg some (by kernel_rfl))
 f169:=Tryz.func95.trans (congrArg some (by kernel_rfl))
 f240:=Tryz.func160.trans (congrArg some (by kernel_rfl))
 f241:=Tryz.func172.trans (congrArg some (by kernel_rfl))
 f276:=Tryz.func191.trans (congrArg some (by kernel_rfl))
 f277:=Tryz.func205.trans (congrArg some (by kernel_rfl))
 t0:=Tryz.underlying0
 a0:=Tryz.isAgg0
 z0:=Tryz.sizeOf0
 v0:=Tryz.zeroValue0
 t3:=Tryz.underlying3
 a3:=Tryz.isAgg3
 z3:=Tryz.sizeOf3
 v3:=Tryz.zeroValue3
 t4:=Tryz.underlying4
 a4:=Tryz.isAgg4
 z4:=Tryz.sizeOf4
 v4:=Tryz.zeroValue4
 t9:=Tryz.underlying9
 a9:=Tryz.isAgg9
 z9:=Tryz.sizeOf9
 v9:=Tryz.zeroValue9
 t20:=Tryz.underlying20
 a20:=Tryz.isAgg20
 z20:=Tryz.sizeOf20
 v20:=Tryz.zeroValue20
 t31:=Tryz.underlying88
 a31:=Tryz.isAgg88
 z31:=Tryz.sizeOf88
 v31:=Tryz.zeroValue88
 t37:=Tryz.underlying142
 a37:=Tryz.isAgg142
 z37:=Tryz.sizeOf142
 v37:=Tryz.zeroValue142
 t70:=Tryz.underlying141
 a70:=Tryz.isAgg141
 z70:=Tryz.sizeOf141
 v70:=Tryz.zeroValue141
 t72:=Tryz.underlying144
 a72:=Tryz.isAgg144
 z72:=Tryz.sizeOf144
 v72:=Tryz.zeroValue144
 t75:=Tryz.underlying146
 a75:=Tryz.isAgg146
 z75:=Tryz.sizeOf146
 v75:=Tryz.zeroValue146
 t76:=Tryz.underlying147
 a76:=Tryz.isAgg147
 z76:=Tryz.sizeOf147
 v76:=Tryz.zeroValue147
 t127:=Tryz.underlying213
 a127:=Tryz.isAgg213
 z127:=Tryz.sizeOf213
 v127:=Tryz.zeroValue213
 t164:=Tryz.underlying232
 a164:=Tryz.isAgg232
 z164:=Tryz.sizeOf232
 v164:=Tryz.zeroValue232 }
theorem Tryz.Builder_Extra_156:Builder.Extra Tryz.prog Tryz.lays156_ren:={
 sizeBuilder:=by kernel_rfl
 liesBuilder:=by kernel_rfl
 t5:=Tryz.underlying5
 a5:=Tryz.isAgg5
 z5:=Tryz.sizeOf5
 v5:=Tryz.zeroValue5
 infoByte:=by kernel_rfl
 cellsByte:=by kernel_rfl
 sizeByte:=by kernel_rfl
 neB5:=by decide }
open Go.RowKit in
theorem Tryz.strings_Join (bk o c:Nat) (xs:List ByteArray) (sep:ByteArray) (w:World) (hcells:∀ (j:Nat) x,xs[j]? = some x→w.cell? ⟨bk,o+j,none⟩=some (.string x)) (hbk:bk < w.heap.size) (hN:xs.length≤140737488355328) (hcap:xs.length≤c) (hlen:(Lib.join (xs.map (·.data.toList)) sep.data.toList).length≤140737488355328) :
  Calls Tryz.prog 58 #[.slice (some ⟨bk,o,none⟩) xs.length c,.string sep] w fun e w'=>e = .returned (.string ⟨(Lib.join (xs.map (·.data.toList)) sep.data.toList).toArray⟩)∧Below w.heap.size w w':=Any.strings_Join Tryz.lays156 Tryz.Builder_Extra_156 bk o c xs sep w hcells hbk hN hcap hlen
def Tryz.laysM171_ren:Go.Shelf.Ren:=⟨fun | 171=>220 | 243=>227 | 246=>233 | 283=>237 | 284=>238 | 285=>239 | 286=>240 | 129=>244 | 317=>243 | 318=>245 | 319=>246 | 320=>247 | 337=>248 | 338=>249 | n=>n,fun | 3=>3 | 9=>9 | 2=>2 | 4=>4 | 171=>275 | 0=>0 | 53=>268 | 37=>142 | 5=>5 | 173=>278 | 212=>285 | 51=>257 | 20=>20 | 213=>286 | 46=>248 | 232=>289 | 233=>290 | n=>n,fun | 17=>5 | 18=>6 | 19=>7 | n=>n⟩
theorem Tryz.laysM171:Go.Proofs.LaysM.n171 Tryz.prog Tryz.laysM171_ren:={
 mixed:=by kernel_rfl
 f129:=Tryz.func244.trans (congrArg some (by kernel_rfl))
 f171:=Tryz.func220.trans (congrArg some (by kernel_rfl))
 f243:=Tryz.func227.trans (congrArg some (by kernel_rfl))
 f246:=Tryz.func233.trans (congrArg some (by kernel_rfl))
 f283:=Tryz.func237.trans (congrArg some (by kernel_rfl))
 f284:=Tryz.func238.trans (congrArg some (by kernel_rfl))
 f285:=Tryz.func239.trans (congrArg some (by kernel_rfl))
 f286:=Tryz.func240.trans (congrArg some (by kernel_rfl))
 f317:=Tryz.func243.trans (congrArg some (by kernel_rfl))
 f318:=Tryz.func245.trans (congrArg some (by kernel_rfl))
 f319:=Tryz.func246.trans (congrArg some (by kernel_rfl))
 f320:=Tryz.func247.trans (congrArg some (by kernel_rfl))
 f337:=Tryz.func248.trans (congrArg some (by kernel_rfl))
 f338:=Tryz.func249.trans (congrArg some (by kernel_rfl))
 t0:=Tryz.underlying0
 a0:=Tryz.isAgg0
 z0:=Tryz.sizeOf0
 v0:=Tryz.zeroValue0
 t2:=Tryz.underlying2
 a2:=Tryz.isAgg2
 z2:=Tryz.sizeOf2
 v2:=Tryz.zeroValue2
 t3:=Tryz.underlying3
 a3:=Tryz.isAgg3
 z3:=Tryz.sizeOf3
 v3:=Tryz.zeroValue3
 t4:=Tryz.underlying4
 a4:=Tryz.isAgg4
 z4:=Tryz.sizeOf4
 v4:=Tryz.zeroValue4
 t5:=Tryz.underlying5
 a5:=Tryz.isAgg5
 z5:=Tryz.sizeOf5
 v5:=Tryz.zeroValue5
 t9:=Tryz.underlying9
 a9:=Tryz.isAgg9
 z9:=Tryz.sizeOf9
 v9:=Tryz.zeroValue9
 t20:=Tryz.underlying20
 a20:=Tryz.isAgg20
 z20:=Tryz.sizeOf20
 v20:=Tryz.zeroValue20
 t37:=Tryz.underlying142
 a37:=Tryz.isAgg142
 z37:=Tryz.sizeOf142
 v37:=Tryz.zeroValue142
 t46:=Tryz.underlying248
 a46:=Tryz.isAgg248
 z46:=Tryz.sizeOf248
 v46:=Tryz.zeroValue248
 t51:=Tryz.underlying257
 a51:=Tryz.isAgg257
 z51:=Tryz.sizeOf257
 v51:=Tryz.zeroValue257
 t53:=Tryz.underlying268
 a53:=Tryz.isAgg268
 z53:=Tryz.sizeOf268
 v53:=Tryz.zeroValue268
 t171:=Tryz.underlying275
 a171:=Tryz.isAgg275
 z171:=Tryz.sizeOf275
 v171:=Tryz.zeroValue275
 t173:=Tryz.underlying278
 a173:=Tryz.isAgg278
 z173:=Tryz.sizeOf278
 v173:=Tryz.zeroValue278
 t212:=Tryz.underlying285
 a212:=Tryz.isAgg285
 z212:=Tryz.sizeOf285
 v212:=Tryz.zeroValue285
 t213:=Tryz.underlying286
 a213:=Tryz.isAgg286
 z213:=Tryz.sizeOf286
 t232:=Tryz.underlying289
 a232:=Tryz.isAgg289
 z232:=Tryz.sizeOf289
 v232:=Tryz.zeroValue289
 t233:=Tryz.underlying290
 a233:=Tryz.isAgg290
 z233:=Tryz.sizeOf290
 v233:=Tryz.zeroValue290
 g17:=by kernel_rfl
 g18:=by kernel_rfl
 g19:=by kernel_rfl
 i0:=by kernel_rfl
 i2:=by kernel_rfl
 i3:=by kernel_rfl
 i4:=by kernel_rfl
 i5:=by kernel_rfl
 i9:=by kernel_rfl
 i20:=by kernel_rfl
 i37:=by kernel_rfl
 i46:=by kernel_rfl
 i51:=by kernel_rfl
 i53:=by kernel_rfl
 i171:=by kernel_rfl
 i173:=by kernel_rfl
 i212:=by kernel_rfl
 i232:=by kernel_rfl
 i233:=by kernel_rfl
 m17:=by kernel_rfl
 m18:=by kernel_rfl
 m19:=by kernel_rfl }
open Go.RowKit Go.Sort Go.Lib in
theorem Tryz.strconv_Itoa (n:Int) (h0 : -9223372036854775808≤n) (h1:n≤9223372036854775807) (w:World) (htab:Lib.TabIs Tryz.prog w "internal/strconv.uint64pow10" .u64 Lib.pow10Tab) :
  Calls Tryz.prog 220 #[.int .i64 n] w fun e w'=>e = .returned (.string ⟨(Lib.itoa n).toArray⟩)∧∃ k os,w'=grow (w.drewN k) os:=Any.strconv_Itoa Tryz.laysM171 n h0 h1 w htab
def Tryz.laysC172_ren:Go.Shelf.Ren:=⟨fun | 172=>219 | 244=>225 | 245=>226 | 247=>228 | 279=>229 | 280=>230 | 281=>231 | 282=>232 | 287=>234 | 316=>235 | 171=>220 | 205=>236 | 321=>241 | 322=>242 | 243=>227 | 246=>233 | 283=>237 | 284=>238 | 285=>239 | 286=>240 | 129=>244 | 317=>243 | 318=>245 | 319=>246 | 320=>247 | 337=>248 | 338=>249 | n=>n,fun | 9=>9 | 3=>3 | 75=>146 | 76=>147 | 4=>4 | 5=>5 | 167=>261 | 37=>142 | 0=>0 | 85=>262 | 2=>2 | 168=>264 | 53=>268 | 175=>269 | 46=>248 | 210=>273 | 127=>213 | 145=>283 | 143=>281 | 21=>21 | 171=>275 | 173=>278 | 212=>285 | 51=>257 | 20=>20 | 213=>286 | 232=>289 | 233=>290 | 80=>149 | n=>n,fun | 15=>3 | 16=>4 | 17=>5 | 18=>6 | 19=>7 | n=>n⟩
theorem Tryz.laysC172:Go.Proofs.LaysC.n172 Tryz.prog Tryz.laysC172_ren:={
 mixed:=by kernel_rfl
 f129:=Tryz.func244.trans (congrArg some (by kernel_rfl))
 f171:=Tryz.func220.trans (congrArg some (by kernel_rfl))
 f172:=Tryz.func219.trans (congrArg some (by kernel_rfl))
 f205:=Tryz.func236.trans (congrArg some (by kernel_rfl))
 f243:=Tryz.func227.trans (congrArg some (by kernel_rfl))
 f244:=Tryz.func225.trans (congrArg some (by kernel_rfl))
 f245:=Tryz.func226.trans (congrArg some (by kernel_rfl))
 f246:=Tryz.func233.trans (congrArg some (by kernel_rfl))
 f247:=Tryz.func228.trans (congrArg some (by kernel_rfl))
 f279:=Tryz.func229.trans (congrArg some (by kernel_rfl))
 f280:=Tryz.func230.trans (congrArg some (by kernel_rfl))
 f281:=Tryz.func231.trans (congrArg some (by kernel_rfl))
 f282:=Tryz.func232.trans (congrArg some (by kernel_rfl))
 f283:=Tryz.func237.trans (congrArg some (by kernel_rfl))
 f284:=Tryz.func238.trans (congrArg some (by kernel_rfl))
 f285:=Tryz.func239.trans (congrArg some (by kernel_rfl))
 f286:=Tryz.func240.trans (congrArg some (by kernel_rfl))
 f287:=Tryz.func234.trans (congrArg some (by kernel_rfl))
 f316:=Tryz.func235.trans (congrArg some (by kernel_rfl))
 f317:=Tryz.func243.trans (congrArg some (by kernel_rfl))
 f318:=Tryz.func245.trans (congrArg some (by kernel_rfl))
 f319:=Tryz.func246.trans (congrArg some (by kernel_rfl))
 f320:=Tryz.func247.trans (congrArg some (by kernel_rfl))
 f321:=Tryz.func241.trans (congrArg some (by kernel_rfl))
 f322:=Tryz.func242.trans (congrArg some (by kernel_rfl))
 f337:=Tryz.func248.trans (congrArg some (by kernel_rfl))
 f338:=Tryz.func249.trans (congrArg some (by kernel_rfl))
 t0:=Tryz.underlying0
 a0:=Tryz.isAgg0
 z0:=Tryz.sizeOf0
 v0:=Tryz.zeroValue0
 t2:=Tryz.underlying2
 a2:=Tryz.isAgg2
 z2:=Tryz.sizeOf2
 v2:=Tryz.zeroValue2
 t3:=Tryz.underlying3
 a3:=Tryz.isAgg3
 z3:=Tryz.sizeOf3
 v3:=Tryz.zeroValue3
 t4:=Tryz.underlying4
 a4:=Tryz.isAgg4
 z4:=Tryz.sizeOf4
 v4:=Tryz.zeroValue4
 t5:=Tryz.underlying5
 a5:=Tryz.isAgg5
 z5:=Tryz.sizeOf5
 v5:=Tryz.zeroValue5
 t9:=Tryz.underlying9
 a9:=Tryz.isAgg9
 z9:=Tryz.sizeOf9
 v9:=Tryz.zeroValue9
 t20:=Tryz.underlying20
 a20:=Tryz.isAgg20
 z20:=Tryz.sizeOf20
 v20:=Tryz.zeroValue20
 t21:=Tryz.underlying21
 a21:=Tryz.isAgg21
 z21:=Tryz.sizeOf21
 v21:=Tryz.zeroValue21
 t37:=Tryz.underlying142
 a37:=Tryz.isAgg142
 z37:=Tryz.sizeOf142
 v37:=Tryz.zeroValue142
 t46:=Tryz.underlying248
 a46:=Tryz.isAgg248
 z46:=Tryz.sizeOf248
 v46:=Tryz.zeroValue248
 t51:=Tryz.underlying257
 a51:=Tryz.isAgg257
 z51:=Tryz.sizeOf257
 v51:=Tryz.zeroValue257
 t53:=Tryz.underlying268
 a53:=Tryz.isAgg268
 z53:=Tryz.sizeOf268
 v53:=Tryz.zeroValue268
 t75:=Tryz.underlying146
 a75:=Tryz.isAgg146
 z75:=Tryz.sizeOf146
 v75:=Tryz.zeroValue146
 t76:=Tryz.underlying147
 a76:=Tryz.isAgg147
 z76:=Tryz.sizeOf147
 v76:=Tryz.zeroValue147
 t85:=Tryz.underlying262
 a85:=Tryz.isAgg262
 z85:=Tryz.sizeOf262
 v85:=Tryz.zeroValue262
 t127:=Tryz.underlying213
 a127:=Tryz.isAgg213
 z127:=Tryz.sizeOf213
 v127:=Tryz.zeroValue213
 t143:=Tryz.underlying281
 a143:=Tryz.isAgg281
 z143:=Tryz.sizeOf281
 v143:=Tryz.zeroValue281
 t145:=Tryz.underlying283
 a145:=Tryz.isAgg283
 z145:=Tryz.sizeOf283
 v145:=Tryz.zeroValue283
 t167:=Tryz.underlying261
 a167:=Tryz.isAgg261
 z167:=Tryz.sizeOf261
 v167:=Tryz.zeroValue261
 t168:=Tryz.underlying264
 a168:=Tryz.isAgg264
 z168:=Tryz.sizeOf264
 v168:=Tryz.zeroValue264
 t171:=Tryz.underlying275
 a171:=Tryz.isAgg275
 z171:=Tryz.sizeOf275
 v171:=Tryz.zeroValue275
 t173:=Tryz.underlying278
 a173:=Tryz.isAgg278
 z173:=Tryz.sizeOf278
 v173:=Tryz.zeroValue278
 t175:=Tryz.underlying269
 a175:=Tryz.isAgg269
 z175:=Tryz.sizeOf269
 v175:=Tryz.zeroValue269
 t210:=Tryz.underlying273
 a210:=Tryz.isAgg273
 z210:=Tryz.sizeOf273
 v210:=Tryz.zeroValue273
 t212:=Tryz.underlying285
 a212:=Tryz.isAgg285
 z212:=Tryz.sizeOf285
 v212:=Tryz.zeroValue285
 t213:=Tryz.underlying286
 a213:=Tryz.isAgg286
 z213:=Tryz.sizeOf286
 t232:=Tryz.underlying289
 a232:=Tryz.isAgg289
 z232:=Tryz.sizeOf289
 v232:=Tryz.zeroValue289
 t233:=Tryz.underlying290
 a233:=Tryz.isAgg290
 z233:=Tryz.sizeOf290
 v233:=Tryz.zeroValue290
 g15:=by kernel_rfl
 g16:=by kernel_rfl
 g17:=by kernel_rfl
 g18:=by kernel_rfl
 g19:=by kernel_rfl
 t80:=Tryz.underlying149
 a80:=Tryz.isAgg149
 z80:=Tryz.sizeOf149
 v80:=Tryz.zeroValue149
 i0:=by kernel_rfl
 i2:=by kernel_rfl
 i3:=by kernel_rfl
 i4:=by kernel_rfl
 i5:=by kernel_rfl
 i9:=by kernel_rfl
 i20:=by kernel_rfl
 i21:=by kernel_rfl
 i37:=by kernel_rfl
 i46:=by kernel_rfl
 i51:=by kernel_rfl
 i53:=by kernel_rfl
 i75:=by kernel_rfl
 i76:=by kernel_rfl
 i80:=by kernel_rfl
 i85:=by kernel_rfl
 i127:=by kernel_rfl
 i143:=by kernel_rfl
 i145:=by kernel_rfl
 i167:=by kernel_rfl
 i168:=by kernel_rfl
 i171:=by kernel_rfl
 i173:=by kernel_rfl
 i175:=by kernel_rfl
 i210:=by kernel_rfl
 i212:=by kernel_rfl
 i232:=by kernel_rfl
 i233:=by kernel_rfl
 m15:=by kernel_rfl
 m16:=by kernel_rfl
 m17:=by kernel_rfl
 m18:=by kernel_rfl
 m19:=by kernel_rfl
 c0:=by kernel_rfl
 c2:=by kernel_rfl
 c3:=by kernel_rfl
 c4:=by kernel_rfl
 c5:=by kernel_rfl
 c9:=by kernel_rfl
 c20:=by kernel_rfl
 c21:=by kernel_rfl
 c37:=by kernel_rfl
 c46:=by kernel_rfl
 c51:=by kernel_rfl
 c53:=by kernel_rfl
 c75:=by kernel_rfl
 c76:=by kernel_rfl
 c80:=by kernel_rfl
 c85:=by kernel_rfl
 c127:=by kernel_rfl
 c143:=by kernel_rfl
 c145:=by kernel_rfl
 c167:=by kernel_rfl
 c168:=by kernel_rfl
 c171:=by kernel_rfl
 c173:=by kernel_rfl
 c175:=by kernel_rfl
 c210:=by kernel_rfl
 c212:=by kernel_rfl
 c213:=by kernel_rfl
 c232:=by kernel_rfl
 c233:=by kernel_rfl }
open Go.RowKit in
theorem Tryz.strconv_Atoi_ok (s:ByteArray) (hmax:s.size≤9223372036854775806) (v:Int) (h:Lib.atoiAll s.data.toList = .ok v) (w:World) :
  Calls Tryz.prog 219 #[.string s] w fun e w'=>e = .returned (.tuple #[.int .i64 v,.nilIface])∧(w'=w∨∃ t,w'=Lib.bytesWorld w 5 t):=Any.strconv_Atoi_ok Tryz.laysC172 s hmax v h w
open Go.RowKit in
theorem Tryz.strconv_Atoi_syntax_var (s:ByteArray) (hlim:s.size≤281474976710656) (h:Lib.atoiAll s.data.toList=Lib.atoiAll []) (tp:TypeId) (p:Value) (w:World) (hvar:w.var? Tryz.prog "strconv.ErrSyntax" = some #[.iface tp p]) :
  Calls Tryz.prog 219 #[.string s] w fun e w'=>∃ N,e = .returned (.tuple #[.int .i64 0,.iface 264 (.pointer (some ⟨N,0,none⟩))])∧w.heap.size≤N∧w'.heap[N]? = some (.cells #[.string ⟨#[65,116,111,105]⟩,.string s,.iface tp p] 273 (0,0))∧Below w.heap.size w w':=Any.strconv_Atoi_syntax_var Tryz.laysC172 s hlim h tp p w hvar
open Go.RowKit in
theorem Tryz.strconv_Atoi_range_var (s:ByteArray) (hlim:s.size≤281474976710656) (h:Lib.atoiAll s.data.toList = .range) (tp:TypeId) (p:Value) (w:World) (hvar:w.var? Tryz.prog "strconv.ErrRange" = some #[.iface tp p]) :
  Calls Tryz.prog 219 #[.string s] w fun e w'=>∃ N,e = .returned (.tuple #[.int .i64 (Lib.atoiSat s.data.toList),.iface 264 (.pointer (some ⟨N,0,none⟩))])∧w.heap.size≤N∧w'.heap[N]? = some (.cells #[.string ⟨#[65,116,111,105]⟩,.string s,.iface tp p] 273 (0,0))∧Below w.heap.size w w':=Any.strconv_Atoi_range_var Tryz.laysC172 s hlim h tp p w hvar
def Tryz.lays143_ren:Go.Shelf.Ren:=⟨fun | 143=>169 | 219=>202 | 217=>215 | 225=>216 | 224=>217 | 267=>218 | 266=>223 | 314=>224 | n=>n,fun | 9=>9 | 3=>3 | 4=>4 | 5=>5 | 46=>248 | 146=>258 | 51=>257 | n=>n,fun | 1=>2 | n=>n⟩
theorem Tryz.lays143:Go.Proofs.Lays.n143 Tryz.prog Tryz.lays143_ren:={
 mixed:=by kernel_rfl
 f143:=Tryz.func169.trans (congrArg some (by kernel_rfl))
 f217:=Tryz.func215.trans (congrArg some (by kernel_rfl))
 f219:=Tryz.func202.trans (congrArg some (by kernel_rfl))
 f224:=Tryz.func217.trans (congrArg some (by kernel_rfl))
 f225:=Tryz.func216.trans (congrArg some (by kernel_rfl))
 f266:=Tryz.func223.trans (congrArg some (by kernel_rfl))
 f267:=Tryz.func218.trans (congrArg some (by kernel_rfl))
 f314:=Tryz.func224.trans (congrArg some (by kernel_rfl))
 t3:=Tryz.underlying3
 a3:=Tryz.isAgg3
 z3:=Tryz.sizeOf3
 v3:=Tryz.zeroValue3
 t4:=Tryz.underlying4
 a4:=Tryz.isAgg4
 z4:=Tryz.sizeOf4
 v4:=Tryz.zeroValue4
 t5:=Tryz.underlying5
 a5:=Tryz.isAgg5
 z5:=Tryz.sizeOf5
 v5:=Tryz.zeroValue5
 t9:=Tryz.underlying9
 a9:=Tryz.isAgg9
 z9:=Tryz.sizeOf9
 v9:=Tryz.zeroValue9
 t46:=Tryz.underlying248
 a46:=Tryz.isAgg248
 z46:=Tryz.sizeOf248
 v46:=Tryz.zeroValue248
 t51:=Tryz.underlying257
 a51:=Tryz.isAgg257
 z51:=Tryz.sizeOf257
 v51:=Tryz.zeroValue257
 t146:=Tryz.underlying258
 a146:=Tryz.isAgg258
 z146:=Tryz.sizeOf258
 v146:=Tryz.zeroValue258
 g1:=by kernel_rfl }
open Go.RowKit Go.Lib in
theorem Tryz.strings_Index_one (s:ByteArray) (c:UInt8) (w:World) :
  Calls Tryz.prog 169 #[.string s,.string ⟨#[c]⟩] w fun e w'=>e = .returned (.int .i64 (Lib.indexByte s.data.toList c))∧w'=w:=Any.strings_Index_one Tryz.lays143 s c w
def Tryz.lays145_ren:Go.Shelf.Ren:=⟨fun | 145=>112 | 220=>170 | 219=>202 | 217=>215 | 225=>216 | 224=>217 | 267=>218 | 266=>223 | 314=>224 | n=>n,fun | 9=>9 | 4=>4 | 59=>173 | 3=>3 | 5=>5 | 46=>248 | 146=>258 | 51=>257 | n=>n,fun | 1=>2 | n=>n⟩
theorem Tryz.lays145:Go.Proofs.Lays.n145 Tryz.prog Tryz.lays145_ren:={
 mixed:=by kernel_rfl
 f145:=Tryz.func112.trans (congrArg some (by kernel_rfl))
 f217:=Tryz.func215.trans (congrArg some (by kernel_rfl))
 f219:=Tryz.func202.trans (congrArg some (by kernel_rfl))
 f220:=Tryz.func170.trans (congrArg some (by kernel_rfl))
 f224:=Tryz.func217.trans (congrArg some (by kernel_rfl))
 f225:=Tryz.func216.trans (congrArg some (by kernel_rfl))
 f266:=Tryz.func223.trans (congrArg some (by kernel_rfl))
 f267:=Tryz.func218.trans (congrArg some (by kernel_rfl))
 f314:=Tryz.func224.trans (congrArg some (by kernel_rfl))
 t3:=Tryz.underlying3
 a3:=Tryz.isAgg3
 z3:=Tryz.sizeOf3
 v3:=Tryz.zeroValue3
 t4:=Tryz.underlying4
 a4:=Tryz.isAgg4
 z4:=Tryz.sizeOf4
 v4:=Tryz.zeroValue4
 t5:=Tryz.underlying5
 a5:=Tryz.isAgg5
 z5:=Tryz.sizeOf5
 v5:=Tryz.zeroValue5
 t9:=Tryz.underlying9
 a9:=Tryz.isAgg9
 z9:=Tryz.sizeOf9
 v9:=Tryz.zeroValue9
 t46:=Tryz.underlying248
 a46:=Tryz.isAgg248
 z46:=Tryz.sizeOf248
 v46:=Tryz.zeroValue248
 t51:=Tryz.underlying257
 a51:=Tryz.isAgg257
 z51:=Tryz.sizeOf257
 v51:=Tryz.zeroValue257
 t59:=Tryz.underlying173
 a59:=Tryz.isAgg173
 z59:=Tryz.sizeOf173
 v59:=Tryz.zeroValue173
 t146:=Tryz.underlying258
 a146:=Tryz.isAgg258
 z146:=Tryz.sizeOf258
 v146:=Tryz.zeroValue258
 g1:=by kernel_rfl }
open Go.RowKit Go.Lib in
theorem Tryz.strings_Cut (s sep:ByteArray) (m:Int) (w:World) (hs:s.size < 4294967281) (hm:w.cell? ⟨2,0,none⟩=some (.int .i64 m)) :
  Calls Tryz.prog 112 #[.string s,.string sep] w fun e w'=>e = .returned (.tuple #[.string ⟨(Lib.cut s.data.toList sep.data.toList).1.toArray⟩,.string ⟨(Lib.cut s.data.toList sep.data.toList).2.1.toArray⟩,.bool (Lib.cut s.data.toList sep.data.toList).2.2])∧∃ n,w'=w.drewN n:=Any.strings_Cut Tryz.lays145 s sep m w hs hm
def Tryz.laysM143_ren:Go.Shelf.Ren:=⟨fun | 143=>169 | 219=>202 | 217=>215 | 225=>216 | 224=>217 | 267=>218 | 266=>223 | 314=>224 | n=>n,fun | 9=>9 | 3=>3 | 4=>4 | 5=>5 | 46=>248 | 146=>258 | 51=>257 | n=>n,fun | 1=>2 | n=>n⟩
theorem Tryz.laysM143:Go.Proofs.LaysM.n143 Tryz.prog Tryz.laysM143_ren:={
 mixed:=by kernel_rfl
 f143:=Tryz.func169.trans (congrArg some (by kernel_rfl))
 f217:=Tryz.func215.trans (congrArg some (by kernel_rfl))
 f219:=Tryz.func202.trans (congrArg some (by kernel_rfl))
 f224:=Tryz.func217.trans (congrArg some (by kernel_rfl))
 f225:=Tryz.func216.trans (congrArg some (by kernel_rfl))
 f266:=Tryz.func223.trans (congrArg some (by kernel_rfl))
 f267:=Tryz.func218.trans (congrArg some (by kernel_rfl))
 f314:=Tryz.func224.trans (congrArg some (by kernel_rfl))
 t3:=Tryz.underlying3
 a3:=Tryz.isAgg3
 z3:=Tryz.sizeOf3
 v3:=Tryz.zeroValue3
 t4:=Tryz.underlying4
 a4:=Tryz.isAgg4
 z4:=Tryz.sizeOf4
 v4:=Tryz.zeroValue4
 t5:=Tryz.underlying5
 a5:=Tryz.isAgg5
 z5:=Tryz.sizeOf5
 v5:=Tryz.zeroValue5
 t9:=Tryz.underlying9
 a9:=Tryz.isAgg9
 z9:=Tryz.sizeOf9
 v9:=Tryz.zeroValue9
 t46:=Tryz.underlying248
 a46:=Tryz.isAgg248
 z46:=Tryz.sizeOf248
 v46:=Tryz.zeroValue248
 t51:=Tryz.underlying257
 a51:=Tryz.isAgg257
 z51:=Tryz.sizeOf257
 v51:=Tryz.zeroValue257
 t146:=Tryz.underlying258
 a146:=Tryz.isAgg258
 z146:=Tryz.sizeOf258
 v146:=Tryz.zeroValue258
 g1:=by kernel_rfl
 i3:=by kernel_rfl
 i4:=by kernel_rfl
 i5:=by kernel_rfl
 i9:=by kernel_rfl
 i46:=by kernel_rfl
 i51:=by kernel_rfl
 i146:=by kernel_rfl
 m1:=by kernel_rfl
 s1_3:=fun w h=>Go.Proofs.cell_of_shapedOpen_int (zero:=#[.int .i64 0]) (t:=3) h (of_decide_eq_true (by kernel_rfl)) (by kernel_rfl) rfl (by kernel_rfl) (by kernel_rfl) Tryz.underlying3 }
end Go.Proofs

namespace Go.Proofs.YteailgjiifdgcaaGreatDoor
section
open Go.RowKit
theorem zd3 {k:IntKind} {a b:Int} (h:a=b):Ending.returned (.int k a) = .returned (.int k b):=by rw[h]
theorem zaf {a b:Bool} (h:a=b):Ending.returned (.bool a) = .returned (.bool b):=by rw[h]
theorem zak {B:Nat} {a w:World} (h:Below B a w) (n:Nat):Below B a (w.drewN n):=⟨h.os,h.tape,h.output,h.size,h.block⟩
structure Elem (P:Program) (t e:TypeId) (z:Value) (size bytes:Nat):Prop where
 slice:P.underlying t=some (.slice e)
 info:(P.info? e).map (fun i=>(i.zero,i.size,i.bytes))=some (some z,size,bytes)
 zero:z.cells.size=size
 pos:0 < size
theorem zhc {w w1 w2:World} {row:Option Nat} (h:w.grownBy w1 none) (k:w1.grownBy w2 row):w.grownBy w2 row :=
 ⟨k.os.trans h.os,k.tape.trans h.tape,k.output.trans h.output,Nat.le_trans h.size k.size,
  fun b hb hr=>(k.block b (Nat.lt_of_lt_of_le hb h.size) hr).trans (h.block b hb (by simp))⟩
theorem zf8 {w w':World} (h:Below w.heap.size w w'):w.grownBy w' none :=
 ⟨h.os,h.tape,h.output,h.size,fun k hk _=>h.block k hk⟩
theorem zd9 {P:Program} (w:World) (base:Nat) (t ty e:TypeId) (i:TypeInfo) (z:Value) (size bytes:Nat) (ht:P.underlying t=some (.slice e)) (hi:P.info? e=some i) (hz:i.zero=some z)
  (hsize:i.size=size) (hby:i.bytes=bytes) (hzs:z.cells.size=size) (hsz:0 < size)
  (v:Value) (n:Nat) (xs:List Value) (hown:w.ownsRow base e size v n xs)
  (a:Addr) (m c:Nat) (news:List Value) (hl:news.length=m * size) (hnews:∀ j u,news[j]? = some u→w.cell? (a.add j)=some u) (h1:∀ u∈news,u.oneCell'=true)
  (h63:n+m≤maxLen) (hbytes:(n+m) * bytes≤140737488355328) (hbase:base≤w.heap.size) :
  ∃ v' w',(Builtin.append_ #[t,t] ty #[v,.slice (some a) m c]).run P w = .ok v' w'∧w'.ownsRow base e size v' (n+m) (xs ++ news)∧w.grownBy w' v.ownBlock∧(v'.ownBlock=v.ownBlock∨v'.ownBlock=some w.heap.size):=by
 obtain⟨v',w',hr,h2,h3,h4⟩:=run_append_own (P:=P) w base t ty e i z size bytes ht hi hz hsize hby hzs hsz v n xs hown a m c news hl hnews h1 h63 hbytes hbase
 refine⟨v',w',hr,h2,h3,?_⟩
 subst hsize;subst hby
 have h63':n+m≤9223372036854775807:=by simp only[maxLen] at h63;omega
 rcases hown.2 with⟨rfl,rfl⟩ | ⟨g,cap,cur,rfl,hbg,hg,hnc,hcm,hcs,htake⟩
 ·by_cases hm:m=0
  ·left
   have:=h4.2 ⟨rfl,hm⟩
   rw[this]
  right
  have hr2:=run_append_nil (P:=P) w t ty e i z ht hi hz a m c news hl hnews (by omega) (by omega) (by have hb:=hbytes;simp only[Nat.zero_add] at hb;omega)
  rw[hr] at hr2
  simp only[Result.ok.injEq] at hr2
  rw[hr2.1];rfl
 by_cases hroom:n+m≤cap
 ·left
  have hfit:n * i.size+news.length≤cur.size:=by rw[hl,hcs,← Nat.add_mul];exact Nat.mul_le_mul_right _ hroom
  have hr2:=run_append_room (P:=P) w t ty e i ht hi g n cap cur hg a m c news hl hnews h1 hroom hfit
  rw[hr] at hr2
  simp only[Result.ok.injEq] at hr2
  rw[hr2.1];rfl
 right
 have holds:∀ j u,xs[j]? = some u→w.cell? ((⟨g,0,none⟩ : Addr).add j)=some u:=hown.cells (g:=g) rfl
 have hr2:=run_append_grow (P:=P) w t ty e i z ht hi hz ⟨g,0,none⟩ n cap xs hown.1 holds a m c news hl hnews (by omega) (by omega) (growslice_fits (by omega) hbytes)
 rw[hr] at hr2
 simp only[Result.ok.injEq] at hr2
 rw[hr2.1];rfl
def zjo (w:World) (v v':Value):Prop:=∀ k,v'.ownBlock=some k→v.ownBlock=some k∨w.heap.size≤k
theorem zef {P:Program} {t e:TypeId} {z:Value} {size bytes:Nat} (E:Elem P t e z size bytes) {w:World} {o:Oper} {a:Act} {K:Act→World→Prop} {Q:Exit→Act→World→Prop}
  (s x:Operand) (ho:o.op = .call { callee:=.builtin .append,args:=#[s,x],argTypes:=#[t,t] })
  (base:Nat) (v:Value) (n:Nat) (xs:List Value) (hs:a.eval s=v) (hown:w.ownsRow base e size v n xs)
  (m:Nat) (news:Array Value) (hx:a.eval x = .slice (some ⟨w.heap.size,0,none⟩) m m) (hl:news.size=m * size) (h1:∀ u∈news.toList,u.oneCell'=true)
  (hb:(n+m) * bytes≤140737488355328) (hb1:n+m≤maxLen) (hbase:base≤w.heap.size)
  (h:∀ v' w',w'.ownsRow base e size v' (n+m) (xs ++ news.toList)→w.grownBy w' v.ownBlock→zjo w v v'→K (a.put o.dst v') w') :
  o.wp P a (w.alloc (.cells news e)) K Q:=by
 obtain⟨i,hi,hz,hsz,hby⟩:=info_parts E.info
 obtain⟨v',w',hr,h2,h3,h4⟩:=zd9 (P:=P) (w.alloc (.cells news e)) base t o.type e i z size bytes E.slice hi hz hsz hby E.zero E.pos v n xs (hown.alloc _) ⟨w.heap.size,0,none⟩ m m news.toList (by simpa using hl) (by
  intro j u hu
  rw[Addr.add_lit,Nat.zero_add,World.cell?_alloc_new]
  simpa using hu) h1 hb1 hb (by simp;omega)
 unfold Oper.wp execOp
 simp only[ho,resolve,invoke,builtin,Sem.run_bind,Sem.run_pure,Result.andThen_ok,List.map_toArray,List.map_cons,List.map_nil,hs,hx,hr]
 refine h v' w' h2 (zhc (World.grownBy_alloc w _ none) h3) ?_
 intro k hk
 rcases h4 with h4 | h4
 ·exact .inl (by rw[← h4];exact hk)
 right
 rw[h4] at hk
 simp at hk
 omega
theorem zav {P:Program} {t e:TypeId} {z:Value} {size bytes:Nat} (E:Elem P t e z size bytes) {w:World} {ops:Array Oper} {rest:List Oper} {o:Oper} {a:Act} {Q:Exit→Act→World→Prop}
  (hgd:o.guard=none) (s x:Operand) (ho:o.op = .call { callee:=.builtin .append,args:=#[s,x],argTypes:=#[t,t] })
  (base:Nat) (v:Value) (n:Nat) (xs:List Value) (hs:a.eval s=v) (hown:w.ownsRow base e size v n xs)
  (m:Nat) (news:Array Value) (hx:a.eval x = .slice (some ⟨w.heap.size,0,none⟩) m m) (hl:news.size=m * size) (h1:∀ u∈news.toList,u.oneCell'=true)
  (hb:(n+m) * bytes≤140737488355328) (hb1:n+m≤maxLen) (hbase:base≤w.heap.size)
  (h:∀ v' w',w'.ownsRow base e size v' (n+m) (xs ++ news.toList)→w.grownBy w' v.ownBlock→zjo w v v'→wpList P ops Q rest (a.put o.dst v') w') :
  wpList P ops Q (o :: rest) a (w.alloc (.cells news e)) :=
 wpList_plain hgd fun _ hK=>zef E s x ho base v n xs hs hown m news hx hl h1 hb hb1 hbase fun v' w' h2 h3 h4=>hK _ _ (h v' w' h2 h3 h4)
theorem zbs {B base:Nat} {w0 w w':World} {e:TypeId} {size:Nat} {v:Value} {n:Nat} {xs:List Value} (h:Below B w0 w) (hown:w.ownsRow base e size v n xs) (hB:B≤base) (hg:w.grownBy w' v.ownBlock) (hb:B≤w.heap.size):Below B w0 w' :=
 h.grown hg hb fun k hk=>Nat.le_trans hB (hown.lt k hk).1
theorem za7 {base:Nat} {w w':World} {e:TypeId} {size:Nat} {v:Value} {n:Nat} {xs:List Value} (hown:w.ownsRow base e size v n xs) (hb:Below w.heap.size w w'):w'.ownsRow base e size v n xs :=
 hown.kept (zf8 hb) (by cases hv:v.ownBlock <;> simp)
theorem zc6 {B base:Nat} {w:World} {e:TypeId} {size:Nat} {v:Value} {n:Nat} {xs:List Value} (hown:w.ownsRow base e size v n xs) (hb:B≤base):w.ownsRow B e size v n xs:=by
 refine⟨hown.1,?_⟩
 rcases hown.2 with h | ⟨g,cap,cur,hv,hg,r⟩
 ·exact .inl h
 exact .inr ⟨g,cap,cur,hv,by omega,r⟩
theorem zco {base:Nat} {w:World} {e:TypeId} {size:Nat} {v:Value} {n:Nat} {xs:List Value} (h:w.ownsRow base e size v n xs) (hn:0 < n) :
  ∃ g cap,v = .slice (some ⟨g,0,none⟩) n cap∧base≤g∧g < w.heap.size∧n≤cap∧cap≤maxLen∧∀ j u,xs[j]? = some u→w.cell? ⟨g,j,none⟩=some u:=by
 rcases h.2 with⟨_,rfl⟩ | ⟨g,cap,cur,rfl,hg,hh,hn',hm,hs,ht⟩
 ·omega
 refine⟨g,cap,rfl,hg,(Array.getElem?_eq_some_iff.1 hh).1,hn',hm,fun j u hu=>?_⟩
 have:=h.cells (g:=g) rfl j u hu
 rwa [Addr.add_lit,Nat.zero_add] at this
theorem zcl {P:Program} {t e:TypeId} {z:Value} {size bytes:Nat} (E:Elem P t e z size bytes) {w:World} {ops:Array Oper} {rest:List Oper} {o:Oper} {a:Act} {Q:Exit→Act→World→Prop}
  (hgd:o.guard=none) (s x:Operand) (ho:o.op = .call { callee:=.builtin .append,args:=#[s,x],argTypes:=#[t,t] })
  (base:Nat) (v:Value) (n:Nat) (xs:List Value) (hs:a.eval s=v) (hown:w.ownsRow base e size v n xs)
  (m:Nat) (hm:0 < m) (news:Array Value) (hx:a.eval x = .slice (some ⟨w.heap.size,0,none⟩) m m) (hl:news.size=m * size) (h1:∀ u∈news.toList,u.oneCell'=true)
  (hb:(n+m) * bytes≤140737488355328) (hb1:n+m≤maxLen) (hbase:base≤w.heap.size)
  (h:∀ g cap w',w'.ownsRow base e size (.slice (some ⟨g,0,none⟩) (n+m) cap) (n+m) (xs ++ news.toList)→w.grownBy w' v.ownBlock→zjo w v (.slice (some ⟨g,0,none⟩) (n+m) cap)→wpList P ops Q rest (a.put o.dst (.slice (some ⟨g,0,none⟩) (n+m) cap)) w') :
  wpList P ops Q (o :: rest) a (w.alloc (.cells news e)):=by
 refine zav E hgd s x ho base v n xs hs hown m news hx hl h1 hb hb1 hbase ?_
 intro v' w' h2 h3 h4
 obtain⟨g,cap,rfl,_⟩:=zco h2 (by omega)
 exact h g cap w' h2 h3 h4
theorem zd8 {P:Program} {t e:TypeId} {z:Value} {size bytes:Nat} (E:Elem P t e z size bytes) {w:World} {ops:Array Oper} {o:Oper} {a:Act} {K:Act→World→Prop} {Q:Exit→Act→World→Prop} {X:Prop}
  (hgd:o.guard=none) (s x:Operand) (ho:o.op = .call { callee:=.builtin .append,args:=#[s,x],argTypes:=#[t,t] })
  (base:Nat) (v:Value) (n:Nat) (xs:List Value) (hs:a.eval s=v) (hown:w.ownsRow base e size v n xs)
  (m:Nat) (hm:0 < m) (news:Array Value) (hx:a.eval x = .slice (some ⟨w.heap.size,0,none⟩) m m) (hl:news.size=m * size) (h1:∀ u∈news.toList,u.oneCell'=true)
  (hb:(n+m) * bytes≤140737488355328) (hb1:n+m≤maxLen) (hbase:base≤w.heap.size)
  (h:∀ g cap w',w'.ownsRow base e size (.slice (some ⟨g,0,none⟩) (n+m) cap) (n+m) (xs ++ news.toList)→w.grownBy w' v.ownBlock→zjo w v (.slice (some ⟨g,0,none⟩) (n+m) cap)→K (a.put o.dst (.slice (some ⟨g,0,none⟩) (n+m) cap)) w') :
  if Region.wanted o (yielded ops a.tmps)=true then Oper.wp P o a (w.alloc (.cells news e)) K Q else X:=by
 have hw:Region.wanted o (yielded ops a.tmps)=true:=by simp[Region.wanted,hgd]
 rw[if_pos hw]
 refine zef E s x ho base v n xs hs hown m news hx hl h1 hb hb1 hbase ?_
 intro v' w' h2 h3 h4
 obtain⟨g,cap,rfl,_⟩:=zco h2 (by omega)
 exact h g cap w' h2 h3 h4
structure Frm (S:Nat→Prop) (w w':World):Prop where
 os:w'.os=w.os
 tape:w'.tape=w.tape
 output:w'.output=w.output
 size:w.heap.size≤w'.heap.size
 block:∀ k,k < w.heap.size→¬ S k→w'.heap[k]? = w.heap[k]?
theorem Frm.refl (S:Nat→Prop) (w:World):Frm S w w:=⟨rfl,rfl,rfl,Nat.le_refl _,fun _ _ _=>rfl⟩
theorem Frm.trans {S T:Nat→Prop} {a b c:World} (h:Frm S a b) (k:Frm T b c) (hT:∀ i,i < a.heap.size→T i→S i):Frm S a c :=
 ⟨k.os.trans h.os,k.tape.trans h.tape,k.output.trans h.output,Nat.le_trans h.size k.size,
  fun i hi hS=>(k.block i (Nat.lt_of_lt_of_le hi h.size) (fun ht=>hS (hT i hi ht))).trans (h.block i hi hS)⟩
theorem Frm.mono {S T:Nat→Prop} {a b:World} (h:Frm S a b) (hT:∀ i,i < a.heap.size→S i→T i):Frm T a b :=
 (Frm.refl T a).trans h hT
theorem Frm.alloc {S:Nat→Prop} {a w:World} (h:Frm S a w) (o:Obj):Frm S a (w.alloc o) :=
 h.trans (T:=S) ⟨rfl,rfl,rfl,by simp,fun k hk _=>Below.heap_alloc _ _ _ hk⟩ (fun _ _ h=>h)
theorem Frm.drewN {S:Nat→Prop} {a w:World} (h:Frm S a w) (n:Nat):Frm S a (w.drewN n):=⟨h.os,h.tape,h.output,h.size,h.block⟩
theorem Frm.drew {S:Nat→Prop} {a w:World} (h:Frm S a w):Frm S a w.drew:=⟨h.os,h.tape,h.output,h.size,h.block⟩
theorem Frm.setCell {S:Nat→Prop} {a w:World} (h:Frm S a w) {p:Addr} (hp:a.heap.size≤p.block∨S p.block) (u:Value):Frm S a (w.setCell p u) :=
 h.trans (T:=fun k=>k=p.block) ⟨rfl,rfl,rfl,by simp[World.setCell],fun k _ hk=>Below.heap_setCell _ _ _ _ (by omega)⟩ (fun i hi e=>by rcases hp with h | h;omega;rw[e];exact h)
theorem Frm.grown {S:Nat→Prop} {a w w':World} {row:Option Nat} (h:Frm S a w) (hg:w.grownBy w' row) (hr:∀ k,row=some k→a.heap.size≤k∨S k):Frm S a w' :=
 h.trans (T:=fun k=>some k=row) ⟨hg.os,hg.tape,hg.output,hg.size,fun k hk hne=>hg.block k hk hne⟩ (fun i hi e=>by rcases hr i e.symm with h | h;omega;exact h)
theorem Frm.below {S:Nat→Prop} {a w:World} (h:Frm S a w) {B:Nat} (hB:B≤a.heap.size) (hS:∀ k,S k→B≤k):Below B a w :=
 ⟨h.os,h.tape,h.output,h.size,fun k hk=>h.block k (by omega) (fun hs=>by have:=hS k hs;omega)⟩
theorem Frm.of_below {S:Nat→Prop} {a w:World} (h:Below a.heap.size a w):Frm S a w:=⟨h.os,h.tape,h.output,h.size,fun k hk _=>h.block k hk⟩
theorem Frm.cell {S:Nat→Prop} {w w':World} (h:Frm S w w') {p:Addr} (hp:p.block < w.heap.size) (hS:¬ S p.block):w'.cell? p=w.cell? p:=World.cell?_of_block (h.block p.block hp hS)
theorem Frm.owns {S:Nat→Prop} {w w':World} (h:Frm S w w') {base:Nat} {e:TypeId} {size:Nat} {v:Value} {n:Nat} {xs:List Value} (ho:w.ownsRow base e size v n xs) (hS:∀ k,v.ownBlock=some k→¬ S k):w'.ownsRow base e size v n xs:=by
 refine⟨ho.1,?_⟩
 rcases ho.2 with hn | ⟨g,cap,cur,rfl,hb,hgg,rest⟩
 ·exact .inl hn
 exact .inr ⟨g,cap,cur,rfl,hb,by rw[h.block g (Array.getElem?_eq_some_iff.1 hgg).1 (hS g rfl)];exact hgg,rest⟩
def Sl (w:World) (v:Value) (n:Nat) (cells:List Value):Prop :=
 ∃ a cap,v = .slice a n cap∧n≤cap∧cap≤maxLen∧∀ j u,cells[j]? = some u→∃ b off,a=some ⟨b,off,none⟩∧w.cell? ⟨b,off+j,none⟩=some u
theorem Sl.below {w w':World} {v:Value} {n:Nat} {cells:List Value} (h:Sl w v n cells) (hb:Below w.heap.size w w'):Sl w' v n cells:=by
 obtain⟨a,cap,rfl,h1,h2,h3⟩:=h
 refine⟨a,cap,rfl,h1,h2,fun j u hu=>?_⟩
 obtain⟨b,off,rfl,hc⟩:=h3 j u hu
 exact⟨b,off,rfl,cell_later hb hc⟩
theorem Sl.of_owns {base:Nat} {w:World} {e:TypeId} {size:Nat} {v:Value} {n:Nat} {xs:List Value} (h:w.ownsRow base e size v n xs):Sl w v n xs:=by
 rcases h.2 with⟨rfl,rfl⟩ | ⟨g,cap,cur,rfl,hg,hh,hn,hm,hs,ht⟩
 ·refine⟨none,0,rfl,Nat.le_refl _,Nat.zero_le _,fun j u hu=>?_⟩
  have hx:xs = []:=List.eq_nil_of_length_eq_zero (by simpa using h.1)
  subst hx
  simp at hu
 refine⟨some ⟨g,0,none⟩,cap,rfl,hn,hm,fun j u hu=>⟨g,0,rfl,?_⟩⟩
 have:=h.cells (g:=g) rfl j u hu
 rwa [Addr.add_lit] at this
end

section
open Go.RowKit
theorem zfb {w:World} {B:Nat} {e:TypeId} {size:Nat} {v:Value} {n:Nat} {xs:List Value} (h:w.ownsRow B e size v n xs):∀ k,v.ownBlock=some k→∃ cs,w.heap[k]? = some (.cells cs e (0,0)):=by
 intro k hk
 rcases h.2 with⟨h1,_⟩ | ⟨g,cap,cur,h1,_,hg,_⟩
 ·rw[h1] at hk;simp[Value.ownBlock] at hk
 rw[h1] at hk
 simp[Value.ownBlock] at hk
 subst hk
 exact⟨_,hg⟩
theorem zbj {w:World} {B:Nat} {e t:TypeId} {size:Nat} {v:Value} {n:Nat} {xs:List Value} {x:Nat} {cs:Array Value} {fr:Nat × Nat} (h:w.ownsRow B e size v n xs) (hx:w.heap[x]? = some (.cells cs t fr)) (hne:e≠t):v.ownBlock≠some x:=by
 intro hk
 obtain⟨c,hc⟩:=zfb h x hk
 rw[hc] at hx
 simp at hx
 exact hne hx.2.1
theorem zag {w:World} {p:Nat} {cs:Array Value} {t:TypeId} {fr:Nat × Nat} (h:w.heap[p]? = some (.cells cs t fr)) (i:Nat):w.cell? ⟨p,i,none⟩=cs[i]?:=cell_of_row w p i cs t fr h
theorem zai {w:World} {p:Nat} {cs:Array Value} {t:TypeId} (h:w.heap[p]? = some (.cells cs t (0,0))) (i:Nat):w.frozen? ⟨p,i,none⟩=false:=frozen_of_row w p i cs t h
theorem zdh {w w':World} {S:Nat→Prop} {f:Nat} {o:Obj} (h:w.heap[f]? = some o) (hf:Frm S w w') (hS:¬ S f):w'.heap[f]? = some o :=
 (hf.block f (Array.getElem?_eq_some_iff.1 h).1 hS).trans h
theorem zad {w:World} {B:Nat} {e:TypeId} {size:Nat} {v:Value} {n:Nat} {xs:List Value} (h:w.ownsRow B e size v n xs):∃ a cap,v = .slice a n cap:=by
 rcases h.2 with⟨h1,h2⟩ | ⟨g,cap,_,h1,_⟩
 ·exact⟨none,0,by rw[h1,h2]⟩
 exact⟨_,cap,h1⟩
theorem zcr {x:Nat} {a w:World} (h:Frm (fun k=>k=x) a w) (i:Nat) (u:Value):Frm (fun k=>k=x) a (w.setCell ⟨x,i,none⟩ u):=Frm.setCell (S:=fun k=>k=x) h (p:=⟨x,i,none⟩) (.inr rfl) u
theorem za1 {w w':World} (h:Below w.heap.size w w') {k:Nat} {o:Obj} (hk:w.heap[k]? = some o):w'.heap[k]? = some o:=(h.block k (Array.getElem?_eq_some_iff.1 hk).1).trans hk
theorem zf5 {w w':World} {v:Value} (h:w.grownBy w' v.ownBlock):Frm (fun k=>v.ownBlock=some k) w w':=⟨h.os,h.tape,h.output,h.size,fun k hk hne=>h.block k hk (fun e=>hne e.symm)⟩
theorem za2 (w:World) (o:Obj):Below w.heap.size w (w.alloc o):=(Below.refl _ _).alloc (Nat.le_refl _) _
def zlv (t:TypeId) (w w':World):Prop:=∀ (k:Nat) (cs:Array Value) (fr:Nat × Nat),w.heap[k]? = some (.cells cs t fr)→w'.heap[k]? = some (.cells cs t fr)
theorem zlv.refl (t:TypeId) (w:World):zlv t w w:=fun _ _ _ h=>h
theorem zlv.trans {t:TypeId} {a b c:World} (h:zlv t a b) (k:zlv t b c):zlv t a c:=fun i cs fr h1=>k i cs fr (h i cs fr h1)
theorem zac {w:World} {o:Obj} {n:Nat} (h:w.heap.size=n):(w.alloc o).heap[n]? = some o:=by subst h;exact heap_alloc_new w o
end

namespace Txt
open Go.RowKit
theorem len (s:ByteArray):s.data.toList.length=s.size:=by rw[Array.length_toList];rfl
theorem at_ (s:ByteArray) (k:Nat) (h:k < s.size):s.data.toList[k]'(by rw[len];exact h)=s[k]:=rfl
theorem ext {x y:ByteArray} (h:x.data.toList=y.data.toList):x=y:=by
 obtain⟨⟨a⟩⟩:=x
 obtain⟨⟨b⟩⟩:=y
 simp at h
 rw[h]
theorem empty_iff (s:ByteArray):s.toList = []↔s.size=0:=by
 rw[Lib.toList_data,← len]
 exact List.length_eq_zero_iff.symm
theorem eq_dec (x y:ByteArray):(x.toList == y.toList)=decide (x=y):=by
 rw[ByteArray.toList_eq,ByteArray.toList_eq]
 by_cases h:x=y
 ·subst h;simp
 rw[decide_eq_false h,beq_eq_false_iff_ne]
 exact fun e=>h (ext e)
theorem no_dec (s:ByteArray):s.toList.isEmpty=decide (s.size=0):=by
 by_cases h:s.size=0
 ·rw[decide_eq_true h,(empty_iff s).2 h];rfl
 rw[decide_eq_false h,Bool.eq_false_iff]
 intro e
 rw[List.isEmpty_iff,empty_iff] at e
 exact h e
end Txt

section
open Go.RowKit Go.Lib
structure zbf (w:World):Prop where
 tab:TabIs Tryz.prog w "internal/strconv.uint64pow10" .u64 pow10Tab
 syn:∃ tp p,w.var? Tryz.prog "strconv.ErrSyntax" = some #[.iface tp p]
 rng:∃ tp p,w.var? Tryz.prog "strconv.ErrRange" = some #[.iface tp p]
 max:∃ m,w.cell? ⟨2,0,none⟩=some (.int .i64 m)
theorem gTab:Tryz.prog.globalNamed "internal/strconv.uint64pow10" = some 5:=by kernel_rfl
theorem gSyn:Tryz.prog.globalNamed "strconv.ErrSyntax" = some 3:=by kernel_rfl
theorem gRng:Tryz.prog.globalNamed "strconv.ErrRange" = some 4:=by kernel_rfl
theorem var_lt {w:World} {n:String} {g:Nat} {cs:Array Value} {v:Value} (hg:Tryz.prog.globalNamed n=some g) (h:w.var? Tryz.prog n=some cs) (h0:cs[0]? = some v):g < w.heap.size:=by
 have:=World.var?_cell hg h 0
 rw[h0] at this
 exact World.block_lt_of_cell? w _ this
theorem zbf.below {w w':World} (h:zbf w) (hb:Below w.heap.size w w'):zbf w':=by
 obtain⟨tp,p,hs⟩:=h.syn
 obtain⟨tq,q,hr⟩:=h.rng
 obtain⟨m,hm⟩:=h.max
 exact⟨var?_below hb gTab (var_lt (v:=.int .u64 1) gTab h.tab rfl) h.tab,⟨tp,p,var?_below hb gSyn (var_lt gSyn hs rfl) hs⟩,⟨tq,q,var?_below hb gRng (var_lt gRng hr rfl) hr⟩,⟨m,cell_later hb hm⟩⟩
theorem zbf.from {B:Nat} {w w':World} (h:zbf w) (hB:w.heap.size≤B) (hb:Below B w w'):zbf w':=h.below (hb.mono hB)
theorem atoi_any (s:ByteArray) (hs:s.size≤1000000) {w:World} (hD:zbf w) :
  Calls Tryz.prog 219 #[.string s] w fun e w'=>((∃ v,atoiAll s.data.toList = .ok v∧e = .returned (.tuple #[.int .i64 v,.nilIface])) ∨
   ((∀ v,atoiAll s.data.toList≠.ok v)∧∃ (v:Int) (N:Nat),e = .returned (.tuple #[.int .i64 v,.iface 264 (.pointer (some ⟨N,0,none⟩))])))∧Below w.heap.size w w':=by
 obtain⟨tp,p,hv⟩:=hD.syn
 obtain⟨tq,q,hr⟩:=hD.rng
 cases h:atoiAll s.data.toList with
 | ok v =>
  refine (Tryz.strconv_Atoi_ok s (by omega) v h w).mono fun e w' ⟨he,hw⟩=>⟨.inl ⟨v,rfl,he⟩,?_⟩
  rcases hw with rfl | ⟨t,rfl⟩
  ·exact Below.refl _ _
  exact bytesWorld_below _ _ _
 | range=>exact (Tryz.strconv_Atoi_range_var s (by omega) h tq q w hr).mono fun e w' ⟨N,he,_,_,hb⟩=>⟨.inr ⟨(fun v hv=>by cases hv),_,N,he⟩,hb⟩
 | _=>exact (Tryz.strconv_Atoi_syntax_var s (by omega) h tp p w hv).mono fun e w' ⟨N,he,_,_,hb⟩=>⟨.inr ⟨(fun v hv=>by cases hv),0,N,he⟩,hb⟩
theorem zlm (w:World) (k:Nat) (os:Array Obj):Below w.heap.size w (Sort.grow (w.drewN k) os) :=
 ⟨rfl,rfl,rfl,by show w.heap.size≤(w.heap ++ os).size;rw[Array.size_append];omega,fun j hj=>by show (w.heap ++ os)[j]? = w.heap[j]?;exact Array.getElem?_append_left hj⟩
theorem itoa_any (n:Int) (h0 : -9223372036854775808≤n) (h1:n≤9223372036854775807) {w:World} (hD:zbf w) :
  Calls Tryz.prog 220 #[.int .i64 n] w fun e w'=>e = .returned (.string ⟨(itoa n).toArray⟩)∧Below w.heap.size w w' :=
 (Tryz.strconv_Itoa n h0 h1 w hD.tab).mono fun e w' ⟨he,k,os,hw⟩=>⟨he,hw ▸ zlm w k os⟩
end

section
open Go.ChangeShapes Go.WideShapes Go.ChangeAt Go.RowKit Go.Lib
abbrev zej:List (String × DataW Unit):=Rows.spansReadsRow.laid
theorem gTabType:(Tryz.prog.globals[5]?).map (·.type)=some 285:=by kernel_rfl
theorem gSynType:(Tryz.prog.globals[3]?).map (·.type)=some 146:=by kernel_rfl
theorem gRngType:(Tryz.prog.globals[4]?).map (·.type)=some 146:=by kernel_rfl
theorem star : "*" ++ "errors.errorString" = "*errors.errorString" := by decide
theorem rowErr (u:TypeId) (h:Tryz.prog.typeName? 3 u=some "*errors.errorString"):u=281 :=
 typeName_ptr_named (nm := "errors.errorString") (by rw[star];kernel_rfl) (by kernel_rfl) (by decide) u (by rw[star];exact h)
theorem cells_u64:Tryz.prog.cellsOf 268=1:=by kernel_rfl
theorem cells_tab:Tryz.prog.cellsOf 285=20:=by kernel_rfl
theorem zkk:Tryz.prog.cellsOf 283=1:=by kernel_rfl
theorem zkj:Tryz.prog.cellsOf 9=1:=by kernel_rfl
theorem doors_of {W:World} (hL:laidMetH Tryz.prog zej W) (hS:W.ShapedOpen Tryz.prog):zbf W:=by
 rw[MakeChecks.laidMetH_plain _ _ _ (by kernel_rfl)] at hL
 have h2:=hL.tail.tail
 have h4:=h2.tail.tail
 have h5:=h4.tail
 obtain⟨a0,s0,hv0,-,-,-⟩:=laid_sentinel h4 gRng gRngType Tryz.underlying146 rowErr Tryz.underlying281 Tryz.underlying283 rfl rfl Tryz.underlying9 zkk zkj
 obtain⟨a1,s1,hv1,-,-,-⟩:=laid_sentinel h5 gSyn gSynType Tryz.underlying146 rowErr Tryz.underlying281 Tryz.underlying283 rfl rfl Tryz.underlying9 zkk zkj
 exact⟨tabIs_of_head (k:=.u64) (zs:=pow10Tab) gTab gTabType Tryz.underlying285 Tryz.underlying268 cells_u64 cells_tab h2,⟨_,_,hv1⟩,⟨_,_,hv0⟩,Tryz.laysM143.s1_3 W hS⟩
theorem own:ownKnob Tryz.prog.godebug=none:=by kernel_rfl
theorem laidOut:laidOutB Tryz.prog=true:=by kernel_rfl
theorem zio (os:Os) (args:Array Value):((World.laidAll Tryz.prog os zej).forCall (fun _ _=>0) ⟨#[],args,[]⟩).Shaped Tryz.prog:=World.shaped_of_ZipB (by kernel_rfl) (by kernel_rfl)
theorem seat_laid (os:Os) (args:Array Value):laidMetH Tryz.prog zej ((World.laidAll Tryz.prog os zej).forCall (fun _ _=>0) ⟨#[],args,[]⟩).memory:=by
 rw[MakeChecks.laidMetH_plain _ _ _ (by kernel_rfl)]
 exact laidMet_laidAll _ (by kernel_rfl) (by kernel_rfl)
end

section
open Go.RowKit
abbrev Rd (α:Type):=World→List Value→α→Prop
def RStr:Rd ByteArray:=fun _ cs s=>cs = [.string s]∧s.size≤maxLen
def zg7 {α:Type} (sz:Nat) (R:Rd α):Rd (List α):=fun w cs l =>
 ∃ a cap,cs = [.slice a l.length cap]∧l.length≤cap∧cap≤maxLen ∧
  ∀ i x,l[i]? = some x→∃ b off ecs,a=some ⟨b,off,none⟩∧ecs.length=sz∧(∀ j u,ecs[j]? = some u→w.cell? ⟨b,off+i * sz+j,none⟩=some u)∧R w ecs x
def zls {α:Type} (R:Rd α):Prop:=∀ w w' cs a,R w cs a→Below w.heap.size w w'→R w' cs a
theorem zap {α:Type} {sz:Nat} {R:Rd α} (hR:zls R):zls (zg7 sz R):=by
 rintro w w' cs l ⟨a,cap,rfl,h1,h2,h3⟩ hb
 refine⟨a,cap,rfl,h1,h2,fun i x hi=>?_⟩
 obtain⟨b,off,ecs,rfl,h4,h5,h6⟩:=h3 i x hi
 exact⟨b,off,ecs,rfl,h4,fun j u hu=>cell_later hb (h5 j u hu),hR _ _ _ _ h6 hb⟩
end

section
open Go.RowKit
theorem zgy {s:ByteArray} (h:s.data.toList.length≤reachBytes):s.size≤140737488351232:=by
 have e:reachBytes=140737488351232:=rfl
 rw[e] at h
 have e2:s.data.toList.length=s.size:=by rw[Array.length_toList];rfl
 omega
end

namespace VerN
open Go.Lib
def zcz (c:UInt8):Bool:=decide (48≤c.toNat) && decide (c.toNat≤57)
def zf7 (c:UInt8):Bool:=decide (97≤c.toNat) && decide (c.toNat≤122)
theorem zba (c:UInt8):zcz c=true↔48≤c.toNat∧c.toNat≤57:=by unfold zcz;simp
theorem zc7 (c:UInt8):zf7 c=true↔97≤c.toNat∧c.toNat≤122:=by unfold zf7;simp
def zae (acc:Nat) (l:List UInt8):Nat:=l.foldl (fun a c=>a * 10+(c.toNat - 48)) acc
theorem zgd:∀ (l:List UInt8) (acc:Nat),acc≤zae acc l
 | [],_=>Nat.le_refl _
 | c :: r,acc=>by have:=zgd r (acc * 10+(c.toNat - 48));unfold zae at *;simp only[List.foldl_cons];omega
theorem zk5:∀ (l:List UInt8) (acc:Nat),l.all zcz=true→zae acc l < 9223372036854775808→parseUint10 acc l = .ok (zae acc l)
 | [],_,_,_=>rfl
 | c :: r,acc,h,hv=>by
  simp only[List.all_cons,Bool.and_eq_true] at h
  have hc:=(zba c).1 h.1
  have hv':zae (acc * 10+(c.toNat - 48)) r < 9223372036854775808:=hv
  have hge:=zgd r (acc * 10+(c.toNat - 48))
  unfold parseUint10
  rw[if_pos hc,if_neg (by omega),if_neg (by omega),zk5 r _ h.2 hv']
  rfl
theorem zda (l:List UInt8) (c:UInt8) (acc:Nat):zae acc (l ++ [c])=zae acc l * 10+(c.toNat - 48):=by unfold zae;rw[List.foldl_append];rfl
def lead (l:List UInt8):Bool:=decide (l = [48]) || decide (l.head?≠some 48)
theorem zhw {c:UInt8} (h:zcz c=true):UInt8.ofNat (48+(c.toNat - 48))=c:=by
 have:=(zba c).1 h
 rw[show 48+(c.toNat - 48)=c.toNat by omega]
 exact UInt8.ofNat_toNat
theorem snocInd {α:Type} {P:List α→Prop} (h0:P []) (h1:∀ l c,P l→P (l ++ [c])) (l:List α):P l:=by
 have key:∀ r:List α,P r.reverse:=by
  intro r
  induction r with
  | nil=>exact h0
  | cons c r ih=>rw[List.reverse_cons];exact h1 _ _ ih
 have:=key l.reverse
 rwa [List.reverse_reverse] at this
theorem zdn:∀ (l:List UInt8),l≠[]→l.all zcz=true→l.head?≠some 48→10 ^ (l.length - 1)≤zae 0 l∧zae 0 l < 10 ^ l.length:=by
 intro l
 induction l using snocInd with
 | h0=>intro h;exact absurd rfl h
 | h1 l c ih =>
  intro _ hd hh
  simp only[List.all_append,List.all_cons,List.all_nil,Bool.and_true,Bool.and_eq_true] at hd
  have hc:=(zba c).1 hd.2
  rw[zda]
  by_cases hl:l = []
  ·subst hl
   have:c.toNat≠48:=fun e=>hh (by
    have:c=48:=UInt8.toNat_inj.1 e
    simp[this])
   simp[zae];omega
  have hh':l.head?≠some 48:=by
   match l,hl with
   | a :: r,_=>simpa using hh
  have:=ih hl hd.1 hh'
  have hp:0 < l.length:=List.length_pos_iff.2 hl
  obtain⟨k,hk⟩ : ∃ k,l.length=k+1:=⟨l.length - 1,by omega⟩
  rw[List.length_append,List.length_singleton]
  rw[hk] at this ⊢
  simp only[Nat.add_sub_cancel] at this ⊢
  rw[Nat.pow_succ,Nat.pow_succ]
  rw[Nat.pow_succ] at this
  omega
theorem zjl:∀ (l:List UInt8),l≠[]→l.all zcz=true→lead l=true→decDigits (zae 0 l)=l:=by
 intro l
 induction l using snocInd with
 | h0=>intro h;exact absurd rfl h
 | h1 l c ih =>
  intro _ hd hh
  simp only[List.all_append,List.all_cons,List.all_nil,Bool.and_true,Bool.and_eq_true] at hd
  have hc:=(zba c).1 hd.2
  rw[zda]
  by_cases hl:l = []
  ·subst hl
   rw[show zae 0 []=0 from rfl,Nat.zero_mul,Nat.zero_add,decDigits,dif_pos (by omega),zhw hd.2]
   rfl
  have hh':l.head?≠some 48:=by
   match l,hl with
   | a :: r,_ =>
    unfold lead at hh
    simp only[Bool.or_eq_true,decide_eq_true_eq] at hh
    rcases hh with hh | hh
    ·simp at hh
    simpa using hh
  have hb:=zdn l hl hd.1 hh'
  have h1:1≤zae 0 l:=Nat.le_trans (Nat.pos_of_ne_zero (by simp)) hb.1
  rw[decDigits,dif_neg (by omega),show (zae 0 l * 10+(c.toNat - 48)) / 10=zae 0 l by omega,show (zae 0 l * 10+(c.toNat - 48)) % 10=c.toNat - 48 by omega,zhw hd.2,ih hl hd.1 (by unfold lead;simp only[Bool.or_eq_true,decide_eq_true_eq];exact .inr hh')]
theorem dec_dig:∀ u:Nat,(decDigits u).all zcz=true∧decDigits u≠[]∧lead (decDigits u)=true∧zae 0 (decDigits u)=u:=by
 intro u
 induction u using Nat.strongRecOn with
 | _ u ih =>
  rw[decDigits]
  have dg:∀ d,d < 10→(UInt8.ofNat (48+d)).toNat=48+d:=fun d hd=>by rw[UInt8.toNat_ofNat'];omega
  split
  ·rename_i h
   have e:=dg u h
   refine⟨?_,by simp,?_,?_⟩
   ·simp only[List.all_cons,List.all_nil,Bool.and_true]
    rw[zba,e];omega
   ·unfold lead
    simp only[List.head?_cons,Bool.or_eq_true,decide_eq_true_eq]
    by_cases h0:u=0
    ·left;subst h0;rfl
    right
    refine decide_eq_true fun e2=>?_
    injection e2 with e2
    rw[e2] at e
    have:(48:UInt8).toNat=48:=rfl
    omega
   show 0 * 10+((UInt8.ofNat (48+u)).toNat - 48)=u
   rw[e];omega
  rename_i h
  have hi:=ih (u / 10) (by omega)
  have e:=dg (u % 10) (by omega)
  refine⟨?_,by simp,?_,?_⟩
  ·rw[List.all_append,hi.1,Bool.true_and]
   simp only[List.all_cons,List.all_nil,Bool.and_true]
   rw[zba,e];omega
  ·have hl:=hi.2.2.1
   unfold lead at hl ⊢
   simp only[Bool.or_eq_true,decide_eq_true_eq] at hl ⊢
   right
   rcases hl with hl | hl
   ·exfalso
    have:=hi.2.2.2
    rw[hl] at this
    have h0:zae 0 [48]=0:=rfl
    omega
   match hm:decDigits (u / 10),hi.2.1,hl with
   | a :: r,_,hl=>simpa using hl
  rw[zda,hi.2.2.2,e];omega
def zht (l:List UInt8):Bool:=match atoiAll l with
 | .ok v=>decide (0≤v) && decide (v≤999999999) && decide (itoa v=l)
 | _=>l.all zf7 && !l.isEmpty
def zcd (l:List UInt8):Bool:=!l.isEmpty && l.all zcz && decide (l.length≤9) && lead l
def zb9 (l:List UInt8):Bool:=!l.isEmpty && l.all zf7
theorem val_le {l:List UInt8} (h:zcd l=true):zae 0 l≤999999999:=by
 unfold zcd at h
 simp only[Bool.and_eq_true,Bool.not_eq_true',decide_eq_true_eq] at h
 obtain⟨⟨⟨h1,h2⟩,h3⟩,h4⟩:=h
 have hne:l≠[]:=fun e=>by subst e;simp at h1
 unfold lead at h4
 simp only[Bool.or_eq_true,decide_eq_true_eq] at h4
 rcases h4 with h4 | h4
 ·subst h4;decide
 have hb:=(zdn l hne h2 h4).2
 have:10 ^ l.length≤10 ^ 9:=Nat.pow_le_pow_right (by decide) h3
 omega
theorem zkm {l:List UInt8} (h:zcd l=true):atoiAll l = .ok (zae 0 l:Nat):=by
 have hv:=val_le h
 unfold zcd at h
 simp only[Bool.and_eq_true,Bool.not_eq_true',decide_eq_true_eq] at h
 obtain⟨⟨⟨h1,h2⟩,h3⟩,h4⟩:=h
 match l,h1,h2,hv with
 | c :: r,_,h2,hv =>
  have hc:=(zba c).1 (by simp only[List.all_cons,Bool.and_eq_true] at h2;exact h2.1)
  rw[atoiAll_plain c r (by omega) (by omega)]
  have hp:parseMag (c :: r) = .ok (zae 0 (c :: r)):=by unfold parseMag;rw[if_neg (by simp)];exact zk5 _ _ h2 (by omega)
  rw[hp]
  unfold signless
  simp only
  rw[if_neg (by omega)]
theorem zh9 (u:Nat):itoa (u:Int)=decDigits u:=by unfold itoa;rw[if_neg (by omega)];simp
theorem read_is (l:List UInt8):zht l=(zb9 l || zcd l):=by
 by_cases hd:zcd l=true
 ·rw[hd,Bool.or_true]
  unfold zht
  rw[zkm hd]
  have hv:=val_le hd
  have hd':=hd
  unfold zcd at hd'
  simp only[Bool.and_eq_true,Bool.not_eq_true',decide_eq_true_eq] at hd'
  have hne:l≠[]:=fun e=>by subst e;simp at hd'
  have e:=zjl l hne hd'.1.1.2 hd'.2
  simp only
  rw[zh9,e,decide_eq_true (by omega),decide_eq_true (by omega),decide_eq_true rfl]
  rfl
 rw[Bool.eq_false_iff.2 hd,Bool.or_false]
 unfold zht
 cases ha:atoiAll l with
 | ok v =>
  simp only
  have hnl:zb9 l=false:=by
   match l,ha with
   | [],ha=>rfl
   | c :: r,ha =>
    unfold zb9
    by_cases hc:zf7 c=true
    ·have:=(zc7 c).1 hc
     rw[atoiAll_plain c r (by omega) (by omega)] at ha
     have hp:parseMag (c :: r)=parseMag []:=by rw[parseMag,if_neg (by simp),parseUint10,if_neg (by omega)] <;> rfl
     rw[hp] at ha
     cases ha
    simp[hc]
  rw[hnl]
  by_cases hv:0≤v∧v≤999999999∧itoa v=l
  ·exfalso
   apply hd
   obtain⟨u,rfl⟩ : ∃ u:Nat,v=u:=⟨v.toNat,by omega⟩
   have h2:=hv.2.2
   rw[zh9] at h2
   have hk:=dec_dig u
   rw[h2] at hk
   unfold zcd
   have hne:l.isEmpty=false:=by cases l with | nil=>exact absurd rfl hk.2.1 | cons _ _=>rfl
   rw[hne,hk.1,hk.2.2.1]
   have hlen:l.length≤9:=by
    have hl:=hk.2.2.1
    unfold lead at hl
    simp only[Bool.or_eq_true,decide_eq_true_eq] at hl
    rcases hl with hl | hl
    ·rw[hl];decide
    have hb:=(zdn l hk.2.1 hk.1 hl).1
    rw[hk.2.2.2] at hb
    by_cases h9:l.length≤9
    ·exact h9
    exfalso
    have:10 ^ 9≤10 ^ (l.length - 1):=Nat.pow_le_pow_right (by decide) (by omega)
    omega
   rw[decide_eq_true hlen]
   rfl
  by_cases h0:0≤v
  ·by_cases h1:v≤999999999
   ·have h2:¬ itoa v=l:=fun e=>hv ⟨h0,h1,e⟩
    simp[h2]
   simp[h1]
  simp[h0]
 | range=>unfold zb9;simp only;rw[Bool.and_comm]
 | _=>unfold zb9;simp only;rw[Bool.and_comm]
end VerN

namespace VerN
open Go.Lib
theorem val_lt:∀ (a b:List UInt8) (x y:Nat),a.length=b.length→a.all zcz=true→b.all zcz=true→(zae x a < zae y b↔x < y∨(x=y∧a < b))
 | [],[],x,y,_,_,_=>by
  have:¬ (([] : List UInt8) < []):=List.lt_irrefl _
  show x < y↔_
  simp[this]
 | c :: a,e :: b,x,y,hl,ha,hb=>by
  simp only[List.all_cons,Bool.and_eq_true] at ha hb
  have hc:=(zba c).1 ha.1
  have he:=(zba e).1 hb.1
  have ih:=val_lt a b (x * 10+(c.toNat - 48)) (y * 10+(e.toNat - 48)) (by simpa using hl) ha.2 hb.2
  show zae (x * 10+(c.toNat - 48)) a < zae (y * 10+(e.toNat - 48)) b↔_
  rw[ih,List.cons_lt_cons_iff]
  have hlt:c < e↔c.toNat < e.toNat:=UInt8.lt_iff_toNat_lt
  have heq:c=e↔c.toNat=e.toNat:=UInt8.toNat_inj.symm
  rw[hlt,heq]
  constructor
  ·rintro (h | ⟨h,h2⟩)
   ·by_cases hxy:x < y
    ·exact .inl hxy
    exact .inr ⟨by omega,.inl (by omega)⟩
   by_cases hxy:x < y
   ·exact .inl hxy
   exact .inr ⟨by omega,.inr ⟨by omega,h2⟩⟩
  rintro (h | ⟨h,h2 | ⟨h2,h3⟩⟩)
  ·left;omega
  ·left;omega
  right;exact⟨by omega,h3⟩
theorem dig_lt {a b:List UInt8} (ha:zcd a=true) (hb:zcd b=true):zae 0 a < zae 0 b↔a.length < b.length∨(a.length=b.length∧a < b):=by
 have parts:∀ {l:List UInt8},zcd l=true→l≠[]∧l.all zcz=true∧(l = [48]∨l.head?≠some 48):=fun {l} h=>by
  unfold zcd lead at h
  simp only[Bool.and_eq_true,Bool.not_eq_true',Bool.or_eq_true,decide_eq_true_eq] at h
  exact⟨fun e=>by subst e;simp at h,h.1.1.2,h.2⟩
 obtain⟨a1,a2,a3⟩:=parts ha
 obtain⟨b1,b2,b3⟩:=parts hb
 have bnd:∀ {l:List UInt8},l≠[]→l.all zcz=true→(l = [48]∨l.head?≠some 48)→zae 0 l < 10 ^ l.length∧(2≤l.length→10 ^ (l.length - 1)≤zae 0 l):=fun {l} h1 h2 h3=>by
  rcases h3 with h3 | h3
  ·subst h3;exact⟨by decide,fun h=>by simp at h⟩
  have:=zdn l h1 h2 h3
  exact⟨this.2,fun _=>this.1⟩
 have ba:=bnd a1 a2 a3
 have bb:=bnd b1 b2 b3
 have la:0 < a.length:=List.length_pos_iff.2 a1
 have lb:0 < b.length:=List.length_pos_iff.2 b1
 rcases Nat.lt_trichotomy a.length b.length with h | h | h
 ·have:=bb.2 (by omega)
  have hp:10 ^ a.length≤10 ^ (b.length - 1):=Nat.pow_le_pow_right (by decide) (by omega)
  exact⟨fun _=>.inl h,fun _=>by omega⟩
 ·rw[val_lt a b 0 0 h a2 b2]
  simp[h]
 have:=ba.2 (by omega)
 have hp:10 ^ b.length≤10 ^ (a.length - 1):=Nat.pow_le_pow_right (by decide) (by omega)
 exact⟨fun _=>by omega,fun hh=>by omega⟩
end VerN

namespace VerN
open Go.Lib
def Part (l:List UInt8):Prop:=l = []∨zb9 l=true∨zcd l=true
def zbb (l:List UInt8):Int:=if l = [] then 1 else if zb9 l=true then 0 else 2
def zc1 (l:List UInt8):Int:=if zb9 l=true then 0 else (zae 0 l:Nat)
def zbp (l:List UInt8):List UInt8:=if zb9 l=true then l else []
def cmpI (x y:Int):Int:=if x < y then -1 else if x > y then 1 else 0
def cmpW (x y:List UInt8):Int:=if x < y then -1 else if y < x then 1 else 0
def pcmp (a b:List UInt8):Int:=if cmpI (zbb a) (zbb b)≠0 then cmpI (zbb a) (zbb b) else if cmpI (zc1 a) (zc1 b)≠0 then cmpI (zc1 a) (zc1 b) else cmpW (zbp a) (zbp b)
def digs (l:List UInt8):Bool:=l.all zcz && !l.isEmpty
def zal (a b:List UInt8):Bool :=
 if a=b then false else if a = [] then digs b else if b = [] then zb9 a else if zb9 a≠zb9 b then zb9 a else if digs a && decide (a.length≠b.length) then decide (a.length < b.length) else decide (a < b)
theorem zem {l:List UInt8} (h:zb9 l=true):digs l=false∧zcd l=false:=by
 match l with
 | [] => exact⟨rfl,rfl⟩
 | c :: r =>
  unfold zb9 at h
  simp only[List.all_cons,Bool.and_eq_true] at h
  have hc:=(zc7 c).1 h.2.1
  have hd:zcz c=false:=by unfold zcz;rw[decide_eq_true (by omega),decide_eq_false (by omega)];rfl
  unfold digs zcd
  simp[hd]
theorem zc4 {l:List UInt8} (h:zcd l=true):digs l=true∧zb9 l=false∧l≠[]:=by
 have hl:zb9 l=false:=by
  cases e:zb9 l
  ·rfl
  rw[(zem e).2] at h;cases h
 unfold zcd at h
 simp only[Bool.and_eq_true] at h
 refine⟨by unfold digs;rw[h.1.1.2,h.1.1.1];rfl,hl,fun e=>by subst e;simp at h⟩
theorem zgk {l:List UInt8} (h:zb9 l=true):l≠[]:=fun e=>by subst e;simp[zb9] at h
theorem zer (x:Int):cmpI x x=0:=by unfold cmpI;rw[if_neg (by omega),if_neg (by omega)]
theorem cmpW_self (x:List UInt8):cmpW x x=0:=by unfold cmpW;rw[if_neg (List.lt_irrefl _),if_neg (List.lt_irrefl _)]
theorem dec_ne {a b:List UInt8} (h:a≠b) (h1:¬ a < b):b < a:=by
 rcases List.le_total a b with h2 | h2
 ·by_cases h3:b < a
  ·exact h3
  exact absurd (List.le_antisymm h2 (List.not_lt.1 h1)) h
 by_cases h3:b < a
 ·exact h3
 exact absurd (List.le_antisymm (List.not_lt.1 h3) (List.not_lt.1 h1)) h
theorem zjy:zbb []=1:=rfl
theorem zek {l:List UInt8} (h:zb9 l=true):zbb l=0:=by unfold zbb;rw[if_neg (zgk h),if_pos h]
theorem zde {l:List UInt8} (h:zcd l=true):zbb l=2:=by unfold zbb;rw[if_neg (zc4 h).2.2,if_neg (by rw[(zc4 h).2.1];simp)]
theorem zcv {a b:List UInt8} {x y:Int} (ha:zbb a=x) (hb:zbb b=y) (h:cmpI x y≠0):pcmp a b=cmpI x y:=by unfold pcmp;rw[ha,hb,if_pos h]
theorem zj1 {a b:List UInt8} (ha:Part a) (hb:Part b):pcmp a b=if zal a b=true then -1 else if zal b a=true then 1 else 0:=by
 by_cases hab:a=b
 ·subst hab
  unfold pcmp zal
  rw[zer,zer,cmpW_self]
  simp
 have hba:¬ b=a:=fun e=>hab e.symm
 rcases ha with ha | ha | ha
 ·subst ha
  rcases hb with hb | hb | hb
  ·subst hb;exact absurd rfl hab
  ·have hn:=zgk hb
   have hd:=(zem hb).1
   have e1:zal [] b=false:=by unfold zal;rw[if_neg hab,if_pos rfl];exact hd
   have e2:zal b []=true:=by unfold zal;rw[if_neg hba,if_neg hn,if_pos rfl];exact hb
   rw[e1,e2,zcv zjy (zek hb) (by decide)]
   rfl
  obtain⟨h1,h2,h3⟩:=zc4 hb
  have e1:zal [] b=true:=by unfold zal;rw[if_neg hab,if_pos rfl];exact h1
  rw[e1,zcv zjy (zde hb) (by decide)]
  rfl
 ·have hna:=zgk ha
  rcases hb with hb | hb | hb
  ·subst hb
   have e1:zal a []=true:=by unfold zal;rw[if_neg hab,if_neg hna,if_pos rfl];exact ha
   rw[e1,zcv (zek ha) zjy (by decide)]
   rfl
  ·have hnb:=zgk hb
   have hda:=(zem ha).1
   have hdb:=(zem hb).1
   have e1:zal a b=decide (a < b):=by unfold zal;rw[if_neg hab,if_neg hna,if_neg hnb,if_neg (by rw[ha,hb];simp),hda];rfl
   have e2:zal b a=decide (b < a):=by unfold zal;rw[if_neg hba,if_neg hnb,if_neg hna,if_neg (by rw[ha,hb];simp),hdb];rfl
   rw[e1,e2]
   unfold pcmp zbb zc1 zbp cmpW
   simp only[if_neg hna,if_neg hnb,if_pos ha,if_pos hb,zer,ne_eq,not_true_eq_false,if_false,decide_eq_true_eq]
  obtain⟨h1,h2,h3⟩:=zc4 hb
  have e1:zal a b=true:=by unfold zal;rw[if_neg hab,if_neg hna,if_neg h3,if_pos (by rw[ha,h2];simp)];exact ha
  rw[e1,zcv (zek ha) (zde hb) (by decide)]
  rfl
 obtain⟨g1,g2,g3⟩:=zc4 ha
 rcases hb with hb | hb | hb
 ·subst hb
  have e1:zal a []=false:=by unfold zal;rw[if_neg hab,if_neg g3,if_pos rfl];exact g2
  have e2:zal [] a=true:=by unfold zal;rw[if_neg hba,if_pos rfl];exact g1
  rw[e1,e2,zcv (zde ha) zjy (by decide)]
  rfl
 ·have hnb:=zgk hb
  have e1:zal a b=false:=by unfold zal;rw[if_neg hab,if_neg g3,if_neg hnb,if_pos (by rw[g2,hb];simp)];exact g2
  have e2:zal b a=true:=by unfold zal;rw[if_neg hba,if_neg hnb,if_neg g3,if_pos (by rw[g2,hb];simp)];exact hb
  rw[e1,e2,zcv (zde ha) (zek hb) (by decide)]
  rfl
 obtain⟨h1,h2,h3⟩:=zc4 hb
 have l1:=dig_lt ha hb
 have l2:=dig_lt hb ha
 have e1:zal a b=true↔zae 0 a < zae 0 b:=by
  unfold zal
  rw[if_neg hab,if_neg g3,if_neg h3,if_neg (by rw[g2,h2];simp),g1,l1]
  by_cases hl:a.length=b.length
  ·simp[hl]
  simp[hl]
 have e2:zal b a=true↔zae 0 b < zae 0 a:=by
  unfold zal
  rw[if_neg hba,if_neg h3,if_neg g3,if_neg (by rw[g2,h2];simp),h1,l2]
  by_cases hl:b.length=a.length
  ·simp[hl]
  simp[hl]
 have hne:zae 0 a≠zae 0 b:=fun e=>by
  have n1:¬ (a.length < b.length∨(a.length=b.length∧a < b)):=fun h=>by have:=l1.2 h;omega
  have n2:¬ (b.length < a.length∨(b.length=a.length∧b < a)):=fun h=>by have:=l2.2 h;omega
  have hl:a.length=b.length:=by omega
  exact n2 (.inr ⟨hl.symm,dec_ne hab fun h=>n1 (.inr ⟨hl,h⟩)⟩)
 have na:zc1 a=(zae 0 a:Int):=by unfold zc1;rw[if_neg (by rw[g2];simp)]
 have nb:zc1 b=(zae 0 b:Int):=by unfold zc1;rw[if_neg (by rw[h2];simp)]
 have hp:∀ z,cmpI (zae 0 a:Int) (zae 0 b:Int)=z→z≠0→pcmp a b=z:=fun z hz h0=>by
  unfold pcmp
  rw[zde ha,zde hb,zer,if_neg (by simp),na,nb,hz,if_pos h0]
 rcases Nat.lt_or_gt_of_ne hne with h | h
 ·rw[if_pos (e1.2 h)]
  exact hp (-1) (by unfold cmpI;rw[if_pos (by omega)]) (by decide)
 rw[if_neg (fun h'=>by have:=e1.1 h';omega),if_pos (e2.2 h)]
 exact hp 1 (by unfold cmpI;rw[if_neg (by omega),if_pos (by omega)]) (by decide)
end VerN

namespace VerN
open Go.Lib
def cutF (c:UInt8):List UInt8→List UInt8→List (List UInt8)
 | acc,[] => [acc]
 | acc,x :: r=>if x=c then acc :: cutF c [] r else cutF c (acc ++ [x]) r
def cutL (c:UInt8) (l:List UInt8):List (List UInt8):=cutF c [] l
theorem zb2 {c x:UInt8} (acc r:List UInt8) (h:x≠c):cutF c acc (x :: r)=cutF c (acc ++ [x]) r:=by rw[cutF,if_neg h]
theorem zbc (c:UInt8) (acc r:List UInt8):cutF c acc (c :: r)=acc :: cutF c [] r:=by rw[cutF,if_pos rfl]
theorem zi8 (c:UInt8):∀ (r acc:List UInt8),indexByte r c = -1→cutF c acc r = [acc ++ r]
 | [],acc,_=>by rw[List.append_nil];rfl
 | x :: r,acc,h=>by
  unfold indexByte at h
  split at h
  ·cases h
  rename_i hx
  have hx':x≠c:=fun e=>hx (by rw[e];simp)
  have hr:indexByte r c = -1:=by
   split at h
   ·rename_i e;exact beq_iff_eq.1 e
   have:=indexByte_ge r c;omega
  rw[zb2 _ _ hx',zi8 c r _ hr,List.append_assoc]
  rfl
theorem zkg (c:UInt8):∀ (r acc:List UInt8) (i:Nat),indexByte r c=i→cutF c acc r=(acc ++ r.take i) :: cutL c (r.drop (i+1))
 | [],acc,i,h=>by unfold indexByte at h;omega
 | x :: r,acc,i,h=>by
  unfold indexByte at h
  split at h
  ·rename_i hx
   have hx':x=c:=by simpa using hx
   have hi:i=0:=by omega
   subst hi;subst hx'
   rw[zbc]
   simp[cutL]
  rename_i hx
  have hx':x≠c:=fun e=>hx (by rw[e];simp)
  split at h
  ·omega
  rename_i hm
  obtain⟨j,rfl⟩ : ∃ j,i=j+1:=⟨i - 1,by
   have:=indexByte_ge r c
   have h0:indexByte r c≠-1:=fun e=>hm (by rw[e];rfl)
   omega⟩
  have hr:indexByte r c=j:=by omega
  rw[zb2 _ _ hx',zkg c r _ j hr,List.append_assoc]
  rfl
theorem zfg (c:UInt8):∀ (r acc:List UInt8),1≤(cutF c acc r).length∧(cutF c acc r).length≤r.length+1
 | [],acc=>⟨Nat.le_refl _,Nat.le_refl _⟩
 | x :: r,acc=>by
  by_cases h:x=c
  ·subst h
   have:=zfg x r []
   rw[zbc]
   simp only[List.length_cons]
   omega
  have:=zfg c r (acc ++ [x])
  rw[zb2 _ _ h]
  simp only[List.length_cons]
  omega
theorem zcs (c:UInt8) (l:List UInt8):1≤(cutL c l).length∧(cutL c l).length≤l.length+1:=zfg c l []
theorem zex (c:UInt8):∀ (r acc p:List UInt8),p∈cutF c acc r→p.length≤acc.length+r.length
 | [],acc,p,h=>by
  rw[show cutF c acc [] = [acc] from rfl,List.mem_singleton] at h
  subst h;omega
 | x :: r,acc,p,h=>by
  by_cases hx:x=c
  ·subst hx
   rw[zbc] at h
   rcases List.mem_cons.1 h with rfl | h
   ·simp
   have:=zex x r [] p h
   simp only[List.length_cons,List.length_nil] at this ⊢
   omega
  rw[zb2 _ _ hx] at h
  have:=zex c r _ p h
  simp only[List.length_append,List.length_cons,List.length_nil] at this ⊢
  omega
theorem zg3 (c:UInt8):∀ (a acc b:List UInt8),cutF c acc (a ++ c :: b)=cutF c acc a ++ cutL c b
 | [],acc,b=>by rw[List.nil_append,zbc];rfl
 | x :: r,acc,b=>by
  rw[List.cons_append]
  by_cases hx:x=c
  ·subst hx
   rw[zbc,zbc,zg3 x r [] b];rfl
  rw[zb2 _ _ hx,zb2 _ _ hx,zg3 c r _ b]
theorem zi7 (c:UInt8) (a b:List UInt8):cutL c (a ++ c :: b)=cutL c a ++ cutL c b:=zg3 c a [] b
def glue (c:UInt8):List (List UInt8)→List UInt8
 | [] => []
 | [p] => p
 | p :: q :: r=>p ++ c :: glue c (q :: r)
theorem zdt (c:UInt8):∀ (r acc:List UInt8),glue c (cutF c acc r)=acc ++ r
 | [],acc=>by rw[List.append_nil];rfl
 | x :: r,acc=>by
  by_cases hx:x=c
  ·subst hx
   rw[zbc]
   have h:=zdt x r []
   have hl:=(zfg x r []).1
   match hm:cutF x [] r,hl with
   | q :: t,_ =>
    rw[hm] at h
    rw[glue,h];rfl
  rw[zb2 _ _ hx,zdt c r,List.append_assoc];rfl
theorem cutL_inj {c:UInt8} {a b:List UInt8} (h:cutL c a=cutL c b):a=b:=by
 have h1:=zdt c a []
 have h2:=zdt c b []
 rw[show cutF c [] a=cutL c a from rfl,h] at h1
 rw[show cutF c [] b=cutL c b from rfl] at h2
 rw[h1] at h2
 simpa using h2
theorem zg2 (c:UInt8) (r acc:List UInt8) (h:∀ x∈r,x≠c):cutF c acc r = [acc ++ r]:=by
 induction r generalizing acc with
 | nil=>rw[List.append_nil];rfl
 | cons x r ih =>
  rw[zb2 _ _ (h x (by simp)),ih _ fun y hy=>h y (by simp[hy]),List.append_assoc];rfl
def zaw (l:List UInt8):Bool:=zb9 l || zcd l
theorem part_ne {l:List UInt8} (h:zaw l=true):l≠[]:=by
 unfold zaw at h
 rcases Bool.or_eq_true _ _ ▸ h with h | h
 ·exact zgk h
 exact (zc4 h).2.2
theorem part_of {l:List UInt8} (h:zaw l=true):Part l:=by
 unfold zaw at h
 rcases Bool.or_eq_true _ _ ▸ h with h | h
 ·exact .inr (.inl h)
 exact .inr (.inr h)
def mayL (l:List UInt8):Bool:=decide (l≠[]) && decide (l.length≤40) && (cutL 46 l).all zaw && decide ((cutL 46 l).length≤8)
theorem zbi (l:List UInt8):mayL l=true↔l≠[]∧l.length≤40∧(∀ p∈cutL 46 l,zaw p=true)∧(cutL 46 l).length≤8:=by
 unfold mayL
 simp[and_assoc]
def zb5 (x y:List (List UInt8)):Nat→Nat→Int
 | _,0=>0
 | i,n+1=>if pcmp (x.getD i []) (y.getD i [])≠0 then pcmp (x.getD i []) (y.getD i []) else zb5 x y (i+1) n
def zao (a b:List UInt8):Int :=
 if mayL a=false∧mayL b=false then 0 else if mayL a=false then -1 else if mayL b=false then 1 else zb5 (cutL 46 a) (cutL 46 b) 0 (max (cutL 46 a).length (cutL 46 b).length)
structure Row {α:Type} (c:α→α→Int):Prop where
 tri:∀ x y,c x y = -1∨c x y=0∨c x y=1
 neg:∀ x y,c y x = -c x y
 trans:∀ x y z,c x y≤0→c y z≤0→c x z≤0
theorem Row.lt1 {α:Type} {c:α→α→Int} (h:Row c) {x y z:α} (h1:c x y < 0) (h2:c y z≤0):c x z < 0:=by
 by_cases h3:c x z < 0
 ·exact h3
 have a:=h.neg x z
 have b:=h.neg x y
 have:=h.trans y z x h2 (by omega)
 omega
theorem Row.lt2 {α:Type} {c:α→α→Int} (h:Row c) {x y z:α} (h1:c x y≤0) (h2:c y z < 0):c x z < 0:=by
 by_cases h3:c x z < 0
 ·exact h3
 have a:=h.neg x z
 have b:=h.neg y z
 have:=h.trans z x y (by omega) h1
 omega
theorem Row.eq {α:Type} {c:α→α→Int} (h:Row c) {x y z:α} (h1:c x y=0) (h2:c y z=0):c x z=0:=by
 have a:=h.trans x y z (by omega) (by omega)
 have b:=h.trans z y x (by rw[h.neg];omega) (by rw[h.neg];omega)
 have d:=h.neg x z
 omega
def thenBy {α:Type} (c d:α→α→Int) (x y:α):Int:=if c x y≠0 then c x y else d x y
theorem Row.thenBy {α:Type} {c d:α→α→Int} (hc:Row c) (hd:Row d):Row (thenBy c d):=by
 refine⟨fun x y=>?_,fun x y=>?_,fun x y z h1 h2=>?_⟩
 ·unfold VerN.thenBy;split
  ·exact hc.tri x y
  exact hd.tri x y
 ·unfold VerN.thenBy
  have:=hc.neg x y
  by_cases h:c x y=0
  ·rw[if_neg (by omega),if_neg (by omega)];exact hd.neg x y
  rw[if_pos (by omega),if_pos (by omega)];exact this
 unfold VerN.thenBy at h1 h2 ⊢
 by_cases a:c x y=0
 ·rw[if_neg (by omega)] at h1
  by_cases b:c y z=0
  ·rw[if_neg (by omega)] at h2
   rw[if_neg (by rw[hc.eq a b];omega)]
   exact hd.trans x y z h1 h2
  rw[if_pos b] at h2
  have:=hc.lt2 (x:=x) (by omega:c x y≤0) (by omega:c y z < 0)
  rw[if_pos (by omega)];omega
 rw[if_pos a] at h1
 have h3:c y z≤0:=by
  by_cases b:c y z=0
  ·omega
  rw[if_pos b] at h2;exact h2
 have:=hc.lt1 (z:=z) (by omega:c x y < 0) h3
 rw[if_pos (by omega)];omega
theorem Row.map {α β:Type} {c:α→α→Int} (h:Row c) (f:β→α):Row fun x y=>c (f x) (f y) :=
 ⟨fun x y=>h.tri _ _,fun x y=>h.neg _ _,fun x y z=>h.trans _ _ _⟩
theorem row_int:Row cmpI:=by
 refine⟨fun x y=>?_,fun x y=>?_,fun x y z=>?_⟩ <;> unfold cmpI
 ·split
  ·exact .inl rfl
  split
  ·exact .inr (.inr rfl)
  exact .inr (.inl rfl)
 ·by_cases h1:x < y
  ·have h3:¬ y < x:=by omega
   simp[h1,h3]
  by_cases h2:y < x
  ·simp[h1,h2]
  simp[h1,h2]
 have le:∀ x y:Int,(if x < y then (-1:Int) else if x > y then 1 else 0)≤0↔x≤y:=fun x y=>by
  by_cases h1:x < y
  ·rw[if_pos h1];exact⟨fun _=>by omega,fun _=>by omega⟩
  rw[if_neg h1]
  by_cases h2:x > y
  ·rw[if_pos h2];exact⟨fun h=>by omega,fun h=>by omega⟩
  rw[if_neg h2];exact⟨fun _=>by omega,fun _=>by omega⟩
 rw[le,le,le]
 omega
theorem ze8 {x:List (List UInt8)} {i:Nat} (h:i < x.length):x.getD i []=x[i]:=by rw[List.getD,List.getElem?_eq_getElem h];rfl
theorem ze9 {x:List (List UInt8)} {i:Nat} (h:x.length≤i):x.getD i [] = []:=by rw[List.getD,List.getElem?_eq_none h];rfl
theorem row_words:Row cmpW:=by
 have asy:∀ x y:List UInt8,x < y→¬ y < x:=fun x y h1 h2=>List.lt_irrefl x (List.lt_trans h1 h2)
 have le:∀ x y,cmpW x y≤0↔x≤y:=fun x y=>by
  unfold cmpW
  by_cases h1:x < y
  ·rw[if_pos h1];exact⟨fun _=>List.not_lt.1 (asy _ _ h1),fun _=>by omega⟩
  rw[if_neg h1]
  by_cases h2:y < x
  ·rw[if_pos h2];exact⟨fun h=>by omega,fun h=>absurd h2 (List.not_lt.2 h)⟩
  rw[if_neg h2];exact⟨fun _=>List.not_lt.1 h2,fun _=>by omega⟩
 refine⟨fun x y=>?_,fun x y=>?_,fun x y z h1 h2=>?_⟩
 ·unfold cmpW;split
  ·exact .inl rfl
  split
  ·exact .inr (.inr rfl)
  exact .inr (.inl rfl)
 ·unfold cmpW
  by_cases h1:x < y
  ·rw[if_neg (asy _ _ h1),if_pos h1,if_pos h1];rfl
  by_cases h2:y < x
  ·rw[if_pos h2,if_neg h1,if_pos h2]
  rw[if_neg h2,if_neg h1,if_neg h1,if_neg h2];rfl
 rw[le] at h1 h2 ⊢
 exact List.le_trans h1 h2
theorem zj0:pcmp=thenBy (fun a b=>cmpI (zbb a) (zbb b)) (thenBy (fun a b=>cmpI (zc1 a) (zc1 b)) (fun a b=>cmpW (zbp a) (zbp b))):=by
 funext a b
 rfl
theorem row_parts:Row pcmp:=by
 rw[zj0]
 exact (row_int.map zbb).thenBy ((row_int.map zc1).thenBy (row_words.map zbp))
theorem zjx:∀ (n i:Nat),Row fun x y=>zb5 x y i n
 | 0,i=>⟨fun _ _=>.inr (.inl rfl),fun _ _=>rfl,fun _ _ _ _ _=>Int.le_refl _⟩
 | n+1,i=>(row_parts.map fun x:List (List UInt8)=>x.getD i []).thenBy (zjx n (i+1))
theorem zfz (x y:List (List UInt8)):∀ (n k i:Nat),x.length≤i+n→y.length≤i+n→zb5 x y i (n+k)=zb5 x y i n
 | 0,0,_,_,_=>rfl
 | 0,k+1,i,hx,hy=>by
  have e:zb5 x y i (k+1)=if pcmp (x.getD i []) (y.getD i [])≠0 then pcmp (x.getD i []) (y.getD i []) else zb5 x y (i+1) k:=rfl
  rw[Nat.zero_add,e,ze9 (by omega),ze9 (by omega),if_neg (by decide)]
  have:=zfz x y 0 k (i+1) (by omega) (by omega)
  rw[Nat.zero_add] at this
  exact this
 | n+1,k,i,hx,hy=>by
  rw[show n+1+k=(n+k)+1 by omega,zb5,zb5,zfz x y n k (i+1) (by omega) (by omega)]
theorem from_any {x y:List (List UInt8)} {N:Nat} (hx:x.length≤N) (hy:y.length≤N):zb5 x y 0 (max x.length y.length)=zb5 x y 0 N:=by
 have:=zfz x y (max x.length y.length) (N - max x.length y.length) 0 (by omega) (by omega)
 rw[show max x.length y.length+(N - max x.length y.length)=N by omega] at this
 exact this.symm
theorem zbm (a b:List UInt8):zao a b=if mayL a=false∧mayL b=false then 0 else if mayL a=false then -1 else if mayL b=false then 1 else zb5 (cutL 46 a) (cutL 46 b) 0 8:=by
 unfold zao
 cases ha:mayL a
 ·simp
 cases hb:mayL b
 ·simp
 have h1:=((zbi a).1 ha).2.2.2
 have h2:=((zbi b).1 hb).2.2.2
 simp only[Bool.true_eq_false,and_self,if_false]
 exact from_any h1 h2
theorem zb4:Row zao:=by
 have R:=zjx 8 0
 refine⟨fun x y=>?_,fun x y=>?_,fun x y z=>?_⟩
 ·rw[zbm]
  split
  ·exact .inr (.inl rfl)
  split
  ·exact .inl rfl
  split
  ·exact .inr (.inr rfl)
  exact R.tri _ _
 ·rw[zbm,zbm]
  cases mayL x <;> cases mayL y <;> simp
  exact R.neg _ _
 rw[zbm,zbm,zbm]
 cases mayL x <;> cases mayL y <;> cases mayL z <;> simp
 exact R.trans _ _ _
theorem pcmp_zero {a b:List UInt8} (ha:Part a) (hb:Part b) (h:pcmp a b=0):a=b:=by
 rw[zj1 ha hb] at h
 by_cases hab:a=b
 ·exact hab
 exfalso
 by_cases h1:zal a b=true
 ·rw[if_pos h1] at h;cases h
 rw[if_neg h1] at h
 by_cases h2:zal b a=true
 ·rw[if_pos h2] at h;cases h
 have h3:=zj1 ha hb
 rw[if_neg h1,if_neg h2] at h3
 unfold pcmp at h3
 by_cases e1:cmpI (zbb a) (zbb b)=0
 ·rw[if_neg (by omega)] at h3
  by_cases e2:cmpI (zc1 a) (zc1 b)=0
  ·rw[if_neg (by omega)] at h3
   have r:zbb a=zbb b:=by unfold cmpI at e1;split at e1;omega;split at e1 <;> omega
   have n:zc1 a=zc1 b:=by unfold cmpI at e2;split at e2;omega;split at e2 <;> omega
   have w:zbp a=zbp b:=by
    by_cases e:zbp a=zbp b
    ·exact e
    unfold cmpW at h3
    by_cases l1:zbp a < zbp b
    ·rw[if_pos l1] at h3;omega
    rw[if_neg l1,if_pos (dec_ne e l1)] at h3;omega
   apply hab
   rcases ha with rfl | ha | ha
   ·rcases hb with rfl | hb | hb
    ·rfl
    ·rw[zek hb] at r;exact absurd r (by decide)
    rw[zde hb] at r;exact absurd r (by decide)
   ·rcases hb with rfl | hb | hb
    ·rw[zek ha] at r;exact absurd r (by decide)
    ·unfold zbp at w;rwa [if_pos ha,if_pos hb] at w
    rw[zek ha,zde hb] at r;omega
   rcases hb with rfl | hb | hb
   ·rw[zde ha] at r;exact absurd r (by decide)
   ·rw[zde ha,zek hb] at r;omega
   have va:zc1 a=(zae 0 a:Nat):=by unfold zc1;rw[if_neg (by rw[(zc4 ha).2.1];simp)]
   have vb:zc1 b=(zae 0 b:Nat):=by unfold zc1;rw[if_neg (by rw[(zc4 hb).2.1];simp)]
   have v:zae 0 a=zae 0 b:=by omega
   have ha':=ha
   have hb':=hb
   unfold zcd at ha' hb'
   simp only[Bool.and_eq_true] at ha' hb'
   have e1:=zjl a (zc4 ha).2.2 ha'.1.1.2 ha'.2
   have e2:=zjl b (zc4 hb).2.2 hb'.1.1.2 hb'.2
   rw[← e1,← e2,v]
  rw[if_pos e2] at h3;omega
 rw[if_pos e1] at h3;omega
theorem zel {x:List (List UInt8)} (h:∀ p∈x,zaw p=true) (i:Nat):Part (x.getD i []):=by
 by_cases hi:i < x.length
 ·rw[ze8 hi];exact part_of (h _ (List.getElem_mem hi))
 rw[ze9 (by omega)];exact .inl rfl
theorem zi4 {x y:List (List UInt8)} (hx:∀ p∈x,zaw p=true) (hy:∀ p∈y,zaw p=true):∀ (n i:Nat),zb5 x y i n=0→∀ j,i≤j→j < i+n→x.getD j []=y.getD j []
 | 0,i,_,j,h1,h2=>by omega
 | n+1,i,h,j,h1,h2=>by
  unfold zb5 at h
  by_cases h0:pcmp (x.getD i []) (y.getD i [])=0
  ·rw[if_neg (by omega)] at h
   rcases Nat.eq_or_lt_of_le h1 with rfl | h3
   ·exact pcmp_zero (zel hx i) (zel hy i) h0
   exact zi4 hx hy n (i+1) h j h3 (by omega)
  rw[if_pos h0] at h;exact absurd h h0
theorem lists_eq {x y:List (List UInt8)} (hx:∀ p∈x,zaw p=true) (hy:∀ p∈y,zaw p=true) (h:∀ j,j < max x.length y.length→x.getD j []=y.getD j []):x=y:=by
 have hl:x.length=y.length:=by
  rcases Nat.lt_trichotomy x.length y.length with h1 | h1 | h1
  ·exfalso
   have:=h x.length (by omega)
   rw[ze9 (Nat.le_refl _),ze8 h1] at this
   exact part_ne (hy _ (List.getElem_mem h1)) this.symm
  ·exact h1
  exfalso
  have:=h y.length (by omega)
  rw[ze9 (x:=y) (Nat.le_refl _),ze8 h1] at this
  exact part_ne (hx _ (List.getElem_mem h1)) this
 refine List.ext_getElem hl fun i h1 h2=>?_
 have:=h i (by omega)
 rwa [ze8 h1,ze8 h2] at this
theorem zia {a b:List UInt8} (h:zao a b=0):a=b∨mayL a=false∧mayL b=false:=by
 unfold zao at h
 cases ha:mayL a
 ·cases hb:mayL b
  ·exact .inr ⟨rfl,rfl⟩
  rw[ha,hb] at h;simp at h
 cases hb:mayL b
 ·rw[ha,hb] at h;simp at h
 rw[ha,hb] at h
 simp only[Bool.true_eq_false,and_self,if_false] at h
 have h1:=((zbi a).1 ha).2.2.1
 have h2:=((zbi b).1 hb).2.2.1
 exact .inl (cutL_inj (lists_eq h1 h2 fun j hj=>zi4 h1 h2 _ 0 h j (Nat.zero_le _) (by omega)))
def zc2 (x y:List (List UInt8)):Nat→Nat→Bool
 | _,0=>false
 | i,n+1=>if zal (x.getD i []) (y.getD i [])=true then true else if zal (y.getD i []) (x.getD i [])=true then false else zc2 x y (i+1) n
def zcw (a b:List UInt8):Bool:=if mayL a=false∨mayL b=false then !mayL a && mayL b else zc2 (cutL 46 a) (cutL 46 b) 0 (max (cutL 46 a).length (cutL 46 b).length)
theorem zhy {x y:List (List UInt8)} (hx:∀ p∈x,zaw p=true) (hy:∀ p∈y,zaw p=true):∀ (n i:Nat),zc2 x y i n=decide (zb5 x y i n = -1)
 | 0,_=>rfl
 | n+1,i=>by
  unfold zc2 zb5
  rw[zj1 (zel hx i) (zel hy i)]
  by_cases h1:zal (x.getD i []) (y.getD i [])=true
  ·rw[if_pos h1,if_pos h1];rfl
  rw[if_neg h1,if_neg h1]
  by_cases h2:zal (y.getD i []) (x.getD i [])=true
  ·rw[if_pos h2,if_pos h2];rfl
  rw[if_neg h2,if_neg h2,zhy hx hy n (i+1)];rfl
theorem less_is (a b:List UInt8):zcw a b=decide (zao a b = -1):=by
 unfold zcw zao
 cases ha:mayL a
 ·cases hb:mayL b <;> simp
 cases hb:mayL b
 ·simp
 simp only[Bool.true_eq_false,or_self,and_self,if_false]
 exact zhy ((zbi a).1 ha).2.2.1 ((zbi b).1 hb).2.2.1 _ _
end VerN

namespace VerN
open Go.Lib
theorem ba_ext {x y:ByteArray} (h:x.data.toList=y.data.toList):x=y:=by
 obtain⟨⟨a⟩⟩:=x
 obtain⟨⟨b⟩⟩:=y
 simp at h
 rw[h]
def cutS (c:UInt8) (s:ByteArray):List ByteArray:=(cutL c s.data.toList).map fun l=>⟨l.toArray⟩
theorem zdi (c:UInt8) (s:ByteArray):(cutS c s).map (·.data.toList)=cutL c s.data.toList:=by
 unfold cutS
 rw[List.map_map]
 have:((fun x:ByteArray=>x.data.toList) ∘ fun l:List UInt8=>(⟨l.toArray⟩ : ByteArray))=id:=by funext l;simp
 rw[this,List.map_id]
theorem zax (c:UInt8) (s:ByteArray):(cutS c s).length=(cutL c s.data.toList).length:=by unfold cutS;rw[List.length_map]
theorem cutS_miss {c:UInt8} {s:ByteArray} (h:indexByte s.data.toList c = -1):cutS c s = [s]:=by
 unfold cutS cutL
 rw[zi8 c _ _ h,List.nil_append]
 simp
theorem cutS_hit {c:UInt8} {s:ByteArray} {i:Nat} (h:indexByte s.data.toList c=i):cutS c s=s.extract 0 i :: cutS c (s.extract (i+1) s.size):=by
 have e1:(⟨(s.data.toList.take i).toArray⟩ : ByteArray)=s.extract 0 i:=ba_ext (by rw[extract_from_zero])
 have e2:s.data.toList.drop (i+1)=(s.extract (i+1) s.size).data.toList:=(extract_to_end s (i+1)).symm
 unfold cutS
 rw[show cutL c s.data.toList=cutF c [] s.data.toList from rfl,zkg c _ _ i h,List.nil_append,List.map_cons,e1,e2]
theorem index_lt {l:List UInt8} {c:UInt8} {i:Nat} (h:indexByte l c=i):i < l.length:=by
 induction l generalizing i with
 | nil=>unfold indexByte at h;omega
 | cons x r ih =>
  unfold indexByte at h
  split at h
  ·simp;omega
  split at h
  ·omega
  rename_i hm
  have:=indexByte_ge r c
  have h0:indexByte r c≠-1:=fun e=>hm (by rw[e];rfl)
  have:=ih (i:=i - 1) (by omega)
  simp;omega
theorem dlen (s:ByteArray):s.data.toList.length=s.size:=by rw[Array.length_toList];rfl
theorem zcf {c:UInt8} {s p:ByteArray} (h:p∈cutS c s):p.size≤s.size:=by
 unfold cutS at h
 obtain⟨l,h1,rfl⟩:=List.mem_map.1 h
 have:=zex c _ _ _ h1
 rw[dlen] at this
 have e:(⟨l.toArray⟩ : ByteArray).size=l.length:=rfl
 rw[e]
 simp only[List.length_nil] at this
 omega
end VerN

namespace VerN
open Go.Lib
def first (l:List UInt8):List UInt8:=(cutL 46 l).getD 0 []
end VerN

namespace VerN
open Go.Lib
abbrev Sp:=List UInt8 × List UInt8
def zat (l:List UInt8):Bool:=decide (l = []) || mayL l
def zb3 (a b:List UInt8):Bool:=decide (a≠[]) && decide (b≠[]) && decide (zao a b < 0)
def mayS (s:Sp):Bool:=zat s.1 && zat s.2 && !zb3 s.2 s.1
def zbr (a b:List UInt8):List UInt8:=if a = []∨zb3 a b=true then b else a
def zaz (a b:List UInt8):List UInt8:=if a = []∨zb3 b a=true then b else a
def zj9 (a b:Sp):Sp:=(zbr a.1 b.1,zaz a.2 b.2)
def zb8 (a b:Sp):Bool:=mayS a && mayS b && mayS (zj9 a b)
def zc9 (a b:Sp):Sp:=if mayS a=true∧mayS b=true then (if a.1≠[]∧b.1≠[] then zaz a.1 b.1 else [],if a.2≠[]∧b.2≠[] then zbr a.2 b.2 else []) else ([],[])
def zii (s:Sp):List UInt8:=if s.1=s.2∧s.1≠[] then s.1 else s.1 ++ 58 :: s.2
def textS (s:Sp):List UInt8:=if mayS s=true then zii s else []
def le (a b:List UInt8):Prop:=zao a b≤0
theorem le_refl (a:List UInt8):le a a:=by
 have:=zb4.neg a a
 unfold le;omega
theorem le_trans {a b c:List UInt8} (h1:le a b) (h2:le b c):le a c:=zb4.trans a b c h1 h2
theorem not_le {a b:List UInt8}:¬ le a b↔zao b a < 0:=by
 have:=zb4.neg a b
 unfold le;omega
theorem le_total (a b:List UInt8):le a b∨le b a:=by
 have:=zb4.neg a b
 unfold le;omega
theorem zdw {a b:List UInt8}:zb3 a b=false↔a = []∨b = []∨le b a:=by
 have h:¬ zao a b < 0↔le b a:=by
  have:=zb4.neg a b
  unfold le
  omega
 unfold zb3
 simp only[Bool.and_eq_false_iff,decide_eq_false_iff_not,ne_eq,Decidable.not_not,h]
 exact or_assoc
theorem zdl {a b:List UInt8}:zb3 a b=true↔a≠[]∧b≠[]∧¬ le b a:=by
 unfold zb3
 simp only[Bool.and_eq_true,decide_eq_true_eq,not_le,and_assoc]
theorem zd0 (a b:List UInt8):zb3 a b=(decide (a≠[]) && decide (b≠[]) && zcw a b):=by
 have ht:=zb4.tri a b
 unfold zb3
 rw[less_is]
 congr 1
 exact decide_eq_decide.2 ⟨fun h=>by omega,fun h=>by omega⟩
theorem zdk {l:List UInt8}:zat l=true↔l = []∨mayL l=true:=by unfold zat;simp
theorem zaq {s:Sp}:mayS s=true↔zat s.1=true∧zat s.2=true∧(s.1 = []∨s.2 = []∨le s.1 s.2):=by
 unfold mayS
 simp only[Bool.and_eq_true,Bool.not_eq_true',and_assoc,zdw]
 constructor
 ·rintro⟨h1,h2,h3⟩
  refine⟨h1,h2,?_⟩
  rcases h3 with h | h | h
  ·exact .inr (.inl h)
  ·exact .inl h
  exact .inr (.inr h)
 rintro⟨h1,h2,h3⟩
 refine⟨h1,h2,?_⟩
 rcases h3 with h | h | h
 ·exact .inr (.inl h)
 ·exact .inl h
 exact .inr (.inr h)
def zc8 (lo v:List UInt8):Prop:=lo = []∨le lo v
def ze2 (hi v:List UInt8):Prop:=hi = []∨le v hi
theorem zd5 (a b:List UInt8):zbr a b=a∨zbr a b=b:=by unfold zbr;split;exact .inr rfl;exact .inl rfl
theorem zdc (a b:List UInt8):zaz a b=a∨zaz a b=b:=by unfold zaz;split;exact .inr rfl;exact .inl rfl
theorem zfh {x a b:List UInt8} (h:x=a∨x=b) (ha:zat a=true) (hb:zat b=true):zat x=true:=by rcases h with rfl | rfl <;> assumption
theorem zjd {a b v:List UInt8}:zc8 (zbr a b) v↔zc8 a v∧zc8 b v:=by
 unfold zbr
 by_cases h:a = []∨zb3 a b=true
 ·rw[if_pos h]
  refine⟨fun hb=>⟨?_,hb⟩,fun h=>h.2⟩
  rcases h with h | h
  ·exact .inl h
  obtain⟨h1,h2,h3⟩:=zdl.1 h
  rcases hb with hb | hb
  ·exact absurd hb h2
  exact .inr (le_trans ((le_total a b).resolve_right h3) hb)
 rw[if_neg h]
 refine⟨fun ha=>⟨ha,?_⟩,fun h=>h.1⟩
 have h1:a≠[]:=fun e=>h (.inl e)
 have h2:zb3 a b=false:=Bool.eq_false_iff.2 fun e=>h (.inr e)
 rcases zdw.1 h2 with h2 | h2 | h2
 ·exact absurd h2 h1
 ·exact .inl h2
 rcases ha with ha | ha
 ·exact absurd ha h1
 exact .inr (le_trans h2 ha)
theorem zhj {a b v:List UInt8}:ze2 (zaz a b) v↔ze2 a v∧ze2 b v:=by
 unfold zaz
 by_cases h:a = []∨zb3 b a=true
 ·rw[if_pos h]
  refine⟨fun hb=>⟨?_,hb⟩,fun h=>h.2⟩
  rcases h with h | h
  ·exact .inl h
  obtain⟨h1,h2,h3⟩:=zdl.1 h
  rcases hb with hb | hb
  ·exact absurd hb h1
  exact .inr (le_trans hb ((le_total b a).resolve_right h3))
 rw[if_neg h]
 refine⟨fun ha=>⟨ha,?_⟩,fun h=>h.1⟩
 have h1:a≠[]:=fun e=>h (.inl e)
 have h2:zb3 b a=false:=Bool.eq_false_iff.2 fun e=>h (.inr e)
 rcases zdw.1 h2 with h2 | h2 | h2
 ·exact .inl h2
 ·exact absurd h2 h1
 rcases ha with ha | ha
 ·exact absurd ha h1
 exact .inr (le_trans ha h2)
theorem zj8 {a b:Sp} (ha:mayS a=true) (hb:mayS b=true):zat (zj9 a b).1=true∧zat (zj9 a b).2=true :=
 ⟨zfh (zd5 _ _) (zaq.1 ha).1 (zaq.1 hb).1,zfh (zdc _ _) (zaq.1 ha).2.1 (zaq.1 hb).2.1⟩
def refMayS (s:Sp):Bool:=zat s.1 && zat s.2 && (decide (s.1 = []) || decide (s.2 = []) || !zcw s.2 s.1)
theorem refMay_is (s:Sp):refMayS s=mayS s:=by
 unfold refMayS mayS
 rw[zd0]
 by_cases h1:s.1 = [] <;> by_cases h2:s.2 = [] <;> simp[h1,h2]
def zk0 (a b:Sp):Sp:=(if b.1≠[]∧(a.1 = []∨zcw a.1 b.1=true) then b.1 else a.1,if b.2≠[]∧(a.2 = []∨zcw b.2 a.2=true) then b.2 else a.2)
theorem zl0 (a b:Sp):zk0 a b=zj9 a b:=by
 unfold zk0 zj9 zbr zaz
 rw[zd0,zd0]
 refine Prod.ext ?_ ?_
 ·by_cases h1:b.1 = [] <;> by_cases h2:a.1 = [] <;> simp[h1,h2]
 by_cases h1:b.2 = [] <;> by_cases h2:a.2 = [] <;> simp[h1,h2]
theorem zjf {a b:Sp} (ha:mayS a=true) (hb:mayS b=true):zat (zc9 a b).1=true∧zat (zc9 a b).2=true:=by
 unfold zc9
 rw[if_pos ⟨ha,hb⟩]
 refine⟨?_,?_⟩
 ·show zat (if a.1≠[]∧b.1≠[] then zaz a.1 b.1 else [])=true
  split
  ·exact zfh (zdc _ _) (zaq.1 ha).1 (zaq.1 hb).1
  rfl
 show zat (if a.2≠[]∧b.2≠[] then zbr a.2 b.2 else [])=true
 split
 ·exact zfh (zd5 _ _) (zaq.1 ha).2.1 (zaq.1 hb).2.1
 rfl
theorem zei {a b:List UInt8} (ha:a≠[]) (hb:b≠[]):le (zaz a b) a∧le (zaz a b) b∧zaz a b≠[]:=by
 unfold zaz
 by_cases h:zb3 b a=true
 ·rw[if_pos (.inr h)]
  obtain⟨_,_,h3⟩:=zdl.1 h
  exact⟨(le_total b a).resolve_right h3,le_refl b,hb⟩
 rw[if_neg (by rintro (e | e);exact ha e;exact h e)]
 rcases zdw.1 (Bool.eq_false_iff.2 h) with h2 | h2 | h2
 ·exact absurd h2 hb
 ·exact absurd h2 ha
 exact⟨le_refl a,h2,ha⟩
theorem zen {a b:List UInt8} (ha:a≠[]) (hb:b≠[]):le a (zbr a b)∧le b (zbr a b)∧zbr a b≠[]:=by
 unfold zbr
 by_cases h:zb3 a b=true
 ·rw[if_pos (.inr h)]
  obtain⟨_,_,h3⟩:=zdl.1 h
  exact⟨(le_total a b).resolve_right h3,le_refl b,hb⟩
 rw[if_neg (by rintro (e | e);exact ha e;exact h e)]
 rcases zdw.1 (Bool.eq_false_iff.2 h) with h2 | h2 | h2
 ·exact absurd h2 ha
 ·exact absurd h2 hb
 exact⟨le_refl a,h2,ha⟩
theorem join_lo {a b:Sp} (ha:mayS a=true) (hb:mayS b=true):(zc9 a b).1 = []∨(a.1≠[]∧b.1≠[]∧(zc9 a b).1=zaz a.1 b.1):=by
 unfold zc9
 rw[if_pos ⟨ha,hb⟩]
 by_cases h:a.1≠[]∧b.1≠[]
 ·exact .inr ⟨h.1,h.2,if_pos h⟩
 exact .inl (if_neg h)
theorem join_hi {a b:Sp} (ha:mayS a=true) (hb:mayS b=true):(zc9 a b).2 = []∨(a.2≠[]∧b.2≠[]∧(zc9 a b).2=zbr a.2 b.2):=by
 unfold zc9
 rw[if_pos ⟨ha,hb⟩]
 by_cases h:a.2≠[]∧b.2≠[]
 ·exact .inr ⟨h.1,h.2,if_pos h⟩
 exact .inl (if_neg h)
theorem zk9 {a b:Sp} (ha:mayS a=true) (hb:mayS b=true):mayS (zc9 a b)=true:=by
 have hB:=zjf ha hb
 refine zaq.2 ⟨hB.1,hB.2,?_⟩
 rcases join_lo ha hb with h | ⟨h1,h2,h3⟩
 ·exact .inl h
 rcases join_hi ha hb with h | ⟨g1,g2,g3⟩
 ·exact .inr (.inl h)
 refine .inr (.inr ?_)
 rw[h3,g3]
 have hm:=(zaq.1 ha).2.2.resolve_left h1 |>.resolve_left g1
 exact le_trans (zei h1 h2).1 (le_trans hm (zen g1 g2).1)
end VerN

namespace SortM
variable {α : Type}
structure Swo (lt:α→α→Bool):Prop where
 asymm:∀ a b,lt a b=true→lt b a=false
 ntrans:∀ a b c,lt b a=false→lt c b=false→lt c a=false
inductive Sw (lt:α→α→Bool) (l:List α):List α→Prop
 | refl:Sw lt l l
 | step (p:List α) (x y:α) (q:List α):Sw lt l (p ++ x :: y :: q)→lt y x=true→Sw lt l (p ++ y :: x :: q)
def zar (lt:α→α→Bool) (l:List α):Prop:=l.Pairwise fun a b=>lt b a=false
variable {lt : α → α → Bool}
theorem Sw.trans {a b c:List α} (h:Sw lt a b) (k:Sw lt b c):Sw lt a c:=by
 induction k with
 | refl=>exact h
 | step p x y q _ hlt ih=>exact .step p x y q ih hlt
theorem Sw.perm {a b:List α} (h:Sw lt a b):a.Perm b:=by
 induction h with
 | refl=>exact List.Perm.refl _
 | step p x y q _ _ ih=>exact ih.trans (List.Perm.append_left _ (List.Perm.swap _ _ _))
theorem Sw.ctx {a b:List α} (h:Sw lt a b) (u v:List α):Sw lt (u ++ a ++ v) (u ++ b ++ v):=by
 induction h with
 | refl=>exact .refl
 | step p x y q _ hlt ih =>
  have h1:u ++ (p ++ x :: y :: q) ++ v=(u ++ p) ++ x :: y :: (q ++ v):=by simp
  have h2:u ++ (p ++ y :: x :: q) ++ v=(u ++ p) ++ y :: x :: (q ++ v):=by simp
  rw[h1] at ih
  rw[h2]
  exact .step _ x y _ ih hlt
theorem Sw.app {a b c d:List α} (h:Sw lt a b) (k:Sw lt c d):Sw lt (a ++ c) (b ++ d):=by
 have h1:=h.ctx [] c
 have h2:=k.ctx b []
 simp only[List.nil_append,List.append_nil] at h1 h2
 exact h1.trans h2
theorem Sw.over (x:α):∀ (b:List α),(∀ y∈b,lt y x=true)→Sw lt (x :: b) (b ++ [x]):=by
 intro b
 induction b with
 | nil=>intro _;exact .refl
 | cons y b ih =>
  intro h
  have h1:Sw lt (x :: y :: b) (y :: x :: b):=.step [] x y b .refl (h y (by simp))
  have h2:=(ih (fun z hz=>h z (by simp[hz]))).ctx [y] []
  simp only[List.append_nil] at h2
  exact h1.trans h2
theorem Sw.blocks:∀ (a b:List α),(∀ x∈a,∀ y∈b,lt y x=true)→Sw lt (a ++ b) (b ++ a):=by
 intro a
 induction a with
 | nil=>intro b _;rw[List.append_nil];exact .refl
 | cons x a ih =>
  intro b h
  have h1:=(ih b (fun z hz=>h z (by simp[hz]))).ctx [x] []
  have h2:=(Sw.over x b (h x (by simp))).ctx [] a
  simp only[List.append_nil,List.nil_append] at h1 h2
  have e:x :: b ++ a = [x] ++ (b ++ a):=rfl
  rw[e] at h2
  refine h1.trans (h2.trans ?_)
  rw[List.append_assoc]
  exact .refl
def eqv (lt:α→α→Bool) (a x:α):Bool:=!lt a x && !lt x a
theorem eqv_of (h:Swo lt) {a x y:α} (hx:eqv lt a x=true) (hy:eqv lt a y=true):lt y x=false:=by
 unfold eqv at hx hy
 simp only[Bool.and_eq_true,Bool.not_eq_true'] at hx hy
 exact h.ntrans x a y hx.1 hy.2
theorem Sw.filter (h:Swo lt) {l m:List α} (k:Sw lt l m) (a:α):l.filter (eqv lt a)=m.filter (eqv lt a):=by
 induction k with
 | refl=>rfl
 | step p x y q _ hlt ih =>
  rw[ih]
  simp only[List.filter_append,List.filter_cons]
  cases hx:eqv lt a x <;> cases hy:eqv lt a y <;> simp
  rw[eqv_of h hx hy] at hlt
  cases hlt
theorem zfx (h:Swo lt) (a:α):lt a a=false:=by
 cases e:lt a a
 ·rfl
 have:=h.asymm a a e;rw[e] at this;exact this
theorem eqv_self (h:Swo lt) (a:α):eqv lt a a=true:=by unfold eqv;rw[zfx h a];rfl
theorem uniq (h:Swo lt):∀ (a b:List α),a.Perm b→(∀ x,a.filter (eqv lt x)=b.filter (eqv lt x))→zar lt a→zar lt b→a=b:=by
 intro a
 induction a with
 | nil=>intro b hp _ _ _;exact hp.nil_eq
 | cons x a ih =>
  intro b hp hf ha hb
  match b with
  | [] => exact absurd hp.symm.nil_eq (by simp)
  | y :: b =>
   have h1:lt y x=false:=by
    have hy:y∈x :: a:=hp.symm.subset (by simp)
    rcases List.mem_cons.1 hy with e | hy
    ·rw[e];exact zfx h x
    exact (List.pairwise_cons.1 ha).1 y hy
   have h2:lt x y=false:=by
    have hx:x∈y :: b:=hp.subset (by simp)
    rcases List.mem_cons.1 hx with e | hx
    ·rw[e];exact zfx h y
    exact (List.pairwise_cons.1 hb).1 x hx
   have h3:eqv lt x y=true:=by unfold eqv;rw[h1,h2];rfl
   have hx:=hf x
   rw[List.filter_cons,List.filter_cons,if_pos (eqv_self h x),if_pos h3] at hx
   injection hx with hxy _
   subst hxy
   congr 1
   refine ih b (List.Perm.cons_inv hp) (fun z=>?_) (List.pairwise_cons.1 ha).2 (List.pairwise_cons.1 hb).2
   have:=hf z
   rw[List.filter_cons,List.filter_cons] at this
   split at this
   ·injection this
   exact this
def ins (lt:α→α→Bool) (x:α):List α→List α
 | [] => [x]
 | y :: l=>if lt x y=true then x :: y :: l else y :: ins lt x l
def zaj (lt:α→α→Bool) (l:List α):List α:=l.foldl (fun r x=>ins lt x r) []
theorem mem_ins (x z:α) (l:List α):z∈ins lt x l↔z=x∨z∈l:=by
 induction l with
 | nil=>simp[ins]
 | cons y l ih =>
  unfold ins
  split
  ·simp
  simp only[List.mem_cons,ih]
  constructor
  ·rintro (h | h | h)
   ·exact .inr (.inl h)
   ·exact .inl h
   exact .inr (.inr h)
  rintro (h | h | h)
  ·exact .inr (.inl h)
  ·exact .inl h
  exact .inr (.inr h)
theorem zlk (h:Swo lt) (x:α) (l:List α) (hl:zar lt l):zar lt (ins lt x l):=by
 induction l with
 | nil=>simp[ins,zar]
 | cons y l ih =>
  have hl':=List.pairwise_cons.1 hl
  unfold ins
  split
  ·rename_i hxy
   refine List.pairwise_cons.2 ⟨fun z hz=>?_,hl⟩
   rcases List.mem_cons.1 hz with e | hz
   ·rw[e];exact h.asymm _ _ hxy
   exact h.ntrans x y z (h.asymm _ _ hxy) (hl'.1 z hz)
  rename_i hxy
  refine List.pairwise_cons.2 ⟨fun z hz=>?_,ih hl'.2⟩
  rcases (mem_ins x z l).1 hz with e | hz
  ·rw[e];simpa using hxy
  exact hl'.1 z hz
theorem ins_sw (h:Swo lt) (x:α) (l:List α) (hl:zar lt l):Sw lt (l ++ [x]) (ins lt x l):=by
 induction l with
 | nil=>exact .refl
 | cons y l ih =>
  have hl':=List.pairwise_cons.1 hl
  unfold ins
  split
  ·rename_i hxy
   have:∀ z∈y :: l,lt x z=true:=by
    intro z hz
    cases e:lt x z
    ·have h1:lt x y=false:=by
      rcases List.mem_cons.1 hz with e2 | hz
      ·rw[← e2];exact e
      exact h.ntrans y z x (hl'.1 z hz) e
     rw[hxy] at h1;cases h1
    rfl
   have h2:=Sw.blocks (lt:=lt) (y :: l) [x] (fun a ha b hb=>by simp at hb;subst hb;exact this a ha)
   exact h2
  have h2:=(ih hl'.2).ctx [y] []
  simp only[List.append_nil] at h2
  exact h2
theorem zg0 (h:Swo lt):∀ (l r:List α),zar lt r→zar lt (l.foldl (fun r x=>ins lt x r) r)∧Sw lt (r ++ l) (l.foldl (fun r x=>ins lt x r) r):=by
 intro l
 induction l with
 | nil=>intro r hr;exact⟨hr,by rw[List.append_nil];exact .refl⟩
 | cons x l ih =>
  intro r hr
  obtain⟨h1,h2⟩:=ih (ins lt x r) (zlk h x r hr)
  refine⟨h1,?_⟩
  have h3:=(ins_sw h x r hr).ctx [] l
  simp only[List.nil_append] at h3
  have e:r ++ [x] ++ l=r ++ x :: l:=by simp
  rw[e] at h3
  exact h3.trans h2
theorem zau (h:Swo lt) (l:List α):zar lt (zaj lt l):=(zg0 h l [] List.Pairwise.nil).1
theorem zca (h:Swo lt) (l:List α):Sw lt l (zaj lt l):=by
 have:=(zg0 h l [] List.Pairwise.nil).2
 rw[List.nil_append] at this
 exact this
theorem zdr (h:Swo lt) {l a:List α} (hs:Sw lt l a) (ha:zar lt a):a=zaj lt l:=by
 have h1:=zca h l
 exact uniq h a (zaj lt l) (hs.perm.symm.trans h1.perm) (fun x=>(hs.filter h x).symm.trans (h1.filter h x)) ha (zau h l)
theorem zik (h:Swo lt) {l a:List α} (hs:Sw lt l a):zaj lt a=zaj lt l:=zdr h (hs.trans (zca h a)) (zau h a)
theorem zf9 (h:Swo lt) {l:List α} (hl:zar lt l):zaj lt l=l:=(zdr h .refl hl).symm
theorem zbt (h:Swo lt) (l:List α):(zaj lt l).length=l.length:=(zca h l).perm.length_eq.symm
theorem mem_ssort (h:Swo lt) (l:List α) (x:α):x∈zaj lt l↔x∈l:=(zca h l).perm.symm.mem_iff
theorem zhm (h:Swo lt) (a b:List α):zaj lt (zaj lt a ++ zaj lt b)=zaj lt (a ++ b):=zik h ((zca h a).app (zca h b))
theorem zkt (l:List α) (x:α):zaj lt (l ++ [x])=ins lt x (zaj lt l):=by unfold zaj;rw[List.foldl_append];rfl
theorem ssort_cut (h:Swo lt) (l1 l2 r1 r2:List α) (hx:∀ x∈l2,∀ y∈r1,lt y x=true) (h12:∀ a∈l1,∀ b∈l2,lt b a=false) (hr:∀ a∈r1,∀ b∈r2,lt b a=false) (hlr:∀ a∈l1,∀ b∈r2,lt b a=false) :
  zaj lt (l1 ++ l2 ++ (r1 ++ r2))=zaj lt (l1 ++ r1) ++ zaj lt (l2 ++ r2):=by
 symm
 apply zdr h
 ·have h1:=(Sw.blocks l2 r1 hx).ctx l1 r2
  have e1:l1 ++ (l2 ++ r1) ++ r2=l1 ++ l2 ++ (r1 ++ r2):=by simp
  have e2:l1 ++ (r1 ++ l2) ++ r2=(l1 ++ r1) ++ (l2 ++ r2):=by simp
  rw[e1,e2] at h1
  exact h1.trans ((zca h _).app (zca h _))
 refine List.pairwise_append.2 ⟨zau h _,zau h _,fun a ha b hb=>?_⟩
 rw[mem_ssort h] at ha hb
 rcases List.mem_append.1 ha with ha | ha <;> rcases List.mem_append.1 hb with hb | hb
 ·exact h12 a ha b hb
 ·exact hlr a ha b hb
 ·exact h.asymm _ _ (hx b hb a ha)
 exact hr a ha b hb
end SortM

namespace VerN
open Go.Lib SortM
abbrev Pt:=Option (Bool × List UInt8)
def covS (s:Sp):Pt→Prop
 | none=>s.1 = []
 | some (false,p)=>zc8 s.1 p∧ze2 s.2 p
 | some (true,p)=>zc8 s.1 p∧(s.2 = []∨¬ le s.2 p)
def cov (l:List Sp) (x:Pt):Prop:=∃ s∈l,covS s x
def bef (a b:Sp):Prop:=a.2≠[]∧b.1≠[]∧¬ le b.1 a.2
def Sep (l:List Sp):Prop:=(∀ s∈l,mayS s=true)∧l.Pairwise bef
theorem le_anti {a b:List UInt8} (ha:mayL a=true) (h1:le a b) (h2:le b a):a=b:=by
 have h3:=zb4.neg a b
 have h4:zao a b=0:=by unfold le at h1 h2;omega
 rcases zia h4 with h | ⟨h,_⟩
 ·exact h
 rw[ha] at h;cases h
theorem zfu {a b:List UInt8} (h:¬ le a b):le b a:=(le_total a b).resolve_left h
theorem may_lo {s:Sp} (h:mayS s=true) (h1:s.1≠[]):mayL s.1=true:=(zdk.1 (zaq.1 h).1).resolve_left h1
theorem may_hi {s:Sp} (h:mayS s=true) (h1:s.2≠[]):mayL s.2=true:=(zdk.1 (zaq.1 h).2.1).resolve_left h1
theorem bef_apart {a b:Sp} (h:bef a b) (x:Pt) (ha:covS a x) (hb:covS b x):False:=by
 obtain⟨h1,h2,h3⟩:=h
 match x,ha,hb with
 | none,_,hb=>exact h2 hb
 | some (false,p),ha,hb =>
  rcases ha.2 with h | h
  ·exact h1 h
  rcases hb.1 with k | k
  ·exact h2 k
  exact h3 (le_trans k h)
 | some (true,p),ha,hb =>
  rcases ha.2 with h | h
  ·exact h1 h
  rcases hb.1 with k | k
  ·exact h2 k
  exact h3 (le_trans k (zfu h))
theorem zki {s:Sp} (h:mayS s=true):∃ x,covS s x:=by
 by_cases h1:s.1 = []
 ·exact⟨none,h1⟩
 refine⟨some (false,s.1),.inr (le_refl _),?_⟩
 rcases (zaq.1 h).2.2 with k | k | k
 ·exact absurd k h1
 ·exact .inl k
 exact .inr k
theorem cov_lo {g:Sp} {G:List Sp} (h:Sep (g :: G)) {p:List UInt8} (hx:cov (g :: G) (some (false,p))):zc8 g.1 p:=by
 obtain⟨s,hs,hc⟩:=hx
 rcases List.mem_cons.1 hs with rfl | hs
 ·exact hc.1
 obtain⟨b1,b2,b3⟩:=(List.pairwise_cons.1 h.2).1 s hs
 rcases (zaq.1 (h.1 g (by simp))).2.2 with k | k | k
 ·exact .inl k
 ·exact absurd k b1
 rcases hc.1 with m | m
 ·exact absurd m b2
 exact .inr (le_trans (le_trans k (zfu b3)) m)
theorem cov_bot {g:Sp} {G:List Sp} (h:Sep (g :: G)) (hx:cov (g :: G) none):g.1 = []:=by
 obtain⟨s,hs,hc⟩:=hx
 rcases List.mem_cons.1 hs with rfl | hs
 ·exact hc
 exact absurd hc ((List.pairwise_cons.1 h.2).1 s hs).2.1
theorem lo_half {f g:Sp} {F G:List Sp} (hf:Sep (f :: F)) (hg:Sep (g :: G)) (h:∀ x,cov (f :: F) x→cov (g :: G) x):(f.1 = []→g.1 = [])∧(f.1≠[]→zc8 g.1 f.1):=by
 constructor
 ·intro e
  exact cov_bot hg (h none ⟨f,by simp,e⟩)
 intro e
 refine cov_lo hg (h _ ⟨f,by simp,.inr (le_refl _),?_⟩)
 rcases (zaq.1 (hf.1 f (by simp))).2.2 with k | k | k
 ·exact absurd k e
 ·exact .inl k
 exact .inr k
theorem lo_eq {f g:Sp} {F G:List Sp} (hf:Sep (f :: F)) (hg:Sep (g :: G)) (h:∀ x,cov (f :: F) x↔cov (g :: G) x):f.1=g.1:=by
 obtain⟨a1,a2⟩:=lo_half hf hg fun x=>(h x).1
 obtain⟨b1,b2⟩:=lo_half hg hf fun x=>(h x).2
 by_cases e:f.1 = []
 ·rw[e,a1 e]
 have e2:g.1≠[]:=fun k=>e (b1 k)
 rcases a2 e with k | k
 ·exact absurd k e2
 rcases b2 e2 with m | m
 ·exact absurd m e
 exact le_anti (may_lo (hf.1 f (by simp)) e) m k
theorem zjj {f g:Sp} {F G:List Sp} (hg:Sep (g :: G)) (e:f.1=g.1) (h:∀ x,cov (f :: F) x→cov (g :: G) x) (hg2:g.2≠[]):f.2≠[]∧le f.2 g.2:=by
 by_cases hc:f.2 = []∨¬ le f.2 g.2
 ·exfalso
  have hlo:zc8 f.1 g.2:=by
   rw[e]
   rcases (zaq.1 (hg.1 g (by simp))).2.2 with k | k | k
   ·exact .inl k
   ·exact absurd k hg2
   exact .inr k
  obtain⟨s,hs,hk⟩:=h (some (true,g.2)) ⟨f,by simp,hlo,hc⟩
  rcases List.mem_cons.1 hs with rfl | hs
  ·rcases hk.2 with k | k
   ·exact hg2 k
   exact k (le_refl _)
  obtain⟨_,b2,b3⟩:=(List.pairwise_cons.1 hg.2).1 s hs
  rcases hk.1 with k | k
  ·exact b2 k
  exact b3 k
 exact⟨fun k=>hc (.inl k),Classical.not_not.1 fun k=>hc (.inr k)⟩
theorem hi_eq {f g:Sp} {F G:List Sp} (hf:Sep (f :: F)) (hg:Sep (g :: G)) (e:f.1=g.1) (h:∀ x,cov (f :: F) x↔cov (g :: G) x):f.2=g.2:=by
 by_cases e2:g.2 = []
 ·rw[e2]
  refine Classical.not_not.1 fun k=>?_
  exact (zjj hf e.symm (fun x=>(h x).2) k).1 e2
 obtain⟨a1,a2⟩:=zjj hg e (fun x=>(h x).1) e2
 obtain⟨_,b2⟩:=zjj hf e.symm (fun x=>(h x).2) a1
 exact le_anti (may_hi (hf.1 f (by simp)) a1) a2 b2
theorem zkh {f:Sp} {F:List Sp} (h:Sep (f :: F)) (x:Pt):cov F x↔cov (f :: F) x∧¬ covS f x:=by
 constructor
 ·rintro⟨s,hs,hc⟩
  exact⟨⟨s,by simp[hs],hc⟩,fun k=>bef_apart ((List.pairwise_cons.1 h.2).1 s hs) x k hc⟩
 rintro⟨⟨s,hs,hc⟩,hn⟩
 rcases List.mem_cons.1 hs with rfl | hs
 ·exact absurd hc hn
 exact⟨s,hs,hc⟩
theorem Sep.tail {f:Sp} {F:List Sp} (h:Sep (f :: F)):Sep F:=⟨fun s hs=>h.1 s (by simp[hs]),(List.pairwise_cons.1 h.2).2⟩
theorem sep_one:∀ (F G:List Sp),Sep F→Sep G→(∀ x,cov F x↔cov G x)→F=G
 | [],[],_,_,_=>rfl
 | [],g :: G,_,hg,h=>by
  obtain⟨x,hx⟩:=zki (hg.1 g (by simp))
  obtain⟨s,hs,_⟩:=(h x).2 ⟨g,by simp,hx⟩
  simp at hs
 | f :: F,[],hf,_,h=>by
  obtain⟨x,hx⟩:=zki (hf.1 f (by simp))
  obtain⟨s,hs,_⟩:=(h x).1 ⟨f,by simp,hx⟩
  simp at hs
 | f :: F,g :: G,hf,hg,h=>by
  have e1:=lo_eq hf hg h
  have e2:=hi_eq hf hg e1 h
  obtain rfl:f=g:=Prod.ext e1 e2
  rw[sep_one F G hf.tail hg.tail fun x=>by rw[zkh hf,zkh hg,h x]]
def okb (lo hi:List UInt8):Prop:=lo = []∨hi = []∨le lo hi
theorem okb_bef {a b:Sp}:okb b.1 a.2↔¬ bef a b:=by
 unfold okb bef
 constructor
 ·rintro (h | h | h) ⟨h1,h2,h3⟩
  ·exact h2 h
  ·exact h1 h
  exact h3 h
 intro h
 by_cases h2:b.1 = []
 ·exact .inl h2
 by_cases h1:a.2 = []
 ·exact .inr (.inl h1)
 exact .inr (.inr (Classical.not_not.1 fun k=>h ⟨h1,h2,k⟩))
theorem zds {lo h k:List UInt8}:okb lo (zaz h k)↔okb lo h∧okb lo k:=by
 by_cases e:lo = []
 ·unfold okb;simp[e]
 have hh:∀ x,okb lo x↔ze2 x lo:=fun x=>⟨fun h=>h.resolve_left e,fun h=>.inr h⟩
 rw[hh,hh,hh]
 exact zhj
theorem zhv {x y hi:List UInt8}:okb (zbr x y) hi↔okb x hi∧okb y hi:=by
 by_cases e:hi = []
 ·unfold okb;simp[e]
 have hh:∀ x,okb x hi↔zc8 x hi:=fun x=>⟨fun h=>h.elim .inl fun h=>.inr (h.resolve_left e),fun h=>h.elim .inl fun h=>.inr (.inr h)⟩
 rw[hh,hh,hh]
 exact zjd
theorem zja {s:Sp} (h:mayS s=true):okb s.1 s.2:=(zaq.1 h).2.2
theorem zfe {a b:Sp} (ha:mayS a=true) (hb:mayS b=true):zb8 a b=true↔¬ bef a b∧¬ bef b a:=by
 unfold zb8
 rw[ha,hb,Bool.true_and,Bool.true_and,zaq]
 obtain⟨h1,h2⟩:=zj8 ha hb
 rw[← okb_bef,← okb_bef]
 constructor
 ·rintro⟨_,_,h⟩
  have h:okb (zbr a.1 b.1) (zaz a.2 b.2):=h
  rw[zhv,zds,zds] at h
  exact⟨h.2.1,h.1.2⟩
 rintro⟨k1,k2⟩
 refine⟨h1,h2,?_⟩
 show okb (zbr a.1 b.1) (zaz a.2 b.2)
 rw[zhv,zds,zds]
 exact⟨⟨zja ha,k2⟩,k1,zja hb⟩
theorem sooner_or {a b:List UInt8} (ha:a≠[]) (hb:b≠[]) (p:List UInt8):le (zaz a b) p↔le a p∨le b p:=by
 obtain⟨h1,h2,_⟩:=zei ha hb
 constructor
 ·intro h
  rcases zdc a b with e | e
  ·rw[e] at h;exact .inl h
  rw[e] at h;exact .inr h
 rintro (h | h)
 ·exact le_trans h1 h
 exact le_trans h2 h
theorem later_or {a b:List UInt8} (ha:a≠[]) (hb:b≠[]) (p:List UInt8):le p (zbr a b)↔le p a∨le p b:=by
 obtain⟨h1,h2,_⟩:=zen ha hb
 constructor
 ·intro h
  rcases zd5 a b with e | e
  ·rw[e] at h;exact .inl h
  rw[e] at h;exact .inr h
 rintro (h | h)
 ·exact le_trans h h1
 exact le_trans h h2
theorem later_nle {a b:List UInt8} (ha:a≠[]) (hb:b≠[]) (p:List UInt8):¬ le (zbr a b) p↔¬ le a p∨¬ le b p:=by
 obtain⟨h1,h2,_⟩:=zen ha hb
 constructor
 ·intro h
  rcases zd5 a b with e | e
  ·rw[e] at h;exact .inl h
  rw[e] at h;exact .inr h
 rintro (h | h) k
 ·exact h (le_trans h1 k)
 exact h (le_trans h2 k)
theorem zcy {a b:Sp} (ha:mayS a=true) (hb:mayS b=true):zc9 a b=(if a.1≠[]∧b.1≠[] then zaz a.1 b.1 else [],if a.2≠[]∧b.2≠[] then zbr a.2 b.2 else []):=by
 unfold zc9;rw[if_pos ⟨ha,hb⟩]
theorem zgl {a b:Sp} (ha:mayS a=true) (hb:mayS b=true) (p:List UInt8):zc8 (zc9 a b).1 p↔zc8 a.1 p∨zc8 b.1 p:=by
 rw[zcy ha hb]
 by_cases h:a.1≠[]∧b.1≠[]
 ·have e:=sooner_or h.1 h.2 p
  have n:=(zei h.1 h.2).2.2
  simp only[if_pos h]
  unfold zc8
  simp only[h.1,h.2,n,false_or,e]
 simp only[if_neg h]
 refine⟨fun _=>?_,fun _=>.inl rfl⟩
 by_cases h1:a.1 = []
 ·exact .inl (.inl h1)
 by_cases h2:b.1 = []
 ·exact .inr (.inl h2)
 exact absurd ⟨h1,h2⟩ h
theorem join_nil {a b:Sp} (ha:mayS a=true) (hb:mayS b=true):(zc9 a b).1 = []↔a.1 = []∨b.1 = []:=by
 rw[zcy ha hb]
 by_cases h:a.1≠[]∧b.1≠[]
 ·have n:=(zei h.1 h.2).2.2
  simp only[if_pos h,n,h.1,h.2,or_self]
 simp only[if_neg h,true_iff]
 by_cases h1:a.1 = []
 ·exact .inl h1
 by_cases h2:b.1 = []
 ·exact .inr h2
 exact absurd ⟨h1,h2⟩ h
theorem zlh {a b:Sp} (ha:mayS a=true) (hb:mayS b=true) (p:List UInt8):ze2 (zc9 a b).2 p↔ze2 a.2 p∨ze2 b.2 p:=by
 rw[zcy ha hb]
 by_cases h:a.2≠[]∧b.2≠[]
 ·have e:=later_or h.1 h.2 p
  have n:=(zen h.1 h.2).2.2
  simp only[if_pos h]
  unfold ze2
  simp only[h.1,h.2,n,false_or,e]
 simp only[if_neg h]
 refine⟨fun _=>?_,fun _=>.inl rfl⟩
 by_cases h1:a.2 = []
 ·exact .inl (.inl h1)
 by_cases h2:b.2 = []
 ·exact .inr (.inl h2)
 exact absurd ⟨h1,h2⟩ h
theorem join_gap {a b:Sp} (ha:mayS a=true) (hb:mayS b=true) (p:List UInt8):((zc9 a b).2 = []∨¬ le (zc9 a b).2 p)↔(a.2 = []∨¬ le a.2 p)∨(b.2 = []∨¬ le b.2 p):=by
 rw[zcy ha hb]
 by_cases h:a.2≠[]∧b.2≠[]
 ·have e:=later_nle h.1 h.2 p
  have n:=(zen h.1 h.2).2.2
  simp only[if_pos h,h.1,h.2,n,false_or,e]
 simp only[if_neg h,true_or,true_iff]
 by_cases h1:a.2 = []
 ·exact .inl (.inl h1)
 by_cases h2:b.2 = []
 ·exact .inr (.inl h2)
 exact absurd ⟨h1,h2⟩ h
theorem cross {a b:Sp} (h:¬ bef a b) {p:List UInt8} (hlo:zc8 a.1 p) (hhi:ze2 b.2 p):ze2 a.2 p∨zc8 b.1 p:=by
 by_cases h1:ze2 a.2 p
 ·exact .inl h1
 by_cases h2:zc8 b.1 p
 ·exact .inr h2
 exfalso
 have a1:a.2≠[]:=fun e=>h1 (.inl e)
 have b1:b.1≠[]:=fun e=>h2 (.inl e)
 have a2:¬ le p a.2:=fun e=>h1 (.inr e)
 have b2:¬ le b.1 p:=fun e=>h2 (.inr e)
 exact h ⟨a1,b1,fun k=>b2 (le_trans k (zfu a2))⟩
theorem zi9 {a b:Sp} (h:¬ bef a b) {p:List UInt8} (hlo:zc8 a.1 p) (hhi:b.2 = []∨¬ le b.2 p):(a.2 = []∨¬ le a.2 p)∨zc8 b.1 p:=by
 by_cases h1:a.2 = []∨¬ le a.2 p
 ·exact .inl h1
 by_cases h2:zc8 b.1 p
 ·exact .inr h2
 exfalso
 have a1:a.2≠[]:=fun e=>h1 (.inl e)
 have b1:b.1≠[]:=fun e=>h2 (.inl e)
 have a2:le a.2 p:=Classical.not_not.1 fun e=>h1 (.inr e)
 have b2:¬ le b.1 p:=fun e=>h2 (.inr e)
 exact h ⟨a1,b1,fun k=>b2 (le_trans k a2)⟩
theorem zka {a b:Sp} (ha:mayS a=true) (hb:mayS b=true) (hm:zb8 a b=true) (x:Pt):covS (zc9 a b) x↔covS a x∨covS b x:=by
 obtain⟨h1,h2⟩:=(zfe ha hb).1 hm
 match x with
 | none=>exact join_nil ha hb
 | some (false,p) =>
  show zc8 _ p∧ze2 _ p↔(zc8 _ p∧ze2 _ p)∨(zc8 _ p∧ze2 _ p)
  rw[zgl ha hb,zlh ha hb]
  constructor
  ·rintro⟨l | l,u | u⟩
   ·exact .inl ⟨l,u⟩
   ·rcases cross h1 l u with k | k
    ·exact .inl ⟨l,k⟩
    exact .inr ⟨k,u⟩
   ·rcases cross h2 l u with k | k
    ·exact .inr ⟨l,k⟩
    exact .inl ⟨k,u⟩
   exact .inr ⟨l,u⟩
  rintro (⟨l,u⟩ | ⟨l,u⟩)
  ·exact⟨.inl l,.inl u⟩
  exact⟨.inr l,.inr u⟩
 | some (true,p) =>
  show zc8 _ p∧(_∨_)↔(zc8 _ p∧(_∨_))∨(zc8 _ p∧(_∨_))
  rw[zgl ha hb,join_gap ha hb]
  constructor
  ·rintro⟨l | l,u | u⟩
   ·exact .inl ⟨l,u⟩
   ·rcases zi9 h1 l u with k | k
    ·exact .inl ⟨l,k⟩
    exact .inr ⟨k,u⟩
   ·rcases zi9 h2 l u with k | k
    ·exact .inr ⟨l,k⟩
    exact .inl ⟨k,u⟩
   exact .inr ⟨l,u⟩
  rintro (⟨l,u⟩ | ⟨l,u⟩)
  ·exact⟨.inl l,.inl u⟩
  exact⟨.inr l,.inr u⟩
def ltLo (a b:List UInt8):Bool:=decide (b≠[]) && (decide (a = []) || decide (zao a b < 0))
def loLe (a b:List UInt8):Prop:=a = []∨(b≠[]∧le a b)
theorem zjc {a b:List UInt8}:ltLo b a=false↔loLe a b:=by
 have h:¬ zao b a < 0↔le a b:=by
  have:=zb4.neg a b
  unfold le;omega
 unfold ltLo loLe
 simp only[Bool.and_eq_false_iff,Bool.or_eq_false_iff,decide_eq_false_iff_not,ne_eq,Decidable.not_not,h]
def addS (out:List Sp) (x:Sp):List Sp:=match out.getLast? with
 | some z=>if zb8 z x=true then out.dropLast ++ [zc9 z x] else out ++ [x]
 | none=>[x]
def zk6 (l:List Sp):List Sp:=l.foldl addS []
theorem addS_nil (x:Sp):addS [] x = [x]:=rfl
theorem zig (O:List Sp) (z x:Sp):addS (O ++ [z]) x=if zb8 z x=true then O ++ [zc9 z x] else O ++ [z,x]:=by
 unfold addS
 simp
theorem zlj {z x:Sp} (hz:mayS z=true) (hx:mayS x=true) (h:loLe z.1 x.1):(zc9 z x).1=z.1:=by
 rw[zcy hz hx]
 by_cases h1:z.1≠[]∧x.1≠[]
 ·simp only[if_pos h1]
  unfold zaz
  rcases h with h | h
  ·exact absurd h h1.1
  rw[if_neg]
  rintro (k | k)
  ·exact h1.1 k
  exact (zdl.1 k).2.2 h.2
 simp only[if_neg h1]
 rcases h with h | h
 ·exact h.symm
 by_cases e:z.1 = []
 ·exact e.symm
 exact absurd ⟨e,h.1⟩ h1
theorem zkn {z x:Sp} (hz:mayS z=true) (hx:mayS x=true) (h:loLe z.1 x.1) (hm:zb8 z x=false):bef z x:=by
 refine Classical.not_not.1 fun hn=>?_
 have:¬ (¬ bef z x∧¬ bef x z):=fun k=>by rw[(zfe hz hx).2 k] at hm;cases hm
 refine this ⟨hn,?_⟩
 rintro⟨b1,b2,b3⟩
 rcases h with h | ⟨h1,h⟩
 ·exact b2 h
 rcases zja hx with k | k | k
 ·exact h1 k
 ·exact b1 k
 exact b3 (le_trans h k)
theorem bef_lo {o z x:Sp} (h:bef o z) (hl:loLe z.1 x.1):bef o x:=by
 obtain⟨h1,h2,h3⟩:=h
 rcases hl with k | ⟨k1,k⟩
 ·exact absurd k h2
 exact⟨h1,k1,fun m=>h3 (le_trans k m)⟩
def Lo (a b:Sp):Prop:=loLe a.1 b.1
theorem add_sep {O:List Sp} {x:Sp} {r:List Sp} (ho:Sep O) (hx:mayS x=true) (hl:∀ z,O.getLast? = some z→∀ y∈x :: r,Lo z y) (hr:(x :: r).Pairwise Lo) :
  Sep (addS O x)∧(∀ z,(addS O x).getLast? = some z→∀ y∈r,Lo z y)∧∀ p,cov (addS O x) p↔cov O p∨covS x p:=by
 rcases List.eq_nil_or_concat O with rfl | ⟨Q,z,rfl⟩
 ·rw[addS_nil]
  refine⟨⟨fun s hs=>by rw[List.mem_singleton.1 hs];exact hx,by simp⟩,fun z hz y hy=>?_,fun p=>?_⟩
  ·simp at hz;subst hz
   exact (List.pairwise_cons.1 hr).1 y hy
  unfold cov;simp
 rw[List.concat_eq_append] at *
 rw[zig]
 have hzx:Lo z x:=hl z (by simp) x (by simp)
 have hzm:mayS z=true:=ho.1 z (by simp)
 obtain⟨p1,p2,p3⟩:=List.pairwise_append.1 ho.2
 cases hm:zb8 z x with
 | true =>
  rw[if_pos rfl]
  have hj:=zlj hzm hx hzx
  refine⟨⟨fun s hs=>?_,?_⟩,fun s hs y hy=>?_,fun p=>?_⟩
  ·rcases List.mem_append.1 hs with h | h
   ·exact ho.1 s (by simp[h])
   rw[List.mem_singleton.1 h];exact zk9 hzm hx
  ·refine List.pairwise_append.2 ⟨p1,by simp,fun o hO s hs=>?_⟩
   rw[List.mem_singleton.1 hs]
   obtain⟨b1,b2,b3⟩:=p3 o hO z (by simp)
   exact⟨b1,by rw[hj];exact b2,by rw[hj];exact b3⟩
  ·simp at hs;subst hs
   show loLe _ _
   rw[hj]
   exact hl z (by simp) y (by simp[hy])
  have hc:=zka hzm hx hm p
  unfold cov
  simp only[List.mem_append,List.mem_singleton,or_and_right,exists_or,exists_eq_left,hc,or_assoc]
 | false =>
  rw[if_neg (by simp)]
  have hb:=zkn hzm hx hzx hm
  refine⟨⟨fun s hs=>?_,?_⟩,fun s hs y hy=>?_,fun p=>?_⟩
  ·rcases List.mem_append.1 hs with h | h
   ·exact ho.1 s (by simp[h])
   rcases List.mem_cons.1 h with rfl | h
   ·exact hzm
   rw[List.mem_singleton.1 h];exact hx
  ·refine List.pairwise_append.2 ⟨p1,by simpa using hb,fun o hO s hs=>?_⟩
   have b:=p3 o hO z (by simp)
   rcases List.mem_cons.1 hs with rfl | h
   ·exact b
   rw[List.mem_singleton.1 h];exact bef_lo b hzx
  ·simp at hs;subst hs
   exact (List.pairwise_cons.1 hr).1 y hy
  unfold cov
  simp only[List.mem_append,List.mem_singleton,List.mem_cons,List.not_mem_nil,or_false,or_and_right,exists_or,exists_eq_left,or_assoc]
theorem zkd:∀ (r O:List Sp),Sep O→(∀ s∈r,mayS s=true)→(∀ z,O.getLast? = some z→∀ y∈r,Lo z y)→r.Pairwise Lo→Sep (r.foldl addS O)∧∀ p,cov (r.foldl addS O) p↔cov O p∨cov r p
 | [],O,ho,_,_,_=>⟨ho,fun p=>by simp[cov]⟩
 | x :: r,O,ho,hm,hl,hr=>by
  obtain⟨h1,h2,h3⟩:=add_sep ho (hm x (by simp)) hl hr
  obtain⟨k1,k2⟩:=zkd r (addS O x) h1 (fun s hs=>hm s (by simp[hs])) h2 (List.pairwise_cons.1 hr).2
  refine⟨k1,fun p=>?_⟩
  rw[List.foldl_cons,k2 p,h3 p]
  unfold cov
  simp only[List.mem_cons,or_and_right,exists_or,exists_eq_left,or_assoc]
theorem merge_sep {r:List Sp} (hm:∀ s∈r,mayS s=true) (hr:r.Pairwise Lo):Sep (zk6 r)∧∀ p,cov (zk6 r) p↔cov r p:=by
 obtain⟨h1,h2⟩:=zkd r [] ⟨fun s hs=>by simp at hs,List.Pairwise.nil⟩ hm (fun z hz=>by simp at hz) hr
 exact⟨h1,fun p=>by rw[zk6,h2 p];simp[cov]⟩
theorem sep_of {r:List Sp} (hm:∀ s∈r,mayS s=true) (hr:r.Pairwise Lo) (hn:r.Pairwise fun a b=>zb8 a b=false):Sep r:=by
 refine⟨hm,?_⟩
 refine (List.pairwise_and_iff.2 ⟨hr,hn⟩).imp_of_mem ?_
 intro a b ha hb h
 exact zkn (hm a ha) (hm b hb) h.1 h.2
theorem zhh {a b:List Sp} (h:a.Perm b) (p:Pt):cov a p↔cov b p:=by
 unfold cov
 simp only[h.mem_iff]
end VerN

section
open Go.RowKit
theorem zgx {α:Type} {R:Rd α} {w:World} {B:Nat} {e:TypeId} {v:Value} {vs:List Value} {l:List α} (hlen:vs.length=l.length) (h:w.ownsRow B e 1 v l.length vs) (hr:∀ (i:Nat) u x,vs[i]? = some u→l[i]? = some x→R w [u] x):zg7 1 R w [v] l:=by
 obtain⟨a,cap,rfl,h1,h2,h3⟩:=Sl.of_owns h
 refine⟨a,cap,rfl,h1,h2,fun i f hi=>?_⟩
 have hil:=(List.getElem?_eq_some_iff.1 hi).1
 have hiv:i < vs.length:=by omega
 obtain⟨b,off,ha,hc⟩:=h3 i vs[i] (List.getElem?_eq_getElem hiv)
 refine⟨b,off,[vs[i]],ha,rfl,fun j u hu=>?_,hr i _ f (List.getElem?_eq_getElem hiv) hi⟩
 have hj:j=0:=by have:=(List.getElem?_eq_some_iff.1 hu).1;simp at this;omega
 subst hj
 simp at hu
 subst hu
 simpa using hc
end
end Go.Proofs.YteailgjiifdgcaaGreatDoor
