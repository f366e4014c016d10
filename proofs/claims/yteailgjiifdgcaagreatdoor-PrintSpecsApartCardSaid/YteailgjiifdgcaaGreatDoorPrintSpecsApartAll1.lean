/- Walks and plain facts. Texts merged: Shelf, Kit, Mem, Txt, Door, DoorRow. Condition: none beyond what each says. -/
import Derived.Shelf.Strings.Builder1
import Derived.Shelf.Strings.Builder2
import Derived.Shelf.Strings.OnBuilder
import Derived.Shelf.Small.Wraps
import Derived.Shelf.Strconv.Atoi
import Derived.Shelf.Strconv.Itoa0
import Derived.Shelf.Strconv.Itoa1
import Derived.Shelf.LaysM
import Derived.Shelf.Strconv.Itoa2
import Derived.Shelf.Strconv.Itoa3
import Derived.Shelf.Strconv.AtoiErrFast
import Derived.Shelf.Strconv.ParseIntEmpty
import Derived.Shelf.Strconv.AtoiFail
import Derived.Shelf.Strconv.Clone
import Derived.Shelf.Strconv.SyntaxError
import Derived.Shelf.LaysC
import Derived.Shelf.Strconv.ToError
import Derived.Shelf.Strconv.Lower
import Derived.Shelf.Strconv.ParseUint10
import Derived.Shelf.Strconv.ParseUint10Empty
import Derived.Shelf.Strconv.ParseUint10Any
import Derived.Shelf.Strconv.ParseInt10
import Derived.Shelf.Strconv.AtoiLong
import Derived.Shelf.Strconv.AtoiInnerAll
import Derived.Shelf.Strconv.RangeError
import Derived.Shelf.Strconv.ToErrorRange
import Derived.Shelf.Strconv.AtoiAll
import Derived.Shelf.Strconv.ErrVarAll
import Derived.Shelf.Strings.Search1
import Derived.Shelf.Strings.Search2
import Derived.Shelf.Strings.Search3
import Derived.Shelf.Strings.Cut
import Derived.Shelf.Strings.Shaped
import Derived.Shelf.Strings.Prefix
import Derived.Shelf.Unicode.DecodeSlow
import Derived.Test.YteailgjiifdgcaaGreatDoorProg
import Derived.WalkKit
import Derived.WalkSpells
import Derived.WalkLawsBesides
import Derived.Lib.Hide
import Derived.BigQuiet
import Derived.Deep.QuietTactic
import Derived.StillTailTactics
import Derived.Deep.RegionLawGrows
import Derived.Laws.StructEq
import Derived.Lib.Strings
import Derived.WalkSmall
import Derived.Sort.Grow
import Derived.Test.YteailgjiifdgcaaGreatDoorCards
import Derived.Test.YteailgjiifdgcaaGreatDoorTie
import Derived.ProofKit
import Derived.OpenShut
import Derived.LaidMore
import Derived.Lay
import Derived.SevenTiedAt
import Derived.Stop.Joined
import Derived.Stop.LaidErr
import Derived.Deep.DeepHandedRow
import Derived.Lib.LaidTab
import Derived.Below
set_option linter.unusedVariables false
set_option linter.unusedSimpArgs false
namespace Go.Proofs.YteailgjiifdgcaaGreatDoor
theorem hd {p : Prop} (h : p) : Go.RowKit.Hid p := h
theorem hd2 {p0 p1 : Prop} (hp0 : p0) (hp1 : p1) : Go.RowKit.Hid p0 ∧ Go.RowKit.Hid p1 := ⟨hp0, hp1⟩
theorem hd3 {p0 p1 p2 : Prop} (hp0 : p0) (hp1 : p1) (hp2 : p2) : Go.RowKit.Hid p0 ∧ Go.RowKit.Hid p1 ∧ Go.RowKit.Hid p2 := ⟨hp0, hp1, hp2⟩
theorem hd4 {p0 p1 p2 p3 : Prop} (hp0 : p0) (hp1 : p1) (hp2 : p2) (hp3 : p3) : Go.RowKit.Hid p0 ∧ Go.RowKit.Hid p1 ∧ Go.RowKit.Hid p2 ∧ Go.RowKit.Hid p3 := ⟨hp0, hp1, hp2, hp3⟩
theorem hd5 {p0 p1 p2 p3 p4 : Prop} (hp0 : p0) (hp1 : p1) (hp2 : p2) (hp3 : p3) (hp4 : p4) : Go.RowKit.Hid p0 ∧ Go.RowKit.Hid p1 ∧ Go.RowKit.Hid p2 ∧ Go.RowKit.Hid p3 ∧ Go.RowKit.Hid p4 := ⟨hp0, hp1, hp2, hp3, hp4⟩
theorem hd6 {p0 p1 p2 p3 p4 p5 : Prop} (hp0 : p0) (hp1 : p1) (hp2 : p2) (hp3 : p3) (hp4 : p4) (hp5 : p5) : Go.RowKit.Hid p0 ∧ Go.RowKit.Hid p1 ∧ Go.RowKit.Hid p2 ∧ Go.RowKit.Hid p3 ∧ Go.RowKit.Hid p4 ∧ Go.RowKit.Hid p5 := ⟨hp0, hp1, hp2, hp3, hp4, hp5⟩
theorem hd7 {p0 p1 p2 p3 p4 p5 p6 : Prop} (hp0 : p0) (hp1 : p1) (hp2 : p2) (hp3 : p3) (hp4 : p4) (hp5 : p5) (hp6 : p6) : Go.RowKit.Hid p0 ∧ Go.RowKit.Hid p1 ∧ Go.RowKit.Hid p2 ∧ Go.RowKit.Hid p3 ∧ Go.RowKit.Hid p4 ∧ Go.RowKit.Hid p5 ∧ Go.RowKit.Hid p6 := ⟨hp0, hp1, hp2, hp3, hp4, hp5, hp6⟩
theorem hd8 {p0 p1 p2 p3 p4 p5 p6 p7 : Prop} (hp0 : p0) (hp1 : p1) (hp2 : p2) (hp3 : p3) (hp4 : p4) (hp5 : p5) (hp6 : p6) (hp7 : p7) : Go.RowKit.Hid p0 ∧ Go.RowKit.Hid p1 ∧ Go.RowKit.Hid p2 ∧ Go.RowKit.Hid p3 ∧ Go.RowKit.Hid p4 ∧ Go.RowKit.Hid p5 ∧ Go.RowKit.Hid p6 ∧ Go.RowKit.Hid p7 := ⟨hp0, hp1, hp2, hp3, hp4, hp5, hp6, hp7⟩
theorem hd9 {p0 p1 p2 p3 p4 p5 p6 p7 p8 : Prop} (hp0 : p0) (hp1 : p1) (hp2 : p2) (hp3 : p3) (hp4 : p4) (hp5 : p5) (hp6 : p6) (hp7 : p7) (hp8 : p8) : Go.RowKit.Hid p0 ∧ Go.RowKit.Hid p1 ∧ Go.RowKit.Hid p2 ∧ Go.RowKit.Hid p3 ∧ Go.RowKit.Hid p4 ∧ Go.RowKit.Hid p5 ∧ Go.RowKit.Hid p6 ∧ Go.RowKit.Hid p7 ∧ Go.RowKit.Hid p8 := ⟨hp0, hp1, hp2, hp3, hp4, hp5, hp6, hp7, hp8⟩
theorem hd10 {p0 p1 p2 p3 p4 p5 p6 p7 p8 p9 : Prop} (hp0 : p0) (hp1 : p1) (hp2 : p2) (hp3 : p3) (hp4 : p4) (hp5 : p5) (hp6 : p6) (hp7 : p7) (hp8 : p8) (hp9 : p9) : Go.RowKit.Hid p0 ∧ Go.RowKit.Hid p1 ∧ Go.RowKit.Hid p2 ∧ Go.RowKit.Hid p3 ∧ Go.RowKit.Hid p4 ∧ Go.RowKit.Hid p5 ∧ Go.RowKit.Hid p6 ∧ Go.RowKit.Hid p7 ∧ Go.RowKit.Hid p8 ∧ Go.RowKit.Hid p9 := ⟨hp0, hp1, hp2, hp3, hp4, hp5, hp6, hp7, hp8, hp9⟩
theorem hd11 {p0 p1 p2 p3 p4 p5 p6 p7 p8 p9 p10 : Prop} (hp0 : p0) (hp1 : p1) (hp2 : p2) (hp3 : p3) (hp4 : p4) (hp5 : p5) (hp6 : p6) (hp7 : p7) (hp8 : p8) (hp9 : p9) (hp10 : p10) : Go.RowKit.Hid p0 ∧ Go.RowKit.Hid p1 ∧ Go.RowKit.Hid p2 ∧ Go.RowKit.Hid p3 ∧ Go.RowKit.Hid p4 ∧ Go.RowKit.Hid p5 ∧ Go.RowKit.Hid p6 ∧ Go.RowKit.Hid p7 ∧ Go.RowKit.Hid p8 ∧ Go.RowKit.Hid p9 ∧ Go.RowKit.Hid p10 := ⟨hp0, hp1, hp2, hp3, hp4, hp5, hp6, hp7, hp8, hp9, hp10⟩
theorem hd12 {p0 p1 p2 p3 p4 p5 p6 p7 p8 p9 p10 p11 : Prop} (hp0 : p0) (hp1 : p1) (hp2 : p2) (hp3 : p3) (hp4 : p4) (hp5 : p5) (hp6 : p6) (hp7 : p7) (hp8 : p8) (hp9 : p9) (hp10 : p10) (hp11 : p11) : Go.RowKit.Hid p0 ∧ Go.RowKit.Hid p1 ∧ Go.RowKit.Hid p2 ∧ Go.RowKit.Hid p3 ∧ Go.RowKit.Hid p4 ∧ Go.RowKit.Hid p5 ∧ Go.RowKit.Hid p6 ∧ Go.RowKit.Hid p7 ∧ Go.RowKit.Hid p8 ∧ Go.RowKit.Hid p9 ∧ Go.RowKit.Hid p10 ∧ Go.RowKit.Hid p11 := ⟨hp0, hp1, hp2, hp3, hp4, hp5, hp6, hp7, hp8, hp9, hp10, hp11⟩
theorem hd13 {p0 p1 p2 p3 p4 p5 p6 p7 p8 p9 p10 p11 p12 : Prop} (hp0 : p0) (hp1 : p1) (hp2 : p2) (hp3 : p3) (hp4 : p4) (hp5 : p5) (hp6 : p6) (hp7 : p7) (hp8 : p8) (hp9 : p9) (hp10 : p10) (hp11 : p11) (hp12 : p12) : Go.RowKit.Hid p0 ∧ Go.RowKit.Hid p1 ∧ Go.RowKit.Hid p2 ∧ Go.RowKit.Hid p3 ∧ Go.RowKit.Hid p4 ∧ Go.RowKit.Hid p5 ∧ Go.RowKit.Hid p6 ∧ Go.RowKit.Hid p7 ∧ Go.RowKit.Hid p8 ∧ Go.RowKit.Hid p9 ∧ Go.RowKit.Hid p10 ∧ Go.RowKit.Hid p11 ∧ Go.RowKit.Hid p12 := ⟨hp0, hp1, hp2, hp3, hp4, hp5, hp6, hp7, hp8, hp9, hp10, hp11, hp12⟩
theorem hd14 {p0 p1 p2 p3 p4 p5 p6 p7 p8 p9 p10 p11 p12 p13 : Prop} (hp0 : p0) (hp1 : p1) (hp2 : p2) (hp3 : p3) (hp4 : p4) (hp5 : p5) (hp6 : p6) (hp7 : p7) (hp8 : p8) (hp9 : p9) (hp10 : p10) (hp11 : p11) (hp12 : p12) (hp13 : p13) : Go.RowKit.Hid p0 ∧ Go.RowKit.Hid p1 ∧ Go.RowKit.Hid p2 ∧ Go.RowKit.Hid p3 ∧ Go.RowKit.Hid p4 ∧ Go.RowKit.Hid p5 ∧ Go.RowKit.Hid p6 ∧ Go.RowKit.Hid p7 ∧ Go.RowKit.Hid p8 ∧ Go.RowKit.Hid p9 ∧ Go.RowKit.Hid p10 ∧ Go.RowKit.Hid p11 ∧ Go.RowKit.Hid p12 ∧ Go.RowKit.Hid p13 := ⟨hp0, hp1, hp2, hp3, hp4, hp5, hp6, hp7, hp8, hp9, hp10, hp11, hp12, hp13⟩
theorem hd15 {p0 p1 p2 p3 p4 p5 p6 p7 p8 p9 p10 p11 p12 p13 p14 : Prop} (hp0 : p0) (hp1 : p1) (hp2 : p2) (hp3 : p3) (hp4 : p4) (hp5 : p5) (hp6 : p6) (hp7 : p7) (hp8 : p8) (hp9 : p9) (hp10 : p10) (hp11 : p11) (hp12 : p12) (hp13 : p13) (hp14 : p14) : Go.RowKit.Hid p0 ∧ Go.RowKit.Hid p1 ∧ Go.RowKit.Hid p2 ∧ Go.RowKit.Hid p3 ∧ Go.RowKit.Hid p4 ∧ Go.RowKit.Hid p5 ∧ Go.RowKit.Hid p6 ∧ Go.RowKit.Hid p7 ∧ Go.RowKit.Hid p8 ∧ Go.RowKit.Hid p9 ∧ Go.RowKit.Hid p10 ∧ Go.RowKit.Hid p11 ∧ Go.RowKit.Hid p12 ∧ Go.RowKit.Hid p13 ∧ Go.RowKit.Hid p14 := ⟨hp0, hp1, hp2, hp3, hp4, hp5, hp6, hp7, hp8, hp9, hp10, hp11, hp12, hp13, hp14⟩
theorem hd16 {p0 p1 p2 p3 p4 p5 p6 p7 p8 p9 p10 p11 p12 p13 p14 p15 : Prop} (hp0 : p0) (hp1 : p1) (hp2 : p2) (hp3 : p3) (hp4 : p4) (hp5 : p5) (hp6 : p6) (hp7 : p7) (hp8 : p8) (hp9 : p9) (hp10 : p10) (hp11 : p11) (hp12 : p12) (hp13 : p13) (hp14 : p14) (hp15 : p15) : Go.RowKit.Hid p0 ∧ Go.RowKit.Hid p1 ∧ Go.RowKit.Hid p2 ∧ Go.RowKit.Hid p3 ∧ Go.RowKit.Hid p4 ∧ Go.RowKit.Hid p5 ∧ Go.RowKit.Hid p6 ∧ Go.RowKit.Hid p7 ∧ Go.RowKit.Hid p8 ∧ Go.RowKit.Hid p9 ∧ Go.RowKit.Hid p10 ∧ Go.RowKit.Hid p11 ∧ Go.RowKit.Hid p12 ∧ Go.RowKit.Hid p13 ∧ Go.RowKit.Hid p14 ∧ Go.RowKit.Hid p15 := ⟨hp0, hp1, hp2, hp3, hp4, hp5, hp6, hp7, hp8, hp9, hp10, hp11, hp12, hp13, hp14, hp15⟩
end Go.Proofs.YteailgjiifdgcaaGreatDoor
/- Contracts of the library at this translation, out of the kit's shelf (laid in plain words by the kit's own tools). Conditions: as each states. -/
namespace Go.Proofs
open Go.Shelf
def Tryz.lays156_ren : Go.Shelf.Ren := ⟨fun | 156 => 58 | 165 => 115 | 166 => 94 | 169 => 95 | 240 => 160 | 241 => 172 | 276 => 191 | 277 => 205 | n => n, fun | 31 => 88 | 9 => 9 | 3 => 3 | 4 => 4 | 0 => 0 | 20 => 20 | 72 => 144 | 76 => 147 | 70 => 141 | 37 => 142 | 75 => 146 | 127 => 213 | 164 => 232 | 5 => 5 | 80 => 149 | n => n, fun | n => n⟩
theorem Tryz.lays156 : Go.Proofs.Lays.n156 Tryz.prog Tryz.lays156_ren := {
 mixed := by kernel_rfl
 f156 := Tryz.func58.trans (congrArg some (by kernel_rfl))
 f165 := Tryz.func115.trans (congrArg some (by kernel_rfl))
 f166 := Tryz.func94.trans (congrArg some (by kernel_rfl))
 f169 := Tryz.func95.trans (congrArg some (by kernel_rfl))
 f240 := Tryz.func160.trans (congrArg some (by kernel_rfl))
 f241 := Tryz.func172.trans (congrArg some (by kernel_rfl))
 f276 := Tryz.func191.trans (congrArg some (by kernel_rfl))
 f277 := Tryz.func205.trans (congrArg some (by kernel_rfl))
 t0 := Tryz.underlying0
 a0 := Tryz.isAgg0
 z0 := Tryz.sizeOf0
 v0 := Tryz.zeroValue0
 t3 := Tryz.underlying3
 a3 := Tryz.isAgg3
 z3 := Tryz.sizeOf3
 v3 := Tryz.zeroValue3
 t4 := Tryz.underlying4
 a4 := Tryz.isAgg4
 z4 := Tryz.sizeOf4
 v4 := Tryz.zeroValue4
 t9 := Tryz.underlying9
 a9 := Tryz.isAgg9
 z9 := Tryz.sizeOf9
 v9 := Tryz.zeroValue9
 t20 := Tryz.underlying20
 a20 := Tryz.isAgg20
 z20 := Tryz.sizeOf20
 v20 := Tryz.zeroValue20
 t31 := Tryz.underlying88
 a31 := Tryz.isAgg88
 z31 := Tryz.sizeOf88
 v31 := Tryz.zeroValue88
 t37 := Tryz.underlying142
 a37 := Tryz.isAgg142
 z37 := Tryz.sizeOf142
 v37 := Tryz.zeroValue142
 t70 := Tryz.underlying141
 a70 := Tryz.isAgg141
 z70 := Tryz.sizeOf141
 v70 := Tryz.zeroValue141
 t72 := Tryz.underlying144
 a72 := Tryz.isAgg144
 z72 := Tryz.sizeOf144
 v72 := Tryz.zeroValue144
 t75 := Tryz.underlying146
 a75 := Tryz.isAgg146
 z75 := Tryz.sizeOf146
 v75 := Tryz.zeroValue146
 t76 := Tryz.underlying147
 a76 := Tryz.isAgg147
 z76 := Tryz.sizeOf147
 v76 := Tryz.zeroValue147
 t127 := Tryz.underlying213
 a127 := Tryz.isAgg213
 z127 := Tryz.sizeOf213
 v127 := Tryz.zeroValue213
 t164 := Tryz.underlying232
 a164 := Tryz.isAgg232
 z164 := Tryz.sizeOf232
 v164 := Tryz.zeroValue232 }
theorem Tryz.Builder_Extra_156 : Builder.Extra Tryz.prog Tryz.lays156_ren := {
 sizeBuilder := by kernel_rfl
 liesBuilder := by kernel_rfl
 t5 := Tryz.underlying5
 a5 := Tryz.isAgg5
 z5 := Tryz.sizeOf5
 v5 := Tryz.zeroValue5
 infoByte := by kernel_rfl
 cellsByte := by kernel_rfl
 sizeByte := by kernel_rfl
 neB5 := by decide }
open Go.RowKit in
theorem Tryz.strings_Join (bk o c : Nat) (xs : List ByteArray) (sep : ByteArray) (w : World) (hcells : ∀ (j : Nat) x, xs[j]? = some x → w.cell? ⟨bk, o + j, none⟩ = some (.string x)) (hbk : bk < w.heap.size) (hN : xs.length ≤ 140737488355328) (hcap : xs.length ≤ c) (hlen : (Lib.join (xs.map (·.data.toList)) sep.data.toList).length ≤ 140737488355328) :
  Calls Tryz.prog 58 #[.slice (some ⟨bk, o, none⟩) xs.length c, .string sep] w fun e w' => e = .returned (.string ⟨(Lib.join (xs.map (·.data.toList)) sep.data.toList).toArray⟩) ∧ Below w.heap.size w w' := Any.strings_Join Tryz.lays156 Tryz.Builder_Extra_156 bk o c xs sep w hcells hbk hN hcap hlen
def Tryz.lays103_ren : Go.Shelf.Ren := ⟨fun | 103 => 181 | 210 => 207 | 206 => 221 | n => n, fun | 9 => 9 | 4 => 4 | 24 => 53 | 3 => 3 | n => n, fun | n => n⟩
theorem Tryz.lays103 : Go.Proofs.Lays.n103 Tryz.prog Tryz.lays103_ren := {
 mixed := by kernel_rfl
 f103 := Tryz.func181.trans (congrArg some (by kernel_rfl))
 f206 := Tryz.func221.trans (congrArg some (by kernel_rfl))
 f210 := Tryz.func207.trans (congrArg some (by kernel_rfl))
 t3 := Tryz.underlying3
 a3 := Tryz.isAgg3
 z3 := Tryz.sizeOf3
 v3 := Tryz.zeroValue3
 t4 := Tryz.underlying4
 a4 := Tryz.isAgg4
 z4 := Tryz.sizeOf4
 v4 := Tryz.zeroValue4
 t9 := Tryz.underlying9
 a9 := Tryz.isAgg9
 z9 := Tryz.sizeOf9
 v9 := Tryz.zeroValue9
 t24 := Tryz.underlying53
 a24 := Tryz.isAgg53
 z24 := Tryz.sizeOf53
 v24 := Tryz.zeroValue53 }
open Go.RowKit in
theorem Tryz.strings_CutPrefix (s p : ByteArray) (w : World) :
  Calls Tryz.prog 181 #[.string s, .string p] w fun e w' => e = .returned (.tuple #[.string ⟨(Lib.trimPrefix s.data.toList p.data.toList).toArray⟩, .bool (Lib.hasPrefix s.data.toList p.data.toList)]) ∧ w' = w := Any.strings_CutPrefix Tryz.lays103 s p w
def Tryz.laysM171_ren : Go.Shelf.Ren := ⟨fun | 171 => 220 | 243 => 227 | 246 => 233 | 283 => 237 | 284 => 238 | 285 => 239 | 286 => 240 | 129 => 244 | 317 => 243 | 318 => 245 | 319 => 246 | 320 => 247 | 337 => 248 | 338 => 249 | n => n, fun | 3 => 3 | 9 => 9 | 2 => 2 | 4 => 4 | 171 => 275 | 0 => 0 | 53 => 268 | 37 => 142 | 5 => 5 | 173 => 278 | 212 => 285 | 51 => 257 | 20 => 20 | 213 => 286 | 46 => 248 | 232 => 289 | 233 => 290 | n => n, fun | 17 => 5 | 18 => 6 | 19 => 7 | n => n⟩
theorem Tryz.laysM171 : Go.Proofs.LaysM.n171 Tryz.prog Tryz.laysM171_ren := {
 mixed := by kernel_rfl
 f129 := Tryz.func244.trans (congrArg some (by kernel_rfl))
 f171 := Tryz.func220.trans (congrArg some (by kernel_rfl))
 f243 := Tryz.func227.trans (congrArg some (by kernel_rfl))
 f246 := Tryz.func233.trans (congrArg some (by kernel_rfl))
 f283 := Tryz.func237.trans (congrArg some (by kernel_rfl))
 f284 := Tryz.func238.trans (congrArg some (by kernel_rfl))
 f285 := Tryz.func239.trans (congrArg some (by kernel_rfl))
 f286 := Tryz.func240.trans (congrArg some (by kernel_rfl))
 f317 := Tryz.func243.trans (congrArg some (by kernel_rfl))
 f318 := Tryz.func245.trans (congrArg some (by kernel_rfl))
 f319 := Tryz.func246.trans (congrArg some (by kernel_rfl))
 f320 := Tryz.func247.trans (congrArg some (by kernel_rfl))
 f337 := Tryz.func248.trans (congrArg some (by kernel_rfl))
 f338 := Tryz.func249.trans (congrArg some (by kernel_rfl))
 t0 := Tryz.underlying0
 a0 := Tryz.isAgg0
 z0 := Tryz.sizeOf0
 v0 := Tryz.zeroValue0
 t2 := Tryz.underlying2
 a2 := Tryz.isAgg2
 z2 := Tryz.sizeOf2
 v2 := Tryz.zeroValue2
 t3 := Tryz.underlying3
 a3 := Tryz.isAgg3
 z3 := Tryz.sizeOf3
 v3 := Tryz.zeroValue3
 t4 := Tryz.underlying4
 a4 := Tryz.isAgg4
 z4 := Tryz.sizeOf4
 v4 := Tryz.zeroValue4
 t5 := Tryz.underlying5
 a5 := Tryz.isAgg5
 z5 := Tryz.sizeOf5
 v5 := Tryz.zeroValue5
 t9 := Tryz.underlying9
 a9 := Tryz.isAgg9
 z9 := Tryz.sizeOf9
 v9 := Tryz.zeroValue9
 t20 := Tryz.underlying20
 a20 := Tryz.isAgg20
 z20 := Tryz.sizeOf20
 v20 := Tryz.zeroValue20
 t37 := Tryz.underlying142
 a37 := Tryz.isAgg142
 z37 := Tryz.sizeOf142
 v37 := Tryz.zeroValue142
 t46 := Tryz.underlying248
 a46 := Tryz.isAgg248
 z46 := Tryz.sizeOf248
 v46 := Tryz.zeroValue248
 t51 := Tryz.underlying257
 a51 := Tryz.isAgg257
 z51 := Tryz.sizeOf257
 v51 := Tryz.zeroValue257
 t53 := Tryz.underlying268
 a53 := Tryz.isAgg268
 z53 := Tryz.sizeOf268
 v53 := Tryz.zeroValue268
 t171 := Tryz.underlying275
 a171 := Tryz.isAgg275
 z171 := Tryz.sizeOf275
 v171 := Tryz.zeroValue275
 t173 := Tryz.underlying278
 a173 := Tryz.isAgg278
 z173 := Tryz.sizeOf278
 v173 := Tryz.zeroValue278
 t212 := Tryz.underlying285
 a212 := Tryz.isAgg285
 z212 := Tryz.sizeOf285
 v212 := Tryz.zeroValue285
 t213 := Tryz.underlying286
 a213 := Tryz.isAgg286
 z213 := Tryz.sizeOf286
 t232 := Tryz.underlying289
 a232 := Tryz.isAgg289
 z232 := Tryz.sizeOf289
 v232 := Tryz.zeroValue289
 t233 := Tryz.underlying290
 a233 := Tryz.isAgg290
 z233 := Tryz.sizeOf290
 v233 := Tryz.zeroValue290
 g17 := by kernel_rfl
 g18 := by kernel_rfl
 g19 := by kernel_rfl
 i0 := by kernel_rfl
 i2 := by kernel_rfl
 i3 := by kernel_rfl
 i4 := by kernel_rfl
 i5 := by kernel_rfl
 i9 := by kernel_rfl
 i20 := by kernel_rfl
 i37 := by kernel_rfl
 i46 := by kernel_rfl
 i51 := by kernel_rfl
 i53 := by kernel_rfl
 i171 := by kernel_rfl
 i173 := by kernel_rfl
 i212 := by kernel_rfl
 i232 := by kernel_rfl
 i233 := by kernel_rfl
 m17 := by kernel_rfl
 m18 := by kernel_rfl
 m19 := by kernel_rfl }
open Go.RowKit Go.Sort Go.Lib in
theorem Tryz.strconv_Itoa (n : Int) (h0 : -9223372036854775808 ≤ n) (h1 : n ≤ 9223372036854775807) (w : World) (htab : Lib.TabIs Tryz.prog w "internal/strconv.uint64pow10" .u64 Lib.pow10Tab) :
  Calls Tryz.prog 220 #[.int .i64 n] w fun e w' => e = .returned (.string ⟨(Lib.itoa n).toArray⟩) ∧ ∃ k os, w' = grow (w.drewN k) os := Any.strconv_Itoa Tryz.laysM171 n h0 h1 w htab
def Tryz.laysC172_ren : Go.Shelf.Ren := ⟨fun | 172 => 219 | 244 => 225 | 245 => 226 | 247 => 228 | 279 => 229 | 280 => 230 | 281 => 231 | 282 => 232 | 287 => 234 | 316 => 235 | 171 => 220 | 205 => 236 | 321 => 241 | 322 => 242 | 243 => 227 | 246 => 233 | 283 => 237 | 284 => 238 | 285 => 239 | 286 => 240 | 129 => 244 | 317 => 243 | 318 => 245 | 319 => 246 | 320 => 247 | 337 => 248 | 338 => 249 | n => n, fun | 9 => 9 | 3 => 3 | 75 => 146 | 76 => 147 | 4 => 4 | 5 => 5 | 167 => 261 | 37 => 142 | 0 => 0 | 85 => 262 | 2 => 2 | 168 => 264 | 53 => 268 | 175 => 269 | 46 => 248 | 210 => 273 | 127 => 213 | 145 => 283 | 143 => 281 | 21 => 21 | 171 => 275 | 173 => 278 | 212 => 285 | 51 => 257 | 20 => 20 | 213 => 286 | 232 => 289 | 233 => 290 | 80 => 149 | n => n, fun | 15 => 3 | 16 => 4 | 17 => 5 | 18 => 6 | 19 => 7 | n => n⟩
theorem Tryz.laysC172 : Go.Proofs.LaysC.n172 Tryz.prog Tryz.laysC172_ren := {
 mixed := by kernel_rfl
 f129 := Tryz.func244.trans (congrArg some (by kernel_rfl))
 f171 := Tryz.func220.trans (congrArg some (by kernel_rfl))
 f172 := Tryz.func219.trans (congrArg some (by kernel_rfl))
 f205 := Tryz.func236.trans (congrArg some (by kernel_rfl))
 f243 := Tryz.func227.trans (congrArg some (by kernel_rfl))
 f244 := Tryz.func225.trans (congrArg some (by kernel_rfl))
 f245 := Tryz.func226.trans (congrArg some (by kernel_rfl))
 f246 := Tryz.func233.trans (congrArg some (by kernel_rfl))
 f247 := Tryz.func228.trans (congrArg some (by kernel_rfl))
 f279 := Tryz.func229.trans (congrArg some (by kernel_rfl))
 f280 := Tryz.func230.trans (congrArg some (by kernel_rfl))
 f281 := Tryz.func231.trans (congrArg some (by kernel_rfl))
 f282 := Tryz.func232.trans (congrArg some (by kernel_rfl))
 f283 := Tryz.func237.trans (congrArg some (by kernel_rfl))
 f284 := Tryz.func238.trans (congrArg some (by kernel_rfl))
 f285 := Tryz.func239.trans (congrArg some (by kernel_rfl))
 f286 := Tryz.func240.trans (congrArg some (by kernel_rfl))
 f287 := Tryz.func234.trans (congrArg some (by kernel_rfl))
 f316 := Tryz.func235.trans (congrArg some (by kernel_rfl))
 f317 := Tryz.func243.trans (congrArg some (by kernel_rfl))
 f318 := Tryz.func245.trans (congrArg some (by kernel_rfl))
 f319 := Tryz.func246.trans (congrArg some (by kernel_rfl))
 f320 := Tryz.func247.trans (congrArg some (by kernel_rfl))
 f321 := Tryz.func241.trans (congrArg some (by kernel_rfl))
 f322 := Tryz.func242.trans (congrArg some (by kernel_rfl))
 f337 := Tryz.func248.trans (congrArg some (by kernel_rfl))
 f338 := Tryz.func249.trans (congrArg some (by kernel_rfl))
 t0 := Tryz.underlying0
 a0 := Tryz.isAgg0
 z0 := Tryz.sizeOf0
 v0 := Tryz.zeroValue0
 t2 := Tryz.underlying2
 a2 := Tryz.isAgg2
 z2 := Tryz.sizeOf2
 v2 := Tryz.zeroValue2
 t3 := Tryz.underlying3
 a3 := Tryz.isAgg3
 z3 := Tryz.sizeOf3
 v3 := Tryz.zeroValue3
 t4 := Tryz.underlying4
 a4 := Tryz.isAgg4
 z4 := Tryz.sizeOf4
 v4 := Tryz.zeroValue4
 t5 := Tryz.underlying5
 a5 := Tryz.isAgg5
 z5 := Tryz.sizeOf5
 v5 := Tryz.zeroValue5
 t9 := Tryz.underlying9
 a9 := Tryz.isAgg9
 z9 := Tryz.sizeOf9
 v9 := Tryz.zeroValue9
 t20 := Tryz.underlying20
 a20 := Tryz.isAgg20
 z20 := Tryz.sizeOf20
 v20 := Tryz.zeroValue20
 t21 := Tryz.underlying21
 a21 := Tryz.isAgg21
 z21 := Tryz.sizeOf21
 v21 := Tryz.zeroValue21
 t37 := Tryz.underlying142
 a37 := Tryz.isAgg142
 z37 := Tryz.sizeOf142
 v37 := Tryz.zeroValue142
 t46 := Tryz.underlying248
 a46 := Tryz.isAgg248
 z46 := Tryz.sizeOf248
 v46 := Tryz.zeroValue248
 t51 := Tryz.underlying257
 a51 := Tryz.isAgg257
 z51 := Tryz.sizeOf257
 v51 := Tryz.zeroValue257
 t53 := Tryz.underlying268
 a53 := Tryz.isAgg268
 z53 := Tryz.sizeOf268
 v53 := Tryz.zeroValue268
 t75 := Tryz.underlying146
 a75 := Tryz.isAgg146
 z75 := Tryz.sizeOf146
 v75 := Tryz.zeroValue146
 t76 := Tryz.underlying147
 a76 := Tryz.isAgg147
 z76 := Tryz.sizeOf147
 v76 := Tryz.zeroValue147
 t85 := Tryz.underlying262
 a85 := Tryz.isAgg262
 z85 := Tryz.sizeOf262
 v85 := Tryz.zeroValue262
 t127 := Tryz.underlying213
 a127 := Tryz.isAgg213
 z127 := Tryz.sizeOf213
 v127 := Tryz.zeroValue213
 t143 := Tryz.underlying281
 a143 := Tryz.isAgg281
 z143 := Tryz.sizeOf281
 v143 := Tryz.zeroValue281
 t145 := Tryz.underlying283
 a145 := Tryz.isAgg283
 z145 := Tryz.sizeOf283
 v145 := Tryz.zeroValue283
 t167 := Tryz.underlying261
 a167 := Tryz.isAgg261
 z167 := Tryz.sizeOf261
 v167 := Tryz.zeroValue261
 t168 := Tryz.underlying264
 a168 := Tryz.isAgg264
 z168 := Tryz.sizeOf264
 v168 := Tryz.zeroValue264
 t171 := Tryz.underlying275
 a171 := Tryz.isAgg275
 z171 := Tryz.sizeOf275
 v171 := Tryz.zeroValue275
 t173 := Tryz.underlying278
 a173 := Tryz.isAgg278
 z173 := Tryz.sizeOf278
 v173 := Tryz.zeroValue278
 t175 := Tryz.underlying269
 a175 := Tryz.isAgg269
 z175 := Tryz.sizeOf269
 v175 := Tryz.zeroValue269
 t210 := Tryz.underlying273
 a210 := Tryz.isAgg273
 z210 := Tryz.sizeOf273
 v210 := Tryz.zeroValue273
 t212 := Tryz.underlying285
 a212 := Tryz.isAgg285
 z212 := Tryz.sizeOf285
 v212 := Tryz.zeroValue285
 t213 := Tryz.underlying286
 a213 := Tryz.isAgg286
 z213 := Tryz.sizeOf286
 t232 := Tryz.underlying289
 a232 := Tryz.isAgg289
 z232 := Tryz.sizeOf289
 v232 := Tryz.zeroValue289
 t233 := Tryz.underlying290
 a233 := Tryz.isAgg290
 z233 := Tryz.sizeOf290
 v233 := Tryz.zeroValue290
 g15 := by kernel_rfl
 g16 := by kernel_rfl
 g17 := by kernel_rfl
 g18 := by kernel_rfl
 g19 := by kernel_rfl
 t80 := Tryz.underlying149
 a80 := Tryz.isAgg149
 z80 := Tryz.sizeOf149
 v80 := Tryz.zeroValue149
 i0 := by kernel_rfl
 i2 := by kernel_rfl
 i3 := by kernel_rfl
 i4 := by kernel_rfl
 i5 := by kernel_rfl
 i9 := by kernel_rfl
 i20 := by kernel_rfl
 i21 := by kernel_rfl
 i37 := by kernel_rfl
 i46 := by kernel_rfl
 i51 := by kernel_rfl
 i53 := by kernel_rfl
 i75 := by kernel_rfl
 i76 := by kernel_rfl
 i80 := by kernel_rfl
 i85 := by kernel_rfl
 i127 := by kernel_rfl
 i143 := by kernel_rfl
 i145 := by kernel_rfl
 i167 := by kernel_rfl
 i168 := by kernel_rfl
 i171 := by kernel_rfl
 i173 := by kernel_rfl
 i175 := by kernel_rfl
 i210 := by kernel_rfl
 i212 := by kernel_rfl
 i232 := by kernel_rfl
 i233 := by kernel_rfl
 m15 := by kernel_rfl
 m16 := by kernel_rfl
 m17 := by kernel_rfl
 m18 := by kernel_rfl
 m19 := by kernel_rfl
 c0 := by kernel_rfl
 c2 := by kernel_rfl
 c3 := by kernel_rfl
 c4 := by kernel_rfl
 c5 := by kernel_rfl
 c9 := by kernel_rfl
 c20 := by kernel_rfl
 c21 := by kernel_rfl
 c37 := by kernel_rfl
 c46 := by kernel_rfl
 c51 := by kernel_rfl
 c53 := by kernel_rfl
 c75 := by kernel_rfl
 c76 := by kernel_rfl
 c80 := by kernel_rfl
 c85 := by kernel_rfl
 c127 := by kernel_rfl
 c143 := by kernel_rfl
 c145 := by kernel_rfl
 c167 := by kernel_rfl
 c168 := by kernel_rfl
 c171 := by kernel_rfl
 c173 := by kernel_rfl
 c175 := by kernel_rfl
 c210 := by kernel_rfl
 c212 := by kernel_rfl
 c213 := by kernel_rfl
 c232 := by kernel_rfl
 c233 := by kernel_rfl }
open Go.RowKit in
theorem Tryz.strconv_Atoi_ok (s : ByteArray) (hmax : s.size ≤ 9223372036854775806) (v : Int) (h : Lib.atoiAll s.data.toList = .ok v) (w : World) :
  Calls Tryz.prog 219 #[.string s] w fun e w' => e = .returned (.tuple #[.int .i64 v, .nilIface]) ∧ (w' = w ∨ ∃ t, w' = Lib.bytesWorld w 5 t) := Any.strconv_Atoi_ok Tryz.laysC172 s hmax v h w
open Go.RowKit in
theorem Tryz.strconv_Atoi_syntax_var (s : ByteArray) (hlim : s.size ≤ 281474976710656) (h : Lib.atoiAll s.data.toList = Lib.atoiAll []) (tp : TypeId) (p : Value) (w : World) (hvar : w.var? Tryz.prog "strconv.ErrSyntax" = some #[.iface tp p]) :
  Calls Tryz.prog 219 #[.string s] w fun e w' => ∃ N, e = .returned (.tuple #[.int .i64 0, .iface 264 (.pointer (some ⟨N, 0, none⟩))]) ∧ w.heap.size ≤ N ∧ w'.heap[N]? = some (.cells #[.string ⟨#[65, 116, 111, 105]⟩, .string s, .iface tp p] 273 (0, 0)) ∧ Below w.heap.size w w' := Any.strconv_Atoi_syntax_var Tryz.laysC172 s hlim h tp p w hvar
open Go.RowKit in
theorem Tryz.strconv_Atoi_range_var (s : ByteArray) (hlim : s.size ≤ 281474976710656) (h : Lib.atoiAll s.data.toList = .range) (tp : TypeId) (p : Value) (w : World) (hvar : w.var? Tryz.prog "strconv.ErrRange" = some #[.iface tp p]) :
  Calls Tryz.prog 219 #[.string s] w fun e w' => ∃ N, e = .returned (.tuple #[.int .i64 (Lib.atoiSat s.data.toList), .iface 264 (.pointer (some ⟨N, 0, none⟩))]) ∧ w.heap.size ≤ N ∧ w'.heap[N]? = some (.cells #[.string ⟨#[65, 116, 111, 105]⟩, .string s, .iface tp p] 273 (0, 0)) ∧ Below w.heap.size w w' := Any.strconv_Atoi_range_var Tryz.laysC172 s hlim h tp p w hvar
def Tryz.lays143_ren : Go.Shelf.Ren := ⟨fun | 143 => 169 | 219 => 202 | 217 => 215 | 225 => 216 | 224 => 217 | 267 => 218 | 266 => 223 | 314 => 224 | n => n, fun | 9 => 9 | 3 => 3 | 4 => 4 | 5 => 5 | 46 => 248 | 146 => 258 | 51 => 257 | n => n, fun | 1 => 2 | n => n⟩
theorem Tryz.lays143 : Go.Proofs.Lays.n143 Tryz.prog Tryz.lays143_ren := {
 mixed := by kernel_rfl
 f143 := Tryz.func169.trans (congrArg some (by kernel_rfl))
 f217 := Tryz.func215.trans (congrArg some (by kernel_rfl))
 f219 := Tryz.func202.trans (congrArg some (by kernel_rfl))
 f224 := Tryz.func217.trans (congrArg some (by kernel_rfl))
 f225 := Tryz.func216.trans (congrArg some (by kernel_rfl))
 f266 := Tryz.func223.trans (congrArg some (by kernel_rfl))
 f267 := Tryz.func218.trans (congrArg some (by kernel_rfl))
 f314 := Tryz.func224.trans (congrArg some (by kernel_rfl))
 t3 := Tryz.underlying3
 a3 := Tryz.isAgg3
 z3 := Tryz.sizeOf3
 v3 := Tryz.zeroValue3
 t4 := Tryz.underlying4
 a4 := Tryz.isAgg4
 z4 := Tryz.sizeOf4
 v4 := Tryz.zeroValue4
 t5 := Tryz.underlying5
 a5 := Tryz.isAgg5
 z5 := Tryz.sizeOf5
 v5 := Tryz.zeroValue5
 t9 := Tryz.underlying9
 a9 := Tryz.isAgg9
 z9 := Tryz.sizeOf9
 v9 := Tryz.zeroValue9
 t46 := Tryz.underlying248
 a46 := Tryz.isAgg248
 z46 := Tryz.sizeOf248
 v46 := Tryz.zeroValue248
 t51 := Tryz.underlying257
 a51 := Tryz.isAgg257
 z51 := Tryz.sizeOf257
 v51 := Tryz.zeroValue257
 t146 := Tryz.underlying258
 a146 := Tryz.isAgg258
 z146 := Tryz.sizeOf258
 v146 := Tryz.zeroValue258
 g1 := by kernel_rfl }
open Go.RowKit Go.Lib in
theorem Tryz.strings_Index_one (s : ByteArray) (c : UInt8) (w : World) :
  Calls Tryz.prog 169 #[.string s, .string ⟨#[c]⟩] w fun e w' => e = .returned (.int .i64 (Lib.indexByte s.data.toList c)) ∧ w' = w := Any.strings_Index_one Tryz.lays143 s c w
def Tryz.lays144_ren : Go.Shelf.Ren := ⟨fun | 144 => 208 | 143 => 169 | 219 => 202 | 217 => 215 | 225 => 216 | 224 => 217 | 267 => 218 | 266 => 223 | 314 => 224 | n => n, fun | 9 => 9 | 4 => 4 | 3 => 3 | 5 => 5 | 46 => 248 | 146 => 258 | 51 => 257 | n => n, fun | 1 => 2 | n => n⟩
theorem Tryz.lays144 : Go.Proofs.Lays.n144 Tryz.prog Tryz.lays144_ren := {
 mixed := by kernel_rfl
 f143 := Tryz.func169.trans (congrArg some (by kernel_rfl))
 f144 := Tryz.func208.trans (congrArg some (by kernel_rfl))
 f217 := Tryz.func215.trans (congrArg some (by kernel_rfl))
 f219 := Tryz.func202.trans (congrArg some (by kernel_rfl))
 f224 := Tryz.func217.trans (congrArg some (by kernel_rfl))
 f225 := Tryz.func216.trans (congrArg some (by kernel_rfl))
 f266 := Tryz.func223.trans (congrArg some (by kernel_rfl))
 f267 := Tryz.func218.trans (congrArg some (by kernel_rfl))
 f314 := Tryz.func224.trans (congrArg some (by kernel_rfl))
 t3 := Tryz.underlying3
 a3 := Tryz.isAgg3
 z3 := Tryz.sizeOf3
 v3 := Tryz.zeroValue3
 t4 := Tryz.underlying4
 a4 := Tryz.isAgg4
 z4 := Tryz.sizeOf4
 v4 := Tryz.zeroValue4
 t5 := Tryz.underlying5
 a5 := Tryz.isAgg5
 z5 := Tryz.sizeOf5
 v5 := Tryz.zeroValue5
 t9 := Tryz.underlying9
 a9 := Tryz.isAgg9
 z9 := Tryz.sizeOf9
 v9 := Tryz.zeroValue9
 t46 := Tryz.underlying248
 a46 := Tryz.isAgg248
 z46 := Tryz.sizeOf248
 v46 := Tryz.zeroValue248
 t51 := Tryz.underlying257
 a51 := Tryz.isAgg257
 z51 := Tryz.sizeOf257
 v51 := Tryz.zeroValue257
 t146 := Tryz.underlying258
 a146 := Tryz.isAgg258
 z146 := Tryz.sizeOf258
 v146 := Tryz.zeroValue258
 g1 := by kernel_rfl }
open Go.RowKit Go.Lib in
theorem Tryz.strings_Contains_one (s : ByteArray) (c : UInt8) (w : World) :
  Calls Tryz.prog 208 #[.string s, .string ⟨#[c]⟩] w fun e w' => e = .returned (.bool (decide (0 ≤ Lib.indexByte s.data.toList c))) ∧ w' = w := Any.strings_Contains_one Tryz.lays144 s c w
def Tryz.lays145_ren : Go.Shelf.Ren := ⟨fun | 145 => 112 | 220 => 170 | 219 => 202 | 217 => 215 | 225 => 216 | 224 => 217 | 267 => 218 | 266 => 223 | 314 => 224 | n => n, fun | 9 => 9 | 4 => 4 | 59 => 173 | 3 => 3 | 5 => 5 | 46 => 248 | 146 => 258 | 51 => 257 | n => n, fun | 1 => 2 | n => n⟩
theorem Tryz.lays145 : Go.Proofs.Lays.n145 Tryz.prog Tryz.lays145_ren := {
 mixed := by kernel_rfl
 f145 := Tryz.func112.trans (congrArg some (by kernel_rfl))
 f217 := Tryz.func215.trans (congrArg some (by kernel_rfl))
 f219 := Tryz.func202.trans (congrArg some (by kernel_rfl))
 f220 := Tryz.func170.trans (congrArg some (by kernel_rfl))
 f224 := Tryz.func217.trans (congrArg some (by kernel_rfl))
 f225 := Tryz.func216.trans (congrArg some (by kernel_rfl))
 f266 := Tryz.func223.trans (congrArg some (by kernel_rfl))
 f267 := Tryz.func218.trans (congrArg some (by kernel_rfl))
 f314 := Tryz.func224.trans (congrArg some (by kernel_rfl))
 t3 := Tryz.underlying3
 a3 := Tryz.isAgg3
 z3 := Tryz.sizeOf3
 v3 := Tryz.zeroValue3
 t4 := Tryz.underlying4
 a4 := Tryz.isAgg4
 z4 := Tryz.sizeOf4
 v4 := Tryz.zeroValue4
 t5 := Tryz.underlying5
 a5 := Tryz.isAgg5
 z5 := Tryz.sizeOf5
 v5 := Tryz.zeroValue5
 t9 := Tryz.underlying9
 a9 := Tryz.isAgg9
 z9 := Tryz.sizeOf9
 v9 := Tryz.zeroValue9
 t46 := Tryz.underlying248
 a46 := Tryz.isAgg248
 z46 := Tryz.sizeOf248
 v46 := Tryz.zeroValue248
 t51 := Tryz.underlying257
 a51 := Tryz.isAgg257
 z51 := Tryz.sizeOf257
 v51 := Tryz.zeroValue257
 t59 := Tryz.underlying173
 a59 := Tryz.isAgg173
 z59 := Tryz.sizeOf173
 v59 := Tryz.zeroValue173
 t146 := Tryz.underlying258
 a146 := Tryz.isAgg258
 z146 := Tryz.sizeOf258
 v146 := Tryz.zeroValue258
 g1 := by kernel_rfl }
open Go.RowKit Go.Lib in
theorem Tryz.strings_Cut (s sep : ByteArray) (m : Int) (w : World) (hs : s.size < 4294967281) (hm : w.cell? ⟨2, 0, none⟩ = some (.int .i64 m)) :
  Calls Tryz.prog 112 #[.string s, .string sep] w fun e w' => e = .returned (.tuple #[.string ⟨(Lib.cut s.data.toList sep.data.toList).1.toArray⟩, .string ⟨(Lib.cut s.data.toList sep.data.toList).2.1.toArray⟩, .bool (Lib.cut s.data.toList sep.data.toList).2.2]) ∧ ∃ n, w' = w.drewN n := Any.strings_Cut Tryz.lays145 s sep m w hs hm
def Tryz.laysM143_ren : Go.Shelf.Ren := ⟨fun | 143 => 169 | 219 => 202 | 217 => 215 | 225 => 216 | 224 => 217 | 267 => 218 | 266 => 223 | 314 => 224 | n => n, fun | 9 => 9 | 3 => 3 | 4 => 4 | 5 => 5 | 46 => 248 | 146 => 258 | 51 => 257 | n => n, fun | 1 => 2 | n => n⟩
theorem Tryz.laysM143 : Go.Proofs.LaysM.n143 Tryz.prog Tryz.laysM143_ren := {
 mixed := by kernel_rfl
 f143 := Tryz.func169.trans (congrArg some (by kernel_rfl))
 f217 := Tryz.func215.trans (congrArg some (by kernel_rfl))
 f219 := Tryz.func202.trans (congrArg some (by kernel_rfl))
 f224 := Tryz.func217.trans (congrArg some (by kernel_rfl))
 f225 := Tryz.func216.trans (congrArg some (by kernel_rfl))
 f266 := Tryz.func223.trans (congrArg some (by kernel_rfl))
 f267 := Tryz.func218.trans (congrArg some (by kernel_rfl))
 f314 := Tryz.func224.trans (congrArg some (by kernel_rfl))
 t3 := Tryz.underlying3
 a3 := Tryz.isAgg3
 z3 := Tryz.sizeOf3
 v3 := Tryz.zeroValue3
 t4 := Tryz.underlying4
 a4 := Tryz.isAgg4
 z4 := Tryz.sizeOf4
 v4 := Tryz.zeroValue4
 t5 := Tryz.underlying5
 a5 := Tryz.isAgg5
 z5 := Tryz.sizeOf5
 v5 := Tryz.zeroValue5
 t9 := Tryz.underlying9
 a9 := Tryz.isAgg9
 z9 := Tryz.sizeOf9
 v9 := Tryz.zeroValue9
 t46 := Tryz.underlying248
 a46 := Tryz.isAgg248
 z46 := Tryz.sizeOf248
 v46 := Tryz.zeroValue248
 t51 := Tryz.underlying257
 a51 := Tryz.isAgg257
 z51 := Tryz.sizeOf257
 v51 := Tryz.zeroValue257
 t146 := Tryz.underlying258
 a146 := Tryz.isAgg258
 z146 := Tryz.sizeOf258
 v146 := Tryz.zeroValue258
 g1 := by kernel_rfl
 i3 := by kernel_rfl
 i4 := by kernel_rfl
 i5 := by kernel_rfl
 i9 := by kernel_rfl
 i46 := by kernel_rfl
 i51 := by kernel_rfl
 i146 := by kernel_rfl
 m1 := by kernel_rfl
 s1_3 := fun w h => Go.Proofs.cell_of_shapedOpen_int (zero := #[.int .i64 0]) (t := 3) h (of_decide_eq_true (by kernel_rfl)) (by kernel_rfl) rfl (by kernel_rfl) (by kernel_rfl) Tryz.underlying3 }
end Go.Proofs

/- Small laws for walks: rows that a call owns, and slices that are read. No condition. -/
namespace Go.Proofs.YteailgjiifdgcaaGreatDoor
open Go.RowKit

theorem ret_int {k : IntKind} {a b : Int} (h : a = b) : Ending.returned (.int k a) = .returned (.int k b) := by rw [h]
theorem ret_bool {a b : Bool} (h : a = b) : Ending.returned (.bool a) = .returned (.bool b) := by rw [h]
theorem bel_drewN {B : Nat} {a w : World} (h : Below B a w) (n : Nat) : Below B a (w.drewN n) := ⟨h.os, h.tape, h.output, h.size, h.block⟩

structure Elem (P : Program) (t e : TypeId) (z : Value) (size bytes : Nat) : Prop where
 slice : P.underlying t = some (.slice e)
 info : (P.info? e).map (fun i => (i.zero, i.size, i.bytes)) = some (some z, size, bytes)
 zero : z.cells.size = size
 pos : 0 < size

theorem grownBy_trans {w w1 w2 : World} {row : Option Nat} (h : w.grownBy w1 none) (k : w1.grownBy w2 row) : w.grownBy w2 row :=
 ⟨k.os.trans h.os, k.tape.trans h.tape, k.output.trans h.output, Nat.le_trans h.size k.size,
  fun b hb hr => (k.block b (Nat.lt_of_lt_of_le hb h.size) hr).trans (h.block b hb (by simp))⟩

theorem grownBy_of_below {w w' : World} (h : Below w.heap.size w w') : w.grownBy w' none :=
 ⟨h.os, h.tape, h.output, h.size, fun k hk _ => h.block k hk⟩

theorem run_append_where {P : Program} (w : World) (base : Nat) (t ty e : TypeId) (i : TypeInfo) (z : Value) (size bytes : Nat) (ht : P.underlying t = some (.slice e)) (hi : P.info? e = some i) (hz : i.zero = some z)
  (hsize : i.size = size) (hby : i.bytes = bytes) (hzs : z.cells.size = size) (hsz : 0 < size)
  (v : Value) (n : Nat) (xs : List Value) (hown : w.ownsRow base e size v n xs)
  (a : Addr) (m c : Nat) (news : List Value) (hl : news.length = m * size) (hnews : ∀ j u, news[j]? = some u → w.cell? (a.add j) = some u) (h1 : ∀ u ∈ news, u.oneCell' = true)
  (h63 : n + m ≤ maxLen) (hbytes : (n + m) * bytes ≤ 140737488355328) (hbase : base ≤ w.heap.size) :
  ∃ v' w', (Builtin.append_ #[t, t] ty #[v, .slice (some a) m c]).run P w = .ok v' w' ∧ w'.ownsRow base e size v' (n + m) (xs ++ news) ∧ w.grownBy w' v.ownBlock ∧ (v'.ownBlock = v.ownBlock ∨ v'.ownBlock = some w.heap.size) := by
 obtain ⟨v', w', hr, h2, h3, h4⟩ := run_append_own (P := P) w base t ty e i z size bytes ht hi hz hsize hby hzs hsz v n xs hown a m c news hl hnews h1 h63 hbytes hbase
 refine ⟨v', w', hr, h2, h3, ?_⟩
 subst hsize; subst hby
 have h63' : n + m ≤ 9223372036854775807 := by simp only [maxLen] at h63; omega
 rcases hown.2 with ⟨rfl, rfl⟩ | ⟨g, cap, cur, rfl, hbg, hg, hnc, hcm, hcs, htake⟩
 ·by_cases hm : m = 0
  ·left
   have := h4.2 ⟨rfl, hm⟩
   rw [this]
  ·right
   have hr2 := run_append_nil (P := P) w t ty e i z ht hi hz a m c news hl hnews (by omega) (by omega) (by have hb := hbytes; simp only [Nat.zero_add] at hb; omega)
   rw [hr] at hr2
   simp only [Result.ok.injEq] at hr2
   rw [hr2.1]; rfl
 ·by_cases hroom : n + m ≤ cap
  ·left
   have hfit : n * i.size + news.length ≤ cur.size := by rw [hl, hcs, ← Nat.add_mul]; exact Nat.mul_le_mul_right _ hroom
   have hr2 := run_append_room (P := P) w t ty e i ht hi g n cap cur hg a m c news hl hnews h1 hroom hfit
   rw [hr] at hr2
   simp only [Result.ok.injEq] at hr2
   rw [hr2.1]; rfl
  ·right
   have holds : ∀ j u, xs[j]? = some u → w.cell? ((⟨g, 0, none⟩ : Addr).add j) = some u := hown.cells (g := g) rfl
   have hr2 := run_append_grow (P := P) w t ty e i z ht hi hz ⟨g, 0, none⟩ n cap xs hown.1 holds a m c news hl hnews (by omega) (by omega) (growslice_fits (by omega) hbytes)
   rw [hr] at hr2
   simp only [Result.ok.injEq] at hr2
   rw [hr2.1]; rfl

def Moved (w : World) (v v' : Value) : Prop := ∀ k, v'.ownBlock = some k → v.ownBlock = some k ∨ w.heap.size ≤ k

theorem wp_append_lit {P : Program} {t e : TypeId} {z : Value} {size bytes : Nat} (E : Elem P t e z size bytes) {w : World} {o : Oper} {a : Act} {K : Act → World → Prop} {Q : Exit → Act → World → Prop}
  (s x : Operand) (ho : o.op = .call { callee := .builtin .append, args := #[s, x], argTypes := #[t, t] })
  (base : Nat) (v : Value) (n : Nat) (xs : List Value) (hs : a.eval s = v) (hown : w.ownsRow base e size v n xs)
  (m : Nat) (news : Array Value) (hx : a.eval x = .slice (some ⟨w.heap.size, 0, none⟩) m m) (hl : news.size = m * size) (h1 : ∀ u ∈ news.toList, u.oneCell' = true)
  (hb : (n + m) * bytes ≤ 140737488355328) (hb1 : n + m ≤ maxLen) (hbase : base ≤ w.heap.size)
  (h : ∀ v' w', w'.ownsRow base e size v' (n + m) (xs ++ news.toList) → w.grownBy w' v.ownBlock → Moved w v v' → K (a.put o.dst v') w') :
  o.wp P a (w.alloc (.cells news e)) K Q := by
 obtain ⟨i, hi, hz, hsz, hby⟩ := info_parts E.info
 obtain ⟨v', w', hr, h2, h3, h4⟩ := run_append_where (P := P) (w.alloc (.cells news e)) base t o.type e i z size bytes E.slice hi hz hsz hby E.zero E.pos v n xs (hown.alloc _) ⟨w.heap.size, 0, none⟩ m m news.toList (by simpa using hl) (by
  intro j u hu
  rw [Addr.add_lit, Nat.zero_add, World.cell?_alloc_new]
  simpa using hu) h1 hb1 hb (by simp; omega)
 unfold Oper.wp execOp
 simp only [ho, resolve, invoke, builtin, Sem.run_bind, Sem.run_pure, Result.andThen_ok, List.map_toArray, List.map_cons, List.map_nil, hs, hx, hr]
 refine h v' w' h2 (grownBy_trans (World.grownBy_alloc w _ none) h3) ?_
 intro k hk
 rcases h4 with h4 | h4
 ·exact .inl (by rw [← h4]; exact hk)
 ·right
  rw [h4] at hk
  simp at hk
  omega

theorem wpList_append_lit {P : Program} {t e : TypeId} {z : Value} {size bytes : Nat} (E : Elem P t e z size bytes) {w : World} {ops : Array Oper} {rest : List Oper} {o : Oper} {a : Act} {Q : Exit → Act → World → Prop}
  (hgd : o.guard = none) (s x : Operand) (ho : o.op = .call { callee := .builtin .append, args := #[s, x], argTypes := #[t, t] })
  (base : Nat) (v : Value) (n : Nat) (xs : List Value) (hs : a.eval s = v) (hown : w.ownsRow base e size v n xs)
  (m : Nat) (news : Array Value) (hx : a.eval x = .slice (some ⟨w.heap.size, 0, none⟩) m m) (hl : news.size = m * size) (h1 : ∀ u ∈ news.toList, u.oneCell' = true)
  (hb : (n + m) * bytes ≤ 140737488355328) (hb1 : n + m ≤ maxLen) (hbase : base ≤ w.heap.size)
  (h : ∀ v' w', w'.ownsRow base e size v' (n + m) (xs ++ news.toList) → w.grownBy w' v.ownBlock → Moved w v v' → wpList P ops Q rest (a.put o.dst v') w') :
  wpList P ops Q (o :: rest) a (w.alloc (.cells news e)) :=
 wpList_plain hgd fun _ hK => wp_append_lit E s x ho base v n xs hs hown m news hx hl h1 hb hb1 hbase fun v' w' h2 h3 h4 => hK _ _ (h v' w' h2 h3 h4)

theorem bel_own {B base : Nat} {w0 w w' : World} {e : TypeId} {size : Nat} {v : Value} {n : Nat} {xs : List Value} (h : Below B w0 w) (hown : w.ownsRow base e size v n xs) (hB : B ≤ base) (hg : w.grownBy w' v.ownBlock) (hb : B ≤ w.heap.size) : Below B w0 w' :=
 h.grown hg hb fun k hk => Nat.le_trans hB (hown.lt k hk).1

theorem ownsRow_below {base : Nat} {w w' : World} {e : TypeId} {size : Nat} {v : Value} {n : Nat} {xs : List Value} (hown : w.ownsRow base e size v n xs) (hb : Below w.heap.size w w') : w'.ownsRow base e size v n xs :=
 hown.kept (grownBy_of_below hb) (by cases hv : v.ownBlock <;> simp)

theorem ownsRow_mono {B base : Nat} {w : World} {e : TypeId} {size : Nat} {v : Value} {n : Nat} {xs : List Value} (hown : w.ownsRow base e size v n xs) (hb : B ≤ base) : w.ownsRow B e size v n xs := by
 refine ⟨hown.1, ?_⟩
 rcases hown.2 with h | ⟨g, cap, cur, hv, hg, r⟩
 ·exact .inl h
 ·exact .inr ⟨g, cap, cur, hv, by omega, r⟩

theorem ownsRow_some {base : Nat} {w : World} {e : TypeId} {size : Nat} {v : Value} {n : Nat} {xs : List Value} (h : w.ownsRow base e size v n xs) (hn : 0 < n) :
  ∃ g cap, v = .slice (some ⟨g, 0, none⟩) n cap ∧ base ≤ g ∧ g < w.heap.size ∧ n ≤ cap ∧ cap ≤ maxLen ∧ ∀ j u, xs[j]? = some u → w.cell? ⟨g, j, none⟩ = some u := by
 rcases h.2 with ⟨_, rfl⟩ | ⟨g, cap, cur, rfl, hg, hh, hn', hm, hs, ht⟩
 ·omega
 ·refine ⟨g, cap, rfl, hg, (Array.getElem?_eq_some_iff.1 hh).1, hn', hm, fun j u hu => ?_⟩
  have := h.cells (g := g) rfl j u hu
  rwa [Addr.add_lit, Nat.zero_add] at this

theorem wpList_append_some {P : Program} {t e : TypeId} {z : Value} {size bytes : Nat} (E : Elem P t e z size bytes) {w : World} {ops : Array Oper} {rest : List Oper} {o : Oper} {a : Act} {Q : Exit → Act → World → Prop}
  (hgd : o.guard = none) (s x : Operand) (ho : o.op = .call { callee := .builtin .append, args := #[s, x], argTypes := #[t, t] })
  (base : Nat) (v : Value) (n : Nat) (xs : List Value) (hs : a.eval s = v) (hown : w.ownsRow base e size v n xs)
  (m : Nat) (hm : 0 < m) (news : Array Value) (hx : a.eval x = .slice (some ⟨w.heap.size, 0, none⟩) m m) (hl : news.size = m * size) (h1 : ∀ u ∈ news.toList, u.oneCell' = true)
  (hb : (n + m) * bytes ≤ 140737488355328) (hb1 : n + m ≤ maxLen) (hbase : base ≤ w.heap.size)
  (h : ∀ g cap w', w'.ownsRow base e size (.slice (some ⟨g, 0, none⟩) (n + m) cap) (n + m) (xs ++ news.toList) → w.grownBy w' v.ownBlock → Moved w v (.slice (some ⟨g, 0, none⟩) (n + m) cap) → wpList P ops Q rest (a.put o.dst (.slice (some ⟨g, 0, none⟩) (n + m) cap)) w') :
  wpList P ops Q (o :: rest) a (w.alloc (.cells news e)) := by
 refine wpList_append_lit E hgd s x ho base v n xs hs hown m news hx hl h1 hb hb1 hbase ?_
 intro v' w' h2 h3 h4
 obtain ⟨g, cap, rfl, _⟩ := ownsRow_some h2 (by omega)
 exact h g cap w' h2 h3 h4

theorem step_append_some {P : Program} {t e : TypeId} {z : Value} {size bytes : Nat} (E : Elem P t e z size bytes) {w : World} {ops : Array Oper} {o : Oper} {a : Act} {K : Act → World → Prop} {Q : Exit → Act → World → Prop} {X : Prop}
  (hgd : o.guard = none) (s x : Operand) (ho : o.op = .call { callee := .builtin .append, args := #[s, x], argTypes := #[t, t] })
  (base : Nat) (v : Value) (n : Nat) (xs : List Value) (hs : a.eval s = v) (hown : w.ownsRow base e size v n xs)
  (m : Nat) (hm : 0 < m) (news : Array Value) (hx : a.eval x = .slice (some ⟨w.heap.size, 0, none⟩) m m) (hl : news.size = m * size) (h1 : ∀ u ∈ news.toList, u.oneCell' = true)
  (hb : (n + m) * bytes ≤ 140737488355328) (hb1 : n + m ≤ maxLen) (hbase : base ≤ w.heap.size)
  (h : ∀ g cap w', w'.ownsRow base e size (.slice (some ⟨g, 0, none⟩) (n + m) cap) (n + m) (xs ++ news.toList) → w.grownBy w' v.ownBlock → Moved w v (.slice (some ⟨g, 0, none⟩) (n + m) cap) → K (a.put o.dst (.slice (some ⟨g, 0, none⟩) (n + m) cap)) w') :
  if Region.wanted o (yielded ops a.tmps) = true then Oper.wp P o a (w.alloc (.cells news e)) K Q else X := by
 have hw : Region.wanted o (yielded ops a.tmps) = true := by simp [Region.wanted, hgd]
 rw [if_pos hw]
 refine wp_append_lit E s x ho base v n xs hs hown m news hx hl h1 hb hb1 hbase ?_
 intro v' w' h2 h3 h4
 obtain ⟨g, cap, rfl, _⟩ := ownsRow_some h2 (by omega)
 exact h g cap w' h2 h3 h4

structure Frm (S : Nat → Prop) (w w' : World) : Prop where
 os : w'.os = w.os
 tape : w'.tape = w.tape
 output : w'.output = w.output
 size : w.heap.size ≤ w'.heap.size
 block : ∀ k, k < w.heap.size → ¬ S k → w'.heap[k]? = w.heap[k]?

theorem Frm.refl (S : Nat → Prop) (w : World) : Frm S w w := ⟨rfl, rfl, rfl, Nat.le_refl _, fun _ _ _ => rfl⟩
theorem Frm.trans {S T : Nat → Prop} {a b c : World} (h : Frm S a b) (k : Frm T b c) (hT : ∀ i, i < a.heap.size → T i → S i) : Frm S a c :=
 ⟨k.os.trans h.os, k.tape.trans h.tape, k.output.trans h.output, Nat.le_trans h.size k.size,
  fun i hi hS => (k.block i (Nat.lt_of_lt_of_le hi h.size) (fun ht => hS (hT i hi ht))).trans (h.block i hi hS)⟩
theorem Frm.mono {S T : Nat → Prop} {a b : World} (h : Frm S a b) (hT : ∀ i, i < a.heap.size → S i → T i) : Frm T a b :=
 (Frm.refl T a).trans h hT
theorem Frm.alloc {S : Nat → Prop} {a w : World} (h : Frm S a w) (o : Obj) : Frm S a (w.alloc o) :=
 h.trans (T := S) ⟨rfl, rfl, rfl, by simp, fun k hk _ => Below.heap_alloc _ _ _ hk⟩ (fun _ _ h => h)
theorem Frm.drewN {S : Nat → Prop} {a w : World} (h : Frm S a w) (n : Nat) : Frm S a (w.drewN n) := ⟨h.os, h.tape, h.output, h.size, h.block⟩
theorem Frm.drew {S : Nat → Prop} {a w : World} (h : Frm S a w) : Frm S a w.drew := ⟨h.os, h.tape, h.output, h.size, h.block⟩
theorem Frm.setCell {S : Nat → Prop} {a w : World} (h : Frm S a w) {p : Addr} (hp : a.heap.size ≤ p.block ∨ S p.block) (u : Value) : Frm S a (w.setCell p u) :=
 h.trans (T := fun k => k = p.block) ⟨rfl, rfl, rfl, by simp [World.setCell], fun k _ hk => Below.heap_setCell _ _ _ _ (by omega)⟩ (fun i hi e => by rcases hp with h | h; omega; rw [e]; exact h)
theorem Frm.grown {S : Nat → Prop} {a w w' : World} {row : Option Nat} (h : Frm S a w) (hg : w.grownBy w' row) (hr : ∀ k, row = some k → a.heap.size ≤ k ∨ S k) : Frm S a w' :=
 h.trans (T := fun k => some k = row) ⟨hg.os, hg.tape, hg.output, hg.size, fun k hk hne => hg.block k hk hne⟩ (fun i hi e => by rcases hr i e.symm with h | h; omega; exact h)
theorem Frm.below {S : Nat → Prop} {a w : World} (h : Frm S a w) {B : Nat} (hB : B ≤ a.heap.size) (hS : ∀ k, S k → B ≤ k) : Below B a w :=
 ⟨h.os, h.tape, h.output, h.size, fun k hk => h.block k (by omega) (fun hs => by have := hS k hs; omega)⟩
theorem Frm.of_below {S : Nat → Prop} {a w : World} (h : Below a.heap.size a w) : Frm S a w := ⟨h.os, h.tape, h.output, h.size, fun k hk _ => h.block k hk⟩
theorem Frm.cell {S : Nat → Prop} {w w' : World} (h : Frm S w w') {p : Addr} (hp : p.block < w.heap.size) (hS : ¬ S p.block) : w'.cell? p = w.cell? p := World.cell?_of_block (h.block p.block hp hS)
theorem Frm.keep {w w' : World} (h : Frm (fun _ => False) w w') {p : Addr} {u : Value} (hc : w.cell? p = some u) : w'.cell? p = some u := (h.cell (World.block_lt_of_cell? w p hc) (fun h => h)).trans hc
theorem Frm.owns {S : Nat → Prop} {w w' : World} (h : Frm S w w') {base : Nat} {e : TypeId} {size : Nat} {v : Value} {n : Nat} {xs : List Value} (ho : w.ownsRow base e size v n xs) (hS : ∀ k, v.ownBlock = some k → ¬ S k) : w'.ownsRow base e size v n xs := by
 refine ⟨ho.1, ?_⟩
 rcases ho.2 with hn | ⟨g, cap, cur, rfl, hb, hgg, rest⟩
 ·exact .inl hn
 ·exact .inr ⟨g, cap, cur, rfl, hb, by rw [h.block g (Array.getElem?_eq_some_iff.1 hgg).1 (hS g rfl)]; exact hgg, rest⟩

def Sl (w : World) (v : Value) (n : Nat) (cells : List Value) : Prop :=
 ∃ a cap, v = .slice a n cap ∧ n ≤ cap ∧ cap ≤ maxLen ∧ ∀ j u, cells[j]? = some u → ∃ b off, a = some ⟨b, off, none⟩ ∧ w.cell? ⟨b, off + j, none⟩ = some u

theorem Sl.below {w w' : World} {v : Value} {n : Nat} {cells : List Value} (h : Sl w v n cells) (hb : Below w.heap.size w w') : Sl w' v n cells := by
 obtain ⟨a, cap, rfl, h1, h2, h3⟩ := h
 refine ⟨a, cap, rfl, h1, h2, fun j u hu => ?_⟩
 obtain ⟨b, off, rfl, hc⟩ := h3 j u hu
 exact ⟨b, off, rfl, cell_later hb hc⟩

theorem Sl.of_owns {base : Nat} {w : World} {e : TypeId} {size : Nat} {v : Value} {n : Nat} {xs : List Value} (h : w.ownsRow base e size v n xs) : Sl w v n xs := by
 rcases h.2 with ⟨rfl, rfl⟩ | ⟨g, cap, cur, rfl, hg, hh, hn, hm, hs, ht⟩
 ·refine ⟨none, 0, rfl, Nat.le_refl _, Nat.zero_le _, fun j u hu => ?_⟩
  have hx : xs = [] := List.eq_nil_of_length_eq_zero (by simpa using h.1)
  subst hx
  simp at hu
 ·refine ⟨some ⟨g, 0, none⟩, cap, rfl, hn, hm, fun j u hu => ⟨g, 0, rfl, ?_⟩⟩
  have := h.cells (g := g) rfl j u hu
  rwa [Addr.add_lit] at this

end Go.Proofs.YteailgjiifdgcaaGreatDoor

/- Laws for blocks and rows that a call owns. No condition. -/
namespace Go.Proofs.YteailgjiifdgcaaGreatDoor
open Go.RowKit

theorem own_type {w : World} {B : Nat} {e : TypeId} {size : Nat} {v : Value} {n : Nat} {xs : List Value} (h : w.ownsRow B e size v n xs) : ∀ k, v.ownBlock = some k → ∃ cs, w.heap[k]? = some (.cells cs e (0, 0)) := by
 intro k hk
 rcases h.2 with ⟨h1, _⟩ | ⟨g, cap, cur, h1, _, hg, _⟩
 ·rw [h1] at hk; simp [Value.ownBlock] at hk
 ·rw [h1] at hk
  simp [Value.ownBlock] at hk
  subst hk
  exact ⟨_, hg⟩
theorem apart_type {w : World} {B B' : Nat} {e e' : TypeId} {size size' : Nat} {v v' : Value} {n n' : Nat} {xs xs' : List Value} (h : w.ownsRow B e size v n xs) (h' : w.ownsRow B' e' size' v' n' xs') (hne : e ≠ e') : ∀ k, v.ownBlock = some k → v'.ownBlock ≠ some k := by
 intro k hk hk'
 obtain ⟨c, hc⟩ := own_type h k hk
 obtain ⟨c', hc'⟩ := own_type h' k hk'
 rw [hc] at hc'
 simp at hc'
 exact hne hc'.2
theorem apart_block {w : World} {B : Nat} {e t : TypeId} {size : Nat} {v : Value} {n : Nat} {xs : List Value} {x : Nat} {cs : Array Value} {fr : Nat × Nat} (h : w.ownsRow B e size v n xs) (hx : w.heap[x]? = some (.cells cs t fr)) (hne : e ≠ t) : v.ownBlock ≠ some x := by
 intro hk
 obtain ⟨c, hc⟩ := own_type h x hk
 rw [hc] at hx
 simp at hx
 exact hne hx.2.1
theorem cells_at {w : World} {p : Nat} {cs : Array Value} {t : TypeId} {fr : Nat × Nat} (h : w.heap[p]? = some (.cells cs t fr)) (i : Nat) : w.cell? ⟨p, i, none⟩ = cs[i]? := cell_of_row w p i cs t fr h
theorem frozen_at {w : World} {p : Nat} {cs : Array Value} {t : TypeId} (h : w.heap[p]? = some (.cells cs t (0, 0))) (i : Nat) : w.frozen? ⟨p, i, none⟩ = false := frozen_of_row w p i cs t h
theorem heap_to {w w' : World} {S : Nat → Prop} {f : Nat} {o : Obj} (h : w.heap[f]? = some o) (hf : Frm S w w') (hS : ¬ S f) : w'.heap[f]? = some o :=
 (hf.block f (Array.getElem?_eq_some_iff.1 h).1 hS).trans h

theorem own_shape {w : World} {B : Nat} {e : TypeId} {size : Nat} {v : Value} {n : Nat} {xs : List Value} (h : w.ownsRow B e size v n xs) : ∃ a cap, v = .slice a n cap := by
 rcases h.2 with ⟨h1, h2⟩ | ⟨g, cap, _, h1, _⟩
 ·exact ⟨none, 0, by rw [h1, h2]⟩
 ·exact ⟨_, cap, h1⟩
theorem frm_cell {x : Nat} {a w : World} (h : Frm (fun k => k = x) a w) (i : Nat) (u : Value) : Frm (fun k => k = x) a (w.setCell ⟨x, i, none⟩ u) := Frm.setCell (S := fun k => k = x) h (p := ⟨x, i, none⟩) (.inr rfl) u
theorem grown_drew {w w' : World} {row : Option Nat} (h : w.drew.grownBy w' row) : w.grownBy w' row := ⟨h.os, h.tape, h.output, h.size, h.block⟩
theorem heap_below {w w' : World} (h : Below w.heap.size w w') {k : Nat} {o : Obj} (hk : w.heap[k]? = some o) : w'.heap[k]? = some o := (h.block k (Array.getElem?_eq_some_iff.1 hk).1).trans hk
theorem frm_of_grown {w w' : World} {v : Value} (h : w.grownBy w' v.ownBlock) : Frm (fun k => v.ownBlock = some k) w w' := ⟨h.os, h.tape, h.output, h.size, fun k hk hne => h.block k hk (fun e => hne e.symm)⟩
theorem below_alloc1 (w : World) (o : Obj) : Below w.heap.size w (w.alloc o) := (Below.refl _ _).alloc (Nat.le_refl _) _
def KeepT (t : TypeId) (w w' : World) : Prop := ∀ (k : Nat) (cs : Array Value) (fr : Nat × Nat), w.heap[k]? = some (.cells cs t fr) → w'.heap[k]? = some (.cells cs t fr)
theorem KeepT.refl (t : TypeId) (w : World) : KeepT t w w := fun _ _ _ h => h
theorem KeepT.trans {t : TypeId} {a b c : World} (h : KeepT t a b) (k : KeepT t b c) : KeepT t a c := fun i cs fr h1 => k i cs fr (h i cs fr h1)
theorem heap_new_at {w : World} {o : Obj} {n : Nat} (h : w.heap.size = n) : (w.alloc o).heap[n]? = some o := by subst h; exact heap_alloc_new w o
end Go.Proofs.YteailgjiifdgcaaGreatDoor

/- Small facts on texts, and a walk's words for a byte of a text. No condition. -/
namespace Go.Proofs.YteailgjiifdgcaaGreatDoor.Txt
open Go.RowKit

theorem len (s : ByteArray) : s.data.toList.length = s.size := by rw [Array.length_toList]; rfl
theorem ext {x y : ByteArray} (h : x.data.toList = y.data.toList) : x = y := by
 obtain ⟨⟨a⟩⟩ := x
 obtain ⟨⟨b⟩⟩ := y
 simp at h
 rw [h]
theorem empty_iff (s : ByteArray) : s.toList = [] ↔ s.size = 0 := by
 rw [Lib.toList_data, ← len]
 exact List.length_eq_zero_iff.symm
theorem eq_dec (x y : ByteArray) : (x.toList == y.toList) = decide (x = y) := by
 rw [ByteArray.toList_eq, ByteArray.toList_eq]
 by_cases h : x = y
 ·subst h; simp
 ·rw [decide_eq_false h, beq_eq_false_iff_ne]
  exact fun e => h (ext e)
theorem no_dec (s : ByteArray) : s.toList.isEmpty = decide (s.size = 0) := by
 by_cases h : s.size = 0
 ·rw [decide_eq_true h, (empty_iff s).2 h]; rfl
 ·rw [decide_eq_false h, Bool.eq_false_iff]
  intro e
  rw [List.isEmpty_iff, empty_iff] at e
  exact h e
end Go.Proofs.YteailgjiifdgcaaGreatDoor.Txt

/- What the program's own start has laid in the library's variables, as the walks lean on it. No condition. -/
namespace Go.Proofs.YteailgjiifdgcaaGreatDoor
open Go.RowKit Go.Lib

structure Doors (w : World) : Prop where
 tab : TabIs Tryz.prog w "internal/strconv.uint64pow10" .u64 pow10Tab
 syn : ∃ tp p, w.var? Tryz.prog "strconv.ErrSyntax" = some #[.iface tp p]
 rng : ∃ tp p, w.var? Tryz.prog "strconv.ErrRange" = some #[.iface tp p]
 max : ∃ m, w.cell? ⟨2, 0, none⟩ = some (.int .i64 m)
theorem gTab : Tryz.prog.globalNamed "internal/strconv.uint64pow10" = some 5 := by kernel_rfl
theorem gSyn : Tryz.prog.globalNamed "strconv.ErrSyntax" = some 3 := by kernel_rfl
theorem gRng : Tryz.prog.globalNamed "strconv.ErrRange" = some 4 := by kernel_rfl
theorem var_lt {w : World} {n : String} {g : Nat} {cs : Array Value} {v : Value} (hg : Tryz.prog.globalNamed n = some g) (h : w.var? Tryz.prog n = some cs) (h0 : cs[0]? = some v) : g < w.heap.size := by
 have := World.var?_cell hg h 0
 rw [h0] at this
 exact World.block_lt_of_cell? w _ this
theorem Doors.below {w w' : World} (h : Doors w) (hb : Below w.heap.size w w') : Doors w' := by
 obtain ⟨tp, p, hs⟩ := h.syn
 obtain ⟨tq, q, hr⟩ := h.rng
 obtain ⟨m, hm⟩ := h.max
 exact ⟨var?_below hb gTab (var_lt (v := .int .u64 1) gTab h.tab rfl) h.tab, ⟨tp, p, var?_below hb gSyn (var_lt gSyn hs rfl) hs⟩, ⟨tq, q, var?_below hb gRng (var_lt gRng hr rfl) hr⟩, ⟨m, cell_later hb hm⟩⟩
theorem Doors.from {B : Nat} {w w' : World} (h : Doors w) (hB : w.heap.size ≤ B) (hb : Below B w w') : Doors w' := h.below (hb.mono hB)
theorem atoi_any (s : ByteArray) (hs : s.size ≤ 1000000) {w : World} (hD : Doors w) :
  Calls Tryz.prog 219 #[.string s] w fun e w' => ((∃ v, atoiAll s.data.toList = .ok v ∧ e = .returned (.tuple #[.int .i64 v, .nilIface])) ∨
   ((∀ v, atoiAll s.data.toList ≠ .ok v) ∧ ∃ (v : Int) (N : Nat), e = .returned (.tuple #[.int .i64 v, .iface 264 (.pointer (some ⟨N, 0, none⟩))]))) ∧ Below w.heap.size w w' := by
 obtain ⟨tp, p, hv⟩ := hD.syn
 obtain ⟨tq, q, hr⟩ := hD.rng
 cases h : atoiAll s.data.toList with
 | ok v =>
  refine (Tryz.strconv_Atoi_ok s (by omega) v h w).mono fun e w' ⟨he, hw⟩ => ⟨.inl ⟨v, rfl, he⟩, ?_⟩
  rcases hw with rfl | ⟨t, rfl⟩
  ·exact Below.refl _ _
  ·exact bytesWorld_below _ _ _
 | range => exact (Tryz.strconv_Atoi_range_var s (by omega) h tq q w hr).mono fun e w' ⟨N, he, _, _, hb⟩ => ⟨.inr ⟨(fun v hv => by cases hv), _, N, he⟩, hb⟩
 | _ => exact (Tryz.strconv_Atoi_syntax_var s (by omega) h tp p w hv).mono fun e w' ⟨N, he, _, _, hb⟩ => ⟨.inr ⟨(fun v hv => by cases hv), 0, N, he⟩, hb⟩
theorem grow_below (w : World) (k : Nat) (os : Array Obj) : Below w.heap.size w (Sort.grow (w.drewN k) os) :=
 ⟨rfl, rfl, rfl, by show w.heap.size ≤ (w.heap ++ os).size; rw [Array.size_append]; omega, fun j hj => by show (w.heap ++ os)[j]? = w.heap[j]?; exact Array.getElem?_append_left hj⟩
theorem itoa_any (n : Int) (h0 : -9223372036854775808 ≤ n) (h1 : n ≤ 9223372036854775807) {w : World} (hD : Doors w) :
  Calls Tryz.prog 220 #[.int .i64 n] w fun e w' => e = .returned (.string ⟨(itoa n).toArray⟩) ∧ Below w.heap.size w w' :=
 (Tryz.strconv_Itoa n h0 h1 w hD.tab).mono fun e w' ⟨he, k, os, hw⟩ => ⟨he, hw ▸ grow_below w k os⟩
end Go.Proofs.YteailgjiifdgcaaGreatDoor

/- What each row of this seat lists of the library's variables, and a world that holds it. No condition. -/
namespace Go.Proofs.YteailgjiifdgcaaGreatDoor
open Go.ChangeShapes Go.WideShapes Go.ChangeAt Go.RowKit Go.Lib

abbrev seatLaid : List (String × DataW Unit) := Rows.spansReadsRow.laid
theorem gTabType : (Tryz.prog.globals[5]?).map (·.type) = some 285 := by kernel_rfl
theorem gSynType : (Tryz.prog.globals[3]?).map (·.type) = some 146 := by kernel_rfl
theorem gRngType : (Tryz.prog.globals[4]?).map (·.type) = some 146 := by kernel_rfl
theorem star : "*" ++ "errors.errorString" = "*errors.errorString" := by decide
theorem rowErr (u : TypeId) (h : Tryz.prog.typeName? 3 u = some "*errors.errorString") : u = 281 :=
 typeName_ptr_named (nm := "errors.errorString") (by rw [star]; kernel_rfl) (by kernel_rfl) (by decide) u (by rw [star]; exact h)
theorem cells_u64 : Tryz.prog.cellsOf 268 = 1 := by kernel_rfl
theorem cells_tab : Tryz.prog.cellsOf 285 = 20 := by kernel_rfl
theorem cells_es : Tryz.prog.cellsOf 283 = 1 := by kernel_rfl
theorem cells_st : Tryz.prog.cellsOf 9 = 1 := by kernel_rfl
theorem doors_of {W : World} (hL : laidMetH Tryz.prog seatLaid W) (hS : W.ShapedOpen Tryz.prog) : Doors W := by
 rw [MakeChecks.laidMetH_plain _ _ _ (by kernel_rfl)] at hL
 have h2 := hL.tail.tail
 have h4 := h2.tail.tail
 have h5 := h4.tail
 obtain ⟨a0, s0, hv0, -, -, -⟩ := laid_sentinel h4 gRng gRngType Tryz.underlying146 rowErr Tryz.underlying281 Tryz.underlying283 rfl rfl Tryz.underlying9 cells_es cells_st
 obtain ⟨a1, s1, hv1, -, -, -⟩ := laid_sentinel h5 gSyn gSynType Tryz.underlying146 rowErr Tryz.underlying281 Tryz.underlying283 rfl rfl Tryz.underlying9 cells_es cells_st
 exact ⟨tabIs_of_head (k := .u64) (zs := pow10Tab) gTab gTabType Tryz.underlying285 Tryz.underlying268 cells_u64 cells_tab h2, ⟨_, _, hv1⟩, ⟨_, _, hv0⟩, Tryz.laysM143.s1_3 W hS⟩
theorem own : ownKnob Tryz.prog.godebug = none := by kernel_rfl
theorem laidOut : laidOutB Tryz.prog = true := by kernel_rfl
set_option maxRecDepth 100000 in
theorem seat_shaped (os : Os) (args : Array Value) : ((World.laidAll Tryz.prog os seatLaid).forCall (fun _ _ => 0) ⟨#[], args, []⟩).Shaped Tryz.prog := World.shaped_of_ZipB (by kernel_rfl) (by kernel_rfl)
set_option maxRecDepth 100000 in
theorem seat_laid (os : Os) (args : Array Value) : laidMetH Tryz.prog seatLaid ((World.laidAll Tryz.prog os seatLaid).forCall (fun _ _ => 0) ⟨#[], args, []⟩).memory := by
 rw [MakeChecks.laidMetH_plain _ _ _ (by kernel_rfl)]
 exact laidMet_laidAll _ (by kernel_rfl) (by kernel_rfl)
end Go.Proofs.YteailgjiifdgcaaGreatDoor
