/- Part of the proof of topCrashedLaw_holds. -/
import Derived.Shelf.Strings.Builder1
import Derived.Shelf.Strings.Trim
import Derived.Shelf.Small.Utf8
import Derived.Shelf.Small.Bits
import Derived.Shelf.Small.Strs
import Derived.Shelf.Small.Wraps
import Derived.Shelf.Strings.BuilderF
import Derived.Shelf.Strings.BuilderK
import Derived.Shelf.Strings.BuilderRune
import Derived.Shelf.Utf8.AppendRunePlain
import Derived.Shelf.Utf8.RuneCount
import Derived.Shelf.Strconv.Atoi
import Derived.Shelf.Strconv.Itoa0
import Derived.Shelf.Strconv.Itoa1
import Derived.Shelf.LaysM
import Derived.Shelf.Strconv.Itoa2
import Derived.Shelf.Strconv.Itoa3
import Derived.Shelf.Strconv.AtoiErrFast
import Derived.Shelf.Strconv.ParseIntEmpty
import Derived.Shelf.Strconv.AtoiFail
import Derived.Shelf.Strconv.Clone
import Derived.Shelf.Strconv.SyntaxError
import Derived.Shelf.LaysC
import Derived.Shelf.Strconv.ToError
import Derived.Shelf.Strconv.Lower
import Derived.Shelf.Strconv.ParseUint10
import Derived.Shelf.Strconv.ParseUint10Empty
import Derived.Shelf.Strconv.ParseUint10Any
import Derived.Shelf.Strconv.ParseInt10
import Derived.Shelf.Strconv.AtoiLong
import Derived.Shelf.Strconv.AtoiInnerAll
import Derived.Shelf.Strconv.RangeError
import Derived.Shelf.Strconv.ToErrorRange
import Derived.Shelf.Strconv.AtoiAll
import Derived.Shelf.Strconv.ParseUintEmpty
import Derived.Shelf.Strconv.ParseUint10b64
import Derived.Shelf.Strconv.ParseUint10b32
import Derived.Shelf.Strconv.ParseUint10b16
import Derived.Shelf.Strconv.ParseUint10b8
import Derived.Shelf.Strings.Search1
import Derived.Shelf.Strings.Search2
import Derived.Shelf.Strings.Search3
import Derived.Shelf.Strings.Cut
import Derived.Shelf.Strings.Count
import Derived.Shelf.Strings.Shaped
import Derived.Shelf.Sort.Plain
import Derived.Shelf.Strings.Prefix
import Derived.Shelf.Strings.Split
import Derived.Shelf.Strings.Fold
import Derived.Shelf.Strings.SplitShaped
import Derived.Shelf.Unicode.Decode
import Derived.Shelf.Strings.Runes
import Derived.Shelf.Strings.RuneCount
import Derived.Shelf.Strings.AsciiSet
import Derived.Shelf.Strings.Explode
import Derived.Shelf.Unicode.DecodeSlow
import Derived.Shelf.Unicode.DecodeAny
import Derived.Shelf.Unicode.DecodeLast
import Derived.Shelf.Unicode.CaseLookup
import Derived.Shelf.Unicode.CaseConvert
import Derived.Shelf.Strings.BuilderCap
import Derived.Shelf.Slices.Turned
import Derived.Ground.Names2Prog
import Derived.Shelf.Slices.Clone
import Derived.Shelf.Slices.CompactS
import Derived.Shelf.Slices.Cells
import Derived.Shelf.Slices.In.SortNone
import Derived.Ground.SlgnProg
import Derived.Shelf.SlicesE.Clone
import Derived.Ground.SlsfProg
import Derived.Shelf.SlSortCmp.InsertionK
import Derived.Shelf.SlSortCmp.SiftDownK
import Derived.Shelf.SlSortCmp.HeapSortK
import Derived.Shelf.SlSortCmp.MedianK
import Derived.Shelf.SlSortCmp.PivotK
import Derived.Shelf.SlSortCmp.ReverseRangeK
import Derived.Shelf.SlSortCmp.PartialInsertionK
import Derived.Shelf.SlSortCmp.PartitionEqualK
import Derived.Shelf.SlSortCmp.PartitionK
import Derived.Shelf.SlSortCmp.PdqK
import Derived.Shelf.SlSortCmp.WholeK
import Derived.Shelf.SlSortCmp.NoneTotal
import Derived.Ground.NamesProg
import Derived.Shelf.Unicode.ValidAny
import Derived.Test.YtjlknaahpjiibaaGreatDoorProg
import Derived.Test.YtjlknaahpjiibaaGreatDoorQaa
namespace Go.Proofs.YtjlknaahpjiibaaGreatDoor
open Go.Shelf
def Tryz.laysValid_ren : Go.Shelf.Ren := ⟨fun | 196 => 172 | 259 => 202 | n => n, fun | 9 => 9 | 4 => 4 | 3 => 3 | 5 => 5 | 12 => 12 | 119 => 246 | 0 => 0 | 46 => 113 | 139 => 249 | 138 => 248 | 53 => 168 | n => n, fun | 3 => 1 | 4 => 2 | n => n⟩
theorem Tryz.laysValid : Go.Proofs.Lays.n196 Tryz.prog Tryz.laysValid_ren := {
 mixed := by kernel_rfl
 f196 := Tryz.func172.trans (congrArg some (by kernel_rfl))
 f259 := Tryz.func202.trans (congrArg some (by kernel_rfl))
 t0 := Tryz.underlying0
 a0 := Tryz.isAgg0
 z0 := Tryz.sizeOf0
 v0 := Tryz.zeroValue0
 t3 := Tryz.underlying3
 a3 := Tryz.isAgg3
 z3 := Tryz.sizeOf3
 v3 := Tryz.zeroValue3
 t4 := Tryz.underlying4
 a4 := Tryz.isAgg4
 z4 := Tryz.sizeOf4
 v4 := Tryz.zeroValue4
 t5 := Tryz.underlying5
 a5 := Tryz.isAgg5
 z5 := Tryz.sizeOf5
 v5 := Tryz.zeroValue5
 t9 := Tryz.underlying9
 a9 := Tryz.isAgg9
 z9 := Tryz.sizeOf9
 v9 := Tryz.zeroValue9
 t12 := Tryz.underlying12
 a12 := Tryz.isAgg12
 z12 := Tryz.sizeOf12
 v12 := Tryz.zeroValue12
 t46 := Tryz.underlying113
 a46 := Tryz.isAgg113
 z46 := Tryz.sizeOf113
 v46 := Tryz.zeroValue113
 t53 := Tryz.underlying168
 a53 := Tryz.isAgg168
 z53 := Tryz.sizeOf168
 v53 := Tryz.zeroValue168
 t119 := Tryz.underlying246
 a119 := Tryz.isAgg246
 z119 := Tryz.sizeOf246
 t138 := Tryz.underlying248
 a138 := Tryz.isAgg248
 z138 := Tryz.sizeOf248
 v138 := Tryz.zeroValue248
 t139 := Tryz.underlying249
 a139 := Tryz.isAgg249
 z139 := Tryz.sizeOf249
 v139 := Tryz.zeroValue249
 g3 := by kernel_rfl
 g4 := by kernel_rfl }
def Tryz.lays170_ren : Go.Shelf.Ren := ⟨fun | 170 => 77 | n => n, fun | 70 => 136 | 3 => 3 | 0 => 0 | 72 => 139 | 37 => 137 | 5 => 5 | n => n, fun | n => n⟩
theorem Tryz.lays170 : Go.Proofs.Lays.n170 Tryz.prog Tryz.lays170_ren := {
 mixed := by kernel_rfl
 f170 := Tryz.func77.trans (congrArg some (by kernel_rfl))
 t0 := Tryz.underlying0
 a0 := Tryz.isAgg0
 z0 := Tryz.sizeOf0
 v0 := Tryz.zeroValue0
 t3 := Tryz.underlying3
 a3 := Tryz.isAgg3
 z3 := Tryz.sizeOf3
 v3 := Tryz.zeroValue3
 t37 := Tryz.underlying137
 a37 := Tryz.isAgg137
 z37 := Tryz.sizeOf137
 v37 := Tryz.zeroValue137
 t70 := Tryz.underlying136
 a70 := Tryz.isAgg136
 z70 := Tryz.sizeOf136
 v70 := Tryz.zeroValue136
 t72 := Tryz.underlying139
 a72 := Tryz.isAgg139
 z72 := Tryz.sizeOf139
 v72 := Tryz.zeroValue139 }
open Go.RowKit in
theorem Tryz.Builder_Len (B b : Nat) (bs : List Value) (w : World) (h : Lib.IsBuilder 139 5 B b bs w) :
 Calls Tryz.prog 77 #[.pointer (some ⟨b, 0, none⟩)] w fun e w' => e = .returned (.int .i64 bs.length) ∧ w' = w := Any.Builder_Len Tryz.lays170 B b bs w h
def Tryz.lays169_ren : Go.Shelf.Ren := ⟨fun | 169 => 78 | n => n, fun | 70 => 136 | 9 => 9 | 0 => 0 | 72 => 139 | 37 => 137 | 127 => 193 | 3 => 3 | 5 => 5 | n => n, fun | n => n⟩
theorem Tryz.lays169 : Go.Proofs.Lays.n169 Tryz.prog Tryz.lays169_ren := {
 mixed := by kernel_rfl
 f169 := Tryz.func78.trans (congrArg some (by kernel_rfl))
 t0 := Tryz.underlying0
 a0 := Tryz.isAgg0
 z0 := Tryz.sizeOf0
 v0 := Tryz.zeroValue0
 t3 := Tryz.underlying3
 a3 := Tryz.isAgg3
 z3 := Tryz.sizeOf3
 v3 := Tryz.zeroValue3
 t9 := Tryz.underlying9
 a9 := Tryz.isAgg9
 z9 := Tryz.sizeOf9
 v9 := Tryz.zeroValue9
 t37 := Tryz.underlying137
 a37 := Tryz.isAgg137
 z37 := Tryz.sizeOf137
 v37 := Tryz.zeroValue137
 t70 := Tryz.underlying136
 a70 := Tryz.isAgg136
 z70 := Tryz.sizeOf136
 v70 := Tryz.zeroValue136
 t72 := Tryz.underlying139
 a72 := Tryz.isAgg139
 z72 := Tryz.sizeOf139
 v72 := Tryz.zeroValue139
 t127 := Tryz.underlying193
 a127 := Tryz.isAgg193
 z127 := Tryz.sizeOf193
 v127 := Tryz.zeroValue193 }
theorem Tryz.Builder_Extra_169 : Builder.Extra Tryz.prog Tryz.lays169_ren := {
 sizeBuilder := by kernel_rfl
 liesBuilder := by kernel_rfl
 t5 := Tryz.underlying5
 a5 := Tryz.isAgg5
 z5 := Tryz.sizeOf5
 v5 := Tryz.zeroValue5
 infoByte := by kernel_rfl
 cellsByte := by kernel_rfl
 sizeByte := by kernel_rfl
 neB5 := by decide }
open Go.RowKit in
theorem Tryz.Builder_String_any (B b : Nat) (l : List UInt8) (w : World) (h : Lib.IsBuilder 139 5 B b (Lib.byteCells l) w) (hBw : B ≤ w.heap.size) :
 Calls Tryz.prog 78 #[.pointer (some ⟨b, 0, none⟩)] w fun e w' => e = .returned (.string ⟨l.toArray⟩) ∧ Below B w w' := Any.Builder_String_any Tryz.lays169 Tryz.Builder_Extra_169 B b l w h hBw
def Tryz.lays160_ren : Go.Shelf.Ren := ⟨fun | 160 => 201 | 232 => 221 | 231 => 220 | 227 => 222 | 234 => 224 | 233 => 223 | 236 => 226 | 235 => 225 | 228 => 239 | 271 => 241 | 151 => 240 | 197 => 185 | 120 => 248 | 152 => 247 | 260 => 209 | 137 => 136 | 119 => 251 | 224 => 211 | 225 => 210 | 217 => 176 | 266 => 207 | n => n, fun | 9 => 9 | 4 => 4 | 3 => 3 | 5 => 5 | 117 => 263 | 116 => 262 | 0 => 0 | 124 => 266 | 21 => 21 | 105 => 232 | 46 => 113 | 119 => 246 | 139 => 249 | 138 => 248 | n => n, fun | 3 => 1 | 4 => 2 | n => n⟩
theorem Tryz.lays160 : Go.Proofs.Lays.n160 Tryz.prog Tryz.lays160_ren := {
 mixed := by kernel_rfl
 f119 := Tryz.func251.trans (congrArg some (by kernel_rfl))
 f120 := Tryz.func248.trans (congrArg some (by kernel_rfl))
 f137 := Tryz.func136.trans (congrArg some (by kernel_rfl))
 f151 := Tryz.func240.trans (congrArg some (by kernel_rfl))
 f152 := Tryz.func247.trans (congrArg some (by kernel_rfl))
 f160 := Tryz.func201.trans (congrArg some (by kernel_rfl))
 f197 := Tryz.func185.trans (congrArg some (by kernel_rfl))
 f217 := Tryz.func176.trans (congrArg some (by kernel_rfl))
 f224 := Tryz.func211.trans (congrArg some (by kernel_rfl))
 f225 := Tryz.func210.trans (congrArg some (by kernel_rfl))
 f227 := Tryz.func222.trans (congrArg some (by kernel_rfl))
 f228 := Tryz.func239.trans (congrArg some (by kernel_rfl))
 f231 := Tryz.func220.trans (congrArg some (by kernel_rfl))
 f232 := Tryz.func221.trans (congrArg some (by kernel_rfl))
 f233 := Tryz.func223.trans (congrArg some (by kernel_rfl))
 f234 := Tryz.func224.trans (congrArg some (by kernel_rfl))
 f235 := Tryz.func225.trans (congrArg some (by kernel_rfl))
 f236 := Tryz.func226.trans (congrArg some (by kernel_rfl))
 f260 := Tryz.func209.trans (congrArg some (by kernel_rfl))
 f266 := Tryz.func207.trans (congrArg some (by kernel_rfl))
 f271 := Tryz.func241.trans (congrArg some (by kernel_rfl))
 t0 := Tryz.underlying0
 a0 := Tryz.isAgg0
 z0 := Tryz.sizeOf0
 v0 := Tryz.zeroValue0
 t3 := Tryz.underlying3
 a3 := Tryz.isAgg3
 z3 := Tryz.sizeOf3
 v3 := Tryz.zeroValue3
 t4 := Tryz.underlying4
 a4 := Tryz.isAgg4
 z4 := Tryz.sizeOf4
 v4 := Tryz.zeroValue4
 t5 := Tryz.underlying5
 a5 := Tryz.isAgg5
 z5 := Tryz.sizeOf5
 v5 := Tryz.zeroValue5
 t9 := Tryz.underlying9
 a9 := Tryz.isAgg9
 z9 := Tryz.sizeOf9
 v9 := Tryz.zeroValue9
 t21 := Tryz.underlying21
 a21 := Tryz.isAgg21
 z21 := Tryz.sizeOf21
 v21 := Tryz.zeroValue21
 t46 := Tryz.underlying113
 a46 := Tryz.isAgg113
 z46 := Tryz.sizeOf113
 v46 := Tryz.zeroValue113
 t105 := Tryz.underlying232
 a105 := Tryz.isAgg232
 z105 := Tryz.sizeOf232
 v105 := Tryz.zeroValue232
 t116 := Tryz.underlying262
 a116 := Tryz.isAgg262
 z116 := Tryz.sizeOf262
 t117 := Tryz.underlying263
 a117 := Tryz.isAgg263
 z117 := Tryz.sizeOf263
 v117 := Tryz.zeroValue263
 t119 := Tryz.underlying246
 a119 := Tryz.isAgg246
 z119 := Tryz.sizeOf246
 t124 := Tryz.underlying266
 a124 := Tryz.isAgg266
 z124 := Tryz.sizeOf266
 v124 := Tryz.zeroValue266
 t138 := Tryz.underlying248
 a138 := Tryz.isAgg248
 z138 := Tryz.sizeOf248
 v138 := Tryz.zeroValue248
 t139 := Tryz.underlying249
 a139 := Tryz.isAgg249
 z139 := Tryz.sizeOf249
 v139 := Tryz.zeroValue249
 g3 := by kernel_rfl
 g4 := by kernel_rfl }
def Tryz.lays137_ren : Go.Shelf.Ren := ⟨fun | 137 => 136 | 217 => 176 | 266 => 207 | n => n, fun | 9 => 9 | 5 => 5 | 3 => 3 | n => n, fun | n => n⟩
theorem Tryz.lays137 : Go.Proofs.Lays.n137 Tryz.prog Tryz.lays137_ren := {
 mixed := by kernel_rfl
 f137 := Tryz.func136.trans (congrArg some (by kernel_rfl))
 f217 := Tryz.func176.trans (congrArg some (by kernel_rfl))
 f266 := Tryz.func207.trans (congrArg some (by kernel_rfl))
 t3 := Tryz.underlying3
 a3 := Tryz.isAgg3
 z3 := Tryz.sizeOf3
 v3 := Tryz.zeroValue3
 t5 := Tryz.underlying5
 a5 := Tryz.isAgg5
 z5 := Tryz.sizeOf5
 v5 := Tryz.zeroValue5
 t9 := Tryz.underlying9
 a9 := Tryz.isAgg9
 z9 := Tryz.sizeOf9
 v9 := Tryz.zeroValue9 }
open Go.RowKit in
theorem Tryz.strings_IndexByte (s : ByteArray) (c : Int) (w : World) :
 Calls Tryz.prog 136 #[.string s, .int .u8 c] w fun e w' => e = .returned (.int .i64 (Lib.indexByte s.data.toList c.toNat.toUInt8)) ∧ w' = w := Any.strings_IndexByte Tryz.lays137 s c w
def Tryz.lays103_ren : Go.Shelf.Ren := ⟨fun | 103 => 68 | 210 => 107 | 206 => 155 | n => n, fun | 9 => 9 | 4 => 4 | 24 => 55 | 3 => 3 | n => n, fun | n => n⟩
theorem Tryz.lays103 : Go.Proofs.Lays.n103 Tryz.prog Tryz.lays103_ren := {
 mixed := by kernel_rfl
 f103 := Tryz.func68.trans (congrArg some (by kernel_rfl))
 f206 := Tryz.func155.trans (congrArg some (by kernel_rfl))
 f210 := Tryz.func107.trans (congrArg some (by kernel_rfl))
 t3 := Tryz.underlying3
 a3 := Tryz.isAgg3
 z3 := Tryz.sizeOf3
 v3 := Tryz.zeroValue3
 t4 := Tryz.underlying4
 a4 := Tryz.isAgg4
 z4 := Tryz.sizeOf4
 v4 := Tryz.zeroValue4
 t9 := Tryz.underlying9
 a9 := Tryz.isAgg9
 z9 := Tryz.sizeOf9
 v9 := Tryz.zeroValue9
 t24 := Tryz.underlying55
 a24 := Tryz.isAgg55
 z24 := Tryz.sizeOf55
 v24 := Tryz.zeroValue55 }
open Go.RowKit in
theorem Tryz.strings_CutPrefix (s p : ByteArray) (w : World) :
 Calls Tryz.prog 68 #[.string s, .string p] w fun e w' => e = .returned (.tuple #[.string ⟨(Lib.trimPrefix s.data.toList p.data.toList).toArray⟩, .bool (Lib.hasPrefix s.data.toList p.data.toList)]) ∧ w' = w := Any.strings_CutPrefix Tryz.lays103 s p w
def Tryz.lays121_ren : Go.Shelf.Ren := ⟨fun | 121 => 126 | 214 => 167 | n => n, fun | 4 => 4 | 9 => 9 | n => n, fun | n => n⟩
theorem Tryz.lays121 : Go.Proofs.Lays.n121 Tryz.prog Tryz.lays121_ren := {
 mixed := by kernel_rfl
 f121 := Tryz.func126.trans (congrArg some (by kernel_rfl))
 f214 := Tryz.func167.trans (congrArg some (by kernel_rfl))
 t4 := Tryz.underlying4
 a4 := Tryz.isAgg4
 z4 := Tryz.sizeOf4
 v4 := Tryz.zeroValue4
 t9 := Tryz.underlying9
 a9 := Tryz.isAgg9
 z9 := Tryz.sizeOf9
 v9 := Tryz.zeroValue9 }
open Go.RowKit in
theorem Tryz.strconv_FormatBool (b : Bool) (w : World) :
 Calls Tryz.prog 126 #[.bool b] w fun e w' => e = .returned (.string ⟨(Lib.formatBool b).toArray⟩) ∧ w' = w := Any.strconv_FormatBool Tryz.lays121 b w
open Go.RowKit in
theorem Tryz.Builder_String_any_f (B b : Nat) (l : List UInt8) (w : World) (h : Lib.IsBuilderF 139 5 B b (Lib.byteCells l) w) (hBw : B ≤ w.heap.size) :
 Calls Tryz.prog 78 #[.pointer (some ⟨b, 0, none⟩)] w fun e w' => e = .returned (.string ⟨l.toArray⟩) ∧ (Lib.IsBuilderF 139 5 B b (Lib.byteCells l) w' ∧ Below B w w') := Any.Builder_String_any_f Tryz.lays169 Tryz.Builder_Extra_169 B b l w h hBw
open Go.RowKit in
def Tryz.lays172_ren : Go.Shelf.Ren := ⟨fun | 172 => 175 | 244 => 205 | 245 => 206 | 247 => 229 | 279 => 230 | 280 => 231 | 281 => 232 | 282 => 233 | 287 => 244 | 316 => 245 | 171 => 79 | 205 => 246 | 321 => 249 | 322 => 250 | 243 => 129 | 246 => 169 | 283 => 192 | 284 => 193 | 285 => 194 | 286 => 195 | 129 => 101 | 317 => 214 | 318 => 215 | 319 => 216 | 320 => 217 | 337 => 235 | 338 => 236 | n => n, fun | 9 => 9 | 3 => 3 | 75 => 188 | 76 => 189 | 4 => 4 | 5 => 5 | 167 => 268 | 37 => 137 | 0 => 0 | 85 => 269 | 2 => 2 | 168 => 271 | 53 => 168 | 175 => 286 | 46 => 113 | 210 => 289 | 127 => 193 | 145 => 301 | 143 => 299 | 21 => 21 | 171 => 238 | 173 => 240 | 212 => 257 | 51 => 46 | 20 => 20 | 213 => 258 | 232 => 291 | 233 => 292 | 80 => 142 | n => n, fun | 15 => 7 | 16 => 8 | 17 => 3 | 18 => 9 | 19 => 10 | n => n⟩
theorem Tryz.lays172 : Go.Proofs.Lays.n172 Tryz.prog Tryz.lays172_ren := {
 mixed := by kernel_rfl
 f129 := Tryz.func101.trans (congrArg some (by kernel_rfl))
 f171 := Tryz.func79.trans (congrArg some (by kernel_rfl))
 f172 := Tryz.func175.trans (congrArg some (by kernel_rfl))
 f205 := Tryz.func246.trans (congrArg some (by kernel_rfl))
 f243 := Tryz.func129.trans (congrArg some (by kernel_rfl))
 f244 := Tryz.func205.trans (congrArg some (by kernel_rfl))
 f245 := Tryz.func206.trans (congrArg some (by kernel_rfl))
 f246 := Tryz.func169.trans (congrArg some (by kernel_rfl))
 f247 := Tryz.func229.trans (congrArg some (by kernel_rfl))
 f279 := Tryz.func230.trans (congrArg some (by kernel_rfl))
 f280 := Tryz.func231.trans (congrArg some (by kernel_rfl))
 f281 := Tryz.func232.trans (congrArg some (by kernel_rfl))
 f282 := Tryz.func233.trans (congrArg some (by kernel_rfl))
 f283 := Tryz.func192.trans (congrArg some (by kernel_rfl))
 f284 := Tryz.func193.trans (congrArg some (by kernel_rfl))
 f285 := Tryz.func194.trans (congrArg some (by kernel_rfl))
 f286 := Tryz.func195.trans (congrArg some (by kernel_rfl))
 f287 := Tryz.func244.trans (congrArg some (by kernel_rfl))
 f316 := Tryz.func245.trans (congrArg some (by kernel_rfl))
 f317 := Tryz.func214.trans (congrArg some (by kernel_rfl))
 f318 := Tryz.func215.trans (congrArg some (by kernel_rfl))
 f319 := Tryz.func216.trans (congrArg some (by kernel_rfl))
 f320 := Tryz.func217.trans (congrArg some (by kernel_rfl))
 f321 := Tryz.func249.trans (congrArg some (by kernel_rfl))
 f322 := Tryz.func250.trans (congrArg some (by kernel_rfl))
 f337 := Tryz.func235.trans (congrArg some (by kernel_rfl))
 f338 := Tryz.func236.trans (congrArg some (by kernel_rfl))
 t0 := Tryz.underlying0
 a0 := Tryz.isAgg0
 z0 := Tryz.sizeOf0
 v0 := Tryz.zeroValue0
 t2 := Tryz.underlying2
 a2 := Tryz.isAgg2
 z2 := Tryz.sizeOf2
 v2 := Tryz.zeroValue2
 t3 := Tryz.underlying3
 a3 := Tryz.isAgg3
 z3 := Tryz.sizeOf3
 v3 := Tryz.zeroValue3
 t4 := Tryz.underlying4
 a4 := Tryz.isAgg4
 z4 := Tryz.sizeOf4
 v4 := Tryz.zeroValue4
 t5 := Tryz.underlying5
 a5 := Tryz.isAgg5
 z5 := Tryz.sizeOf5
 v5 := Tryz.zeroValue5
 t9 := Tryz.underlying9
 a9 := Tryz.isAgg9
 z9 := Tryz.sizeOf9
 v9 := Tryz.zeroValue9
 t20 := Tryz.underlying20
 a20 := Tryz.isAgg20
 z20 := Tryz.sizeOf20
 v20 := Tryz.zeroValue20
 t21 := Tryz.underlying21
 a21 := Tryz.isAgg21
 z21 := Tryz.sizeOf21
 v21 := Tryz.zeroValue21
 t37 := Tryz.underlying137
 a37 := Tryz.isAgg137
 z37 := Tryz.sizeOf137
 v37 := Tryz.zeroValue137
 t46 := Tryz.underlying113
 a46 := Tryz.isAgg113
 z46 := Tryz.sizeOf113
 v46 := Tryz.zeroValue113
 t51 := Tryz.underlying46
 a51 := Tryz.isAgg46
 z51 := Tryz.sizeOf46
 v51 := Tryz.zeroValue46
 t53 := Tryz.underlying168
 a53 := Tryz.isAgg168
 z53 := Tryz.sizeOf168
 v53 := Tryz.zeroValue168
 t75 := Tryz.underlying188
 a75 := Tryz.isAgg188
 z75 := Tryz.sizeOf188
 v75 := Tryz.zeroValue188
 t76 := Tryz.underlying189
 a76 := Tryz.isAgg189
 z76 := Tryz.sizeOf189
 v76 := Tryz.zeroValue189
 t85 := Tryz.underlying269
 a85 := Tryz.isAgg269
 z85 := Tryz.sizeOf269
 v85 := Tryz.zeroValue269
 t127 := Tryz.underlying193
 a127 := Tryz.isAgg193
 z127 := Tryz.sizeOf193
 v127 := Tryz.zeroValue193
 t143 := Tryz.underlying299
 a143 := Tryz.isAgg299
 z143 := Tryz.sizeOf299
 v143 := Tryz.zeroValue299
 t145 := Tryz.underlying301
 a145 := Tryz.isAgg301
 z145 := Tryz.sizeOf301
 v145 := Tryz.zeroValue301
 t167 := Tryz.underlying268
 a167 := Tryz.isAgg268
 z167 := Tryz.sizeOf268
 v167 := Tryz.zeroValue268
 t168 := Tryz.underlying271
 a168 := Tryz.isAgg271
 z168 := Tryz.sizeOf271
 v168 := Tryz.zeroValue271
 t171 := Tryz.underlying238
 a171 := Tryz.isAgg238
 z171 := Tryz.sizeOf238
 v171 := Tryz.zeroValue238
 t173 := Tryz.underlying240
 a173 := Tryz.isAgg240
 z173 := Tryz.sizeOf240
 v173 := Tryz.zeroValue240
 t175 := Tryz.underlying286
 a175 := Tryz.isAgg286
 z175 := Tryz.sizeOf286
 v175 := Tryz.zeroValue286
 t210 := Tryz.underlying289
 a210 := Tryz.isAgg289
 z210 := Tryz.sizeOf289
 v210 := Tryz.zeroValue289
 t212 := Tryz.underlying257
 a212 := Tryz.isAgg257
 z212 := Tryz.sizeOf257
 v212 := Tryz.zeroValue257
 t213 := Tryz.underlying258
 a213 := Tryz.isAgg258
 z213 := Tryz.sizeOf258
 t232 := Tryz.underlying291
 a232 := Tryz.isAgg291
 z232 := Tryz.sizeOf291
 v232 := Tryz.zeroValue291
 t233 := Tryz.underlying292
 a233 := Tryz.isAgg292
 z233 := Tryz.sizeOf292
 v233 := Tryz.zeroValue292
 g15 := by kernel_rfl
 g16 := by kernel_rfl
 g17 := by kernel_rfl
 g18 := by kernel_rfl
 g19 := by kernel_rfl }
open Go.RowKit in
theorem Tryz.strconv_Atoi (s : ByteArray) (n : Int) (hl : s.size ≤ 18) (h : Lib.atoi s.data.toList = some n) (w : World) :
 Calls Tryz.prog 175 #[.string s] w fun e w' => e = .returned (.tuple #[.int .i64 n, .nilIface]) ∧ ∃ t, w' = Lib.bytesWorld w 5 t := Any.strconv_Atoi Tryz.lays172 s n hl h w
def Tryz.laysM171_ren : Go.Shelf.Ren := ⟨fun | 171 => 79 | 243 => 129 | 246 => 169 | 283 => 192 | 284 => 193 | 285 => 194 | 286 => 195 | 129 => 101 | 317 => 214 | 318 => 215 | 319 => 216 | 320 => 217 | 337 => 235 | 338 => 236 | n => n, fun | 3 => 3 | 9 => 9 | 2 => 2 | 4 => 4 | 171 => 238 | 0 => 0 | 53 => 168 | 37 => 137 | 5 => 5 | 173 => 240 | 212 => 257 | 51 => 46 | 20 => 20 | 213 => 258 | 46 => 113 | 232 => 291 | 233 => 292 | n => n, fun | 17 => 3 | 18 => 9 | 19 => 10 | n => n⟩
theorem Tryz.laysM171 : Go.Proofs.LaysM.n171 Tryz.prog Tryz.laysM171_ren := {
 mixed := by kernel_rfl
 f129 := Tryz.func101.trans (congrArg some (by kernel_rfl))
 f171 := Tryz.func79.trans (congrArg some (by kernel_rfl))
 f243 := Tryz.func129.trans (congrArg some (by kernel_rfl))
 f246 := Tryz.func169.trans (congrArg some (by kernel_rfl))
 f283 := Tryz.func192.trans (congrArg some (by kernel_rfl))
 f284 := Tryz.func193.trans (congrArg some (by kernel_rfl))
 f285 := Tryz.func194.trans (congrArg some (by kernel_rfl))
 f286 := Tryz.func195.trans (congrArg some (by kernel_rfl))
 f317 := Tryz.func214.trans (congrArg some (by kernel_rfl))
 f318 := Tryz.func215.trans (congrArg some (by kernel_rfl))
 f319 := Tryz.func216.trans (congrArg some (by kernel_rfl))
 f320 := Tryz.func217.trans (congrArg some (by kernel_rfl))
 f337 := Tryz.func235.trans (congrArg some (by kernel_rfl))
 f338 := Tryz.func236.trans (congrArg some (by kernel_rfl))
 t0 := Tryz.underlying0
 a0 := Tryz.isAgg0
 z0 := Tryz.sizeOf0
 v0 := Tryz.zeroValue0
 t2 := Tryz.underlying2
 a2 := Tryz.isAgg2
 z2 := Tryz.sizeOf2
 v2 := Tryz.zeroValue2
 t3 := Tryz.underlying3
 a3 := Tryz.isAgg3
 z3 := Tryz.sizeOf3
 v3 := Tryz.zeroValue3
 t4 := Tryz.underlying4
 a4 := Tryz.isAgg4
 z4 := Tryz.sizeOf4
 v4 := Tryz.zeroValue4
 t5 := Tryz.underlying5
 a5 := Tryz.isAgg5
 z5 := Tryz.sizeOf5
 v5 := Tryz.zeroValue5
 t9 := Tryz.underlying9
 a9 := Tryz.isAgg9
 z9 := Tryz.sizeOf9
 v9 := Tryz.zeroValue9
 t20 := Tryz.underlying20
 a20 := Tryz.isAgg20
 z20 := Tryz.sizeOf20
 v20 := Tryz.zeroValue20
 t37 := Tryz.underlying137
 a37 := Tryz.isAgg137
 z37 := Tryz.sizeOf137
 v37 := Tryz.zeroValue137
 t46 := Tryz.underlying113
 a46 := Tryz.isAgg113
 z46 := Tryz.sizeOf113
 v46 := Tryz.zeroValue113
 t51 := Tryz.underlying46
 a51 := Tryz.isAgg46
 z51 := Tryz.sizeOf46
 v51 := Tryz.zeroValue46
 t53 := Tryz.underlying168
 a53 := Tryz.isAgg168
 z53 := Tryz.sizeOf168
 v53 := Tryz.zeroValue168
 t171 := Tryz.underlying238
 a171 := Tryz.isAgg238
 z171 := Tryz.sizeOf238
 v171 := Tryz.zeroValue238
 t173 := Tryz.underlying240
 a173 := Tryz.isAgg240
 z173 := Tryz.sizeOf240
 v173 := Tryz.zeroValue240
 t212 := Tryz.underlying257
 a212 := Tryz.isAgg257
 z212 := Tryz.sizeOf257
 v212 := Tryz.zeroValue257
 t213 := Tryz.underlying258
 a213 := Tryz.isAgg258
 z213 := Tryz.sizeOf258
 t232 := Tryz.underlying291
 a232 := Tryz.isAgg291
 z232 := Tryz.sizeOf291
 v232 := Tryz.zeroValue291
 t233 := Tryz.underlying292
 a233 := Tryz.isAgg292
 z233 := Tryz.sizeOf292
 v233 := Tryz.zeroValue292
 g17 := by kernel_rfl
 g18 := by kernel_rfl
 g19 := by kernel_rfl
 i0 := by kernel_rfl
 i2 := by kernel_rfl
 i3 := by kernel_rfl
 i4 := by kernel_rfl
 i5 := by kernel_rfl
 i9 := by kernel_rfl
 i20 := by kernel_rfl
 i37 := by kernel_rfl
 i46 := by kernel_rfl
 i51 := by kernel_rfl
 i53 := by kernel_rfl
 i171 := by kernel_rfl
 i173 := by kernel_rfl
 i212 := by kernel_rfl
 i232 := by kernel_rfl
 i233 := by kernel_rfl
 m17 := by kernel_rfl
 m18 := by kernel_rfl
 m19 := by kernel_rfl }
open Go.RowKit Go.Sort Go.Lib in
theorem Tryz.strconv_Itoa (n : Int) (h0 : -9223372036854775808 ≤ n) (h1 : n ≤ 9223372036854775807) (w : World) (htab : Lib.TabIs Tryz.prog w "internal/strconv.uint64pow10" .u64 Lib.pow10Tab) :
 Calls Tryz.prog 79 #[.int .i64 n] w fun e w' => e = .returned (.string ⟨(Lib.itoa n).toArray⟩) ∧ ∃ k os, w' = grow (w.drewN k) os := Any.strconv_Itoa Tryz.laysM171 n h0 h1 w htab
open Go.RowKit in
def Tryz.lays143_ren : Go.Shelf.Ren := ⟨fun | 143 => 158 | 219 => 187 | 217 => 176 | 225 => 210 | 224 => 211 | 267 => 212 | 266 => 207 | 314 => 234 | n => n, fun | 9 => 9 | 3 => 3 | 4 => 4 | 5 => 5 | 46 => 113 | 146 => 274 | 51 => 46 | n => n, fun | 1 => 0 | n => n⟩
theorem Tryz.lays143 : Go.Proofs.Lays.n143 Tryz.prog Tryz.lays143_ren := {
 mixed := by kernel_rfl
 f143 := Tryz.func158.trans (congrArg some (by kernel_rfl))
 f217 := Tryz.func176.trans (congrArg some (by kernel_rfl))
 f219 := Tryz.func187.trans (congrArg some (by kernel_rfl))
 f224 := Tryz.func211.trans (congrArg some (by kernel_rfl))
 f225 := Tryz.func210.trans (congrArg some (by kernel_rfl))
 f266 := Tryz.func207.trans (congrArg some (by kernel_rfl))
 f267 := Tryz.func212.trans (congrArg some (by kernel_rfl))
 f314 := Tryz.func234.trans (congrArg some (by kernel_rfl))
 t3 := Tryz.underlying3
 a3 := Tryz.isAgg3
 z3 := Tryz.sizeOf3
 v3 := Tryz.zeroValue3
 t4 := Tryz.underlying4
 a4 := Tryz.isAgg4
 z4 := Tryz.sizeOf4
 v4 := Tryz.zeroValue4
 t5 := Tryz.underlying5
 a5 := Tryz.isAgg5
 z5 := Tryz.sizeOf5
 v5 := Tryz.zeroValue5
 t9 := Tryz.underlying9
 a9 := Tryz.isAgg9
 z9 := Tryz.sizeOf9
 v9 := Tryz.zeroValue9
 t46 := Tryz.underlying113
 a46 := Tryz.isAgg113
 z46 := Tryz.sizeOf113
 v46 := Tryz.zeroValue113
 t51 := Tryz.underlying46
 a51 := Tryz.isAgg46
 z51 := Tryz.sizeOf46
 v51 := Tryz.zeroValue46
 t146 := Tryz.underlying274
 a146 := Tryz.isAgg274
 z146 := Tryz.sizeOf274
 v146 := Tryz.zeroValue274
 g1 := by kernel_rfl }
open Go.RowKit Go.Lib in
theorem Tryz.strings_Index (s sub : ByteArray) (m : Int) (w : World) (hs : s.size < 4294967281) (hm : w.cell? ⟨0, 0, none⟩ = some (.int .i64 m)) :
 Calls Tryz.prog 158 #[.string s, .string sub] w fun e w' => e = .returned (.int .i64 (Lib.index s.data.toList sub.data.toList)) ∧ w' = w := Any.strings_Index Tryz.lays143 s sub m w hs hm
def Tryz.lays145_ren : Go.Shelf.Ren := ⟨fun | 145 => 196 | 220 => 218 | 219 => 187 | 217 => 176 | 225 => 210 | 224 => 211 | 267 => 212 | 266 => 207 | 314 => 234 | n => n, fun | 9 => 9 | 4 => 4 | 59 => 242 | 3 => 3 | 5 => 5 | 46 => 113 | 146 => 274 | 51 => 46 | n => n, fun | 1 => 0 | n => n⟩
theorem Tryz.lays145 : Go.Proofs.Lays.n145 Tryz.prog Tryz.lays145_ren := {
 mixed := by kernel_rfl
 f145 := Tryz.func196.trans (congrArg some (by kernel_rfl))
 f217 := Tryz.func176.trans (congrArg some (by kernel_rfl))
 f219 := Tryz.func187.trans (congrArg some (by kernel_rfl))
 f220 := Tryz.func218.trans (congrArg some (by kernel_rfl))
 f224 := Tryz.func211.trans (congrArg some (by kernel_rfl))
 f225 := Tryz.func210.trans (congrArg some (by kernel_rfl))
 f266 := Tryz.func207.trans (congrArg some (by kernel_rfl))
 f267 := Tryz.func212.trans (congrArg some (by kernel_rfl))
 f314 := Tryz.func234.trans (congrArg some (by kernel_rfl))
 t3 := Tryz.underlying3
 a3 := Tryz.isAgg3
 z3 := Tryz.sizeOf3
 v3 := Tryz.zeroValue3
 t4 := Tryz.underlying4
 a4 := Tryz.isAgg4
 z4 := Tryz.sizeOf4
 v4 := Tryz.zeroValue4
 t5 := Tryz.underlying5
 a5 := Tryz.isAgg5
 z5 := Tryz.sizeOf5
 v5 := Tryz.zeroValue5
 t9 := Tryz.underlying9
 a9 := Tryz.isAgg9
 z9 := Tryz.sizeOf9
 v9 := Tryz.zeroValue9
 t46 := Tryz.underlying113
 a46 := Tryz.isAgg113
 z46 := Tryz.sizeOf113
 v46 := Tryz.zeroValue113
 t51 := Tryz.underlying46
 a51 := Tryz.isAgg46
 z51 := Tryz.sizeOf46
 v51 := Tryz.zeroValue46
 t59 := Tryz.underlying242
 a59 := Tryz.isAgg242
 z59 := Tryz.sizeOf242
 v59 := Tryz.zeroValue242
 t146 := Tryz.underlying274
 a146 := Tryz.isAgg274
 z146 := Tryz.sizeOf274
 v146 := Tryz.zeroValue274
 g1 := by kernel_rfl }
open Go.RowKit Go.Lib in
theorem Tryz.strings_Cut (s sep : ByteArray) (m : Int) (w : World) (hs : s.size < 4294967281) (hm : w.cell? ⟨0, 0, none⟩ = some (.int .i64 m)) :
 Calls Tryz.prog 196 #[.string s, .string sep] w fun e w' => e = .returned (.tuple #[.string ⟨(Lib.cut s.data.toList sep.data.toList).1.toArray⟩, .string ⟨(Lib.cut s.data.toList sep.data.toList).2.1.toArray⟩, .bool (Lib.cut s.data.toList sep.data.toList).2.2]) ∧ ∃ n, w' = w.drewN n := Any.strings_Cut Tryz.lays145 s sep m w hs hm
def Tryz.lays190_ren : Go.Shelf.Ren := ⟨fun | 190 => 38 | 125 => 54 | 258 => 70 | 128 => 100 | 129 => 101 | 302 => 109 | 303 => 110 | 304 => 111 | 305 => 112 | 306 => 113 | 307 => 114 | 308 => 115 | 309 => 116 | 310 => 117 | 333 => 159 | 329 => 141 | 330 => 142 | 334 => 160 | 335 => 161 | 336 => 162 | 344 => 188 | n => n, fun | 31 => 22 | 9 => 9 | 3 => 3 | 46 => 113 | 0 => 0 | 51 => 46 | 53 => 168 | 4 => 4 | 183 => 160 | 182 => 159 | 131 => 164 | 5 => 5 | 218 => 202 | 222 => 183 | 228 => 226 | 229 => 227 | n => n, fun | n => n⟩
theorem Tryz.lays190 : Go.Proofs.Lays.n190 Tryz.prog Tryz.lays190_ren := {
 mixed := by kernel_rfl
 f125 := Tryz.func54.trans (congrArg some (by kernel_rfl))
 f128 := Tryz.func100.trans (congrArg some (by kernel_rfl))
 f129 := Tryz.func101.trans (congrArg some (by kernel_rfl))
 f190 := Tryz.func38.trans (congrArg some (by kernel_rfl))
 f258 := Tryz.func70.trans (congrArg some (by kernel_rfl))
 f302 := Tryz.func109.trans (congrArg some (by kernel_rfl))
 f303 := Tryz.func110.trans (congrArg some (by kernel_rfl))
 f304 := Tryz.func111.trans (congrArg some (by kernel_rfl))
 f305 := Tryz.func112.trans (congrArg some (by kernel_rfl))
 f306 := Tryz.func113.trans (congrArg some (by kernel_rfl))
 f307 := Tryz.func114.trans (congrArg some (by kernel_rfl))
 f308 := Tryz.func115.trans (congrArg some (by kernel_rfl))
 f309 := Tryz.func116.trans (congrArg some (by kernel_rfl))
 f310 := Tryz.func117.trans (congrArg some (by kernel_rfl))
 f329 := Tryz.func141.trans (congrArg some (by kernel_rfl))
 f330 := Tryz.func142.trans (congrArg some (by kernel_rfl))
 f333 := Tryz.func159.trans (congrArg some (by kernel_rfl))
 f334 := Tryz.func160.trans (congrArg some (by kernel_rfl))
 f335 := Tryz.func161.trans (congrArg some (by kernel_rfl))
 f336 := Tryz.func162.trans (congrArg some (by kernel_rfl))
 f344 := Tryz.func188.trans (congrArg some (by kernel_rfl))
 t0 := Tryz.underlying0
 a0 := Tryz.isAgg0
 z0 := Tryz.sizeOf0
 v0 := Tryz.zeroValue0
 t3 := Tryz.underlying3
 a3 := Tryz.isAgg3
 z3 := Tryz.sizeOf3
 v3 := Tryz.zeroValue3
 t4 := Tryz.underlying4
 a4 := Tryz.isAgg4
 z4 := Tryz.sizeOf4
 v4 := Tryz.zeroValue4
 t5 := Tryz.underlying5
 a5 := Tryz.isAgg5
 z5 := Tryz.sizeOf5
 v5 := Tryz.zeroValue5
 t9 := Tryz.underlying9
 a9 := Tryz.isAgg9
 z9 := Tryz.sizeOf9
 v9 := Tryz.zeroValue9
 t31 := Tryz.underlying22
 a31 := Tryz.isAgg22
 z31 := Tryz.sizeOf22
 v31 := Tryz.zeroValue22
 t46 := Tryz.underlying113
 a46 := Tryz.isAgg113
 z46 := Tryz.sizeOf113
 v46 := Tryz.zeroValue113
 t51 := Tryz.underlying46
 a51 := Tryz.isAgg46
 z51 := Tryz.sizeOf46
 v51 := Tryz.zeroValue46
 t53 := Tryz.underlying168
 a53 := Tryz.isAgg168
 z53 := Tryz.sizeOf168
 v53 := Tryz.zeroValue168
 t131 := Tryz.underlying164
 a131 := Tryz.isAgg164
 z131 := Tryz.sizeOf164
 v131 := Tryz.zeroValue164
 t182 := Tryz.underlying159
 a182 := Tryz.isAgg159
 z182 := Tryz.sizeOf159
 v182 := Tryz.zeroValue159
 t183 := Tryz.underlying160
 a183 := Tryz.isAgg160
 z183 := Tryz.sizeOf160
 v183 := Tryz.zeroValue160
 t218 := Tryz.underlying202
 a218 := Tryz.isAgg202
 z218 := Tryz.sizeOf202
 v218 := Tryz.zeroValue202
 t222 := Tryz.underlying183
 a222 := Tryz.isAgg183
 z222 := Tryz.sizeOf183
 v222 := Tryz.zeroValue183
 t228 := Tryz.underlying226
 a228 := Tryz.isAgg226
 z228 := Tryz.sizeOf226
 v228 := Tryz.zeroValue226
 t229 := Tryz.underlying227
 a229 := Tryz.isAgg227
 z229 := Tryz.sizeOf227
 v229 := Tryz.zeroValue227 }
open Go.Sort Go.RowKit in
theorem Tryz.slices_Sort_string (blk off cap : Nat) (ss : List (List UInt8)) (w : World) (hH : Holds encStr w blk off ss.toArray) (hblk : blk < w.heap.size) (hsz : ss.length < 4611686018427387904) :
 Calls Tryz.prog 38 #[.slice (some ⟨blk, off, none⟩) ss.length cap] w fun e w' =>
  e = .returned (.tuple #[]) ∧ ∃ n os, w' = grow (putRow encStr (Sort.ahead w n) blk off (ss.mergeSort fun x y => decide (x ≤ y)).toArray) os := Any.slices_Sort_string Tryz.lays190 blk off cap ss w hH hblk hsz
def Tryz.lays99_ren : Go.Shelf.Ren := ⟨fun | 99 => 171 | 206 => 155 | n => n, fun | 9 => 9 | 4 => 4 | 3 => 3 | n => n, fun | n => n⟩
theorem Tryz.lays99 : Go.Proofs.Lays.n99 Tryz.prog Tryz.lays99_ren := {
 mixed := by kernel_rfl
 f99 := Tryz.func171.trans (congrArg some (by kernel_rfl))
 f206 := Tryz.func155.trans (congrArg some (by kernel_rfl))
 t3 := Tryz.underlying3
 a3 := Tryz.isAgg3
 z3 := Tryz.sizeOf3
 v3 := Tryz.zeroValue3
 t4 := Tryz.underlying4
 a4 := Tryz.isAgg4
 z4 := Tryz.sizeOf4
 v4 := Tryz.zeroValue4
 t9 := Tryz.underlying9
 a9 := Tryz.isAgg9
 z9 := Tryz.sizeOf9
 v9 := Tryz.zeroValue9 }
open Go.RowKit Go.Lib in
theorem Tryz.strings_HasPrefix (s p : ByteArray) (w : World) :
 Calls Tryz.prog 171 #[.string s, .string p] w fun e w' => e = .returned (.bool (Lib.hasPrefix s.data.toList p.data.toList)) ∧ w' = w := Any.strings_HasPrefix Tryz.lays99 s p w
def Tryz.lays146_ren : Go.Shelf.Ren := ⟨fun | 146 => 69 | 221 => 108 | 268 => 156 | 138 => 157 | 143 => 158 | 195 => 184 | 197 => 185 | 218 => 186 | 219 => 187 | 260 => 209 | 217 => 176 | 225 => 210 | 224 => 211 | 267 => 212 | 266 => 207 | 314 => 234 | n => n, fun | 9 => 9 | 31 => 22 | 3 => 3 | 4 => 4 | 0 => 0 | 105 => 232 | 21 => 21 | 5 => 5 | 46 => 113 | 119 => 246 | 139 => 249 | 138 => 248 | 146 => 274 | 51 => 46 | n => n, fun | 1 => 0 | 3 => 1 | 4 => 2 | n => n⟩
theorem Tryz.lays146 : Go.Proofs.Lays.n146 Tryz.prog Tryz.lays146_ren := {
 mixed := by kernel_rfl
 f138 := Tryz.func157.trans (congrArg some (by kernel_rfl))
 f143 := Tryz.func158.trans (congrArg some (by kernel_rfl))
 f146 := Tryz.func69.trans (congrArg some (by kernel_rfl))
 f195 := Tryz.func184.trans (congrArg some (by kernel_rfl))
 f197 := Tryz.func185.trans (congrArg some (by kernel_rfl))
 f217 := Tryz.func176.trans (congrArg some (by kernel_rfl))
 f218 := Tryz.func186.trans (congrArg some (by kernel_rfl))
 f219 := Tryz.func187.trans (congrArg some (by kernel_rfl))
 f221 := Tryz.func108.trans (congrArg some (by kernel_rfl))
 f224 := Tryz.func211.trans (congrArg some (by kernel_rfl))
 f225 := Tryz.func210.trans (congrArg some (by kernel_rfl))
 f260 := Tryz.func209.trans (congrArg some (by kernel_rfl))
 f266 := Tryz.func207.trans (congrArg some (by kernel_rfl))
 f267 := Tryz.func212.trans (congrArg some (by kernel_rfl))
 f268 := Tryz.func156.trans (congrArg some (by kernel_rfl))
 f314 := Tryz.func234.trans (congrArg some (by kernel_rfl))
 t0 := Tryz.underlying0
 a0 := Tryz.isAgg0
 z0 := Tryz.sizeOf0
 v0 := Tryz.zeroValue0
 t3 := Tryz.underlying3
 a3 := Tryz.isAgg3
 z3 := Tryz.sizeOf3
 v3 := Tryz.zeroValue3
 t4 := Tryz.underlying4
 a4 := Tryz.isAgg4
 z4 := Tryz.sizeOf4
 v4 := Tryz.zeroValue4
 t5 := Tryz.underlying5
 a5 := Tryz.isAgg5
 z5 := Tryz.sizeOf5
 v5 := Tryz.zeroValue5
 t9 := Tryz.underlying9
 a9 := Tryz.isAgg9
 z9 := Tryz.sizeOf9
 v9 := Tryz.zeroValue9
 t21 := Tryz.underlying21
 a21 := Tryz.isAgg21
 z21 := Tryz.sizeOf21
 v21 := Tryz.zeroValue21
 t31 := Tryz.underlying22
 a31 := Tryz.isAgg22
 z31 := Tryz.sizeOf22
 v31 := Tryz.zeroValue22
 t46 := Tryz.underlying113
 a46 := Tryz.isAgg113
 z46 := Tryz.sizeOf113
 v46 := Tryz.zeroValue113
 t51 := Tryz.underlying46
 a51 := Tryz.isAgg46
 z51 := Tryz.sizeOf46
 v51 := Tryz.zeroValue46
 t105 := Tryz.underlying232
 a105 := Tryz.isAgg232
 z105 := Tryz.sizeOf232
 v105 := Tryz.zeroValue232
 t119 := Tryz.underlying246
 a119 := Tryz.isAgg246
 z119 := Tryz.sizeOf246
 t138 := Tryz.underlying248
 a138 := Tryz.isAgg248
 z138 := Tryz.sizeOf248
 v138 := Tryz.zeroValue248
 t139 := Tryz.underlying249
 a139 := Tryz.isAgg249
 z139 := Tryz.sizeOf249
 v139 := Tryz.zeroValue249
 t146 := Tryz.underlying274
 a146 := Tryz.isAgg274
 z146 := Tryz.sizeOf274
 v146 := Tryz.zeroValue274
 g1 := by kernel_rfl
 g3 := by kernel_rfl
 g4 := by kernel_rfl }
open Go.RowKit Go.Lib in
theorem Tryz.strings_Split (s sep : ByteArray) (m : Int) (w : World) (hs : s.size < 4294967281) (hm : w.cell? ⟨0, 0, none⟩ = some (.int .i64 m)) (h1 : 1 ≤ sep.size) :
 Calls Tryz.prog 69 #[.string s, .string sep] w fun e w' =>
  e = .returned (.slice (some ⟨w.heap.size, 0, none⟩) (Lib.countB s sep + 1) (Lib.countB s sep + 1)) ∧ w' = w.alloc (.cells ((Lib.splitB sep 0 (Lib.countB s sep) s).map Value.string).toArray 9) := Any.strings_Split Tryz.lays146 (by kernel_rfl) s sep m w hs hm h1
def Tryz.lays164_ren : Go.Shelf.Ren := ⟨fun | 164 => 199 | 197 => 185 | 239 => 219 | 260 => 209 | 274 => 237 | 275 => 238 | n => n, fun | 9 => 9 | 4 => 4 | 3 => 3 | 5 => 5 | 0 => 0 | 21 => 21 | 105 => 232 | 156 => 277 | 49 => 276 | 157 => 278 | 46 => 113 | 159 => 280 | 162 => 283 | 160 => 281 | 119 => 246 | 139 => 249 | 138 => 248 | 208 => 296 | 51 => 46 | 206 => 294 | n => n, fun | 11 => 4 | 12 => 5 | 13 => 6 | 3 => 1 | 4 => 2 | n => n⟩
theorem Tryz.lays164 : Go.Proofs.Lays.n164 Tryz.prog Tryz.lays164_ren := {
 mixed := by kernel_rfl
 f164 := Tryz.func199.trans (congrArg some (by kernel_rfl))
 f197 := Tryz.func185.trans (congrArg some (by kernel_rfl))
 f239 := Tryz.func219.trans (congrArg some (by kernel_rfl))
 f260 := Tryz.func209.trans (congrArg some (by kernel_rfl))
 f274 := Tryz.func237.trans (congrArg some (by kernel_rfl))
 f275 := Tryz.func238.trans (congrArg some (by kernel_rfl))
 t0 := Tryz.underlying0
 a0 := Tryz.isAgg0
 z0 := Tryz.sizeOf0
 v0 := Tryz.zeroValue0
 t3 := Tryz.underlying3
 a3 := Tryz.isAgg3
 z3 := Tryz.sizeOf3
 v3 := Tryz.zeroValue3
 t4 := Tryz.underlying4
 a4 := Tryz.isAgg4
 z4 := Tryz.sizeOf4
 v4 := Tryz.zeroValue4
 t5 := Tryz.underlying5
 a5 := Tryz.isAgg5
 z5 := Tryz.sizeOf5
 v5 := Tryz.zeroValue5
 t9 := Tryz.underlying9
 a9 := Tryz.isAgg9
 z9 := Tryz.sizeOf9
 v9 := Tryz.zeroValue9
 t21 := Tryz.underlying21
 a21 := Tryz.isAgg21
 z21 := Tryz.sizeOf21
 v21 := Tryz.zeroValue21
 t46 := Tryz.underlying113
 a46 := Tryz.isAgg113
 z46 := Tryz.sizeOf113
 v46 := Tryz.zeroValue113
 t49 := Tryz.underlying276
 a49 := Tryz.isAgg276
 z49 := Tryz.sizeOf276
 v49 := Tryz.zeroValue276
 t51 := Tryz.underlying46
 a51 := Tryz.isAgg46
 z51 := Tryz.sizeOf46
 v51 := Tryz.zeroValue46
 t105 := Tryz.underlying232
 a105 := Tryz.isAgg232
 z105 := Tryz.sizeOf232
 v105 := Tryz.zeroValue232
 t119 := Tryz.underlying246
 a119 := Tryz.isAgg246
 z119 := Tryz.sizeOf246
 t138 := Tryz.underlying248
 a138 := Tryz.isAgg248
 z138 := Tryz.sizeOf248
 v138 := Tryz.zeroValue248
 t139 := Tryz.underlying249
 a139 := Tryz.isAgg249
 z139 := Tryz.sizeOf249
 v139 := Tryz.zeroValue249
 t156 := Tryz.underlying277
 a156 := Tryz.isAgg277
 z156 := Tryz.sizeOf277
 t157 := Tryz.underlying278
 a157 := Tryz.isAgg278
 z157 := Tryz.sizeOf278
 v157 := Tryz.zeroValue278
 t159 := Tryz.underlying280
 a159 := Tryz.isAgg280
 z159 := Tryz.sizeOf280
 v159 := Tryz.zeroValue280
 t160 := Tryz.underlying281
 a160 := Tryz.isAgg281
 z160 := Tryz.sizeOf281
 v160 := Tryz.zeroValue281
 t162 := Tryz.underlying283
 a162 := Tryz.isAgg283
 z162 := Tryz.sizeOf283
 v162 := Tryz.zeroValue283
 t206 := Tryz.underlying294
 a206 := Tryz.isAgg294
 z206 := Tryz.sizeOf294
 v206 := Tryz.zeroValue294
 t208 := Tryz.underlying296
 a208 := Tryz.isAgg296
 z208 := Tryz.sizeOf296
 v208 := Tryz.zeroValue296
 g3 := by kernel_rfl
 g4 := by kernel_rfl
 g11 := by kernel_rfl
 g12 := by kernel_rfl
 g13 := by kernel_rfl }
open Go.RowKit Go.Lib in
theorem Tryz.strings_EqualFold (s t : ByteArray) (w : World) (hs : s.size < 4294967281) (has : ∀ (j : Nat) b, s.data.toList[j]? = some b → b.toNat < 128) (hat : ∀ (j : Nat) b, t.data.toList[j]? = some b → b.toNat < 128) :
 Calls Tryz.prog 199 #[.string s, .string t] w fun e w' => e = .returned (.bool (Lib.equalFold s.data.toList t.data.toList)) ∧ w' = w := Any.strings_EqualFold Tryz.lays164 s t w hs has hat
open Go.RowKit Go.Lib in
open Go.RowKit Go.Lib in
open Go.RowKit Go.Lib in
def Tryz.lays194_ren : Go.Shelf.Ren := ⟨fun | 194 => 91 | n => n, fun | 31 => 22 | 9 => 9 | 3 => 3 | 4 => 4 | 0 => 0 | n => n, fun | n => n⟩
theorem Tryz.lays194 : Go.Proofs.Lays.n194 Tryz.prog Tryz.lays194_ren := {
 mixed := by kernel_rfl
 f194 := Tryz.func91.trans (congrArg some (by kernel_rfl))
 t0 := Tryz.underlying0
 a0 := Tryz.isAgg0
 z0 := Tryz.sizeOf0
 v0 := Tryz.zeroValue0
 t3 := Tryz.underlying3
 a3 := Tryz.isAgg3
 z3 := Tryz.sizeOf3
 v3 := Tryz.zeroValue3
 t4 := Tryz.underlying4
 a4 := Tryz.isAgg4
 z4 := Tryz.sizeOf4
 v4 := Tryz.zeroValue4
 t9 := Tryz.underlying9
 a9 := Tryz.isAgg9
 z9 := Tryz.sizeOf9
 v9 := Tryz.zeroValue9
 t31 := Tryz.underlying22
 a31 := Tryz.isAgg22
 z31 := Tryz.sizeOf22
 v31 := Tryz.zeroValue22 }
open Go.RowKit Go.Lib Go.Sort in
theorem Tryz.slices_Compact_string (blk off cap : Nat) (zs : List (List UInt8)) (w : World) (hH : Holds encStr w blk off zs.toArray) (hsz : zs.length ≤ 9223372036854775807) (hcap : zs.length ≤ cap) :
 Calls Tryz.prog 91 #[.slice (some ⟨blk, off, none⟩) zs.length cap] w fun e w' => e = .returned (.slice (some ⟨blk, off, none⟩) (Lib.compact zs).length cap) ∧ ∃ q, w' = putRow encStr (Sort.ahead w q) blk off (Lib.compact zs ++ List.replicate (zs.length - (Lib.compact zs).length) []).toArray := Any.slices_Compact_string Tryz.lays194 blk off cap zs w hH hsz hcap
open Go.RowKit Go.Lib Go.Sort in
theorem Tryz.slices_Compact_string_empty (a : Option Addr) (cap : Nat) (w : World) :
 Calls Tryz.prog 91 #[.slice a 0 cap] w fun e w' => e = .returned (.slice a 0 cap) ∧ w' = w := Any.slices_Compact_string_empty Tryz.lays194 a cap w
open Go.RowKit Go.Sort in
theorem Tryz.slices_Sort_string_none (p : Option Addr) (cap : Nat) (w : World) :
 Calls Tryz.prog 38 #[.slice p 0 cap] w fun e w' => e = .returned (.tuple #[]) ∧ w' = w := Any.slices_Sort_string_none Tryz.lays190 p cap w
end Go.Proofs.YtjlknaahpjiibaaGreatDoor
