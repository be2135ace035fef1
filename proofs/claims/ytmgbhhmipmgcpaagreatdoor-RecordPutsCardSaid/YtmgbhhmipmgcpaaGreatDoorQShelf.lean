/- DERIVED. -/
import Derived.Test.YtmgbhhmipmgcpaaGreatDoorProg
import Derived.Shelf.Strings.Builder1
import Derived.Shelf.Strings.Builder2
import Derived.Shelf.Strings.OnBuilder
import Derived.Shelf.Strings.Trim
import Derived.Shelf.Small.Strs
import Derived.Shelf.Small.Wraps
import Derived.Shelf.Strings.BuilderF
import Derived.Shelf.Strings.BuilderK
import Derived.Shelf.Strings.Builder2Cap
import Derived.Shelf.Strconv.Itoa0
import Derived.Shelf.Strconv.Itoa1
import Derived.Shelf.LaysM
import Derived.Shelf.Strconv.Itoa2
import Derived.Shelf.Strconv.Itoa3
import Derived.Shelf.Strconv.Clone
import Derived.Shelf.Strconv.SyntaxError
import Derived.Shelf.LaysC
import Derived.Shelf.Strconv.ToError
import Derived.Shelf.Strconv.Lower
import Derived.Shelf.Strconv.ParseUint10
import Derived.Shelf.Strconv.ParseUint10Empty
import Derived.Shelf.Strconv.ParseUint10Any
import Derived.Shelf.Strconv.RangeError
import Derived.Shelf.Strconv.ToErrorRange
import Derived.Shelf.Strconv.ParseUintEmpty
import Derived.Shelf.Strconv.ParseUint10b64
import Derived.Shelf.Strconv.ParseUint10b32
import Derived.Shelf.Strconv.ParseUint10b16
import Derived.Shelf.Strconv.ParseUint10b8
import Derived.Shelf.Strconv.ParseUint10At
import Derived.Ground.MpProg
import Derived.Shelf.Pu.ParseUintPublic10
import Derived.Shelf.Pu.ErrVarParseUint
import Derived.Shelf.Strings.Search1
import Derived.Shelf.Strings.Search2
import Derived.Shelf.Strings.Search3
import Derived.Shelf.Strings.Cut
import Derived.Shelf.Strings.Count
import Derived.Shelf.Strings.Prefix
import Derived.Shelf.Strings.Split
import Derived.Shelf.Strings.SplitShaped
import Derived.Shelf.Strings.Runes
import Derived.Shelf.Strings.AsciiSet
import Derived.Shelf.Unicode.DecodeSlow
import Derived.Shelf.Strings.BuilderCap
namespace Go.Proofs
theorem fx {α : Type} {o : Option α} {a b : α} (h : o = some a) (e : a = b := by kernel_rfl) : o = some b := h.trans (congrArg some e)
open Go.Shelf
def Tryz.lays156_ren : Go.Shelf.Ren := ⟨fun | 156 => 89 | 165 => 145 | 166 => 146 | 169 => 147 | 240 => 168 | 241 => 169 | 276 => 196 | 277 => 197 | n => n, fun | 31 => 76 | 9 => 9 | 3 => 3 | 4 => 4 | 0 => 0 | 20 => 20 | 72 => 197 | 76 => 199 | 70 => 195 | 37 => 22 | 75 => 169 | 127 => 223 | 164 => 251 | 5 => 5 | 80 => 69 | n => n, fun | n => n⟩
theorem Tryz.lays156 : Go.Proofs.Lays.n156 Tryz.prog Tryz.lays156_ren := {
 mixed := by kernel_rfl
 f156 := fx Tryz.func89
 f165 := fx Tryz.func145
 f166 := fx Tryz.func146
 f169 := fx Tryz.func147
 f240 := fx Tryz.func168
 f241 := fx Tryz.func169
 f276 := fx Tryz.func196
 f277 := fx Tryz.func197
 t0 := Tryz.underlying0
 a0 := Tryz.isAgg0
 z0 := Tryz.sizeOf0
 v0 := Tryz.zeroValue0
 t3 := Tryz.underlying3
 a3 := Tryz.isAgg3
 z3 := Tryz.sizeOf3
 v3 := Tryz.zeroValue3
 t4 := Tryz.underlying4
 a4 := Tryz.isAgg4
 z4 := Tryz.sizeOf4
 v4 := Tryz.zeroValue4
 t9 := Tryz.underlying9
 a9 := Tryz.isAgg9
 z9 := Tryz.sizeOf9
 v9 := Tryz.zeroValue9
 t20 := Tryz.underlying20
 a20 := Tryz.isAgg20
 z20 := Tryz.sizeOf20
 v20 := Tryz.zeroValue20
 t31 := Tryz.underlying76
 a31 := Tryz.isAgg76
 z31 := Tryz.sizeOf76
 v31 := Tryz.zeroValue76
 t37 := Tryz.underlying22
 a37 := Tryz.isAgg22
 z37 := Tryz.sizeOf22
 v37 := Tryz.zeroValue22
 t70 := Tryz.underlying195
 a70 := Tryz.isAgg195
 z70 := Tryz.sizeOf195
 v70 := Tryz.zeroValue195
 t72 := Tryz.underlying197
 a72 := Tryz.isAgg197
 z72 := Tryz.sizeOf197
 v72 := Tryz.zeroValue197
 t75 := Tryz.underlying169
 a75 := Tryz.isAgg169
 z75 := Tryz.sizeOf169
 v75 := Tryz.zeroValue169
 t76 := Tryz.underlying199
 a76 := Tryz.isAgg199
 z76 := Tryz.sizeOf199
 v76 := Tryz.zeroValue199
 t127 := Tryz.underlying223
 a127 := Tryz.isAgg223
 z127 := Tryz.sizeOf223
 v127 := Tryz.zeroValue223
 t164 := Tryz.underlying251
 a164 := Tryz.isAgg251
 z164 := Tryz.sizeOf251
 v164 := Tryz.zeroValue251 }
theorem Tryz.Builder_Extra_156 : Builder.Extra Tryz.prog Tryz.lays156_ren := {
 sizeBuilder := by kernel_rfl
 liesBuilder := by kernel_rfl
 t5 := Tryz.underlying5
 a5 := Tryz.isAgg5
 z5 := Tryz.sizeOf5
 v5 := Tryz.zeroValue5
 infoByte := by kernel_rfl
 cellsByte := by kernel_rfl
 sizeByte := by kernel_rfl
 neB5 := by decide }
open Go.RowKit in
theorem Tryz.strings_Join_none (a : Option Addr) (c : Nat) (sep : ByteArray) (w : World) :
  Calls Tryz.prog 89 #[.slice a 0 c, .string sep] w fun e w' => e = .returned (.string ⟨#[]⟩) ∧ w' = w := Any.strings_Join_none Tryz.lays156 Tryz.Builder_Extra_156 a c sep w
open Go.RowKit in
theorem Tryz.strings_Join (bk o c : Nat) (xs : List ByteArray) (sep : ByteArray) (w : World) (hcells : ∀ (j : Nat) x, xs[j]? = some x → w.cell? ⟨bk, o + j, none⟩ = some (.string x)) (hbk : bk < w.heap.size) (hN : xs.length ≤ 140737488355328) (hcap : xs.length ≤ c) (hlen : (Lib.join (xs.map (·.data.toList)) sep.data.toList).length ≤ 140737488355328) :
  Calls Tryz.prog 89 #[.slice (some ⟨bk, o, none⟩) xs.length c, .string sep] w fun e w' => e = .returned (.string ⟨(Lib.join (xs.map (·.data.toList)) sep.data.toList).toArray⟩) ∧ Below w.heap.size w w' := Any.strings_Join Tryz.lays156 Tryz.Builder_Extra_156 bk o c xs sep w hcells hbk hN hcap hlen
def Tryz.lays161_ren : Go.Shelf.Ren := ⟨fun | 161 => 224 | 231 => 231 | 227 => 232 | 233 => 233 | 235 => 234 | 228 => 237 | 197 => 180 | 151 => 238 | 260 => 213 | 152 => 239 | 137 => 240 | 119 => 241 | 224 => 216 | 225 => 215 | 217 => 214 | 266 => 227 | n => n, fun | 9 => 9 | 4 => 4 | 3 => 3 | 5 => 5 | 117 => 288 | 116 => 287 | 0 => 0 | 124 => 291 | 105 => 238 | 21 => 21 | 119 => 275 | 46 => 179 | 139 => 278 | 138 => 277 | n => n, fun | 3 => 4 | 4 => 5 | n => n⟩
theorem Tryz.lays161 : Go.Proofs.Lays.n161 Tryz.prog Tryz.lays161_ren := {
 mixed := by kernel_rfl
 f119 := fx Tryz.func241
 f137 := fx Tryz.func240
 f151 := fx Tryz.func238
 f152 := fx Tryz.func239
 f161 := fx Tryz.func224
 f197 := fx Tryz.func180
 f217 := fx Tryz.func214
 f224 := fx Tryz.func216
 f225 := fx Tryz.func215
 f227 := fx Tryz.func232
 f228 := fx Tryz.func237
 f231 := fx Tryz.func231
 f233 := fx Tryz.func233
 f235 := fx Tryz.func234
 f260 := fx Tryz.func213
 f266 := fx Tryz.func227
 t0 := Tryz.underlying0
 a0 := Tryz.isAgg0
 z0 := Tryz.sizeOf0
 v0 := Tryz.zeroValue0
 t3 := Tryz.underlying3
 a3 := Tryz.isAgg3
 z3 := Tryz.sizeOf3
 v3 := Tryz.zeroValue3
 t4 := Tryz.underlying4
 a4 := Tryz.isAgg4
 z4 := Tryz.sizeOf4
 v4 := Tryz.zeroValue4
 t5 := Tryz.underlying5
 a5 := Tryz.isAgg5
 z5 := Tryz.sizeOf5
 v5 := Tryz.zeroValue5
 t9 := Tryz.underlying9
 a9 := Tryz.isAgg9
 z9 := Tryz.sizeOf9
 v9 := Tryz.zeroValue9
 t21 := Tryz.underlying21
 a21 := Tryz.isAgg21
 z21 := Tryz.sizeOf21
 v21 := Tryz.zeroValue21
 t46 := Tryz.underlying179
 a46 := Tryz.isAgg179
 z46 := Tryz.sizeOf179
 v46 := Tryz.zeroValue179
 t105 := Tryz.underlying238
 a105 := Tryz.isAgg238
 z105 := Tryz.sizeOf238
 v105 := Tryz.zeroValue238
 t116 := Tryz.underlying287
 a116 := Tryz.isAgg287
 z116 := Tryz.sizeOf287
 t117 := Tryz.underlying288
 a117 := Tryz.isAgg288
 z117 := Tryz.sizeOf288
 v117 := Tryz.zeroValue288
 t119 := Tryz.underlying275
 a119 := Tryz.isAgg275
 z119 := Tryz.sizeOf275
 t124 := Tryz.underlying291
 a124 := Tryz.isAgg291
 z124 := Tryz.sizeOf291
 v124 := Tryz.zeroValue291
 t138 := Tryz.underlying277
 a138 := Tryz.isAgg277
 z138 := Tryz.sizeOf277
 v138 := Tryz.zeroValue277
 t139 := Tryz.underlying278
 a139 := Tryz.isAgg278
 z139 := Tryz.sizeOf278
 v139 := Tryz.zeroValue278
 g3 := by kernel_rfl
 g4 := by kernel_rfl }
def Tryz.lays103_ren : Go.Shelf.Ren := ⟨fun | 103 => 223 | 210 => 230 | 206 => 236 | n => n, fun | 9 => 9 | 4 => 4 | 24 => 271 | 3 => 3 | n => n, fun | n => n⟩
theorem Tryz.lays103 : Go.Proofs.Lays.n103 Tryz.prog Tryz.lays103_ren := {
 mixed := by kernel_rfl
 f103 := fx Tryz.func223
 f206 := fx Tryz.func236
 f210 := fx Tryz.func230
 t3 := Tryz.underlying3
 a3 := Tryz.isAgg3
 z3 := Tryz.sizeOf3
 v3 := Tryz.zeroValue3
 t4 := Tryz.underlying4
 a4 := Tryz.isAgg4
 z4 := Tryz.sizeOf4
 v4 := Tryz.zeroValue4
 t9 := Tryz.underlying9
 a9 := Tryz.isAgg9
 z9 := Tryz.sizeOf9
 v9 := Tryz.zeroValue9
 t24 := Tryz.underlying271
 a24 := Tryz.isAgg271
 z24 := Tryz.sizeOf271
 v24 := Tryz.zeroValue271 }
open Go.RowKit in
theorem Tryz.strings_CutPrefix (s p : ByteArray) (w : World) :
  Calls Tryz.prog 223 #[.string s, .string p] w fun e w' => e = .returned (.tuple #[.string ⟨(Lib.trimPrefix s.data.toList p.data.toList).toArray⟩, .bool (Lib.hasPrefix s.data.toList p.data.toList)]) ∧ w' = w := Any.strings_CutPrefix Tryz.lays103 s p w
def Tryz.lays283_ren : Go.Shelf.Ren := ⟨fun | 283 => 170 | n => n, fun | 3 => 3 | 9 => 9 | 4 => 4 | n => n, fun | n => n⟩
theorem Tryz.lays283 : Go.Proofs.Lays.n283 Tryz.prog Tryz.lays283_ren := {
 mixed := by kernel_rfl
 f283 := fx Tryz.func170
 t3 := Tryz.underlying3
 a3 := Tryz.isAgg3
 z3 := Tryz.sizeOf3
 v3 := Tryz.zeroValue3
 t4 := Tryz.underlying4
 a4 := Tryz.isAgg4
 z4 := Tryz.sizeOf4
 v4 := Tryz.zeroValue4
 t9 := Tryz.underlying9
 a9 := Tryz.isAgg9
 z9 := Tryz.sizeOf9
 v9 := Tryz.zeroValue9 }
open Go.Lib in
theorem Tryz.internal_strconv_small (i : Nat) (h : i < 100) (w : World) :
  Calls Tryz.prog 170 #[.int .i64 i] w fun e w' => e = .returned (.string ⟨(Lib.decDigits i).toArray⟩) ∧ w' = w := Any.internal_strconv_small Tryz.lays283 i h w
def Tryz.laysM284_ren : Go.Shelf.Ren := ⟨fun | 284 => 171 | 129 => 199 | 317 => 198 | 318 => 200 | n => n, fun | 53 => 29 | 3 => 3 | 212 => 255 | 0 => 0 | 4 => 4 | 46 => 179 | 5 => 5 | 9 => 9 | n => n, fun | 17 => 0 | n => n⟩
theorem Tryz.laysM284 : Go.Proofs.LaysM.n284 Tryz.prog Tryz.laysM284_ren := {
 mixed := by kernel_rfl
 f129 := fx Tryz.func199
 f284 := fx Tryz.func171
 f317 := fx Tryz.func198
 f318 := fx Tryz.func200
 t0 := Tryz.underlying0
 a0 := Tryz.isAgg0
 z0 := Tryz.sizeOf0
 v0 := Tryz.zeroValue0
 t3 := Tryz.underlying3
 a3 := Tryz.isAgg3
 z3 := Tryz.sizeOf3
 v3 := Tryz.zeroValue3
 t4 := Tryz.underlying4
 a4 := Tryz.isAgg4
 z4 := Tryz.sizeOf4
 v4 := Tryz.zeroValue4
 t5 := Tryz.underlying5
 a5 := Tryz.isAgg5
 z5 := Tryz.sizeOf5
 v5 := Tryz.zeroValue5
 t9 := Tryz.underlying9
 a9 := Tryz.isAgg9
 z9 := Tryz.sizeOf9
 v9 := Tryz.zeroValue9
 t46 := Tryz.underlying179
 a46 := Tryz.isAgg179
 z46 := Tryz.sizeOf179
 v46 := Tryz.zeroValue179
 t53 := Tryz.underlying29
 a53 := Tryz.isAgg29
 z53 := Tryz.sizeOf29
 v53 := Tryz.zeroValue29
 t212 := Tryz.underlying255
 a212 := Tryz.isAgg255
 z212 := Tryz.sizeOf255
 v212 := Tryz.zeroValue255
 g17 := by kernel_rfl
 i0 := by kernel_rfl
 i3 := by kernel_rfl
 i4 := by kernel_rfl
 i5 := by kernel_rfl
 i9 := by kernel_rfl
 i46 := by kernel_rfl
 i53 := by kernel_rfl
 i212 := by kernel_rfl
 m17 := by kernel_rfl }
open Go.Lib in
theorem Tryz.internal_strconv_numDigits (u : Nat) (h1 : 1 ≤ u) (h2 : u < 18446744073709551616) (w : World) (htab : Lib.TabIs Tryz.prog w "internal/strconv.uint64pow10" .u64 Lib.pow10Tab) :
  Calls Tryz.prog 171 #[.int .u64 u] w fun e w' => e = .returned (.int .i64 (Lib.nDigits u)) ∧ w' = w := Any.internal_strconv_numDigits Tryz.laysM284 u h1 h2 w htab
def Tryz.lays285_ren : Go.Shelf.Ren := ⟨fun | 285 => 172 | n => n, fun | 37 => 22 | 53 => 29 | 3 => 3 | 4 => 4 | 51 => 256 | 9 => 9 | 5 => 5 | 0 => 0 | n => n, fun | n => n⟩
theorem Tryz.lays285 : Go.Proofs.Lays.n285 Tryz.prog Tryz.lays285_ren := {
 mixed := by kernel_rfl
 f285 := fx Tryz.func172
 t0 := Tryz.underlying0
 a0 := Tryz.isAgg0
 z0 := Tryz.sizeOf0
 v0 := Tryz.zeroValue0
 t3 := Tryz.underlying3
 a3 := Tryz.isAgg3
 z3 := Tryz.sizeOf3
 v3 := Tryz.zeroValue3
 t4 := Tryz.underlying4
 a4 := Tryz.isAgg4
 z4 := Tryz.sizeOf4
 v4 := Tryz.zeroValue4
 t5 := Tryz.underlying5
 a5 := Tryz.isAgg5
 z5 := Tryz.sizeOf5
 v5 := Tryz.zeroValue5
 t9 := Tryz.underlying9
 a9 := Tryz.isAgg9
 z9 := Tryz.sizeOf9
 v9 := Tryz.zeroValue9
 t37 := Tryz.underlying22
 a37 := Tryz.isAgg22
 z37 := Tryz.sizeOf22
 v37 := Tryz.zeroValue22
 t51 := Tryz.underlying256
 a51 := Tryz.isAgg256
 z51 := Tryz.sizeOf256
 v51 := Tryz.zeroValue256
 t53 := Tryz.underlying29
 a53 := Tryz.isAgg29
 z53 := Tryz.sizeOf29
 v53 := Tryz.zeroValue29 }
open Go.RowKit Go.Sort Go.Lib in
theorem Tryz.internal_strconv_formatBase10 (blk off cap : Nat) (u : Nat) (d : Array UInt8) (w : World) (hH : Holds (fun (b : UInt8) => Value.int .u8 (b.toNat : Int)) w blk off d) (hu : u < 10 ^ d.size) (hu64 : u < 18446744073709551616) (hsz : d.size < 4611686018427387904) :
  Calls Tryz.prog 172 #[.slice (some ⟨blk, off, none⟩) d.size cap, .int .u64 u] w fun e w' =>
   e = .returned (.tuple #[]) ∧ ∃ (n v' : Nat) (dk : Array UInt8), w' = (putRow (fun (b : UInt8) => Value.int .u8 (b.toNat : Int)) w blk off dk).drewN n ∧ FmtInv d.size u 0 v' dk := Any.internal_strconv_formatBase10 Tryz.lays285 blk off cap u d w hH hu hu64 hsz
def Tryz.laysPu14_ren : Go.Shelf.Ren := ⟨fun | 14 => 107 | 16 => 157 | 17 => 158 | 19 => 183 | 20 => 184 | 21 => 185 | 22 => 186 | 23 => 187 | 24 => 188 | 25 => 218 | 27 => 220 | 26 => 219 | 28 => 229 | 29 => 235 | 30 => 170 | 31 => 171 | 32 => 172 | 33 => 173 | 35 => 199 | 34 => 198 | 36 => 200 | 37 => 201 | 38 => 202 | 39 => 225 | 40 => 226 | n => n, fun | 9 => 9 | 3 => 3 | 22 => 29 | 24 => 169 | 25 => 170 | 4 => 4 | 34 => 241 | 5 => 5 | 36 => 179 | 37 => 22 | 0 => 0 | 39 => 243 | 21 => 21 | 44 => 264 | 47 => 223 | 50 => 283 | 48 => 281 | 2 => 2 | 52 => 225 | 55 => 228 | 59 => 255 | 60 => 256 | 20 => 20 | 61 => 257 | 65 => 292 | 66 => 293 | 67 => 69 | n => n, fun | 0 => 2 | 1 => 3 | 2 => 0 | 3 => 6 | 4 => 7 | n => n⟩
theorem Tryz.laysPu14 : Go.Proofs.LaysPu.n14 Tryz.prog Tryz.laysPu14_ren := {
 mixed := by kernel_rfl
 f14 := fx Tryz.func107
 f16 := fx Tryz.func157
 f17 := fx Tryz.func158
 f19 := fx Tryz.func183
 f20 := fx Tryz.func184
 f21 := fx Tryz.func185
 f22 := fx Tryz.func186
 f23 := fx Tryz.func187
 f24 := fx Tryz.func188
 f25 := fx Tryz.func218
 f26 := fx Tryz.func219
 f27 := fx Tryz.func220
 f28 := fx Tryz.func229
 f29 := fx Tryz.func235
 f30 := fx Tryz.func170
 f31 := fx Tryz.func171
 f32 := fx Tryz.func172
 f33 := fx Tryz.func173
 f34 := fx Tryz.func198
 f35 := fx Tryz.func199
 f36 := fx Tryz.func200
 f37 := fx Tryz.func201
 f38 := fx Tryz.func202
 f39 := fx Tryz.func225
 f40 := fx Tryz.func226
 t0 := Tryz.underlying0
 a0 := Tryz.isAgg0
 z0 := Tryz.sizeOf0
 v0 := Tryz.zeroValue0
 i0 := by kernel_rfl
 t2 := Tryz.underlying2
 a2 := Tryz.isAgg2
 z2 := Tryz.sizeOf2
 v2 := Tryz.zeroValue2
 i2 := by kernel_rfl
 t3 := Tryz.underlying3
 a3 := Tryz.isAgg3
 z3 := Tryz.sizeOf3
 v3 := Tryz.zeroValue3
 i3 := by kernel_rfl
 t4 := Tryz.underlying4
 a4 := Tryz.isAgg4
 z4 := Tryz.sizeOf4
 v4 := Tryz.zeroValue4
 i4 := by kernel_rfl
 t5 := Tryz.underlying5
 a5 := Tryz.isAgg5
 z5 := Tryz.sizeOf5
 v5 := Tryz.zeroValue5
 i5 := by kernel_rfl
 t9 := Tryz.underlying9
 a9 := Tryz.isAgg9
 z9 := Tryz.sizeOf9
 v9 := Tryz.zeroValue9
 i9 := by kernel_rfl
 t20 := Tryz.underlying20
 a20 := Tryz.isAgg20
 z20 := Tryz.sizeOf20
 v20 := Tryz.zeroValue20
 i20 := by kernel_rfl
 t21 := Tryz.underlying21
 a21 := Tryz.isAgg21
 z21 := Tryz.sizeOf21
 v21 := Tryz.zeroValue21
 i21 := by kernel_rfl
 t22 := Tryz.underlying29
 a22 := Tryz.isAgg29
 z22 := Tryz.sizeOf29
 v22 := Tryz.zeroValue29
 i22 := by kernel_rfl
 t24 := Tryz.underlying169
 a24 := Tryz.isAgg169
 z24 := Tryz.sizeOf169
 v24 := Tryz.zeroValue169
 i24 := by kernel_rfl
 t25 := Tryz.underlying170
 a25 := Tryz.isAgg170
 z25 := Tryz.sizeOf170
 v25 := Tryz.zeroValue170
 i25 := by kernel_rfl
 t34 := Tryz.underlying241
 a34 := Tryz.isAgg241
 z34 := Tryz.sizeOf241
 v34 := Tryz.zeroValue241
 i34 := by kernel_rfl
 c34 := by kernel_rfl
 t36 := Tryz.underlying179
 a36 := Tryz.isAgg179
 z36 := Tryz.sizeOf179
 v36 := Tryz.zeroValue179
 i36 := by kernel_rfl
 t37 := Tryz.underlying22
 a37 := Tryz.isAgg22
 z37 := Tryz.sizeOf22
 v37 := Tryz.zeroValue22
 i37 := by kernel_rfl
 t39 := Tryz.underlying243
 a39 := Tryz.isAgg243
 z39 := Tryz.sizeOf243
 v39 := Tryz.zeroValue243
 i39 := by kernel_rfl
 t44 := Tryz.underlying264
 a44 := Tryz.isAgg264
 z44 := Tryz.sizeOf264
 v44 := Tryz.zeroValue264
 i44 := by kernel_rfl
 t47 := Tryz.underlying223
 a47 := Tryz.isAgg223
 z47 := Tryz.sizeOf223
 v47 := Tryz.zeroValue223
 i47 := by kernel_rfl
 t48 := Tryz.underlying281
 a48 := Tryz.isAgg281
 z48 := Tryz.sizeOf281
 v48 := Tryz.zeroValue281
 i48 := by kernel_rfl
 t50 := Tryz.underlying283
 a50 := Tryz.isAgg283
 z50 := Tryz.sizeOf283
 v50 := Tryz.zeroValue283
 i50 := by kernel_rfl
 t52 := Tryz.underlying225
 a52 := Tryz.isAgg225
 z52 := Tryz.sizeOf225
 v52 := Tryz.zeroValue225
 i52 := by kernel_rfl
 t55 := Tryz.underlying228
 a55 := Tryz.isAgg228
 z55 := Tryz.sizeOf228
 v55 := Tryz.zeroValue228
 i55 := by kernel_rfl
 t59 := Tryz.underlying255
 a59 := Tryz.isAgg255
 z59 := Tryz.sizeOf255
 v59 := Tryz.zeroValue255
 i59 := by kernel_rfl
 t60 := Tryz.underlying256
 a60 := Tryz.isAgg256
 z60 := Tryz.sizeOf256
 v60 := Tryz.zeroValue256
 i60 := by kernel_rfl
 t61 := Tryz.underlying257
 a61 := Tryz.isAgg257
 z61 := Tryz.sizeOf257
 t65 := Tryz.underlying292
 a65 := Tryz.isAgg292
 z65 := Tryz.sizeOf292
 v65 := Tryz.zeroValue292
 i65 := by kernel_rfl
 t66 := Tryz.underlying293
 a66 := Tryz.isAgg293
 z66 := Tryz.sizeOf293
 v66 := Tryz.zeroValue293
 i66 := by kernel_rfl
 t67 := Tryz.underlying69
 a67 := Tryz.isAgg69
 z67 := Tryz.sizeOf69
 v67 := Tryz.zeroValue69
 i67 := by kernel_rfl
 g0 := by kernel_rfl
 m0 := by kernel_rfl
 g1 := by kernel_rfl
 m1 := by kernel_rfl
 g2 := by kernel_rfl
 m2 := by kernel_rfl
 g3 := by kernel_rfl
 m3 := by kernel_rfl
 g4 := by kernel_rfl
 m4 := by kernel_rfl }
open Go.RowKit in
theorem Tryz.strconv_ParseUint_10_at64_ok (s : ByteArray) (hmax : s.size ≤ 9223372036854775806) (u : Nat) (h : Lib.parseUintB 64 s.data.toList = .ok u) (w : World) :
  Calls Tryz.prog 107 #[.string s, .int .i64 10, .int .i64 64] w fun e w' => e = .returned (.tuple #[.int .u64 u, .nilIface]) ∧ (w' = w ∨ w' = Lib.bytesWorld w 5 s) := Any.strconv_ParseUint_10_at64_ok Tryz.laysPu14 s hmax u h w
open Go.RowKit in
theorem Tryz.strconv_ParseUint_10_at64_syntax_var (s : ByteArray) (hlim : s.size ≤ 281474976710656) (h : Lib.parseUintB 64 s.data.toList = Lib.parseUintB 64 []) (tp : TypeId) (p : Value) (w : World) (hvar : w.var? Tryz.prog "strconv.ErrSyntax" = some #[.iface tp p]) :
  Calls Tryz.prog 107 #[.string s, .int .i64 10, .int .i64 64] w fun e w' => ∃ N, e = .returned (.tuple #[.int .u64 0, .iface 243 (.pointer (some ⟨N, 0, none⟩))]) ∧ w.heap.size ≤ N ∧ w'.heap[N]? = some (.cells #[.string ⟨#[80, 97, 114, 115, 101, 85, 105, 110, 116]⟩, .string s, .iface tp p] 264 (0, 0)) ∧ Below w.heap.size w w' := Any.strconv_ParseUint_10_at64_syntax_var Tryz.laysPu14 s hlim h tp p w hvar
open Go.RowKit in
theorem Tryz.strconv_ParseUint_10_at64_range_var (s : ByteArray) (hlim : s.size ≤ 281474976710656) (h : Lib.parseUintB 64 s.data.toList = .range) (tp : TypeId) (p : Value) (w : World) (hvar : w.var? Tryz.prog "strconv.ErrRange" = some #[.iface tp p]) :
  Calls Tryz.prog 107 #[.string s, .int .i64 10, .int .i64 64] w fun e w' => ∃ N, e = .returned (.tuple #[.int .u64 18446744073709551615, .iface 243 (.pointer (some ⟨N, 0, none⟩))]) ∧ w.heap.size ≤ N ∧ w'.heap[N]? = some (.cells #[.string ⟨#[80, 97, 114, 115, 101, 85, 105, 110, 116]⟩, .string s, .iface tp p] 264 (0, 0)) ∧ Below w.heap.size w w' := Any.strconv_ParseUint_10_at64_range_var Tryz.laysPu14 s hlim h tp p w hvar
def Tryz.lays145_ren : Go.Shelf.Ren := ⟨fun | 145 => 161 | 220 => 190 | 219 => 182 | 217 => 214 | 225 => 215 | 224 => 216 | 267 => 217 | 266 => 227 | 314 => 228 | n => n, fun | 9 => 9 | 4 => 4 | 59 => 214 | 3 => 3 | 5 => 5 | 46 => 179 | 146 => 279 | 51 => 256 | n => n, fun | 1 => 1 | n => n⟩
theorem Tryz.lays145 : Go.Proofs.Lays.n145 Tryz.prog Tryz.lays145_ren := {
 mixed := by kernel_rfl
 f145 := fx Tryz.func161
 f217 := fx Tryz.func214
 f219 := fx Tryz.func182
 f220 := fx Tryz.func190
 f224 := fx Tryz.func216
 f225 := fx Tryz.func215
 f266 := fx Tryz.func227
 f267 := fx Tryz.func217
 f314 := fx Tryz.func228
 t3 := Tryz.underlying3
 a3 := Tryz.isAgg3
 z3 := Tryz.sizeOf3
 v3 := Tryz.zeroValue3
 t4 := Tryz.underlying4
 a4 := Tryz.isAgg4
 z4 := Tryz.sizeOf4
 v4 := Tryz.zeroValue4
 t5 := Tryz.underlying5
 a5 := Tryz.isAgg5
 z5 := Tryz.sizeOf5
 v5 := Tryz.zeroValue5
 t9 := Tryz.underlying9
 a9 := Tryz.isAgg9
 z9 := Tryz.sizeOf9
 v9 := Tryz.zeroValue9
 t46 := Tryz.underlying179
 a46 := Tryz.isAgg179
 z46 := Tryz.sizeOf179
 v46 := Tryz.zeroValue179
 t51 := Tryz.underlying256
 a51 := Tryz.isAgg256
 z51 := Tryz.sizeOf256
 v51 := Tryz.zeroValue256
 t59 := Tryz.underlying214
 a59 := Tryz.isAgg214
 z59 := Tryz.sizeOf214
 v59 := Tryz.zeroValue214
 t146 := Tryz.underlying279
 a146 := Tryz.isAgg279
 z146 := Tryz.sizeOf279
 v146 := Tryz.zeroValue279
 g1 := by kernel_rfl }
open Go.RowKit Go.Lib in
theorem Tryz.strings_Cut (s sep : ByteArray) (m : Int) (w : World) (hs : s.size < 4294967281) (hm : w.cell? ⟨1, 0, none⟩ = some (.int .i64 m)) :
  Calls Tryz.prog 161 #[.string s, .string sep] w fun e w' => e = .returned (.tuple #[.string ⟨(Lib.cut s.data.toList sep.data.toList).1.toArray⟩, .string ⟨(Lib.cut s.data.toList sep.data.toList).2.1.toArray⟩, .bool (Lib.cut s.data.toList sep.data.toList).2.2]) ∧ ∃ n, w' = w.drewN n := Any.strings_Cut Tryz.lays145 s sep m w hs hm
def Tryz.lays146_ren : Go.Shelf.Ren := ⟨fun | 146 => 65 | 221 => 106 | 268 => 154 | 138 => 155 | 143 => 156 | 195 => 179 | 197 => 180 | 218 => 181 | 219 => 182 | 260 => 213 | 217 => 214 | 225 => 215 | 224 => 216 | 267 => 217 | 266 => 227 | 314 => 228 | n => n, fun | 9 => 9 | 31 => 76 | 3 => 3 | 4 => 4 | 0 => 0 | 105 => 238 | 21 => 21 | 5 => 5 | 46 => 179 | 119 => 275 | 139 => 278 | 138 => 277 | 146 => 279 | 51 => 256 | n => n, fun | 1 => 1 | 3 => 4 | 4 => 5 | n => n⟩
theorem Tryz.lays146 : Go.Proofs.Lays.n146 Tryz.prog Tryz.lays146_ren := {
 mixed := by kernel_rfl
 f138 := fx Tryz.func155
 f143 := fx Tryz.func156
 f146 := fx Tryz.func65
 f195 := fx Tryz.func179
 f197 := fx Tryz.func180
 f217 := fx Tryz.func214
 f218 := fx Tryz.func181
 f219 := fx Tryz.func182
 f221 := fx Tryz.func106
 f224 := fx Tryz.func216
 f225 := fx Tryz.func215
 f260 := fx Tryz.func213
 f266 := fx Tryz.func227
 f267 := fx Tryz.func217
 f268 := fx Tryz.func154
 f314 := fx Tryz.func228
 t0 := Tryz.underlying0
 a0 := Tryz.isAgg0
 z0 := Tryz.sizeOf0
 v0 := Tryz.zeroValue0
 t3 := Tryz.underlying3
 a3 := Tryz.isAgg3
 z3 := Tryz.sizeOf3
 v3 := Tryz.zeroValue3
 t4 := Tryz.underlying4
 a4 := Tryz.isAgg4
 z4 := Tryz.sizeOf4
 v4 := Tryz.zeroValue4
 t5 := Tryz.underlying5
 a5 := Tryz.isAgg5
 z5 := Tryz.sizeOf5
 v5 := Tryz.zeroValue5
 t9 := Tryz.underlying9
 a9 := Tryz.isAgg9
 z9 := Tryz.sizeOf9
 v9 := Tryz.zeroValue9
 t21 := Tryz.underlying21
 a21 := Tryz.isAgg21
 z21 := Tryz.sizeOf21
 v21 := Tryz.zeroValue21
 t31 := Tryz.underlying76
 a31 := Tryz.isAgg76
 z31 := Tryz.sizeOf76
 v31 := Tryz.zeroValue76
 t46 := Tryz.underlying179
 a46 := Tryz.isAgg179
 z46 := Tryz.sizeOf179
 v46 := Tryz.zeroValue179
 t51 := Tryz.underlying256
 a51 := Tryz.isAgg256
 z51 := Tryz.sizeOf256
 v51 := Tryz.zeroValue256
 t105 := Tryz.underlying238
 a105 := Tryz.isAgg238
 z105 := Tryz.sizeOf238
 v105 := Tryz.zeroValue238
 t119 := Tryz.underlying275
 a119 := Tryz.isAgg275
 z119 := Tryz.sizeOf275
 t138 := Tryz.underlying277
 a138 := Tryz.isAgg277
 z138 := Tryz.sizeOf277
 v138 := Tryz.zeroValue277
 t139 := Tryz.underlying278
 a139 := Tryz.isAgg278
 z139 := Tryz.sizeOf278
 v139 := Tryz.zeroValue278
 t146 := Tryz.underlying279
 a146 := Tryz.isAgg279
 z146 := Tryz.sizeOf279
 v146 := Tryz.zeroValue279
 g1 := by kernel_rfl
 g3 := by kernel_rfl
 g4 := by kernel_rfl }
open Go.RowKit Go.Lib in
theorem Tryz.strings_Split (s sep : ByteArray) (m : Int) (w : World) (hs : s.size < 4294967281) (hm : w.cell? ⟨1, 0, none⟩ = some (.int .i64 m)) (h1 : 1 ≤ sep.size) :
  Calls Tryz.prog 65 #[.string s, .string sep] w fun e w' =>
   e = .returned (.slice (some ⟨w.heap.size, 0, none⟩) (Lib.countB s sep + 1) (Lib.countB s sep + 1)) ∧ w' = w.alloc (.cells ((Lib.splitB sep 0 (Lib.countB s sep) s).map Value.string).toArray 9) := Any.strings_Split Tryz.lays146 (by kernel_rfl) s sep m w hs hm h1
end Go.Proofs
