/- DERIVED. -/
import Derived.Test.YtlpgokcapdjgjaaGreatDoorProg
import Derived.Shelf.Strings.Builder1
import Derived.Shelf.Strings.Builder2
import Derived.Shelf.Strings.OnBuilder
import Derived.Shelf.Strings.Trim
import Derived.Shelf.Small.Utf8
import Derived.Shelf.Small.Strs
import Derived.Shelf.Small.Wraps
import Derived.Shelf.Strings.BuilderF
import Derived.Shelf.Strings.BuilderK
import Derived.Shelf.Strings.Builder2Cap
import Derived.Shelf.Strconv.Itoa0
import Derived.Shelf.Strconv.Itoa1
import Derived.Shelf.LaysM
import Derived.Shelf.Strconv.Itoa2
import Derived.Shelf.Strconv.Itoa3
import Derived.Shelf.Strconv.Clone
import Derived.Shelf.Strconv.SyntaxError
import Derived.Shelf.LaysC
import Derived.Shelf.Strconv.ToError
import Derived.Shelf.Strconv.Lower
import Derived.Shelf.Strconv.ParseUint10
import Derived.Shelf.Strconv.ParseUint10Empty
import Derived.Shelf.Strconv.ParseUint10Any
import Derived.Shelf.Strconv.RangeError
import Derived.Shelf.Strconv.ToErrorRange
import Derived.Shelf.Strconv.ParseUintEmpty
import Derived.Shelf.Strconv.ParseUint10b64
import Derived.Shelf.Strconv.ParseUint10b32
import Derived.Shelf.Strconv.ParseUint10b16
import Derived.Shelf.Strconv.ParseUint10b8
import Derived.Shelf.Strconv.ParseUint10At
import Derived.Ground.MpProg
import Derived.Shelf.Pu.ParseUintPublic10
import Derived.Shelf.Pu.ErrVarParseUint
import Derived.Shelf.Strings.Search1
import Derived.Shelf.Strings.Search2
import Derived.Shelf.Strings.Search3
import Derived.Shelf.Strings.Cut
import Derived.Shelf.Strings.Count
import Derived.Shelf.Strings.Shaped
import Derived.Shelf.Strings.Prefix
import Derived.Shelf.Strings.Split
import Derived.Shelf.Strings.Runes
import Derived.Shelf.Strings.AsciiSet
import Derived.Shelf.Unicode.DecodeSlow
import Derived.Shelf.Strings.BuilderCap
namespace Go.Proofs
theorem fx {α : Type} {o : Option α} {a b : α} (h : o = some a) (e : a = b := by kernel_rfl) : o = some b := h.trans (congrArg some e)
open Go.Shelf
def Tryz.lays137_ren : Go.Shelf.Ren := ⟨fun | 137 => 57 | 217 => 95 | 266 => 140 | n => n, fun | 9 => 9 | 5 => 5 | 3 => 3 | n => n, fun | n => n⟩
theorem Tryz.lays137 : Go.Proofs.Lays.n137 Tryz.prog Tryz.lays137_ren := {
 mixed := by kernel_rfl
 f137 := fx Tryz.func57
 f217 := fx Tryz.func95
 f266 := fx Tryz.func140
 t3 := Tryz.underlying3
 a3 := Tryz.isAgg3
 z3 := Tryz.sizeOf3
 v3 := Tryz.zeroValue3
 t5 := Tryz.underlying5
 a5 := Tryz.isAgg5
 z5 := Tryz.sizeOf5
 v5 := Tryz.zeroValue5
 t9 := Tryz.underlying9
 a9 := Tryz.isAgg9
 z9 := Tryz.sizeOf9
 v9 := Tryz.zeroValue9 }
open Go.RowKit in
theorem Tryz.strings_IndexByte (s : ByteArray) (c : Int) (w : World) :
  Calls Tryz.prog 57 #[.string s, .int .u8 c] w fun e w' => e = .returned (.int .i64 (Lib.indexByte s.data.toList c.toNat.toUInt8)) ∧ w' = w := Any.strings_IndexByte Tryz.lays137 s c w
def Tryz.lays283_ren : Go.Shelf.Ren := ⟨fun | 283 => 214 | n => n, fun | 3 => 3 | 9 => 9 | 4 => 4 | n => n, fun | n => n⟩
theorem Tryz.lays283 : Go.Proofs.Lays.n283 Tryz.prog Tryz.lays283_ren := {
 mixed := by kernel_rfl
 f283 := fx Tryz.func214
 t3 := Tryz.underlying3
 a3 := Tryz.isAgg3
 z3 := Tryz.sizeOf3
 v3 := Tryz.zeroValue3
 t4 := Tryz.underlying4
 a4 := Tryz.isAgg4
 z4 := Tryz.sizeOf4
 v4 := Tryz.zeroValue4
 t9 := Tryz.underlying9
 a9 := Tryz.isAgg9
 z9 := Tryz.sizeOf9
 v9 := Tryz.zeroValue9 }
open Go.Lib in
theorem Tryz.internal_strconv_small (i : Nat) (h : i < 100) (w : World) :
  Calls Tryz.prog 214 #[.int .i64 i] w fun e w' => e = .returned (.string ⟨(Lib.decDigits i).toArray⟩) ∧ w' = w := Any.internal_strconv_small Tryz.lays283 i h w
def Tryz.laysM284_ren : Go.Shelf.Ren := ⟨fun | 284 => 215 | 129 => 244 | 317 => 243 | 318 => 245 | n => n, fun | 53 => 57 | 3 => 3 | 212 => 328 | 0 => 0 | 4 => 4 | 46 => 234 | 5 => 5 | 9 => 9 | n => n, fun | 17 => 3 | n => n⟩
theorem Tryz.laysM284 : Go.Proofs.LaysM.n284 Tryz.prog Tryz.laysM284_ren := {
 mixed := by kernel_rfl
 f129 := fx Tryz.func244
 f284 := fx Tryz.func215
 f317 := fx Tryz.func243
 f318 := fx Tryz.func245
 t0 := Tryz.underlying0
 a0 := Tryz.isAgg0
 z0 := Tryz.sizeOf0
 v0 := Tryz.zeroValue0
 t3 := Tryz.underlying3
 a3 := Tryz.isAgg3
 z3 := Tryz.sizeOf3
 v3 := Tryz.zeroValue3
 t4 := Tryz.underlying4
 a4 := Tryz.isAgg4
 z4 := Tryz.sizeOf4
 v4 := Tryz.zeroValue4
 t5 := Tryz.underlying5
 a5 := Tryz.isAgg5
 z5 := Tryz.sizeOf5
 v5 := Tryz.zeroValue5
 t9 := Tryz.underlying9
 a9 := Tryz.isAgg9
 z9 := Tryz.sizeOf9
 v9 := Tryz.zeroValue9
 t46 := Tryz.underlying234
 a46 := Tryz.isAgg234
 z46 := Tryz.sizeOf234
 v46 := Tryz.zeroValue234
 t53 := Tryz.underlying57
 a53 := Tryz.isAgg57
 z53 := Tryz.sizeOf57
 v53 := Tryz.zeroValue57
 t212 := Tryz.underlying328
 a212 := Tryz.isAgg328
 z212 := Tryz.sizeOf328
 v212 := Tryz.zeroValue328
 g17 := by kernel_rfl
 i0 := by kernel_rfl
 i3 := by kernel_rfl
 i4 := by kernel_rfl
 i5 := by kernel_rfl
 i9 := by kernel_rfl
 i46 := by kernel_rfl
 i53 := by kernel_rfl
 i212 := by kernel_rfl
 m17 := by kernel_rfl }
open Go.Lib in
theorem Tryz.internal_strconv_numDigits (u : Nat) (h1 : 1 ≤ u) (h2 : u < 18446744073709551616) (w : World) (htab : Lib.TabIs Tryz.prog w "internal/strconv.uint64pow10" .u64 Lib.pow10Tab) :
  Calls Tryz.prog 215 #[.int .u64 u] w fun e w' => e = .returned (.int .i64 (Lib.nDigits u)) ∧ w' = w := Any.internal_strconv_numDigits Tryz.laysM284 u h1 h2 w htab
def Tryz.lays285_ren : Go.Shelf.Ren := ⟨fun | 285 => 216 | n => n, fun | 37 => 32 | 53 => 57 | 3 => 3 | 4 => 4 | 51 => 186 | 9 => 9 | 5 => 5 | 0 => 0 | n => n, fun | n => n⟩
theorem Tryz.lays285 : Go.Proofs.Lays.n285 Tryz.prog Tryz.lays285_ren := {
 mixed := by kernel_rfl
 f285 := fx Tryz.func216
 t0 := Tryz.underlying0
 a0 := Tryz.isAgg0
 z0 := Tryz.sizeOf0
 v0 := Tryz.zeroValue0
 t3 := Tryz.underlying3
 a3 := Tryz.isAgg3
 z3 := Tryz.sizeOf3
 v3 := Tryz.zeroValue3
 t4 := Tryz.underlying4
 a4 := Tryz.isAgg4
 z4 := Tryz.sizeOf4
 v4 := Tryz.zeroValue4
 t5 := Tryz.underlying5
 a5 := Tryz.isAgg5
 z5 := Tryz.sizeOf5
 v5 := Tryz.zeroValue5
 t9 := Tryz.underlying9
 a9 := Tryz.isAgg9
 z9 := Tryz.sizeOf9
 v9 := Tryz.zeroValue9
 t37 := Tryz.underlying32
 a37 := Tryz.isAgg32
 z37 := Tryz.sizeOf32
 v37 := Tryz.zeroValue32
 t51 := Tryz.underlying186
 a51 := Tryz.isAgg186
 z51 := Tryz.sizeOf186
 v51 := Tryz.zeroValue186
 t53 := Tryz.underlying57
 a53 := Tryz.isAgg57
 z53 := Tryz.sizeOf57
 v53 := Tryz.zeroValue57 }
open Go.RowKit Go.Sort Go.Lib in
theorem Tryz.internal_strconv_formatBase10 (blk off cap : Nat) (u : Nat) (d : Array UInt8) (w : World) (hH : Holds (fun (b : UInt8) => Value.int .u8 (b.toNat : Int)) w blk off d) (hu : u < 10 ^ d.size) (hu64 : u < 18446744073709551616) (hsz : d.size < 4611686018427387904) :
  Calls Tryz.prog 216 #[.slice (some ⟨blk, off, none⟩) d.size cap, .int .u64 u] w fun e w' =>
   e = .returned (.tuple #[]) ∧ ∃ (n v' : Nat) (dk : Array UInt8), w' = (putRow (fun (b : UInt8) => Value.int .u8 (b.toNat : Int)) w blk off dk).drewN n ∧ FmtInv d.size u 0 v' dk := Any.internal_strconv_formatBase10 Tryz.lays285 blk off cap u d w hH hu hu64 hsz
def Tryz.laysPu14_ren : Go.Shelf.Ren := ⟨fun | 14 => 108 | 16 => 174 | 17 => 175 | 19 => 203 | 20 => 204 | 21 => 205 | 22 => 206 | 23 => 207 | 24 => 208 | 25 => 228 | 27 => 230 | 26 => 229 | 28 => 253 | 29 => 261 | 30 => 214 | 31 => 215 | 32 => 216 | 33 => 217 | 35 => 244 | 34 => 243 | 36 => 245 | 37 => 246 | 38 => 247 | 39 => 254 | 40 => 255 | n => n, fun | 9 => 9 | 3 => 3 | 22 => 57 | 24 => 124 | 25 => 208 | 4 => 4 | 34 => 296 | 5 => 5 | 36 => 234 | 37 => 32 | 0 => 0 | 39 => 298 | 21 => 21 | 44 => 320 | 47 => 200 | 50 => 347 | 48 => 345 | 2 => 2 | 52 => 309 | 55 => 312 | 59 => 328 | 60 => 186 | 20 => 20 | 61 => 329 | 65 => 358 | 66 => 359 | 67 => 128 | n => n, fun | 0 => 1 | 1 => 2 | 2 => 3 | 3 => 6 | 4 => 7 | n => n⟩
theorem Tryz.laysPu14 : Go.Proofs.LaysPu.n14 Tryz.prog Tryz.laysPu14_ren := {
 mixed := by kernel_rfl
 f14 := fx Tryz.func108
 f16 := fx Tryz.func174
 f17 := fx Tryz.func175
 f19 := fx Tryz.func203
 f20 := fx Tryz.func204
 f21 := fx Tryz.func205
 f22 := fx Tryz.func206
 f23 := fx Tryz.func207
 f24 := fx Tryz.func208
 f25 := fx Tryz.func228
 f26 := fx Tryz.func229
 f27 := fx Tryz.func230
 f28 := fx Tryz.func253
 f29 := fx Tryz.func261
 f30 := fx Tryz.func214
 f31 := fx Tryz.func215
 f32 := fx Tryz.func216
 f33 := fx Tryz.func217
 f34 := fx Tryz.func243
 f35 := fx Tryz.func244
 f36 := fx Tryz.func245
 f37 := fx Tryz.func246
 f38 := fx Tryz.func247
 f39 := fx Tryz.func254
 f40 := fx Tryz.func255
 t0 := Tryz.underlying0
 a0 := Tryz.isAgg0
 z0 := Tryz.sizeOf0
 v0 := Tryz.zeroValue0
 i0 := by kernel_rfl
 t2 := Tryz.underlying2
 a2 := Tryz.isAgg2
 z2 := Tryz.sizeOf2
 v2 := Tryz.zeroValue2
 i2 := by kernel_rfl
 t3 := Tryz.underlying3
 a3 := Tryz.isAgg3
 z3 := Tryz.sizeOf3
 v3 := Tryz.zeroValue3
 i3 := by kernel_rfl
 t4 := Tryz.underlying4
 a4 := Tryz.isAgg4
 z4 := Tryz.sizeOf4
 v4 := Tryz.zeroValue4
 i4 := by kernel_rfl
 t5 := Tryz.underlying5
 a5 := Tryz.isAgg5
 z5 := Tryz.sizeOf5
 v5 := Tryz.zeroValue5
 i5 := by kernel_rfl
 t9 := Tryz.underlying9
 a9 := Tryz.isAgg9
 z9 := Tryz.sizeOf9
 v9 := Tryz.zeroValue9
 i9 := by kernel_rfl
 t20 := Tryz.underlying20
 a20 := Tryz.isAgg20
 z20 := Tryz.sizeOf20
 v20 := Tryz.zeroValue20
 i20 := by kernel_rfl
 t21 := Tryz.underlying21
 a21 := Tryz.isAgg21
 z21 := Tryz.sizeOf21
 v21 := Tryz.zeroValue21
 i21 := by kernel_rfl
 t22 := Tryz.underlying57
 a22 := Tryz.isAgg57
 z22 := Tryz.sizeOf57
 v22 := Tryz.zeroValue57
 i22 := by kernel_rfl
 t24 := Tryz.underlying124
 a24 := Tryz.isAgg124
 z24 := Tryz.sizeOf124
 v24 := Tryz.zeroValue124
 i24 := by kernel_rfl
 t25 := Tryz.underlying208
 a25 := Tryz.isAgg208
 z25 := Tryz.sizeOf208
 v25 := Tryz.zeroValue208
 i25 := by kernel_rfl
 t34 := Tryz.underlying296
 a34 := Tryz.isAgg296
 z34 := Tryz.sizeOf296
 v34 := Tryz.zeroValue296
 i34 := by kernel_rfl
 c34 := by kernel_rfl
 t36 := Tryz.underlying234
 a36 := Tryz.isAgg234
 z36 := Tryz.sizeOf234
 v36 := Tryz.zeroValue234
 i36 := by kernel_rfl
 t37 := Tryz.underlying32
 a37 := Tryz.isAgg32
 z37 := Tryz.sizeOf32
 v37 := Tryz.zeroValue32
 i37 := by kernel_rfl
 t39 := Tryz.underlying298
 a39 := Tryz.isAgg298
 z39 := Tryz.sizeOf298
 v39 := Tryz.zeroValue298
 i39 := by kernel_rfl
 t44 := Tryz.underlying320
 a44 := Tryz.isAgg320
 z44 := Tryz.sizeOf320
 v44 := Tryz.zeroValue320
 i44 := by kernel_rfl
 t47 := Tryz.underlying200
 a47 := Tryz.isAgg200
 z47 := Tryz.sizeOf200
 v47 := Tryz.zeroValue200
 i47 := by kernel_rfl
 t48 := Tryz.underlying345
 a48 := Tryz.isAgg345
 z48 := Tryz.sizeOf345
 v48 := Tryz.zeroValue345
 i48 := by kernel_rfl
 t50 := Tryz.underlying347
 a50 := Tryz.isAgg347
 z50 := Tryz.sizeOf347
 v50 := Tryz.zeroValue347
 i50 := by kernel_rfl
 t52 := Tryz.underlying309
 a52 := Tryz.isAgg309
 z52 := Tryz.sizeOf309
 v52 := Tryz.zeroValue309
 i52 := by kernel_rfl
 t55 := Tryz.underlying312
 a55 := Tryz.isAgg312
 z55 := Tryz.sizeOf312
 v55 := Tryz.zeroValue312
 i55 := by kernel_rfl
 t59 := Tryz.underlying328
 a59 := Tryz.isAgg328
 z59 := Tryz.sizeOf328
 v59 := Tryz.zeroValue328
 i59 := by kernel_rfl
 t60 := Tryz.underlying186
 a60 := Tryz.isAgg186
 z60 := Tryz.sizeOf186
 v60 := Tryz.zeroValue186
 i60 := by kernel_rfl
 t61 := Tryz.underlying329
 a61 := Tryz.isAgg329
 z61 := Tryz.sizeOf329
 t65 := Tryz.underlying358
 a65 := Tryz.isAgg358
 z65 := Tryz.sizeOf358
 v65 := Tryz.zeroValue358
 i65 := by kernel_rfl
 t66 := Tryz.underlying359
 a66 := Tryz.isAgg359
 z66 := Tryz.sizeOf359
 v66 := Tryz.zeroValue359
 i66 := by kernel_rfl
 t67 := Tryz.underlying128
 a67 := Tryz.isAgg128
 z67 := Tryz.sizeOf128
 v67 := Tryz.zeroValue128
 i67 := by kernel_rfl
 g0 := by kernel_rfl
 m0 := by kernel_rfl
 g1 := by kernel_rfl
 m1 := by kernel_rfl
 g2 := by kernel_rfl
 m2 := by kernel_rfl
 g3 := by kernel_rfl
 m3 := by kernel_rfl
 g4 := by kernel_rfl
 m4 := by kernel_rfl }
open Go.RowKit in
theorem Tryz.strconv_ParseUint_10_at64_ok (s : ByteArray) (hmax : s.size ≤ 9223372036854775806) (u : Nat) (h : Lib.parseUintB 64 s.data.toList = .ok u) (w : World) :
  Calls Tryz.prog 108 #[.string s, .int .i64 10, .int .i64 64] w fun e w' => e = .returned (.tuple #[.int .u64 u, .nilIface]) ∧ (w' = w ∨ w' = Lib.bytesWorld w 5 s) := Any.strconv_ParseUint_10_at64_ok Tryz.laysPu14 s hmax u h w
open Go.RowKit in
theorem Tryz.strconv_ParseUint_10_at64_syntax_var (s : ByteArray) (hlim : s.size ≤ 281474976710656) (h : Lib.parseUintB 64 s.data.toList = Lib.parseUintB 64 []) (tp : TypeId) (p : Value) (w : World) (hvar : w.var? Tryz.prog "strconv.ErrSyntax" = some #[.iface tp p]) :
  Calls Tryz.prog 108 #[.string s, .int .i64 10, .int .i64 64] w fun e w' => ∃ N, e = .returned (.tuple #[.int .u64 0, .iface 298 (.pointer (some ⟨N, 0, none⟩))]) ∧ w.heap.size ≤ N ∧ w'.heap[N]? = some (.cells #[.string ⟨#[80, 97, 114, 115, 101, 85, 105, 110, 116]⟩, .string s, .iface tp p] 320 (0, 0)) ∧ Below w.heap.size w w' := Any.strconv_ParseUint_10_at64_syntax_var Tryz.laysPu14 s hlim h tp p w hvar
open Go.RowKit in
theorem Tryz.strconv_ParseUint_10_at64_range_var (s : ByteArray) (hlim : s.size ≤ 281474976710656) (h : Lib.parseUintB 64 s.data.toList = .range) (tp : TypeId) (p : Value) (w : World) (hvar : w.var? Tryz.prog "strconv.ErrRange" = some #[.iface tp p]) :
  Calls Tryz.prog 108 #[.string s, .int .i64 10, .int .i64 64] w fun e w' => ∃ N, e = .returned (.tuple #[.int .u64 18446744073709551615, .iface 298 (.pointer (some ⟨N, 0, none⟩))]) ∧ w.heap.size ≤ N ∧ w'.heap[N]? = some (.cells #[.string ⟨#[80, 97, 114, 115, 101, 85, 105, 110, 116]⟩, .string s, .iface tp p] 320 (0, 0)) ∧ Below w.heap.size w w' := Any.strconv_ParseUint_10_at64_range_var Tryz.laysPu14 s hlim h tp p w hvar
def Tryz.lays146_ren : Go.Shelf.Ren := ⟨fun | 146 => 59 | 221 => 97 | 268 => 141 | 138 => 142 | 143 => 143 | 195 => 192 | 197 => 193 | 218 => 194 | 219 => 195 | 260 => 218 | 217 => 95 | 225 => 219 | 224 => 220 | 267 => 221 | 266 => 140 | 314 => 248 | n => n, fun | 9 => 9 | 31 => 79 | 3 => 3 | 4 => 4 | 0 => 0 | 105 => 285 | 21 => 21 | 5 => 5 | 46 => 234 | 119 => 332 | 139 => 335 | 138 => 334 | 146 => 336 | 51 => 186 | n => n, fun | 1 => 0 | 3 => 4 | 4 => 5 | n => n⟩
theorem Tryz.lays146 : Go.Proofs.Lays.n146 Tryz.prog Tryz.lays146_ren := {
 mixed := by kernel_rfl
 f138 := fx Tryz.func142
 f143 := fx Tryz.func143
 f146 := fx Tryz.func59
 f195 := fx Tryz.func192
 f197 := fx Tryz.func193
 f217 := fx Tryz.func95
 f218 := fx Tryz.func194
 f219 := fx Tryz.func195
 f221 := fx Tryz.func97
 f224 := fx Tryz.func220
 f225 := fx Tryz.func219
 f260 := fx Tryz.func218
 f266 := fx Tryz.func140
 f267 := fx Tryz.func221
 f268 := fx Tryz.func141
 f314 := fx Tryz.func248
 t0 := Tryz.underlying0
 a0 := Tryz.isAgg0
 z0 := Tryz.sizeOf0
 v0 := Tryz.zeroValue0
 t3 := Tryz.underlying3
 a3 := Tryz.isAgg3
 z3 := Tryz.sizeOf3
 v3 := Tryz.zeroValue3
 t4 := Tryz.underlying4
 a4 := Tryz.isAgg4
 z4 := Tryz.sizeOf4
 v4 := Tryz.zeroValue4
 t5 := Tryz.underlying5
 a5 := Tryz.isAgg5
 z5 := Tryz.sizeOf5
 v5 := Tryz.zeroValue5
 t9 := Tryz.underlying9
 a9 := Tryz.isAgg9
 z9 := Tryz.sizeOf9
 v9 := Tryz.zeroValue9
 t21 := Tryz.underlying21
 a21 := Tryz.isAgg21
 z21 := Tryz.sizeOf21
 v21 := Tryz.zeroValue21
 t31 := Tryz.underlying79
 a31 := Tryz.isAgg79
 z31 := Tryz.sizeOf79
 v31 := Tryz.zeroValue79
 t46 := Tryz.underlying234
 a46 := Tryz.isAgg234
 z46 := Tryz.sizeOf234
 v46 := Tryz.zeroValue234
 t51 := Tryz.underlying186
 a51 := Tryz.isAgg186
 z51 := Tryz.sizeOf186
 v51 := Tryz.zeroValue186
 t105 := Tryz.underlying285
 a105 := Tryz.isAgg285
 z105 := Tryz.sizeOf285
 v105 := Tryz.zeroValue285
 t119 := Tryz.underlying332
 a119 := Tryz.isAgg332
 z119 := Tryz.sizeOf332
 t138 := Tryz.underlying334
 a138 := Tryz.isAgg334
 z138 := Tryz.sizeOf334
 v138 := Tryz.zeroValue334
 t139 := Tryz.underlying335
 a139 := Tryz.isAgg335
 z139 := Tryz.sizeOf335
 v139 := Tryz.zeroValue335
 t146 := Tryz.underlying336
 a146 := Tryz.isAgg336
 z146 := Tryz.sizeOf336
 v146 := Tryz.zeroValue336
 g1 := by kernel_rfl
 g3 := by kernel_rfl
 g4 := by kernel_rfl }
open Go.RowKit Go.Lib in
theorem Tryz.strings_Split (s sep : ByteArray) (m : Int) (w : World) (hs : s.size < 4294967281) (hm : w.cell? ⟨0, 0, none⟩ = some (.int .i64 m)) (h1 : 1 ≤ sep.size) :
  Calls Tryz.prog 59 #[.string s, .string sep] w fun e w' =>
   e = .returned (.slice (some ⟨w.heap.size, 0, none⟩) (Lib.countB s sep + 1) (Lib.countB s sep + 1)) ∧ w' = w.alloc (.cells ((Lib.splitB sep 0 (Lib.countB s sep) s).map Value.string).toArray 9) := Any.strings_Split Tryz.lays146 (by kernel_rfl) s sep m w hs hm h1
end Go.Proofs
