/- Contracts of library functions that the kit proves once for any program, laid at this dump by the kit's own tools (lay-shelf, lay-plain). -/
import Derived.Shelf.Strings.Builder1
import Derived.Shelf.Strings.Builder2
import Derived.Shelf.Strings.Trim
import Derived.Shelf.Small.Utf8
import Derived.Shelf.Small.Strs
import Derived.Shelf.Strings.BuilderF
import Derived.Shelf.Utf8.RuneCount
import Derived.Shelf.Strconv.Itoa0
import Derived.Shelf.Strconv.Itoa1
import Derived.Shelf.LaysM
import Derived.Shelf.Strconv.Itoa2
import Derived.Shelf.Strconv.Itoa3
import Derived.Shelf.Strconv.ParseIntEmpty
import Derived.Shelf.Strconv.Clone
import Derived.Shelf.Strconv.SyntaxError
import Derived.Shelf.LaysC
import Derived.Shelf.Strconv.ToError
import Derived.Shelf.Strconv.Lower
import Derived.Shelf.Strconv.ParseUint10
import Derived.Shelf.Strconv.ParseUint10Empty
import Derived.Shelf.Strconv.ParseUint10Any
import Derived.Shelf.Strconv.ParseInt10
import Derived.Shelf.Strconv.RangeError
import Derived.Shelf.Strconv.ToErrorRange
import Derived.Shelf.Strconv.ParseUintEmpty
import Derived.Shelf.Strconv.ParseUint10b64
import Derived.Shelf.Strconv.ParseUint10b32
import Derived.Shelf.Strconv.ParseUint10b16
import Derived.Shelf.Strconv.ParseUint10b8
import Derived.Shelf.Strconv.ParseUint10At
import Derived.Shelf.Strconv.ParseInt10At64
import Derived.Shelf.Strconv.ParseInt10At32
import Derived.Shelf.Strconv.ParseInt10At16
import Derived.Shelf.Strconv.ParseInt10At8
import Derived.Shelf.Strconv.ParseInt10All
import Derived.Shelf.Strconv.ParseIntPublic10
import Derived.Shelf.Strconv.ErrVarParseInt
import Derived.Shelf.Strings.Search1
import Derived.Shelf.Strings.Search2
import Derived.Shelf.Strings.Search3
import Derived.Shelf.Strings.Count
import Derived.Shelf.Strings.Shaped
import Derived.Shelf.Strings.Prefix
import Derived.Shelf.Strings.Split
import Derived.Shelf.Unicode.Decode
import Derived.Shelf.Strings.Runes
import Derived.Shelf.Strings.RuneCount
import Derived.Shelf.Strings.AsciiSet
import Derived.Shelf.Strings.Explode
import Derived.Shelf.Bits.Mul64
import Derived.Shelf.Strings.Repeat
import Derived.Shelf.Unicode.DecodeSlow
import Derived.Shelf.Unicode.DecodeAny
import Derived.Shelf.Unicode.DecodeLast
import Derived.Ground.Names2Prog
import Derived.Shelf.Slices.Clone
import Derived.Shelf.Slices.SearchI
import Derived.Ground.SlgnProg
import Derived.Shelf.SlicesE.Clone
import Derived.Shelf.Strings.SlTrimAscii
import Derived.Test.YtplpnfjccemdnaaGreatDoorProg
namespace Go.Proofs
open Go.Shelf
def Tryz.lays169_ren : Go.Shelf.Ren := ⟨fun | 169 => 248 | n => n, fun | 70 => 319 | 9 => 9 | 0 => 0 | 72 => 321 | 37 => 192 | 127 => 360 | 3 => 3 | 5 => 5 | n => n, fun | n => n⟩
theorem Tryz.lays169 : Go.Proofs.Lays.n169 Tryz.prog Tryz.lays169_ren := {
  mixed := by kernel_rfl
  f169 := Tryz.func248.trans (congrArg some (by kernel_rfl))
  t0 := Tryz.underlying0
  a0 := Tryz.isAgg0
  z0 := Tryz.sizeOf0
  v0 := Tryz.zeroValue0
  t3 := Tryz.underlying3
  a3 := Tryz.isAgg3
  z3 := Tryz.sizeOf3
  v3 := Tryz.zeroValue3
  t9 := Tryz.underlying9
  a9 := Tryz.isAgg9
  z9 := Tryz.sizeOf9
  v9 := Tryz.zeroValue9
  t37 := Tryz.underlying192
  a37 := Tryz.isAgg192
  z37 := Tryz.sizeOf192
  v37 := Tryz.zeroValue192
  t70 := Tryz.underlying319
  a70 := Tryz.isAgg319
  z70 := Tryz.sizeOf319
  v70 := Tryz.zeroValue319
  t72 := Tryz.underlying321
  a72 := Tryz.isAgg321
  z72 := Tryz.sizeOf321
  v72 := Tryz.zeroValue321
  t127 := Tryz.underlying360
  a127 := Tryz.isAgg360
  z127 := Tryz.sizeOf360
  v127 := Tryz.zeroValue360 }
theorem Tryz.Builder_Extra_169 : Builder.Extra Tryz.prog Tryz.lays169_ren := {
  sizeBuilder := by kernel_rfl
  liesBuilder := by kernel_rfl
  t5 := Tryz.underlying5
  a5 := Tryz.isAgg5
  z5 := Tryz.sizeOf5
  v5 := Tryz.zeroValue5
  infoByte := by kernel_rfl
  cellsByte := by kernel_rfl
  sizeByte := by kernel_rfl
  neB5 := by decide }
open Go.RowKit in
theorem Tryz.Builder_String (B b : Nat) (l : List UInt8) (w : World) (h : Lib.IsBuilder 321 5 B b (Lib.byteCells l) w) (h0 : l ≠ []) :
    Calls Tryz.prog 248 #[.pointer (some ⟨b, 0, none⟩)] w fun e w' => e = .returned (.string ⟨l.toArray⟩) ∧ Below B w w' := Any.Builder_String Tryz.lays169 Tryz.Builder_Extra_169 B b l w h h0
def Tryz.lays137_ren : Go.Shelf.Ren := ⟨fun | 137 => 294 | 217 => 318 | 266 => 334 | n => n, fun | 9 => 9 | 5 => 5 | 3 => 3 | n => n, fun | n => n⟩
theorem Tryz.lays137 : Go.Proofs.Lays.n137 Tryz.prog Tryz.lays137_ren := {
  mixed := by kernel_rfl
  f137 := Tryz.func294.trans (congrArg some (by kernel_rfl))
  f217 := Tryz.func318.trans (congrArg some (by kernel_rfl))
  f266 := Tryz.func334.trans (congrArg some (by kernel_rfl))
  t3 := Tryz.underlying3
  a3 := Tryz.isAgg3
  z3 := Tryz.sizeOf3
  v3 := Tryz.zeroValue3
  t5 := Tryz.underlying5
  a5 := Tryz.isAgg5
  z5 := Tryz.sizeOf5
  v5 := Tryz.zeroValue5
  t9 := Tryz.underlying9
  a9 := Tryz.isAgg9
  z9 := Tryz.sizeOf9
  v9 := Tryz.zeroValue9 }
open Go.RowKit in
theorem Tryz.strings_IndexByte (s : ByteArray) (c : Int) (w : World) :
    Calls Tryz.prog 294 #[.string s, .int .u8 c] w fun e w' => e = .returned (.int .i64 (Lib.indexByte s.data.toList c.toNat.toUInt8)) ∧ w' = w := Any.strings_IndexByte Tryz.lays137 s c w
def Tryz.laysM171_ren : Go.Shelf.Ren := ⟨fun | 171 => 205 | 243 => 240 | 246 => 270 | 283 => 302 | 284 => 303 | 285 => 304 | 286 => 305 | 129 => 326 | 317 => 325 | 318 => 327 | 319 => 328 | 320 => 329 | 337 => 339 | 338 => 340 | n => n, fun | 3 => 3 | 9 => 9 | 2 => 2 | 4 => 4 | 171 => 369 | 0 => 0 | 53 => 357 | 37 => 192 | 5 => 5 | 173 => 372 | 212 => 386 | 51 => 354 | 20 => 20 | 213 => 387 | 46 => 194 | 232 => 404 | 233 => 405 | n => n, fun | 17 => 0 | 18 => 6 | 19 => 7 | n => n⟩
theorem Tryz.laysM171 : Go.Proofs.LaysM.n171 Tryz.prog Tryz.laysM171_ren := {
  mixed := by kernel_rfl
  f129 := Tryz.func326.trans (congrArg some (by kernel_rfl))
  f171 := Tryz.func205.trans (congrArg some (by kernel_rfl))
  f243 := Tryz.func240.trans (congrArg some (by kernel_rfl))
  f246 := Tryz.func270.trans (congrArg some (by kernel_rfl))
  f283 := Tryz.func302.trans (congrArg some (by kernel_rfl))
  f284 := Tryz.func303.trans (congrArg some (by kernel_rfl))
  f285 := Tryz.func304.trans (congrArg some (by kernel_rfl))
  f286 := Tryz.func305.trans (congrArg some (by kernel_rfl))
  f317 := Tryz.func325.trans (congrArg some (by kernel_rfl))
  f318 := Tryz.func327.trans (congrArg some (by kernel_rfl))
  f319 := Tryz.func328.trans (congrArg some (by kernel_rfl))
  f320 := Tryz.func329.trans (congrArg some (by kernel_rfl))
  f337 := Tryz.func339.trans (congrArg some (by kernel_rfl))
  f338 := Tryz.func340.trans (congrArg some (by kernel_rfl))
  t0 := Tryz.underlying0
  a0 := Tryz.isAgg0
  z0 := Tryz.sizeOf0
  v0 := Tryz.zeroValue0
  t2 := Tryz.underlying2
  a2 := Tryz.isAgg2
  z2 := Tryz.sizeOf2
  v2 := Tryz.zeroValue2
  t3 := Tryz.underlying3
  a3 := Tryz.isAgg3
  z3 := Tryz.sizeOf3
  v3 := Tryz.zeroValue3
  t4 := Tryz.underlying4
  a4 := Tryz.isAgg4
  z4 := Tryz.sizeOf4
  v4 := Tryz.zeroValue4
  t5 := Tryz.underlying5
  a5 := Tryz.isAgg5
  z5 := Tryz.sizeOf5
  v5 := Tryz.zeroValue5
  t9 := Tryz.underlying9
  a9 := Tryz.isAgg9
  z9 := Tryz.sizeOf9
  v9 := Tryz.zeroValue9
  t20 := Tryz.underlying20
  a20 := Tryz.isAgg20
  z20 := Tryz.sizeOf20
  v20 := Tryz.zeroValue20
  t37 := Tryz.underlying192
  a37 := Tryz.isAgg192
  z37 := Tryz.sizeOf192
  v37 := Tryz.zeroValue192
  t46 := Tryz.underlying194
  a46 := Tryz.isAgg194
  z46 := Tryz.sizeOf194
  v46 := Tryz.zeroValue194
  t51 := Tryz.underlying354
  a51 := Tryz.isAgg354
  z51 := Tryz.sizeOf354
  v51 := Tryz.zeroValue354
  t53 := Tryz.underlying357
  a53 := Tryz.isAgg357
  z53 := Tryz.sizeOf357
  v53 := Tryz.zeroValue357
  t171 := Tryz.underlying369
  a171 := Tryz.isAgg369
  z171 := Tryz.sizeOf369
  v171 := Tryz.zeroValue369
  t173 := Tryz.underlying372
  a173 := Tryz.isAgg372
  z173 := Tryz.sizeOf372
  v173 := Tryz.zeroValue372
  t212 := Tryz.underlying386
  a212 := Tryz.isAgg386
  z212 := Tryz.sizeOf386
  v212 := Tryz.zeroValue386
  t213 := Tryz.underlying387
  a213 := Tryz.isAgg387
  z213 := Tryz.sizeOf387
  t232 := Tryz.underlying404
  a232 := Tryz.isAgg404
  z232 := Tryz.sizeOf404
  v232 := Tryz.zeroValue404
  t233 := Tryz.underlying405
  a233 := Tryz.isAgg405
  z233 := Tryz.sizeOf405
  v233 := Tryz.zeroValue405
  g17 := by kernel_rfl
  g18 := by kernel_rfl
  g19 := by kernel_rfl
  i0 := by kernel_rfl
  i2 := by kernel_rfl
  i3 := by kernel_rfl
  i4 := by kernel_rfl
  i5 := by kernel_rfl
  i9 := by kernel_rfl
  i20 := by kernel_rfl
  i37 := by kernel_rfl
  i46 := by kernel_rfl
  i51 := by kernel_rfl
  i53 := by kernel_rfl
  i171 := by kernel_rfl
  i173 := by kernel_rfl
  i212 := by kernel_rfl
  i232 := by kernel_rfl
  i233 := by kernel_rfl
  m17 := by kernel_rfl
  m18 := by kernel_rfl
  m19 := by kernel_rfl }
open Go.RowKit Go.Sort Go.Lib in
theorem Tryz.strconv_Itoa (n : Int) (h0 : -9223372036854775808 ≤ n) (h1 : n ≤ 9223372036854775807) (w : World) (htab : Lib.TabIs Tryz.prog w "internal/strconv.uint64pow10" .u64 Lib.pow10Tab) :
    Calls Tryz.prog 205 #[.int .i64 n] w fun e w' => e = .returned (.string ⟨(Lib.itoa n).toArray⟩) ∧ ∃ k os, w' = grow (w.drewN k) os := Any.strconv_Itoa Tryz.laysM171 n h0 h1 w htab
def Tryz.laysC174_ren : Go.Shelf.Ren := ⟨fun | 174 => 243 | 247 => 272 | 245 => 273 | 287 => 306 | 279 => 307 | 280 => 308 | 281 => 309 | 282 => 310 | 321 => 330 | 322 => 331 | 316 => 332 | 171 => 205 | 205 => 333 | 243 => 240 | 246 => 270 | 283 => 302 | 284 => 303 | 285 => 304 | 286 => 305 | 129 => 326 | 317 => 325 | 318 => 327 | 319 => 328 | 320 => 329 | 337 => 339 | 338 => 340 | n => n, fun | 9 => 9 | 3 => 3 | 2 => 2 | 75 => 314 | 85 => 315 | 4 => 4 | 167 => 374 | 5 => 5 | 53 => 357 | 175 => 375 | 46 => 194 | 168 => 377 | 37 => 192 | 0 => 0 | 210 => 392 | 21 => 21 | 127 => 360 | 145 => 402 | 143 => 400 | 171 => 369 | 173 => 372 | 212 => 386 | 51 => 354 | 20 => 20 | 213 => 387 | 232 => 404 | 233 => 405 | 80 => 312 | n => n, fun | 15 => 1 | 16 => 2 | 17 => 0 | 18 => 6 | 19 => 7 | n => n⟩
theorem Tryz.laysC174 : Go.Proofs.LaysC.n174 Tryz.prog Tryz.laysC174_ren := {
  mixed := by kernel_rfl
  f129 := Tryz.func326.trans (congrArg some (by kernel_rfl))
  f171 := Tryz.func205.trans (congrArg some (by kernel_rfl))
  f174 := Tryz.func243.trans (congrArg some (by kernel_rfl))
  f205 := Tryz.func333.trans (congrArg some (by kernel_rfl))
  f243 := Tryz.func240.trans (congrArg some (by kernel_rfl))
  f245 := Tryz.func273.trans (congrArg some (by kernel_rfl))
  f246 := Tryz.func270.trans (congrArg some (by kernel_rfl))
  f247 := Tryz.func272.trans (congrArg some (by kernel_rfl))
  f279 := Tryz.func307.trans (congrArg some (by kernel_rfl))
  f280 := Tryz.func308.trans (congrArg some (by kernel_rfl))
  f281 := Tryz.func309.trans (congrArg some (by kernel_rfl))
  f282 := Tryz.func310.trans (congrArg some (by kernel_rfl))
  f283 := Tryz.func302.trans (congrArg some (by kernel_rfl))
  f284 := Tryz.func303.trans (congrArg some (by kernel_rfl))
  f285 := Tryz.func304.trans (congrArg some (by kernel_rfl))
  f286 := Tryz.func305.trans (congrArg some (by kernel_rfl))
  f287 := Tryz.func306.trans (congrArg some (by kernel_rfl))
  f316 := Tryz.func332.trans (congrArg some (by kernel_rfl))
  f317 := Tryz.func325.trans (congrArg some (by kernel_rfl))
  f318 := Tryz.func327.trans (congrArg some (by kernel_rfl))
  f319 := Tryz.func328.trans (congrArg some (by kernel_rfl))
  f320 := Tryz.func329.trans (congrArg some (by kernel_rfl))
  f321 := Tryz.func330.trans (congrArg some (by kernel_rfl))
  f322 := Tryz.func331.trans (congrArg some (by kernel_rfl))
  f337 := Tryz.func339.trans (congrArg some (by kernel_rfl))
  f338 := Tryz.func340.trans (congrArg some (by kernel_rfl))
  t0 := Tryz.underlying0
  a0 := Tryz.isAgg0
  z0 := Tryz.sizeOf0
  v0 := Tryz.zeroValue0
  t2 := Tryz.underlying2
  a2 := Tryz.isAgg2
  z2 := Tryz.sizeOf2
  v2 := Tryz.zeroValue2
  t3 := Tryz.underlying3
  a3 := Tryz.isAgg3
  z3 := Tryz.sizeOf3
  v3 := Tryz.zeroValue3
  t4 := Tryz.underlying4
  a4 := Tryz.isAgg4
  z4 := Tryz.sizeOf4
  v4 := Tryz.zeroValue4
  t5 := Tryz.underlying5
  a5 := Tryz.isAgg5
  z5 := Tryz.sizeOf5
  v5 := Tryz.zeroValue5
  t9 := Tryz.underlying9
  a9 := Tryz.isAgg9
  z9 := Tryz.sizeOf9
  v9 := Tryz.zeroValue9
  t20 := Tryz.underlying20
  a20 := Tryz.isAgg20
  z20 := Tryz.sizeOf20
  v20 := Tryz.zeroValue20
  t21 := Tryz.underlying21
  a21 := Tryz.isAgg21
  z21 := Tryz.sizeOf21
  v21 := Tryz.zeroValue21
  t37 := Tryz.underlying192
  a37 := Tryz.isAgg192
  z37 := Tryz.sizeOf192
  v37 := Tryz.zeroValue192
  t46 := Tryz.underlying194
  a46 := Tryz.isAgg194
  z46 := Tryz.sizeOf194
  v46 := Tryz.zeroValue194
  t51 := Tryz.underlying354
  a51 := Tryz.isAgg354
  z51 := Tryz.sizeOf354
  v51 := Tryz.zeroValue354
  t53 := Tryz.underlying357
  a53 := Tryz.isAgg357
  z53 := Tryz.sizeOf357
  v53 := Tryz.zeroValue357
  t75 := Tryz.underlying314
  a75 := Tryz.isAgg314
  z75 := Tryz.sizeOf314
  v75 := Tryz.zeroValue314
  t85 := Tryz.underlying315
  a85 := Tryz.isAgg315
  z85 := Tryz.sizeOf315
  v85 := Tryz.zeroValue315
  t127 := Tryz.underlying360
  a127 := Tryz.isAgg360
  z127 := Tryz.sizeOf360
  v127 := Tryz.zeroValue360
  t143 := Tryz.underlying400
  a143 := Tryz.isAgg400
  z143 := Tryz.sizeOf400
  v143 := Tryz.zeroValue400
  t145 := Tryz.underlying402
  a145 := Tryz.isAgg402
  z145 := Tryz.sizeOf402
  v145 := Tryz.zeroValue402
  t167 := Tryz.underlying374
  a167 := Tryz.isAgg374
  z167 := Tryz.sizeOf374
  v167 := Tryz.zeroValue374
  t168 := Tryz.underlying377
  a168 := Tryz.isAgg377
  z168 := Tryz.sizeOf377
  v168 := Tryz.zeroValue377
  t171 := Tryz.underlying369
  a171 := Tryz.isAgg369
  z171 := Tryz.sizeOf369
  v171 := Tryz.zeroValue369
  t173 := Tryz.underlying372
  a173 := Tryz.isAgg372
  z173 := Tryz.sizeOf372
  v173 := Tryz.zeroValue372
  t175 := Tryz.underlying375
  a175 := Tryz.isAgg375
  z175 := Tryz.sizeOf375
  v175 := Tryz.zeroValue375
  t210 := Tryz.underlying392
  a210 := Tryz.isAgg392
  z210 := Tryz.sizeOf392
  v210 := Tryz.zeroValue392
  t212 := Tryz.underlying386
  a212 := Tryz.isAgg386
  z212 := Tryz.sizeOf386
  v212 := Tryz.zeroValue386
  t213 := Tryz.underlying387
  a213 := Tryz.isAgg387
  z213 := Tryz.sizeOf387
  t232 := Tryz.underlying404
  a232 := Tryz.isAgg404
  z232 := Tryz.sizeOf404
  v232 := Tryz.zeroValue404
  t233 := Tryz.underlying405
  a233 := Tryz.isAgg405
  z233 := Tryz.sizeOf405
  v233 := Tryz.zeroValue405
  g15 := by kernel_rfl
  g16 := by kernel_rfl
  g17 := by kernel_rfl
  g18 := by kernel_rfl
  g19 := by kernel_rfl
  t80 := Tryz.underlying312
  a80 := Tryz.isAgg312
  z80 := Tryz.sizeOf312
  v80 := Tryz.zeroValue312
  i0 := by kernel_rfl
  i2 := by kernel_rfl
  i3 := by kernel_rfl
  i4 := by kernel_rfl
  i5 := by kernel_rfl
  i9 := by kernel_rfl
  i20 := by kernel_rfl
  i21 := by kernel_rfl
  i37 := by kernel_rfl
  i46 := by kernel_rfl
  i51 := by kernel_rfl
  i53 := by kernel_rfl
  i75 := by kernel_rfl
  i80 := by kernel_rfl
  i85 := by kernel_rfl
  i127 := by kernel_rfl
  i143 := by kernel_rfl
  i145 := by kernel_rfl
  i167 := by kernel_rfl
  i168 := by kernel_rfl
  i171 := by kernel_rfl
  i173 := by kernel_rfl
  i175 := by kernel_rfl
  i210 := by kernel_rfl
  i212 := by kernel_rfl
  i232 := by kernel_rfl
  i233 := by kernel_rfl
  m15 := by kernel_rfl
  m16 := by kernel_rfl
  m17 := by kernel_rfl
  m18 := by kernel_rfl
  m19 := by kernel_rfl
  c0 := by kernel_rfl
  c2 := by kernel_rfl
  c3 := by kernel_rfl
  c4 := by kernel_rfl
  c5 := by kernel_rfl
  c9 := by kernel_rfl
  c20 := by kernel_rfl
  c21 := by kernel_rfl
  c37 := by kernel_rfl
  c46 := by kernel_rfl
  c51 := by kernel_rfl
  c53 := by kernel_rfl
  c75 := by kernel_rfl
  c80 := by kernel_rfl
  c85 := by kernel_rfl
  c127 := by kernel_rfl
  c143 := by kernel_rfl
  c145 := by kernel_rfl
  c167 := by kernel_rfl
  c168 := by kernel_rfl
  c171 := by kernel_rfl
  c173 := by kernel_rfl
  c175 := by kernel_rfl
  c210 := by kernel_rfl
  c212 := by kernel_rfl
  c213 := by kernel_rfl
  c232 := by kernel_rfl
  c233 := by kernel_rfl }
open Go.RowKit in
theorem Tryz.strconv_ParseInt_10_at64_ok (s : ByteArray) (hmax : s.size ≤ 9223372036854775806) (v : Int) (h : Lib.parseIntB 64 s.data.toList = .ok v) (w : World) :
    Calls Tryz.prog 243 #[.string s, .int .i64 10, .int .i64 64] w fun e w' => e = .returned (.tuple #[.int .i64 v, .nilIface]) ∧ (w' = w ∨ ∃ t, w' = Lib.bytesWorld w 5 t) := Any.strconv_ParseInt_10_at64_ok Tryz.laysC174 s hmax v h w
open Go.RowKit in
theorem Tryz.strconv_ParseInt_10_at64_range_var (s : ByteArray) (hlim : s.size ≤ 281474976710656) (h : Lib.parseIntB 64 s.data.toList = .range) (tp : TypeId) (p : Value) (w : World) (hvar : w.var? Tryz.prog "strconv.ErrRange" = some #[.iface tp p]) :
    Calls Tryz.prog 243 #[.string s, .int .i64 10, .int .i64 64] w fun e w' => ∃ N, e = .returned (.tuple #[.int .i64 (Lib.intSat 64 s.data.toList), .iface 377 (.pointer (some ⟨N, 0, none⟩))]) ∧ w.heap.size ≤ N ∧ w'.heap[N]? = some (.cells #[.string ⟨#[80, 97, 114, 115, 101, 73, 110, 116]⟩, .string s, .iface tp p] 392 (0, 0)) ∧ Below w.heap.size w w' := Any.strconv_ParseInt_10_at64_range_var Tryz.laysC174 s hlim h tp p w hvar
def Tryz.lays143_ren : Go.Shelf.Ren := ⟨fun | 143 => 297 | 219 => 321 | 217 => 318 | 225 => 335 | 224 => 336 | 267 => 337 | 266 => 334 | 314 => 341 | n => n, fun | 9 => 9 | 3 => 3 | 4 => 4 | 5 => 5 | 46 => 194 | 146 => 355 | 51 => 354 | n => n, fun | 1 => 3 | n => n⟩
theorem Tryz.lays143 : Go.Proofs.Lays.n143 Tryz.prog Tryz.lays143_ren := {
  mixed := by kernel_rfl
  f143 := Tryz.func297.trans (congrArg some (by kernel_rfl))
  f217 := Tryz.func318.trans (congrArg some (by kernel_rfl))
  f219 := Tryz.func321.trans (congrArg some (by kernel_rfl))
  f224 := Tryz.func336.trans (congrArg some (by kernel_rfl))
  f225 := Tryz.func335.trans (congrArg some (by kernel_rfl))
  f266 := Tryz.func334.trans (congrArg some (by kernel_rfl))
  f267 := Tryz.func337.trans (congrArg some (by kernel_rfl))
  f314 := Tryz.func341.trans (congrArg some (by kernel_rfl))
  t3 := Tryz.underlying3
  a3 := Tryz.isAgg3
  z3 := Tryz.sizeOf3
  v3 := Tryz.zeroValue3
  t4 := Tryz.underlying4
  a4 := Tryz.isAgg4
  z4 := Tryz.sizeOf4
  v4 := Tryz.zeroValue4
  t5 := Tryz.underlying5
  a5 := Tryz.isAgg5
  z5 := Tryz.sizeOf5
  v5 := Tryz.zeroValue5
  t9 := Tryz.underlying9
  a9 := Tryz.isAgg9
  z9 := Tryz.sizeOf9
  v9 := Tryz.zeroValue9
  t46 := Tryz.underlying194
  a46 := Tryz.isAgg194
  z46 := Tryz.sizeOf194
  v46 := Tryz.zeroValue194
  t51 := Tryz.underlying354
  a51 := Tryz.isAgg354
  z51 := Tryz.sizeOf354
  v51 := Tryz.zeroValue354
  t146 := Tryz.underlying355
  a146 := Tryz.isAgg355
  z146 := Tryz.sizeOf355
  v146 := Tryz.zeroValue355
  g1 := by kernel_rfl }
open Go.RowKit Go.Lib in
theorem Tryz.strings_Index_one (s : ByteArray) (c : UInt8) (w : World) :
    Calls Tryz.prog 297 #[.string s, .string ⟨#[c]⟩] w fun e w' => e = .returned (.int .i64 (Lib.indexByte s.data.toList c)) ∧ w' = w := Any.strings_Index_one Tryz.lays143 s c w
def Tryz.lays138_ren : Go.Shelf.Ren := ⟨fun | 138 => 296 | 195 => 319 | 218 => 320 | 143 => 297 | 219 => 321 | 217 => 318 | 225 => 335 | 224 => 336 | 267 => 337 | 266 => 334 | 314 => 341 | n => n, fun | 9 => 9 | 3 => 3 | 4 => 4 | 5 => 5 | 0 => 0 | 46 => 194 | 146 => 355 | 51 => 354 | n => n, fun | 1 => 3 | n => n⟩
theorem Tryz.lays138 : Go.Proofs.Lays.n138 Tryz.prog Tryz.lays138_ren := {
  mixed := by kernel_rfl
  f138 := Tryz.func296.trans (congrArg some (by kernel_rfl))
  f143 := Tryz.func297.trans (congrArg some (by kernel_rfl))
  f195 := Tryz.func319.trans (congrArg some (by kernel_rfl))
  f217 := Tryz.func318.trans (congrArg some (by kernel_rfl))
  f218 := Tryz.func320.trans (congrArg some (by kernel_rfl))
  f219 := Tryz.func321.trans (congrArg some (by kernel_rfl))
  f224 := Tryz.func336.trans (congrArg some (by kernel_rfl))
  f225 := Tryz.func335.trans (congrArg some (by kernel_rfl))
  f266 := Tryz.func334.trans (congrArg some (by kernel_rfl))
  f267 := Tryz.func337.trans (congrArg some (by kernel_rfl))
  f314 := Tryz.func341.trans (congrArg some (by kernel_rfl))
  t0 := Tryz.underlying0
  a0 := Tryz.isAgg0
  z0 := Tryz.sizeOf0
  v0 := Tryz.zeroValue0
  t3 := Tryz.underlying3
  a3 := Tryz.isAgg3
  z3 := Tryz.sizeOf3
  v3 := Tryz.zeroValue3
  t4 := Tryz.underlying4
  a4 := Tryz.isAgg4
  z4 := Tryz.sizeOf4
  v4 := Tryz.zeroValue4
  t5 := Tryz.underlying5
  a5 := Tryz.isAgg5
  z5 := Tryz.sizeOf5
  v5 := Tryz.zeroValue5
  t9 := Tryz.underlying9
  a9 := Tryz.isAgg9
  z9 := Tryz.sizeOf9
  v9 := Tryz.zeroValue9
  t46 := Tryz.underlying194
  a46 := Tryz.isAgg194
  z46 := Tryz.sizeOf194
  v46 := Tryz.zeroValue194
  t51 := Tryz.underlying354
  a51 := Tryz.isAgg354
  z51 := Tryz.sizeOf354
  v51 := Tryz.zeroValue354
  t146 := Tryz.underlying355
  a146 := Tryz.isAgg355
  z146 := Tryz.sizeOf355
  v146 := Tryz.zeroValue355
  g1 := by kernel_rfl }
open Go.RowKit Go.Lib in
theorem Tryz.strings_Count_one (s : ByteArray) (c : UInt8) (w : World) :
    Calls Tryz.prog 296 #[.string s, .string ⟨#[c]⟩] w fun e w' => e = .returned (.int .i64 (Lib.countByte s.data.toList c)) ∧ w' = w := Any.strings_Count_one Tryz.lays138 s c w
def Tryz.lays101_ren : Go.Shelf.Ren := ⟨fun | 101 => 236 | 208 => 261 | 206 => 108 | n => n, fun | 9 => 9 | 4 => 4 | 3 => 3 | n => n, fun | n => n⟩
theorem Tryz.lays101 : Go.Proofs.Lays.n101 Tryz.prog Tryz.lays101_ren := {
  mixed := by kernel_rfl
  f101 := Tryz.func236.trans (congrArg some (by kernel_rfl))
  f206 := Tryz.func108.trans (congrArg some (by kernel_rfl))
  f208 := Tryz.func261.trans (congrArg some (by kernel_rfl))
  t3 := Tryz.underlying3
  a3 := Tryz.isAgg3
  z3 := Tryz.sizeOf3
  v3 := Tryz.zeroValue3
  t4 := Tryz.underlying4
  a4 := Tryz.isAgg4
  z4 := Tryz.sizeOf4
  v4 := Tryz.zeroValue4
  t9 := Tryz.underlying9
  a9 := Tryz.isAgg9
  z9 := Tryz.sizeOf9
  v9 := Tryz.zeroValue9 }
open Go.RowKit Go.Lib in
theorem Tryz.strings_TrimPrefix (s p : ByteArray) (w : World) :
    Calls Tryz.prog 236 #[.string s, .string p] w fun e w' => e = .returned (.string ⟨(Lib.trimPrefix s.data.toList p.data.toList).toArray⟩) ∧ w' = w := Any.strings_TrimPrefix Tryz.lays101 s p w
def Tryz.lays105_ren : Go.Shelf.Ren := ⟨fun | 105 => 208 | 212 => 244 | 99 => 58 | 165 => 245 | 166 => 246 | 170 => 247 | 169 => 248 | 263 => 274 | 264 => 275 | 206 => 108 | 240 => 276 | 241 => 277 | 276 => 311 | 277 => 312 | n => n, fun | 9 => 9 | 3 => 3 | 4 => 4 | 20 => 20 | 0 => 0 | 46 => 194 | 109 => 317 | 5 => 5 | 72 => 321 | 76 => 323 | 51 => 354 | 146 => 355 | 53 => 357 | 148 => 358 | 70 => 319 | 37 => 192 | 75 => 314 | 127 => 360 | 164 => 380 | 80 => 312 | n => n, fun | n => n⟩
theorem Tryz.lays105 : Go.Proofs.Lays.n105 Tryz.prog Tryz.lays105_ren := {
  mixed := by kernel_rfl
  f99 := Tryz.func58.trans (congrArg some (by kernel_rfl))
  f105 := Tryz.func208.trans (congrArg some (by kernel_rfl))
  f165 := Tryz.func245.trans (congrArg some (by kernel_rfl))
  f166 := Tryz.func246.trans (congrArg some (by kernel_rfl))
  f169 := Tryz.func248.trans (congrArg some (by kernel_rfl))
  f170 := Tryz.func247.trans (congrArg some (by kernel_rfl))
  f206 := Tryz.func108.trans (congrArg some (by kernel_rfl))
  f212 := Tryz.func244.trans (congrArg some (by kernel_rfl))
  f240 := Tryz.func276.trans (congrArg some (by kernel_rfl))
  f241 := Tryz.func277.trans (congrArg some (by kernel_rfl))
  f263 := Tryz.func274.trans (congrArg some (by kernel_rfl))
  f264 := Tryz.func275.trans (congrArg some (by kernel_rfl))
  f276 := Tryz.func311.trans (congrArg some (by kernel_rfl))
  f277 := Tryz.func312.trans (congrArg some (by kernel_rfl))
  t0 := Tryz.underlying0
  a0 := Tryz.isAgg0
  z0 := Tryz.sizeOf0
  v0 := Tryz.zeroValue0
  t3 := Tryz.underlying3
  a3 := Tryz.isAgg3
  z3 := Tryz.sizeOf3
  v3 := Tryz.zeroValue3
  t4 := Tryz.underlying4
  a4 := Tryz.isAgg4
  z4 := Tryz.sizeOf4
  v4 := Tryz.zeroValue4
  t5 := Tryz.underlying5
  a5 := Tryz.isAgg5
  z5 := Tryz.sizeOf5
  v5 := Tryz.zeroValue5
  t9 := Tryz.underlying9
  a9 := Tryz.isAgg9
  z9 := Tryz.sizeOf9
  v9 := Tryz.zeroValue9
  t20 := Tryz.underlying20
  a20 := Tryz.isAgg20
  z20 := Tryz.sizeOf20
  v20 := Tryz.zeroValue20
  t37 := Tryz.underlying192
  a37 := Tryz.isAgg192
  z37 := Tryz.sizeOf192
  v37 := Tryz.zeroValue192
  t46 := Tryz.underlying194
  a46 := Tryz.isAgg194
  z46 := Tryz.sizeOf194
  v46 := Tryz.zeroValue194
  t51 := Tryz.underlying354
  a51 := Tryz.isAgg354
  z51 := Tryz.sizeOf354
  v51 := Tryz.zeroValue354
  t53 := Tryz.underlying357
  a53 := Tryz.isAgg357
  z53 := Tryz.sizeOf357
  v53 := Tryz.zeroValue357
  t70 := Tryz.underlying319
  a70 := Tryz.isAgg319
  z70 := Tryz.sizeOf319
  v70 := Tryz.zeroValue319
  t72 := Tryz.underlying321
  a72 := Tryz.isAgg321
  z72 := Tryz.sizeOf321
  v72 := Tryz.zeroValue321
  t75 := Tryz.underlying314
  a75 := Tryz.isAgg314
  z75 := Tryz.sizeOf314
  v75 := Tryz.zeroValue314
  t76 := Tryz.underlying323
  a76 := Tryz.isAgg323
  z76 := Tryz.sizeOf323
  v76 := Tryz.zeroValue323
  t109 := Tryz.underlying317
  a109 := Tryz.isAgg317
  z109 := Tryz.sizeOf317
  v109 := Tryz.zeroValue317
  t127 := Tryz.underlying360
  a127 := Tryz.isAgg360
  z127 := Tryz.sizeOf360
  v127 := Tryz.zeroValue360
  t146 := Tryz.underlying355
  a146 := Tryz.isAgg355
  z146 := Tryz.sizeOf355
  v146 := Tryz.zeroValue355
  t148 := Tryz.underlying358
  a148 := Tryz.isAgg358
  z148 := Tryz.sizeOf358
  v148 := Tryz.zeroValue358
  t164 := Tryz.underlying380
  a164 := Tryz.isAgg380
  z164 := Tryz.sizeOf380
  v164 := Tryz.zeroValue380 }
theorem Tryz.Builder_Extra_105 : Builder.Extra Tryz.prog Tryz.lays105_ren := {
  sizeBuilder := by kernel_rfl
  liesBuilder := by kernel_rfl
  t5 := Tryz.underlying5
  a5 := Tryz.isAgg5
  z5 := Tryz.sizeOf5
  v5 := Tryz.zeroValue5
  infoByte := by kernel_rfl
  cellsByte := by kernel_rfl
  sizeByte := by kernel_rfl
  neB5 := by decide }
open Go.RowKit Go.Lib in
theorem Tryz.strings_Repeat (s : ByteArray) (c : Nat) (w : World) (hc : c ≤ 9223372036854775807) (hlen : s.size * c ≤ 140737488355328) :
    Calls Tryz.prog 208 #[.string s, .int .i64 c] w fun e w' => e = .returned (.string ⟨(Lib.repeatL s.data.toList c).toArray⟩) ∧ Below w.heap.size w w' := Any.strings_Repeat Tryz.lays105 Tryz.Builder_Extra_105 s c w hc hlen
def Tryz.lays160_ren : Go.Shelf.Ren := ⟨fun | 160 => 237 | 232 => 263 | 231 => 262 | 227 => 264 | 234 => 266 | 233 => 265 | 236 => 268 | 235 => 267 | 228 => 298 | 271 => 301 | 151 => 300 | 197 => 299 | 120 => 324 | 152 => 323 | 260 => 322 | 137 => 294 | 119 => 338 | 224 => 336 | 225 => 335 | 217 => 318 | 266 => 334 | n => n, fun | 9 => 9 | 4 => 4 | 3 => 3 | 5 => 5 | 117 => 347 | 116 => 346 | 0 => 0 | 124 => 350 | 21 => 21 | 105 => 366 | 46 => 194 | 119 => 394 | 139 => 397 | 138 => 396 | n => n, fun | 3 => 4 | 4 => 5 | n => n⟩
theorem Tryz.lays160 : Go.Proofs.Lays.n160 Tryz.prog Tryz.lays160_ren := {
  mixed := by kernel_rfl
  f119 := Tryz.func338.trans (congrArg some (by kernel_rfl))
  f120 := Tryz.func324.trans (congrArg some (by kernel_rfl))
  f137 := Tryz.func294.trans (congrArg some (by kernel_rfl))
  f151 := Tryz.func300.trans (congrArg some (by kernel_rfl))
  f152 := Tryz.func323.trans (congrArg some (by kernel_rfl))
  f160 := Tryz.func237.trans (congrArg some (by kernel_rfl))
  f197 := Tryz.func299.trans (congrArg some (by kernel_rfl))
  f217 := Tryz.func318.trans (congrArg some (by kernel_rfl))
  f224 := Tryz.func336.trans (congrArg some (by kernel_rfl))
  f225 := Tryz.func335.trans (congrArg some (by kernel_rfl))
  f227 := Tryz.func264.trans (congrArg some (by kernel_rfl))
  f228 := Tryz.func298.trans (congrArg some (by kernel_rfl))
  f231 := Tryz.func262.trans (congrArg some (by kernel_rfl))
  f232 := Tryz.func263.trans (congrArg some (by kernel_rfl))
  f233 := Tryz.func265.trans (congrArg some (by kernel_rfl))
  f234 := Tryz.func266.trans (congrArg some (by kernel_rfl))
  f235 := Tryz.func267.trans (congrArg some (by kernel_rfl))
  f236 := Tryz.func268.trans (congrArg some (by kernel_rfl))
  f260 := Tryz.func322.trans (congrArg some (by kernel_rfl))
  f266 := Tryz.func334.trans (congrArg some (by kernel_rfl))
  f271 := Tryz.func301.trans (congrArg some (by kernel_rfl))
  t0 := Tryz.underlying0
  a0 := Tryz.isAgg0
  z0 := Tryz.sizeOf0
  v0 := Tryz.zeroValue0
  t3 := Tryz.underlying3
  a3 := Tryz.isAgg3
  z3 := Tryz.sizeOf3
  v3 := Tryz.zeroValue3
  t4 := Tryz.underlying4
  a4 := Tryz.isAgg4
  z4 := Tryz.sizeOf4
  v4 := Tryz.zeroValue4
  t5 := Tryz.underlying5
  a5 := Tryz.isAgg5
  z5 := Tryz.sizeOf5
  v5 := Tryz.zeroValue5
  t9 := Tryz.underlying9
  a9 := Tryz.isAgg9
  z9 := Tryz.sizeOf9
  v9 := Tryz.zeroValue9
  t21 := Tryz.underlying21
  a21 := Tryz.isAgg21
  z21 := Tryz.sizeOf21
  v21 := Tryz.zeroValue21
  t46 := Tryz.underlying194
  a46 := Tryz.isAgg194
  z46 := Tryz.sizeOf194
  v46 := Tryz.zeroValue194
  t105 := Tryz.underlying366
  a105 := Tryz.isAgg366
  z105 := Tryz.sizeOf366
  v105 := Tryz.zeroValue366
  t116 := Tryz.underlying346
  a116 := Tryz.isAgg346
  z116 := Tryz.sizeOf346
  t117 := Tryz.underlying347
  a117 := Tryz.isAgg347
  z117 := Tryz.sizeOf347
  v117 := Tryz.zeroValue347
  t119 := Tryz.underlying394
  a119 := Tryz.isAgg394
  z119 := Tryz.sizeOf394
  t124 := Tryz.underlying350
  a124 := Tryz.isAgg350
  z124 := Tryz.sizeOf350
  v124 := Tryz.zeroValue350
  t138 := Tryz.underlying396
  a138 := Tryz.isAgg396
  z138 := Tryz.sizeOf396
  v138 := Tryz.zeroValue396
  t139 := Tryz.underlying397
  a139 := Tryz.isAgg397
  z139 := Tryz.sizeOf397
  v139 := Tryz.zeroValue397
  g3 := by kernel_rfl
  g4 := by kernel_rfl }
end Go.Proofs
