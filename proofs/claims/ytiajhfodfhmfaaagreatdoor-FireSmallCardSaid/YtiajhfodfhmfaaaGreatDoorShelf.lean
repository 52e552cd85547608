/- Contracts of three functions of the library at this program (strings.Compare, strings.IndexByte, strconv.Atoi), as the shelf lays them. -/
import Derived.Shelf.Small.Strs
import Derived.Shelf.Strconv.Atoi
import Derived.Test.YtiajhfodfhmfaaaGreatDoorProg
namespace Go.Proofs
open Go.Shelf
def Tryz.lays106_ren : Go.Shelf.Ren := ⟨fun | 106 => 205 | 213 => 264 | 265 => 310 | n => n, fun | 9 => 9 | 3 => 3 | n => n, fun | n => n⟩
theorem Tryz.lays106 : Go.Proofs.Lays.n106 Tryz.prog Tryz.lays106_ren := {
  mixed := by kernel_rfl
  f106 := Tryz.func205.trans (congrArg some (by kernel_rfl))
  f213 := Tryz.func264.trans (congrArg some (by kernel_rfl))
  f265 := Tryz.func310.trans (congrArg some (by kernel_rfl))
  t3 := Tryz.underlying3
  a3 := Tryz.isAgg3
  z3 := Tryz.sizeOf3
  v3 := Tryz.zeroValue3
  t9 := Tryz.underlying9
  a9 := Tryz.isAgg9
  z9 := Tryz.sizeOf9
  v9 := Tryz.zeroValue9 }
open Go.RowKit in
/-- strings.Compare: "Compare returns an integer comparing two strings lexicographically. The result will be 0 if a == b, -1 if a < b, and +1 if a > b.": IT RETURNS 'Lib.compareBytes a b'; the world is as it was. (LAID: no walk: one application.) -/
theorem Tryz.strings_Compare (a b : ByteArray) (w : World) :
    Calls Tryz.prog 205 #[.string a, .string b] w fun e w' => e = .returned (.int .i64 (Lib.compareBytes a.data.toList b.data.toList)) ∧ w' = w := Any.strings_Compare Tryz.lays106 a b w
def Tryz.lays137_ren : Go.Shelf.Ren := ⟨fun | 137 => 59 | 217 => 122 | 266 => 176 | n => n, fun | 9 => 9 | 5 => 5 | 3 => 3 | n => n, fun | n => n⟩
theorem Tryz.lays137 : Go.Proofs.Lays.n137 Tryz.prog Tryz.lays137_ren := {
  mixed := by kernel_rfl
  f137 := Tryz.func59.trans (congrArg some (by kernel_rfl))
  f217 := Tryz.func122.trans (congrArg some (by kernel_rfl))
  f266 := Tryz.func176.trans (congrArg some (by kernel_rfl))
  t3 := Tryz.underlying3
  a3 := Tryz.isAgg3
  z3 := Tryz.sizeOf3
  v3 := Tryz.zeroValue3
  t5 := Tryz.underlying5
  a5 := Tryz.isAgg5
  z5 := Tryz.sizeOf5
  v5 := Tryz.zeroValue5
  t9 := Tryz.underlying9
  a9 := Tryz.isAgg9
  z9 := Tryz.sizeOf9
  v9 := Tryz.zeroValue9 }
open Go.RowKit in
/-- strings.IndexByte: "IndexByte returns the index of the first instance of c in s, or -1 if c is not present in s.": IT RETURNS 'Lib.indexByte s c'; the world is as it was. (LAID: no walk: one application.) -/
theorem Tryz.strings_IndexByte (s : ByteArray) (c : Int) (w : World) :
    Calls Tryz.prog 59 #[.string s, .int .u8 c] w fun e w' => e = .returned (.int .i64 (Lib.indexByte s.data.toList c.toNat.toUInt8)) ∧ w' = w := Any.strings_IndexByte Tryz.lays137 s c w
def Tryz.lays172_ren : Go.Shelf.Ren := ⟨fun | 172 => 127 | 244 => 182 | 245 => 183 | 247 => 248 | 279 => 249 | 280 => 250 | 281 => 251 | 282 => 252 | 287 => 303 | 316 => 304 | 171 => 184 | 205 => 305 | 321 => 330 | 322 => 331 | 243 => 253 | 246 => 306 | 283 => 332 | 284 => 333 | 285 => 334 | 286 => 335 | 129 => 355 | 317 => 356 | 318 => 357 | 319 => 358 | 320 => 359 | 337 => 372 | 338 => 373 | n => n, fun | 9 => 9 | 3 => 3 | 75 => 238 | 76 => 239 | 4 => 4 | 5 => 5 | 167 => 337 | 37 => 285 | 0 => 0 | 85 => 338 | 2 => 2 | 168 => 340 | 53 => 374 | 175 => 375 | 46 => 23 | 210 => 378 | 127 => 402 | 145 => 405 | 143 => 403 | 21 => 21 | 171 => 406 | 173 => 409 | 212 => 430 | 51 => 428 | 20 => 20 | 213 => 431 | 232 => 449 | 233 => 450 | 80 => 55 | n => n, fun | 15 => 1 | 16 => 2 | 17 => 5 | 18 => 6 | 19 => 7 | n => n⟩
theorem Tryz.lays172 : Go.Proofs.Lays.n172 Tryz.prog Tryz.lays172_ren := {
  mixed := by kernel_rfl
  f129 := Tryz.func355.trans (congrArg some (by kernel_rfl))
  f171 := Tryz.func184.trans (congrArg some (by kernel_rfl))
  f172 := Tryz.func127.trans (congrArg some (by kernel_rfl))
  f205 := Tryz.func305.trans (congrArg some (by kernel_rfl))
  f243 := Tryz.func253.trans (congrArg some (by kernel_rfl))
  f244 := Tryz.func182.trans (congrArg some (by kernel_rfl))
  f245 := Tryz.func183.trans (congrArg some (by kernel_rfl))
  f246 := Tryz.func306.trans (congrArg some (by kernel_rfl))
  f247 := Tryz.func248.trans (congrArg some (by kernel_rfl))
  f279 := Tryz.func249.trans (congrArg some (by kernel_rfl))
  f280 := Tryz.func250.trans (congrArg some (by kernel_rfl))
  f281 := Tryz.func251.trans (congrArg some (by kernel_rfl))
  f282 := Tryz.func252.trans (congrArg some (by kernel_rfl))
  f283 := Tryz.func332.trans (congrArg some (by kernel_rfl))
  f284 := Tryz.func333.trans (congrArg some (by kernel_rfl))
  f285 := Tryz.func334.trans (congrArg some (by kernel_rfl))
  f286 := Tryz.func335.trans (congrArg some (by kernel_rfl))
  f287 := Tryz.func303.trans (congrArg some (by kernel_rfl))
  f316 := Tryz.func304.trans (congrArg some (by kernel_rfl))
  f317 := Tryz.func356.trans (congrArg some (by kernel_rfl))
  f318 := Tryz.func357.trans (congrArg some (by kernel_rfl))
  f319 := Tryz.func358.trans (congrArg some (by kernel_rfl))
  f320 := Tryz.func359.trans (congrArg some (by kernel_rfl))
  f321 := Tryz.func330.trans (congrArg some (by kernel_rfl))
  f322 := Tryz.func331.trans (congrArg some (by kernel_rfl))
  f337 := Tryz.func372.trans (congrArg some (by kernel_rfl))
  f338 := Tryz.func373.trans (congrArg some (by kernel_rfl))
  t0 := Tryz.underlying0
  a0 := Tryz.isAgg0
  z0 := Tryz.sizeOf0
  v0 := Tryz.zeroValue0
  t2 := Tryz.underlying2
  a2 := Tryz.isAgg2
  z2 := Tryz.sizeOf2
  v2 := Tryz.zeroValue2
  t3 := Tryz.underlying3
  a3 := Tryz.isAgg3
  z3 := Tryz.sizeOf3
  v3 := Tryz.zeroValue3
  t4 := Tryz.underlying4
  a4 := Tryz.isAgg4
  z4 := Tryz.sizeOf4
  v4 := Tryz.zeroValue4
  t5 := Tryz.underlying5
  a5 := Tryz.isAgg5
  z5 := Tryz.sizeOf5
  v5 := Tryz.zeroValue5
  t9 := Tryz.underlying9
  a9 := Tryz.isAgg9
  z9 := Tryz.sizeOf9
  v9 := Tryz.zeroValue9
  t20 := Tryz.underlying20
  a20 := Tryz.isAgg20
  z20 := Tryz.sizeOf20
  v20 := Tryz.zeroValue20
  t21 := Tryz.underlying21
  a21 := Tryz.isAgg21
  z21 := Tryz.sizeOf21
  v21 := Tryz.zeroValue21
  t37 := Tryz.underlying285
  a37 := Tryz.isAgg285
  z37 := Tryz.sizeOf285
  v37 := Tryz.zeroValue285
  t46 := Tryz.underlying23
  a46 := Tryz.isAgg23
  z46 := Tryz.sizeOf23
  v46 := Tryz.zeroValue23
  t51 := Tryz.underlying428
  a51 := Tryz.isAgg428
  z51 := Tryz.sizeOf428
  v51 := Tryz.zeroValue428
  t53 := Tryz.underlying374
  a53 := Tryz.isAgg374
  z53 := Tryz.sizeOf374
  v53 := Tryz.zeroValue374
  t75 := Tryz.underlying238
  a75 := Tryz.isAgg238
  z75 := Tryz.sizeOf238
  v75 := Tryz.zeroValue238
  t76 := Tryz.underlying239
  a76 := Tryz.isAgg239
  z76 := Tryz.sizeOf239
  v76 := Tryz.zeroValue239
  t85 := Tryz.underlying338
  a85 := Tryz.isAgg338
  z85 := Tryz.sizeOf338
  v85 := Tryz.zeroValue338
  t127 := Tryz.underlying402
  a127 := Tryz.isAgg402
  z127 := Tryz.sizeOf402
  v127 := Tryz.zeroValue402
  t143 := Tryz.underlying403
  a143 := Tryz.isAgg403
  z143 := Tryz.sizeOf403
  v143 := Tryz.zeroValue403
  t145 := Tryz.underlying405
  a145 := Tryz.isAgg405
  z145 := Tryz.sizeOf405
  v145 := Tryz.zeroValue405
  t167 := Tryz.underlying337
  a167 := Tryz.isAgg337
  z167 := Tryz.sizeOf337
  v167 := Tryz.zeroValue337
  t168 := Tryz.underlying340
  a168 := Tryz.isAgg340
  z168 := Tryz.sizeOf340
  v168 := Tryz.zeroValue340
  t171 := Tryz.underlying406
  a171 := Tryz.isAgg406
  z171 := Tryz.sizeOf406
  v171 := Tryz.zeroValue406
  t173 := Tryz.underlying409
  a173 := Tryz.isAgg409
  z173 := Tryz.sizeOf409
  v173 := Tryz.zeroValue409
  t175 := Tryz.underlying375
  a175 := Tryz.isAgg375
  z175 := Tryz.sizeOf375
  v175 := Tryz.zeroValue375
  t210 := Tryz.underlying378
  a210 := Tryz.isAgg378
  z210 := Tryz.sizeOf378
  v210 := Tryz.zeroValue378
  t212 := Tryz.underlying430
  a212 := Tryz.isAgg430
  z212 := Tryz.sizeOf430
  v212 := Tryz.zeroValue430
  t213 := Tryz.underlying431
  a213 := Tryz.isAgg431
  z213 := Tryz.sizeOf431
  t232 := Tryz.underlying449
  a232 := Tryz.isAgg449
  z232 := Tryz.sizeOf449
  v232 := Tryz.zeroValue449
  t233 := Tryz.underlying450
  a233 := Tryz.isAgg450
  z233 := Tryz.sizeOf450
  v233 := Tryz.zeroValue450
  g15 := by kernel_rfl
  g16 := by kernel_rfl
  g17 := by kernel_rfl
  g18 := by kernel_rfl
  g19 := by kernel_rfl }
open Go.RowKit in
/-- strconv.Atoi: "Atoi is equivalent to ParseInt(s, 10, 0), converted to type int.": AT A DECIMAL NUMERAL OF AT MOST 18 BYTES: its value, and a nil error. The world behind the call: the one new row that the library's '[]byte(s)' lays. (LAID: no walk: one application.) -/
theorem Tryz.strconv_Atoi (s : ByteArray) (n : Int) (hl : s.size ≤ 18) (h : Lib.atoi s.data.toList = some n) (w : World) :
    Calls Tryz.prog 127 #[.string s] w fun e w' => e = .returned (.tuple #[.int .i64 n, .nilIface]) ∧ ∃ t, w' = Lib.bytesWorld w 5 t := Any.strconv_Atoi Tryz.lays172 s n hl h w
end Go.Proofs
