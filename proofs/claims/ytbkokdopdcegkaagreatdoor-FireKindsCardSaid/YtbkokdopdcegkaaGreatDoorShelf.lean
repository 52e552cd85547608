/- Contracts of three functions of the library at this program (strings.Compare, strings.IndexByte, strconv.Atoi), as the shelf lays them. -/
import Derived.Shelf.Small.Strs
import Derived.Shelf.Strconv.Atoi
import Derived.Test.YtbkokdopdcegkaaGreatDoorProg
namespace Go.Proofs
open Go.Shelf
def Tryz.lays106_ren : Go.Shelf.Ren := ⟨fun | 106 => 248 | 213 => 299 | 265 => 332 | n => n, fun | 9 => 9 | 3 => 3 | n => n, fun | n => n⟩
theorem Tryz.lays106 : Go.Proofs.Lays.n106 Tryz.prog Tryz.lays106_ren := {
  mixed := by kernel_rfl
  f106 := Tryz.func248.trans (congrArg some (by kernel_rfl))
  f213 := Tryz.func299.trans (congrArg some (by kernel_rfl))
  f265 := Tryz.func332.trans (congrArg some (by kernel_rfl))
  t3 := Tryz.underlying3
  a3 := Tryz.isAgg3
  z3 := Tryz.sizeOf3
  v3 := Tryz.zeroValue3
  t9 := Tryz.underlying9
  a9 := Tryz.isAgg9
  z9 := Tryz.sizeOf9
  v9 := Tryz.zeroValue9 }
open Go.RowKit in
/-- strings.Compare: "Compare returns an integer comparing two strings lexicographically. The result will be 0 if a == b, -1 if a < b, and +1 if a > b.": IT RETURNS 'Lib.compareBytes a b'; the world is as it was. (LAID: no walk: one application.) -/
theorem Tryz.strings_Compare (a b : ByteArray) (w : World) :
    Calls Tryz.prog 248 #[.string a, .string b] w fun e w' => e = .returned (.int .i64 (Lib.compareBytes a.data.toList b.data.toList)) ∧ w' = w := Any.strings_Compare Tryz.lays106 a b w
def Tryz.lays137_ren : Go.Shelf.Ren := ⟨fun | 137 => 85 | 217 => 144 | 266 => 220 | n => n, fun | 9 => 9 | 5 => 5 | 3 => 3 | n => n, fun | n => n⟩
theorem Tryz.lays137 : Go.Proofs.Lays.n137 Tryz.prog Tryz.lays137_ren := {
  mixed := by kernel_rfl
  f137 := Tryz.func85.trans (congrArg some (by kernel_rfl))
  f217 := Tryz.func144.trans (congrArg some (by kernel_rfl))
  f266 := Tryz.func220.trans (congrArg some (by kernel_rfl))
  t3 := Tryz.underlying3
  a3 := Tryz.isAgg3
  z3 := Tryz.sizeOf3
  v3 := Tryz.zeroValue3
  t5 := Tryz.underlying5
  a5 := Tryz.isAgg5
  z5 := Tryz.sizeOf5
  v5 := Tryz.zeroValue5
  t9 := Tryz.underlying9
  a9 := Tryz.isAgg9
  z9 := Tryz.sizeOf9
  v9 := Tryz.zeroValue9 }
open Go.RowKit in
/-- strings.IndexByte: "IndexByte returns the index of the first instance of c in s, or -1 if c is not present in s.": IT RETURNS 'Lib.indexByte s c'; the world is as it was. (LAID: no walk: one application.) -/
theorem Tryz.strings_IndexByte (s : ByteArray) (c : Int) (w : World) :
    Calls Tryz.prog 85 #[.string s, .int .u8 c] w fun e w' => e = .returned (.int .i64 (Lib.indexByte s.data.toList c.toNat.toUInt8)) ∧ w' = w := Any.strings_IndexByte Tryz.lays137 s c w
def Tryz.lays172_ren : Go.Shelf.Ren := ⟨fun | 172 => 149 | 244 => 226 | 245 => 227 | 247 => 286 | 279 => 287 | 280 => 288 | 281 => 289 | 282 => 290 | 287 => 327 | 316 => 328 | 171 => 228 | 205 => 329 | 321 => 348 | 322 => 349 | 243 => 291 | 246 => 330 | 283 => 350 | 284 => 351 | 285 => 352 | 286 => 353 | 129 => 324 | 317 => 361 | 318 => 362 | 319 => 363 | 320 => 364 | 337 => 369 | 338 => 370 | n => n, fun | 9 => 9 | 3 => 3 | 75 => 269 | 76 => 270 | 4 => 4 | 5 => 5 | 167 => 397 | 37 => 343 | 0 => 0 | 85 => 398 | 2 => 2 | 168 => 400 | 53 => 426 | 175 => 428 | 46 => 22 | 210 => 431 | 127 => 452 | 145 => 455 | 143 => 453 | 21 => 21 | 171 => 456 | 173 => 458 | 212 => 469 | 51 => 424 | 20 => 20 | 213 => 470 | 232 => 476 | 233 => 477 | 80 => 55 | n => n, fun | 15 => 1 | 16 => 2 | 17 => 5 | 18 => 6 | 19 => 7 | n => n⟩
theorem Tryz.lays172 : Go.Proofs.Lays.n172 Tryz.prog Tryz.lays172_ren := {
  mixed := by kernel_rfl
  f129 := Tryz.func324.trans (congrArg some (by kernel_rfl))
  f171 := Tryz.func228.trans (congrArg some (by kernel_rfl))
  f172 := Tryz.func149.trans (congrArg some (by kernel_rfl))
  f205 := Tryz.func329.trans (congrArg some (by kernel_rfl))
  f243 := Tryz.func291.trans (congrArg some (by kernel_rfl))
  f244 := Tryz.func226.trans (congrArg some (by kernel_rfl))
  f245 := Tryz.func227.trans (congrArg some (by kernel_rfl))
  f246 := Tryz.func330.trans (congrArg some (by kernel_rfl))
  f247 := Tryz.func286.trans (congrArg some (by kernel_rfl))
  f279 := Tryz.func287.trans (congrArg some (by kernel_rfl))
  f280 := Tryz.func288.trans (congrArg some (by kernel_rfl))
  f281 := Tryz.func289.trans (congrArg some (by kernel_rfl))
  f282 := Tryz.func290.trans (congrArg some (by kernel_rfl))
  f283 := Tryz.func350.trans (congrArg some (by kernel_rfl))
  f284 := Tryz.func351.trans (congrArg some (by kernel_rfl))
  f285 := Tryz.func352.trans (congrArg some (by kernel_rfl))
  f286 := Tryz.func353.trans (congrArg some (by kernel_rfl))
  f287 := Tryz.func327.trans (congrArg some (by kernel_rfl))
  f316 := Tryz.func328.trans (congrArg some (by kernel_rfl))
  f317 := Tryz.func361.trans (congrArg some (by kernel_rfl))
  f318 := Tryz.func362.trans (congrArg some (by kernel_rfl))
  f319 := Tryz.func363.trans (congrArg some (by kernel_rfl))
  f320 := Tryz.func364.trans (congrArg some (by kernel_rfl))
  f321 := Tryz.func348.trans (congrArg some (by kernel_rfl))
  f322 := Tryz.func349.trans (congrArg some (by kernel_rfl))
  f337 := Tryz.func369.trans (congrArg some (by kernel_rfl))
  f338 := Tryz.func370.trans (congrArg some (by kernel_rfl))
  t0 := Tryz.underlying0
  a0 := Tryz.isAgg0
  z0 := Tryz.sizeOf0
  v0 := Tryz.zeroValue0
  t2 := Tryz.underlying2
  a2 := Tryz.isAgg2
  z2 := Tryz.sizeOf2
  v2 := Tryz.zeroValue2
  t3 := Tryz.underlying3
  a3 := Tryz.isAgg3
  z3 := Tryz.sizeOf3
  v3 := Tryz.zeroValue3
  t4 := Tryz.underlying4
  a4 := Tryz.isAgg4
  z4 := Tryz.sizeOf4
  v4 := Tryz.zeroValue4
  t5 := Tryz.underlying5
  a5 := Tryz.isAgg5
  z5 := Tryz.sizeOf5
  v5 := Tryz.zeroValue5
  t9 := Tryz.underlying9
  a9 := Tryz.isAgg9
  z9 := Tryz.sizeOf9
  v9 := Tryz.zeroValue9
  t20 := Tryz.underlying20
  a20 := Tryz.isAgg20
  z20 := Tryz.sizeOf20
  v20 := Tryz.zeroValue20
  t21 := Tryz.underlying21
  a21 := Tryz.isAgg21
  z21 := Tryz.sizeOf21
  v21 := Tryz.zeroValue21
  t37 := Tryz.underlying343
  a37 := Tryz.isAgg343
  z37 := Tryz.sizeOf343
  v37 := Tryz.zeroValue343
  t46 := Tryz.underlying22
  a46 := Tryz.isAgg22
  z46 := Tryz.sizeOf22
  v46 := Tryz.zeroValue22
  t51 := Tryz.underlying424
  a51 := Tryz.isAgg424
  z51 := Tryz.sizeOf424
  v51 := Tryz.zeroValue424
  t53 := Tryz.underlying426
  a53 := Tryz.isAgg426
  z53 := Tryz.sizeOf426
  v53 := Tryz.zeroValue426
  t75 := Tryz.underlying269
  a75 := Tryz.isAgg269
  z75 := Tryz.sizeOf269
  v75 := Tryz.zeroValue269
  t76 := Tryz.underlying270
  a76 := Tryz.isAgg270
  z76 := Tryz.sizeOf270
  v76 := Tryz.zeroValue270
  t85 := Tryz.underlying398
  a85 := Tryz.isAgg398
  z85 := Tryz.sizeOf398
  v85 := Tryz.zeroValue398
  t127 := Tryz.underlying452
  a127 := Tryz.isAgg452
  z127 := Tryz.sizeOf452
  v127 := Tryz.zeroValue452
  t143 := Tryz.underlying453
  a143 := Tryz.isAgg453
  z143 := Tryz.sizeOf453
  v143 := Tryz.zeroValue453
  t145 := Tryz.underlying455
  a145 := Tryz.isAgg455
  z145 := Tryz.sizeOf455
  v145 := Tryz.zeroValue455
  t167 := Tryz.underlying397
  a167 := Tryz.isAgg397
  z167 := Tryz.sizeOf397
  v167 := Tryz.zeroValue397
  t168 := Tryz.underlying400
  a168 := Tryz.isAgg400
  z168 := Tryz.sizeOf400
  v168 := Tryz.zeroValue400
  t171 := Tryz.underlying456
  a171 := Tryz.isAgg456
  z171 := Tryz.sizeOf456
  v171 := Tryz.zeroValue456
  t173 := Tryz.underlying458
  a173 := Tryz.isAgg458
  z173 := Tryz.sizeOf458
  v173 := Tryz.zeroValue458
  t175 := Tryz.underlying428
  a175 := Tryz.isAgg428
  z175 := Tryz.sizeOf428
  v175 := Tryz.zeroValue428
  t210 := Tryz.underlying431
  a210 := Tryz.isAgg431
  z210 := Tryz.sizeOf431
  v210 := Tryz.zeroValue431
  t212 := Tryz.underlying469
  a212 := Tryz.isAgg469
  z212 := Tryz.sizeOf469
  v212 := Tryz.zeroValue469
  t213 := Tryz.underlying470
  a213 := Tryz.isAgg470
  z213 := Tryz.sizeOf470
  t232 := Tryz.underlying476
  a232 := Tryz.isAgg476
  z232 := Tryz.sizeOf476
  v232 := Tryz.zeroValue476
  t233 := Tryz.underlying477
  a233 := Tryz.isAgg477
  z233 := Tryz.sizeOf477
  v233 := Tryz.zeroValue477
  g15 := by kernel_rfl
  g16 := by kernel_rfl
  g17 := by kernel_rfl
  g18 := by kernel_rfl
  g19 := by kernel_rfl }
open Go.RowKit in
/-- strconv.Atoi: "Atoi is equivalent to ParseInt(s, 10, 0), converted to type int.": AT A DECIMAL NUMERAL OF AT MOST 18 BYTES: its value, and a nil error. The world behind the call: the one new row that the library's '[]byte(s)' lays. (LAID: no walk: one application.) -/
theorem Tryz.strconv_Atoi (s : ByteArray) (n : Int) (hl : s.size ≤ 18) (h : Lib.atoi s.data.toList = some n) (w : World) :
    Calls Tryz.prog 149 #[.string s] w fun e w' => e = .returned (.tuple #[.int .i64 n, .nilIface]) ∧ ∃ t, w' = Lib.bytesWorld w 5 t := Any.strconv_Atoi Tryz.lays172 s n hl h w
end Go.Proofs
