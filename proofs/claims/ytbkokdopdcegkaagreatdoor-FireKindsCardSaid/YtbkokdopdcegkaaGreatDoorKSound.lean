/- The tables are sound, level by level; the known calls are facts of the program. -/
import Derived.Test.YtbkokdopdcegkaaGreatDoorVmLift
import Derived.Test.YtbkokdopdcegkaaGreatDoorTyOk
import Derived.Test.YtbkokdopdcegkaaGreatDoorFnOk
import Derived.Test.YtbkokdopdcegkaaGreatDoorKE0
import Derived.Test.YtbkokdopdcegkaaGreatDoorKE1
import Derived.Test.YtbkokdopdcegkaaGreatDoorKE2
import Derived.Test.YtbkokdopdcegkaaGreatDoorKE3
import Derived.Test.YtbkokdopdcegkaaGreatDoorKE4
import Derived.Test.YtbkokdopdcegkaaGreatDoorKE5
set_option maxRecDepth 100000
namespace Go.Proofs.YtbkokdopdcegkaaGreatDoor
open Go.Vm Go.Proofs
theorem tyOfAt {tb : Tabs} (h : tb.ty = tyOf) : TabsTy Tryz.prog tb := ⟨fun t ti e => tyRight.ty t ti (by rw [h] at e; exact e)⟩
theorem cl37 (tb : Tabs) (H : TabsTy Tryz.prog tb) : CloneOk Tryz.prog tb fn37 37 := cloneOk_of H mixed (t := 23) (b := 4) rfl ⟨Tryz.f37, Tryz.func37, by kernel_rfl, by kernel_rfl, by kernel_rfl⟩
theorem cl58 (tb : Tabs) (H : TabsTy Tryz.prog tb) : CloneOk Tryz.prog tb fn58 58 := cloneOk_of H mixed (t := 120) (b := 4) rfl ⟨Tryz.f58, Tryz.func58, by kernel_rfl, by kernel_rfl, by kernel_rfl⟩
theorem cl59 (tb : Tabs) (H : TabsTy Tryz.prog tb) : CloneOk Tryz.prog tb fn59 59 := cloneOk_of H mixed (t := 121) (b := 4) rfl ⟨Tryz.f59, Tryz.func59, by kernel_rfl, by kernel_rfl, by kernel_rfl⟩
theorem cl60 (tb : Tabs) (H : TabsTy Tryz.prog tb) : CloneOk Tryz.prog tb fn60 60 := cloneOk_of H mixed (t := 106) (b := 4) rfl ⟨Tryz.f60, Tryz.func60, by kernel_rfl, by kernel_rfl, by kernel_rfl⟩
theorem cl61 (tb : Tabs) (H : TabsTy Tryz.prog tb) : CloneOk Tryz.prog tb fn61 61 := cloneOk_of H mixed (t := 152) (b := 4) rfl ⟨Tryz.f61, Tryz.func61, by kernel_rfl, by kernel_rfl, by kernel_rfl⟩
theorem cl62 (tb : Tabs) (H : TabsTy Tryz.prog tb) : CloneOk Tryz.prog tb fn62 62 := cloneOk_of H mixed (t := 156) (b := 4) rfl ⟨Tryz.f62, Tryz.func62, by kernel_rfl, by kernel_rfl, by kernel_rfl⟩
theorem cl116 (tb : Tabs) (H : TabsTy Tryz.prog tb) : CloneOk Tryz.prog tb fn116 116 := cloneOk_of H mixed (t := 37) (b := 4) rfl ⟨Tryz.f116, Tryz.func116, by kernel_rfl, by kernel_rfl, by kernel_rfl⟩
theorem cl366 (tb : Tabs) (H : TabsTy Tryz.prog tb) : CloneOk Tryz.prog tb fn366 366 := cloneOk_of H mixed (t := 131) (b := 4) rfl ⟨Tryz.f366, Tryz.func366, by kernel_rfl, by kernel_rfl, by kernel_rfl⟩
def QC (tb : Tabs) (f : Nat) (fi : FnI) : Prop := fi.clone = true → CloneOk Tryz.prog tb fi f
def QP (f : Nat) (g : List PV → Option PV) : Prop := PrimOk Tryz.prog f g ∧ Go.Vm.Enters Tryz.prog f
theorem qn {tb : Tabs} {f : Nat} {fi : FnI} (h : fi.clone = false) : QC tb f fi := fun e => nocl h e
theorem cloneAt (tb : Tabs) (H : TabsTy Tryz.prog tb) (f : FuncId) (fi : FnI) (h : fnOf f = some fi) : fi.clone = true → CloneOk Tryz.prog tb fi f := by
  revert fi
  unfold fnOf
  exact topA (Q := QC tb) (ndA (m := 217) (ndA (m := 108) (ndA (m := 54) (ndA (m := 27) (ndA (m := 13) (ndA (m := 6) (ndA (m := 3) nnA (ndA (m := 4) (lfA (qn rfl)) nnA)) (ndA (m := 9) (ndA (m := 7) (lfA (qn rfl)) (ndA (m := 8) (lfA (qn rfl)) (lfA (qn rfl)))) (ndA (m := 11) (ndA (m := 10) (lfA (qn rfl)) nnA) (ndA (m := 12) (lfA (qn rfl)) (lfA (qn rfl)))))) (ndA (m := 20) (ndA (m := 16) (ndA (m := 14) (lfA (qn rfl)) nnA) (ndA (m := 18) (ndA (m := 17) (lfA (qn rfl)) (lfA (qn rfl))) (ndA (m := 19) (lfA (qn rfl)) (lfA (qn rfl))))) (ndA (m := 23) (ndA (m := 21) (lfA (qn rfl)) (ndA (m := 22) (lfA (qn rfl)) nnA)) (ndA (m := 25) (ndA (m := 24) (lfA (qn rfl)) (lfA (qn rfl))) (ndA (m := 26) (lfA (qn rfl)) nnA))))) (ndA (m := 40) (ndA (m := 33) (ndA (m := 30) (ndA (m := 28) (lfA (qn rfl)) (ndA (m := 29) (lfA (qn rfl)) (lfA (qn rfl)))) (ndA (m := 31) (lfA (qn rfl)) (ndA (m := 32) (lfA (qn rfl)) (lfA (qn rfl))))) (ndA (m := 36) (ndA (m := 34) (lfA (qn rfl)) (ndA (m := 35) nnA (lfA (qn rfl)))) (ndA (m := 38) (ndA (m := 37) (lfA (qn rfl)) (lfA (show QC tb 37 fn37 from fun _ => cl37 tb H))) (ndA (m := 39) (lfA (qn rfl)) (lfA (qn rfl)))))) (ndA (m := 47) (ndA (m := 43) (ndA (m := 41) (lfA (qn rfl)) (ndA (m := 42) (lfA (qn rfl)) (lfA (qn rfl)))) (ndA (m := 45) (ndA (m := 44) (lfA (qn rfl)) (lfA (qn rfl))) (ndA (m := 46) (lfA (qn rfl)) (lfA (qn rfl))))) (ndA (m := 50) (ndA (m := 48) (lfA (qn rfl)) (ndA (m := 49) (lfA (qn rfl)) (lfA (qn rfl)))) (ndA (m := 52) (ndA (m := 51) (lfA (qn rfl)) (lfA (qn rfl))) (ndA (m := 53) (lfA (qn rfl)) (lfA (qn rfl)))))))) (ndA (m := 81) (ndA (m := 67) (ndA (m := 60) (ndA (m := 57) (ndA (m := 55) (lfA (qn rfl)) (ndA (m := 56) (lfA (qn rfl)) (lfA (qn rfl)))) (ndA (m := 58) (lfA (qn rfl)) (ndA (m := 59) (lfA (show QC tb 58 fn58 from fun _ => cl58 tb H)) (lfA (show QC tb 59 fn59 from fun _ => cl59 tb H))))) (ndA (m := 63) (ndA (m := 61) (lfA (show QC tb 60 fn60 from fun _ => cl60 tb H)) (ndA (m := 62) (lfA (show QC tb 61 fn61 from fun _ => cl61 tb H)) (lfA (show QC tb 62 fn62 from fun _ => cl62 tb H)))) (ndA (m := 65) (ndA (m := 64) (lfA (qn rfl)) (lfA (qn rfl))) (ndA (m := 66) (lfA (qn rfl)) (lfA (qn rfl)))))) (ndA (m := 74) (ndA (m := 70) (ndA (m := 68) nnA (ndA (m := 69) (lfA (qn rfl)) (lfA (qn rfl)))) (ndA (m := 72) (ndA (m := 71) (lfA (qn rfl)) (lfA (qn rfl))) (ndA (m := 73) (lfA (qn rfl)) (lfA (qn rfl))))) (ndA (m := 77) (ndA (m := 75) (lfA (qn rfl)) (ndA (m := 76) (lfA (qn rfl)) (lfA (qn rfl)))) (ndA (m := 79) (ndA (m := 78) (lfA (qn rfl)) (lfA (qn rfl))) (ndA (m := 80) (lfA (qn rfl)) (lfA (qn rfl))))))) (ndA (m := 94) (ndA (m := 87) (ndA (m := 84) (ndA (m := 82) (lfA (qn rfl)) (ndA (m := 83) (lfA (qn rfl)) nnA)) (ndA (m := 85) (lfA (qn rfl)) (ndA (m := 86) nnA (lfA (qn rfl))))) (ndA (m := 90) (ndA (m := 88) (lfA (qn rfl)) (ndA (m := 89) (lfA (qn rfl)) (lfA (qn rfl)))) (ndA (m := 92) (ndA (m := 91) (lfA (qn rfl)) (lfA (qn rfl))) (ndA (m := 93) (lfA (qn rfl)) nnA)))) (ndA (m := 101) (ndA (m := 97) (ndA (m := 95) (lfA (qn rfl)) (ndA (m := 96) (lfA (qn rfl)) (lfA (qn rfl)))) (ndA (m := 99) (ndA (m := 98) (lfA (qn rfl)) (lfA (qn rfl))) (ndA (m := 100) (lfA (qn rfl)) (lfA (qn rfl))))) (ndA (m := 104) (ndA (m := 102) (lfA (qn rfl)) (ndA (m := 103) (lfA (qn rfl)) (lfA (qn rfl)))) (ndA (m := 106) (ndA (m := 105) (lfA (qn rfl)) (lfA (qn rfl))) (ndA (m := 107) (lfA (qn rfl)) (lfA (qn rfl))))))))) (ndA (m := 162) (ndA (m := 135) (ndA (m := 121) (ndA (m := 114) (ndA (m := 111) (ndA (m := 109) (lfA (qn rfl)) (ndA (m := 110) (lfA (qn rfl)) (lfA (qn rfl)))) (ndA (m := 112) (lfA (qn rfl)) (ndA (m := 113) (lfA (qn rfl)) (lfA (qn rfl))))) (ndA (m := 117) (ndA (m := 115) (lfA (qn rfl)) (ndA (m := 116) (lfA (qn rfl)) (lfA (show QC tb 116 fn116 from fun _ => cl116 tb H)))) (ndA (m := 119) (ndA (m := 118) (lfA (qn rfl)) (lfA (qn rfl))) (ndA (m := 120) (lfA (qn rfl)) (lfA (qn rfl)))))) (ndA (m := 128) (ndA (m := 124) (ndA (m := 122) (lfA (qn rfl)) (ndA (m := 123) (lfA (qn rfl)) (lfA (qn rfl)))) (ndA (m := 126) (ndA (m := 125) nnA (lfA (qn rfl))) (ndA (m := 127) (lfA (qn rfl)) (lfA (qn rfl))))) (ndA (m := 131) (ndA (m := 129) (lfA (qn rfl)) (ndA (m := 130) (lfA (qn rfl)) (lfA (qn rfl)))) (ndA (m := 133) nnA (ndA (m := 134) (lfA (qn rfl)) nnA))))) (ndA (m := 148) (ndA (m := 141) (ndA (m := 138) (ndA (m := 136) (lfA (qn rfl)) (ndA (m := 137) (lfA (qn rfl)) (lfA (qn rfl)))) (ndA (m := 139) (lfA (qn rfl)) (ndA (m := 140) (lfA (qn rfl)) (lfA (qn rfl))))) (ndA (m := 144) (ndA (m := 142) (lfA (qn rfl)) nnA) (ndA (m := 146) (ndA (m := 145) nnA (lfA (qn rfl))) (ndA (m := 147) (lfA (qn rfl)) nnA)))) (ndA (m := 155) (ndA (m := 151) (ndA (m := 149) (lfA (qn rfl)) (ndA (m := 150) nnA (lfA (qn rfl)))) (ndA (m := 153) (ndA (m := 152) (lfA (qn rfl)) (lfA (qn rfl))) (ndA (m := 154) (lfA (qn rfl)) (lfA (qn rfl))))) (ndA (m := 158) (ndA (m := 156) (lfA (qn rfl)) (ndA (m := 157) (lfA (qn rfl)) (lfA (qn rfl)))) (ndA (m := 160) (ndA (m := 159) (lfA (qn rfl)) (lfA (qn rfl))) (ndA (m := 161) (lfA (qn rfl)) (lfA (qn rfl)))))))) (ndA (m := 189) (ndA (m := 175) (ndA (m := 168) (ndA (m := 165) (ndA (m := 163) (lfA (qn rfl)) (ndA (m := 164) (lfA (qn rfl)) (lfA (qn rfl)))) (ndA (m := 166) (lfA (qn rfl)) (ndA (m := 167) (lfA (qn rfl)) (lfA (qn rfl))))) (ndA (m := 171) (ndA (m := 169) (lfA (qn rfl)) (ndA (m := 170) (lfA (qn rfl)) (lfA (qn rfl)))) (ndA (m := 173) (ndA (m := 172) (lfA (qn rfl)) (lfA (qn rfl))) (ndA (m := 174) (lfA (qn rfl)) (lfA (qn rfl)))))) (ndA (m := 182) (ndA (m := 178) (ndA (m := 176) (lfA (qn rfl)) (ndA (m := 177) (lfA (qn rfl)) (lfA (qn rfl)))) (ndA (m := 180) (ndA (m := 179) (lfA (qn rfl)) (lfA (qn rfl))) (ndA (m := 181) (lfA (qn rfl)) (lfA (qn rfl))))) (ndA (m := 185) (ndA (m := 183) (lfA (qn rfl)) (ndA (m := 184) (lfA (qn rfl)) (lfA (qn rfl)))) (ndA (m := 187) (ndA (m := 186) (lfA (qn rfl)) (lfA (qn rfl))) (ndA (m := 188) (lfA (qn rfl)) (lfA (qn rfl))))))) (ndA (m := 203) (ndA (m := 196) (ndA (m := 192) (ndA (m := 190) (lfA (qn rfl)) (ndA (m := 191) (lfA (qn rfl)) (lfA (qn rfl)))) (ndA (m := 194) (ndA (m := 193) (lfA (qn rfl)) (lfA (qn rfl))) (ndA (m := 195) (lfA (qn rfl)) (lfA (qn rfl))))) (ndA (m := 199) (ndA (m := 197) nnA (ndA (m := 198) (lfA (qn rfl)) (lfA (qn rfl)))) (ndA (m := 201) (ndA (m := 200) (lfA (qn rfl)) (lfA (qn rfl))) (ndA (m := 202) nnA (lfA (qn rfl)))))) (ndA (m := 210) (ndA (m := 206) (ndA (m := 204) (lfA (qn rfl)) (ndA (m := 205) (lfA (qn rfl)) (lfA (qn rfl)))) (ndA (m := 208) (ndA (m := 207) (lfA (qn rfl)) (lfA (qn rfl))) (ndA (m := 209) (lfA (qn rfl)) (lfA (qn rfl))))) (ndA (m := 213) (ndA (m := 211) (lfA (qn rfl)) (ndA (m := 212) (lfA (qn rfl)) (lfA (qn rfl)))) (ndA (m := 215) (ndA (m := 214) (lfA (qn rfl)) nnA) nnA))))))) (ndA (m := 325) (ndA (m := 271) (ndA (m := 244) (ndA (m := 230) (ndA (m := 223) (ndA (m := 220) (ndA (m := 218) (lfA (qn rfl)) nnA) (ndA (m := 221) nnA (ndA (m := 222) (lfA (qn rfl)) (lfA (qn rfl))))) (ndA (m := 226) nnA (ndA (m := 228) nnA (ndA (m := 229) (lfA (qn rfl)) nnA)))) (ndA (m := 237) (ndA (m := 233) (ndA (m := 231) (lfA (qn rfl)) (ndA (m := 232) (lfA (qn rfl)) (lfA (qn rfl)))) (ndA (m := 235) nnA (ndA (m := 236) (lfA (qn rfl)) (lfA (qn rfl))))) (ndA (m := 240) (ndA (m := 238) (lfA (qn rfl)) (ndA (m := 239) (lfA (qn rfl)) (lfA (qn rfl)))) (ndA (m := 242) (ndA (m := 241) (lfA (qn rfl)) (lfA (qn rfl))) (ndA (m := 243) nnA (lfA (qn rfl))))))) (ndA (m := 257) (ndA (m := 250) (ndA (m := 247) (ndA (m := 245) (lfA (qn rfl)) (ndA (m := 246) (lfA (qn rfl)) (lfA (qn rfl)))) (ndA (m := 248) (lfA (qn rfl)) (ndA (m := 249) nnA (lfA (qn rfl))))) (ndA (m := 253) (ndA (m := 251) (lfA (qn rfl)) (ndA (m := 252) (lfA (qn rfl)) (lfA (qn rfl)))) (ndA (m := 255) (ndA (m := 254) (lfA (qn rfl)) nnA) (ndA (m := 256) (lfA (qn rfl)) (lfA (qn rfl)))))) (ndA (m := 264) (ndA (m := 260) (ndA (m := 258) (lfA (qn rfl)) (ndA (m := 259) (lfA (qn rfl)) (lfA (qn rfl)))) (ndA (m := 262) (ndA (m := 261) (lfA (qn rfl)) (lfA (qn rfl))) (ndA (m := 263) (lfA (qn rfl)) (lfA (qn rfl))))) (ndA (m := 267) (ndA (m := 265) (lfA (qn rfl)) (ndA (m := 266) (lfA (qn rfl)) (lfA (qn rfl)))) (ndA (m := 269) (ndA (m := 268) (lfA (qn rfl)) (lfA (qn rfl))) (ndA (m := 270) (lfA (qn rfl)) (lfA (qn rfl)))))))) (ndA (m := 298) (ndA (m := 284) (ndA (m := 277) (ndA (m := 274) (ndA (m := 272) (lfA (qn rfl)) (ndA (m := 273) (lfA (qn rfl)) nnA)) (ndA (m := 275) (lfA (qn rfl)) (ndA (m := 276) (lfA (qn rfl)) (lfA (qn rfl))))) (ndA (m := 280) (ndA (m := 278) (lfA (qn rfl)) (ndA (m := 279) (lfA (qn rfl)) (lfA (qn rfl)))) (ndA (m := 282) (ndA (m := 281) nnA (lfA (qn rfl))) nnA))) (ndA (m := 291) nnA (ndA (m := 294) (ndA (m := 292) (lfA (qn rfl)) (ndA (m := 293) (lfA (qn rfl)) nnA)) (ndA (m := 296) (ndA (m := 295) nnA (lfA (qn rfl))) (ndA (m := 297) (lfA (qn rfl)) (lfA (qn rfl))))))) (ndA (m := 311) (ndA (m := 304) (ndA (m := 301) (ndA (m := 299) (lfA (qn rfl)) (ndA (m := 300) nnA (lfA (qn rfl)))) (ndA (m := 302) (lfA (qn rfl)) (ndA (m := 303) nnA (lfA (qn rfl))))) (ndA (m := 307) (ndA (m := 305) (lfA (qn rfl)) (ndA (m := 306) (lfA (qn rfl)) (lfA (qn rfl)))) (ndA (m := 309) (ndA (m := 308) (lfA (qn rfl)) (lfA (qn rfl))) (ndA (m := 310) (lfA (qn rfl)) (lfA (qn rfl)))))) (ndA (m := 318) (ndA (m := 314) (ndA (m := 312) (lfA (qn rfl)) (ndA (m := 313) (lfA (qn rfl)) (lfA (qn rfl)))) (ndA (m := 316) (ndA (m := 315) (lfA (qn rfl)) nnA) nnA)) (ndA (m := 321) nnA (ndA (m := 323) nnA (ndA (m := 324) nnA (lfA (qn rfl))))))))) (ndA (m := 379) (ndA (m := 352) (ndA (m := 338) (ndA (m := 331) (ndA (m := 328) nnA (ndA (m := 329) nnA (ndA (m := 330) nnA (lfA (qn rfl))))) (ndA (m := 334) (ndA (m := 332) nnA (ndA (m := 333) nnA (lfA (qn rfl)))) (ndA (m := 336) (ndA (m := 335) (lfA (qn rfl)) (lfA (qn rfl))) (ndA (m := 337) (lfA (qn rfl)) (lfA (qn rfl)))))) (ndA (m := 345) (ndA (m := 341) (ndA (m := 339) (lfA (qn rfl)) nnA) nnA) (ndA (m := 348) nnA (ndA (m := 350) nnA (ndA (m := 351) (lfA (qn rfl)) nnA))))) (ndA (m := 365) (ndA (m := 358) (ndA (m := 355) (ndA (m := 353) nnA (ndA (m := 354) nnA (lfA (qn rfl)))) (ndA (m := 356) nnA (ndA (m := 357) (lfA (qn rfl)) (lfA (qn rfl))))) (ndA (m := 361) (ndA (m := 359) (lfA (qn rfl)) nnA) nnA)) (ndA (m := 372) (ndA (m := 368) (ndA (m := 366) nnA (ndA (m := 367) (lfA (show QC tb 366 fn366 from fun _ => cl366 tb H)) (lfA (qn rfl)))) nnA) (ndA (m := 375) (ndA (m := 373) (lfA (qn rfl)) nnA) (ndA (m := 377) (ndA (m := 376) nnA (lfA (qn rfl))) (ndA (m := 378) (lfA (qn rfl)) (lfA (qn rfl)))))))) (ndA (m := 406) (ndA (m := 392) (ndA (m := 385) (ndA (m := 382) (ndA (m := 380) (lfA (qn rfl)) nnA) (ndA (m := 383) (lfA (qn rfl)) (ndA (m := 384) (lfA (qn rfl)) (lfA (qn rfl))))) nnA) (ndA (m := 399) nnA (ndA (m := 402) nnA (ndA (m := 404) nnA (ndA (m := 405) nnA (lfA (qn rfl))))))) (ndA (m := 420) (ndA (m := 413) (ndA (m := 409) (ndA (m := 407) (lfA (qn rfl)) (ndA (m := 408) (lfA (qn rfl)) nnA)) (ndA (m := 411) (ndA (m := 410) (lfA (qn rfl)) nnA) (ndA (m := 412) nnA (lfA (qn rfl))))) (ndA (m := 416) (ndA (m := 414) (lfA (qn rfl)) (ndA (m := 415) (lfA (qn rfl)) (lfA (qn rfl)))) (ndA (m := 418) (ndA (m := 417) (lfA (qn rfl)) nnA) (ndA (m := 419) nnA (lfA (qn rfl)))))) (ndA (m := 427) (ndA (m := 423) nnA (ndA (m := 425) (ndA (m := 424) (lfA (qn rfl)) (lfA (qn rfl))) (ndA (m := 426) (lfA (qn rfl)) nnA))) (ndA (m := 430) (ndA (m := 428) (lfA (qn rfl)) (ndA (m := 429) (lfA (qn rfl)) (lfA (qn rfl)))) (ndA (m := 432) (ndA (m := 431) (lfA (qn rfl)) nnA) (ndA (m := 433) (lfA (qn rfl)) (lfA (qn rfl)))))))))))
theorem en85 : Go.Vm.Enters Tryz.prog 85 := ⟨Tryz.f85, Tryz.func85, by kernel_rfl, by kernel_rfl⟩
theorem en149 : Go.Vm.Enters Tryz.prog 149 := ⟨Tryz.f149, Tryz.func149, by kernel_rfl, by kernel_rfl⟩
theorem en248 : Go.Vm.Enters Tryz.prog 248 := ⟨Tryz.f248, Tryz.func248, by kernel_rfl, by kernel_rfl⟩
theorem Kprims0 (f : FuncId) (g : List PV → Option PV) (h : Kprim0 f = some g) : PrimOk Tryz.prog f g ∧ Go.Vm.Enters Tryz.prog f := by
  revert g
  unfold Kprim0
  exact topA (Q := QP) (ndA (m := 205) (ndA (m := 102) (ndA (m := 51) nnA (ndA (m := 76) nnA (ndA (m := 89) (ndA (m := 82) nnA (ndA (m := 85) nnA (ndA (m := 87) (ndA (m := 86) (lfA ⟨idx_ok Tryz.strings_IndexByte, en85⟩) nnA) nnA))) nnA))) (ndA (m := 153) (ndA (m := 127) nnA (ndA (m := 140) nnA (ndA (m := 146) nnA (ndA (m := 149) nnA (ndA (m := 151) (ndA (m := 150) (lfA ⟨atoi_ok Tryz.strconv_Atoi, en149⟩) nnA) nnA))))) nnA)) (ndA (m := 307) (ndA (m := 256) (ndA (m := 230) nnA (ndA (m := 243) nnA (ndA (m := 249) (ndA (m := 246) nnA (ndA (m := 247) nnA (ndA (m := 248) nnA (lfA ⟨cmp_ok Tryz.strings_Compare, en248⟩)))) nnA))) nnA) nnA))
theorem Ksound0 : Sound Tryz.prog Ktb0 := sound_of (tyOfAt rfl) Kprims0 fnAt (cloneAt Ktb0 (tyOfAt rfl))
theorem Krun0 : RunOk Tryz.prog (runFE Ktb0 glOf 5000) := runOk_of Ksound0 fnAt mixed glOf 5000
theorem Kw26 : RowOk Tryz.prog 80 Ka26 Kb26 := rowOk_frozen Krun0 Ke26
theorem Kw27 : RowOk Tryz.prog 80 Ka27 Kb27 := rowOk_frozen Krun0 Ke27
theorem Kw28 : RowOk Tryz.prog 80 Ka28 Kb28 := rowOk_frozen Krun0 Ke28
theorem Kw29 : RowOk Tryz.prog 80 Ka29 Kb29 := rowOk_frozen Krun0 Ke29
theorem Kw30 : RowOk Tryz.prog 80 Ka30 Kb30 := rowOk_frozen Krun0 Ke30
theorem Kw59 : RowOk Tryz.prog 80 Ka59 Kb59 := rowOk_frozen Krun0 Ke59
theorem Kw104 : RowOk Tryz.prog 80 Ka104 Kb104 := rowOk_frozen Krun0 Ke104
theorem Kw105 : RowOk Tryz.prog 80 Ka105 Kb105 := rowOk_frozen Krun0 Ke105
theorem Kw106 : RowOk Tryz.prog 80 Ka106 Kb106 := rowOk_frozen Krun0 Ke106
theorem Kw107 : RowOk Tryz.prog 80 Ka107 Kb107 := rowOk_frozen Krun0 Ke107
theorem Kw108 : RowOk Tryz.prog 80 Ka108 Kb108 := rowOk_frozen Krun0 Ke108
theorem Kw115 : RowOk Tryz.prog 80 Ka115 Kb115 := rowOk_frozen Krun0 Ke115
theorem Krr80_1 : ∀ x ∈ Kr80_1, RowOk Tryz.prog 80 x.1 x.2 := (all_cons Kw26 (all_cons Kw27 (all_cons Kw28 (all_cons Kw29 (all_cons Kw30 (all_cons Kw59 (all_cons Kw104 (all_cons Kw105 (all_cons Kw106 (all_cons Kw107 (all_cons Kw108 (all_cons Kw115 all_nil))))))))))))
theorem Kw35 : RowOk Tryz.prog 110 Ka35 Kb35 := rowOk_frozen Krun0 Ke35
theorem Krr110_1 : ∀ x ∈ Kr110_1, RowOk Tryz.prog 110 x.1 x.2 := (all_cons Kw35 all_nil)
theorem Kw98 : RowOk Tryz.prog 160 Ka98 Kb98 := rowOk_frozen Krun0 Ke98
theorem Krr160_1 : ∀ x ∈ Kr160_1, RowOk Tryz.prog 160 x.1 x.2 := (all_cons Kw98 all_nil)
theorem Kw0 : RowOk Tryz.prog 172 Ka0 Kb0 := rowOk_frozen Krun0 Ke0
theorem Kw2 : RowOk Tryz.prog 172 Ka2 Kb2 := rowOk_frozen Krun0 Ke2
theorem Kw4 : RowOk Tryz.prog 172 Ka4 Kb4 := rowOk_frozen Krun0 Ke4
theorem Kw6 : RowOk Tryz.prog 172 Ka6 Kb6 := rowOk_frozen Krun0 Ke6
theorem Kw8 : RowOk Tryz.prog 172 Ka8 Kb8 := rowOk_frozen Krun0 Ke8
theorem Kw10 : RowOk Tryz.prog 172 Ka10 Kb10 := rowOk_frozen Krun0 Ke10
theorem Kw12 : RowOk Tryz.prog 172 Ka12 Kb12 := rowOk_frozen Krun0 Ke12
theorem Kw14 : RowOk Tryz.prog 172 Ka14 Kb14 := rowOk_frozen Krun0 Ke14
theorem Kw72 : RowOk Tryz.prog 172 Ka72 Kb72 := rowOk_frozen Krun0 Ke72
theorem Kw74 : RowOk Tryz.prog 172 Ka74 Kb74 := rowOk_frozen Krun0 Ke74
theorem Kw76 : RowOk Tryz.prog 172 Ka76 Kb76 := rowOk_frozen Krun0 Ke76
theorem Kw78 : RowOk Tryz.prog 172 Ka78 Kb78 := rowOk_frozen Krun0 Ke78
theorem Kw80 : RowOk Tryz.prog 172 Ka80 Kb80 := rowOk_frozen Krun0 Ke80
theorem Kw86 : RowOk Tryz.prog 172 Ka86 Kb86 := rowOk_frozen Krun0 Ke86
theorem Kw100 : RowOk Tryz.prog 172 Ka100 Kb100 := rowOk_frozen Krun0 Ke100
theorem Kw154 : RowOk Tryz.prog 172 Ka154 Kb154 := rowOk_frozen Krun0 Ke154
theorem Kw185 : RowOk Tryz.prog 172 Ka185 Kb185 := rowOk_frozen Krun0 Ke185
theorem Kw216 : RowOk Tryz.prog 172 Ka216 Kb216 := rowOk_frozen Krun0 Ke216
theorem Krr172_1 : ∀ x ∈ Kr172_1, RowOk Tryz.prog 172 x.1 x.2 := (all_cons Kw0 (all_cons Kw2 (all_cons Kw4 (all_cons Kw6 (all_cons Kw8 (all_cons Kw10 (all_cons Kw12 (all_cons Kw14 (all_cons Kw72 (all_cons Kw74 (all_cons Kw76 (all_cons Kw78 (all_cons Kw80 (all_cons Kw86 (all_cons Kw100 (all_cons Kw154 (all_cons Kw185 (all_cons Kw216 all_nil))))))))))))))))))
theorem Kw16 : RowOk Tryz.prog 217 Ka16 Kb16 := rowOk_frozen Krun0 Ke16
theorem Krr217_1 : ∀ x ∈ Kr217_1, RowOk Tryz.prog 217 x.1 x.2 := (all_cons Kw16 all_nil)
theorem Kprims1 (f : FuncId) (g : List PV → Option PV) (h : Kprim1 f = some g) : PrimOk Tryz.prog f g ∧ Go.Vm.Enters Tryz.prog f := by
  revert g
  unfold Kprim1
  exact topA (Q := QP) (ndA (m := 205) (ndA (m := 102) (ndA (m := 51) nnA (ndA (m := 76) nnA (ndA (m := 89) (ndA (m := 82) (ndA (m := 79) nnA (ndA (m := 80) nnA (ndA (m := 81) (lfA ⟨lookRow_ok Krr80_1, fk80.enters⟩) nnA))) (ndA (m := 85) nnA (ndA (m := 87) (ndA (m := 86) (lfA ⟨idx_ok Tryz.strings_IndexByte, en85⟩) nnA) nnA))) nnA))) (ndA (m := 153) (ndA (m := 127) (ndA (m := 114) (ndA (m := 108) nnA (ndA (m := 111) (ndA (m := 109) nnA (ndA (m := 110) nnA (lfA ⟨lookRow_ok Krr110_1, fk110.enters⟩))) nnA)) nnA) (ndA (m := 140) nnA (ndA (m := 146) nnA (ndA (m := 149) nnA (ndA (m := 151) (ndA (m := 150) (lfA ⟨atoi_ok Tryz.strconv_Atoi, en149⟩) nnA) nnA))))) (ndA (m := 179) (ndA (m := 166) (ndA (m := 159) nnA (ndA (m := 162) (ndA (m := 160) nnA (ndA (m := 161) (lfA ⟨lookRow_ok Krr160_1, fk160.enters⟩) nnA)) nnA)) (ndA (m := 172) nnA (ndA (m := 175) (ndA (m := 173) (lfA ⟨lookRow_ok Krr172_1, fk172.enters⟩) nnA) nnA))) nnA))) (ndA (m := 307) (ndA (m := 256) (ndA (m := 230) (ndA (m := 217) nnA (ndA (m := 223) (ndA (m := 220) (ndA (m := 218) (lfA ⟨lookRow_ok Krr217_1, fk217.enters⟩) nnA) nnA) nnA)) (ndA (m := 243) nnA (ndA (m := 249) (ndA (m := 246) nnA (ndA (m := 247) nnA (ndA (m := 248) nnA (lfA ⟨cmp_ok Tryz.strings_Compare, en248⟩)))) nnA))) nnA) nnA))
theorem Ksound1 : Sound Tryz.prog Ktb1 := sound_of (tyOfAt rfl) Kprims1 fnAt (cloneAt Ktb1 (tyOfAt rfl))
theorem Krun1 : RunOk Tryz.prog (runFE Ktb1 glOf 5000) := runOk_of Ksound1 fnAt mixed glOf 5000
theorem Kw1 : RowOk Tryz.prog 24 Ka1 Kb1 := rowOk_frozen Krun1 Ke1
theorem Kw71 : RowOk Tryz.prog 24 Ka71 Kb71 := rowOk_frozen Krun1 Ke71
theorem Krr24_2 : ∀ x ∈ Kr24_2, RowOk Tryz.prog 24 x.1 x.2 := (all_cons Kw1 (all_cons Kw71 all_nil))
theorem Kw3 : RowOk Tryz.prog 152 Ka3 Kb3 := rowOk_frozen Krun1 Ke3
theorem Kw5 : RowOk Tryz.prog 152 Ka5 Kb5 := rowOk_frozen Krun1 Ke5
theorem Kw7 : RowOk Tryz.prog 152 Ka7 Kb7 := rowOk_frozen Krun1 Ke7
theorem Kw9 : RowOk Tryz.prog 152 Ka9 Kb9 := rowOk_frozen Krun1 Ke9
theorem Kw11 : RowOk Tryz.prog 152 Ka11 Kb11 := rowOk_frozen Krun1 Ke11
theorem Kw13 : RowOk Tryz.prog 152 Ka13 Kb13 := rowOk_frozen Krun1 Ke13
theorem Kw15 : RowOk Tryz.prog 152 Ka15 Kb15 := rowOk_frozen Krun1 Ke15
theorem Kw73 : RowOk Tryz.prog 152 Ka73 Kb73 := rowOk_frozen Krun1 Ke73
theorem Kw75 : RowOk Tryz.prog 152 Ka75 Kb75 := rowOk_frozen Krun1 Ke75
theorem Kw77 : RowOk Tryz.prog 152 Ka77 Kb77 := rowOk_frozen Krun1 Ke77
theorem Kw79 : RowOk Tryz.prog 152 Ka79 Kb79 := rowOk_frozen Krun1 Ke79
theorem Kw81 : RowOk Tryz.prog 152 Ka81 Kb81 := rowOk_frozen Krun1 Ke81
theorem Kw87 : RowOk Tryz.prog 152 Ka87 Kb87 := rowOk_frozen Krun1 Ke87
theorem Kw101 : RowOk Tryz.prog 152 Ka101 Kb101 := rowOk_frozen Krun1 Ke101
theorem Krr152_2 : ∀ x ∈ Kr152_2, RowOk Tryz.prog 152 x.1 x.2 := (all_cons Kw3 (all_cons Kw5 (all_cons Kw7 (all_cons Kw9 (all_cons Kw11 (all_cons Kw13 (all_cons Kw15 (all_cons Kw73 (all_cons Kw75 (all_cons Kw77 (all_cons Kw79 (all_cons Kw81 (all_cons Kw87 (all_cons Kw101 all_nil))))))))))))))
theorem Kprims2 (f : FuncId) (g : List PV → Option PV) (h : Kprim2 f = some g) : PrimOk Tryz.prog f g ∧ Go.Vm.Enters Tryz.prog f := by
  revert g
  unfold Kprim2
  exact topA (Q := QP) (ndA (m := 205) (ndA (m := 102) (ndA (m := 51) (ndA (m := 25) (ndA (m := 12) nnA (ndA (m := 18) nnA (ndA (m := 21) nnA (ndA (m := 23) nnA (ndA (m := 24) nnA (lfA ⟨lookRow_ok Krr24_2, fk24.enters⟩)))))) nnA) (ndA (m := 76) nnA (ndA (m := 89) (ndA (m := 82) (ndA (m := 79) nnA (ndA (m := 80) nnA (ndA (m := 81) (lfA ⟨lookRow_ok Krr80_1, fk80.enters⟩) nnA))) (ndA (m := 85) nnA (ndA (m := 87) (ndA (m := 86) (lfA ⟨idx_ok Tryz.strings_IndexByte, en85⟩) nnA) nnA))) nnA))) (ndA (m := 153) (ndA (m := 127) (ndA (m := 114) (ndA (m := 108) nnA (ndA (m := 111) (ndA (m := 109) nnA (ndA (m := 110) nnA (lfA ⟨lookRow_ok Krr110_1, fk110.enters⟩))) nnA)) nnA) (ndA (m := 140) nnA (ndA (m := 146) nnA (ndA (m := 149) nnA (ndA (m := 151) (ndA (m := 150) (lfA ⟨atoi_ok Tryz.strconv_Atoi, en149⟩) nnA) (ndA (m := 152) nnA (lfA ⟨lookRow_ok Krr152_2, fk152.enters⟩))))))) (ndA (m := 179) (ndA (m := 166) (ndA (m := 159) nnA (ndA (m := 162) (ndA (m := 160) nnA (ndA (m := 161) (lfA ⟨lookRow_ok Krr160_1, fk160.enters⟩) nnA)) nnA)) (ndA (m := 172) nnA (ndA (m := 175) (ndA (m := 173) (lfA ⟨lookRow_ok Krr172_1, fk172.enters⟩) nnA) nnA))) nnA))) (ndA (m := 307) (ndA (m := 256) (ndA (m := 230) (ndA (m := 217) nnA (ndA (m := 223) (ndA (m := 220) (ndA (m := 218) (lfA ⟨lookRow_ok Krr217_1, fk217.enters⟩) nnA) nnA) nnA)) (ndA (m := 243) nnA (ndA (m := 249) (ndA (m := 246) nnA (ndA (m := 247) nnA (ndA (m := 248) nnA (lfA ⟨cmp_ok Tryz.strings_Compare, en248⟩)))) nnA))) nnA) nnA))
theorem Ksound2 : Sound Tryz.prog Ktb2 := sound_of (tyOfAt rfl) Kprims2 fnAt (cloneAt Ktb2 (tyOfAt rfl))
theorem Krun2 : RunOk Tryz.prog (runFE Ktb2 glOf 5000) := runOk_of Ksound2 fnAt mixed glOf 5000
theorem Kw37 : RowOk Tryz.prog 113 Ka37 Kb37 := rowOk_frozen Krun2 Ke37
theorem Kw41 : RowOk Tryz.prog 113 Ka41 Kb41 := rowOk_frozen Krun2 Ke41
theorem Kw44 : RowOk Tryz.prog 113 Ka44 Kb44 := rowOk_frozen Krun2 Ke44
theorem Kw46 : RowOk Tryz.prog 113 Ka46 Kb46 := rowOk_frozen Krun2 Ke46
theorem Kw49 : RowOk Tryz.prog 113 Ka49 Kb49 := rowOk_frozen Krun2 Ke49
theorem Kw58 : RowOk Tryz.prog 113 Ka58 Kb58 := rowOk_frozen Krun2 Ke58
theorem Kw118 : RowOk Tryz.prog 113 Ka118 Kb118 := rowOk_frozen Krun2 Ke118
theorem Kw125 : RowOk Tryz.prog 113 Ka125 Kb125 := rowOk_frozen Krun2 Ke125
theorem Kw135 : RowOk Tryz.prog 113 Ka135 Kb135 := rowOk_frozen Krun2 Ke135
theorem Kw143 : RowOk Tryz.prog 113 Ka143 Kb143 := rowOk_frozen Krun2 Ke143
theorem Kw155 : RowOk Tryz.prog 113 Ka155 Kb155 := rowOk_frozen Krun2 Ke155
theorem Kw159 : RowOk Tryz.prog 113 Ka159 Kb159 := rowOk_frozen Krun2 Ke159
theorem Kw162 : RowOk Tryz.prog 113 Ka162 Kb162 := rowOk_frozen Krun2 Ke162
theorem Kw164 : RowOk Tryz.prog 113 Ka164 Kb164 := rowOk_frozen Krun2 Ke164
theorem Kw167 : RowOk Tryz.prog 113 Ka167 Kb167 := rowOk_frozen Krun2 Ke167
theorem Kw186 : RowOk Tryz.prog 113 Ka186 Kb186 := rowOk_frozen Krun2 Ke186
theorem Kw190 : RowOk Tryz.prog 113 Ka190 Kb190 := rowOk_frozen Krun2 Ke190
theorem Kw193 : RowOk Tryz.prog 113 Ka193 Kb193 := rowOk_frozen Krun2 Ke193
theorem Kw195 : RowOk Tryz.prog 113 Ka195 Kb195 := rowOk_frozen Krun2 Ke195
theorem Kw198 : RowOk Tryz.prog 113 Ka198 Kb198 := rowOk_frozen Krun2 Ke198
theorem Kw217 : RowOk Tryz.prog 113 Ka217 Kb217 := rowOk_frozen Krun2 Ke217
theorem Kw221 : RowOk Tryz.prog 113 Ka221 Kb221 := rowOk_frozen Krun2 Ke221
theorem Kw224 : RowOk Tryz.prog 113 Ka224 Kb224 := rowOk_frozen Krun2 Ke224
theorem Kw226 : RowOk Tryz.prog 113 Ka226 Kb226 := rowOk_frozen Krun2 Ke226
theorem Kw229 : RowOk Tryz.prog 113 Ka229 Kb229 := rowOk_frozen Krun2 Ke229
theorem Krr113_3 : ∀ x ∈ Kr113_3, RowOk Tryz.prog 113 x.1 x.2 := (all_cons Kw37 (all_cons Kw41 (all_cons Kw44 (all_cons Kw46 (all_cons Kw49 (all_cons Kw58 (all_cons Kw118 (all_cons Kw125 (all_cons Kw135 (all_cons Kw143 (all_cons Kw155 (all_cons Kw159 (all_cons Kw162 (all_cons Kw164 (all_cons Kw167 (all_cons Kw186 (all_cons Kw190 (all_cons Kw193 (all_cons Kw195 (all_cons Kw198 (all_cons Kw217 (all_cons Kw221 (all_cons Kw224 (all_cons Kw226 (all_cons Kw229 all_nil)))))))))))))))))))))))))
theorem Kw19 : RowOk Tryz.prog 160 Ka19 Kb19 := rowOk_frozen Krun2 Ke19
theorem Kw20 : RowOk Tryz.prog 160 Ka20 Kb20 := rowOk_frozen Krun2 Ke20
theorem Kw21 : RowOk Tryz.prog 160 Ka21 Kb21 := rowOk_frozen Krun2 Ke21
theorem Kw22 : RowOk Tryz.prog 160 Ka22 Kb22 := rowOk_frozen Krun2 Ke22
theorem Kw84 : RowOk Tryz.prog 160 Ka84 Kb84 := rowOk_frozen Krun2 Ke84
theorem Kw90 : RowOk Tryz.prog 160 Ka90 Kb90 := rowOk_frozen Krun2 Ke90
theorem Kw94 : RowOk Tryz.prog 160 Ka94 Kb94 := rowOk_frozen Krun2 Ke94
theorem Krr160_3 : ∀ x ∈ Kr160_3, RowOk Tryz.prog 160 x.1 x.2 := (all_cons Kw19 (all_cons Kw20 (all_cons Kw21 (all_cons Kw22 (all_cons Kw84 (all_cons Kw90 (all_cons Kw94 Krr160_1)))))))
theorem Kw17 : RowOk Tryz.prog 165 Ka17 Kb17 := rowOk_frozen Krun2 Ke17
theorem Kw82 : RowOk Tryz.prog 165 Ka82 Kb82 := rowOk_frozen Krun2 Ke82
theorem Kw88 : RowOk Tryz.prog 165 Ka88 Kb88 := rowOk_frozen Krun2 Ke88
theorem Kw92 : RowOk Tryz.prog 165 Ka92 Kb92 := rowOk_frozen Krun2 Ke92
theorem Kw96 : RowOk Tryz.prog 165 Ka96 Kb96 := rowOk_frozen Krun2 Ke96
theorem Krr165_3 : ∀ x ∈ Kr165_3, RowOk Tryz.prog 165 x.1 x.2 := (all_cons Kw17 (all_cons Kw82 (all_cons Kw88 (all_cons Kw92 (all_cons Kw96 all_nil)))))
theorem Kprims3 (f : FuncId) (g : List PV → Option PV) (h : Kprim3 f = some g) : PrimOk Tryz.prog f g ∧ Go.Vm.Enters Tryz.prog f := by
  revert g
  unfold Kprim3
  exact topA (Q := QP) (ndA (m := 205) (ndA (m := 102) (ndA (m := 51) (ndA (m := 25) (ndA (m := 12) nnA (ndA (m := 18) nnA (ndA (m := 21) nnA (ndA (m := 23) nnA (ndA (m := 24) nnA (lfA ⟨lookRow_ok Krr24_2, fk24.enters⟩)))))) nnA) (ndA (m := 76) nnA (ndA (m := 89) (ndA (m := 82) (ndA (m := 79) nnA (ndA (m := 80) nnA (ndA (m := 81) (lfA ⟨lookRow_ok Krr80_1, fk80.enters⟩) nnA))) (ndA (m := 85) nnA (ndA (m := 87) (ndA (m := 86) (lfA ⟨idx_ok Tryz.strings_IndexByte, en85⟩) nnA) nnA))) nnA))) (ndA (m := 153) (ndA (m := 127) (ndA (m := 114) (ndA (m := 108) nnA (ndA (m := 111) (ndA (m := 109) nnA (ndA (m := 110) nnA (lfA ⟨lookRow_ok Krr110_1, fk110.enters⟩))) (ndA (m := 112) nnA (ndA (m := 113) nnA (lfA ⟨lookRow_ok Krr113_3, fk113.enters⟩))))) nnA) (ndA (m := 140) nnA (ndA (m := 146) nnA (ndA (m := 149) nnA (ndA (m := 151) (ndA (m := 150) (lfA ⟨atoi_ok Tryz.strconv_Atoi, en149⟩) nnA) (ndA (m := 152) nnA (lfA ⟨lookRow_ok Krr152_2, fk152.enters⟩))))))) (ndA (m := 179) (ndA (m := 166) (ndA (m := 159) nnA (ndA (m := 162) (ndA (m := 160) nnA (ndA (m := 161) (lfA ⟨lookRow_ok Krr160_3, fk160.enters⟩) nnA)) (ndA (m := 164) nnA (ndA (m := 165) nnA (lfA ⟨lookRow_ok Krr165_3, fk165.enters⟩))))) (ndA (m := 172) nnA (ndA (m := 175) (ndA (m := 173) (lfA ⟨lookRow_ok Krr172_1, fk172.enters⟩) nnA) nnA))) nnA))) (ndA (m := 307) (ndA (m := 256) (ndA (m := 230) (ndA (m := 217) nnA (ndA (m := 223) (ndA (m := 220) (ndA (m := 218) (lfA ⟨lookRow_ok Krr217_1, fk217.enters⟩) nnA) nnA) nnA)) (ndA (m := 243) nnA (ndA (m := 249) (ndA (m := 246) nnA (ndA (m := 247) nnA (ndA (m := 248) nnA (lfA ⟨cmp_ok Tryz.strings_Compare, en248⟩)))) nnA))) nnA) nnA))
theorem Ksound3 : Sound Tryz.prog Ktb3 := sound_of (tyOfAt rfl) Kprims3 fnAt (cloneAt Ktb3 (tyOfAt rfl))
theorem Krun3 : RunOk Tryz.prog (runFE Ktb3 glOf 5000) := runOk_of Ksound3 fnAt mixed glOf 5000
theorem Kw38 : RowOk Tryz.prog 110 Ka38 Kb38 := rowOk_frozen Krun3 Ke38
theorem Kw42 : RowOk Tryz.prog 110 Ka42 Kb42 := rowOk_frozen Krun3 Ke42
theorem Kw43 : RowOk Tryz.prog 110 Ka43 Kb43 := rowOk_frozen Krun3 Ke43
theorem Kw45 : RowOk Tryz.prog 110 Ka45 Kb45 := rowOk_frozen Krun3 Ke45
theorem Kw47 : RowOk Tryz.prog 110 Ka47 Kb47 := rowOk_frozen Krun3 Ke47
theorem Kw48 : RowOk Tryz.prog 110 Ka48 Kb48 := rowOk_frozen Krun3 Ke48
theorem Kw50 : RowOk Tryz.prog 110 Ka50 Kb50 := rowOk_frozen Krun3 Ke50
theorem Kw51 : RowOk Tryz.prog 110 Ka51 Kb51 := rowOk_frozen Krun3 Ke51
theorem Kw60 : RowOk Tryz.prog 110 Ka60 Kb60 := rowOk_frozen Krun3 Ke60
theorem Kw61 : RowOk Tryz.prog 110 Ka61 Kb61 := rowOk_frozen Krun3 Ke61
theorem Kw62 : RowOk Tryz.prog 110 Ka62 Kb62 := rowOk_frozen Krun3 Ke62
theorem Kw68 : RowOk Tryz.prog 110 Ka68 Kb68 := rowOk_frozen Krun3 Ke68
theorem Kw119 : RowOk Tryz.prog 110 Ka119 Kb119 := rowOk_frozen Krun3 Ke119
theorem Kw126 : RowOk Tryz.prog 110 Ka126 Kb126 := rowOk_frozen Krun3 Ke126
theorem Kw129 : RowOk Tryz.prog 110 Ka129 Kb129 := rowOk_frozen Krun3 Ke129
theorem Kw136 : RowOk Tryz.prog 110 Ka136 Kb136 := rowOk_frozen Krun3 Ke136
theorem Kw137 : RowOk Tryz.prog 110 Ka137 Kb137 := rowOk_frozen Krun3 Ke137
theorem Kw144 : RowOk Tryz.prog 110 Ka144 Kb144 := rowOk_frozen Krun3 Ke144
theorem Kw145 : RowOk Tryz.prog 110 Ka145 Kb145 := rowOk_frozen Krun3 Ke145
theorem Kw156 : RowOk Tryz.prog 110 Ka156 Kb156 := rowOk_frozen Krun3 Ke156
theorem Kw160 : RowOk Tryz.prog 110 Ka160 Kb160 := rowOk_frozen Krun3 Ke160
theorem Kw161 : RowOk Tryz.prog 110 Ka161 Kb161 := rowOk_frozen Krun3 Ke161
theorem Kw163 : RowOk Tryz.prog 110 Ka163 Kb163 := rowOk_frozen Krun3 Ke163
theorem Kw165 : RowOk Tryz.prog 110 Ka165 Kb165 := rowOk_frozen Krun3 Ke165
theorem Kw166 : RowOk Tryz.prog 110 Ka166 Kb166 := rowOk_frozen Krun3 Ke166
theorem Kw168 : RowOk Tryz.prog 110 Ka168 Kb168 := rowOk_frozen Krun3 Ke168
theorem Kw169 : RowOk Tryz.prog 110 Ka169 Kb169 := rowOk_frozen Krun3 Ke169
theorem Kw176 : RowOk Tryz.prog 110 Ka176 Kb176 := rowOk_frozen Krun3 Ke176
theorem Kw177 : RowOk Tryz.prog 110 Ka177 Kb177 := rowOk_frozen Krun3 Ke177
theorem Kw182 : RowOk Tryz.prog 110 Ka182 Kb182 := rowOk_frozen Krun3 Ke182
theorem Kw187 : RowOk Tryz.prog 110 Ka187 Kb187 := rowOk_frozen Krun3 Ke187
theorem Kw191 : RowOk Tryz.prog 110 Ka191 Kb191 := rowOk_frozen Krun3 Ke191
theorem Kw192 : RowOk Tryz.prog 110 Ka192 Kb192 := rowOk_frozen Krun3 Ke192
theorem Kw194 : RowOk Tryz.prog 110 Ka194 Kb194 := rowOk_frozen Krun3 Ke194
theorem Kw196 : RowOk Tryz.prog 110 Ka196 Kb196 := rowOk_frozen Krun3 Ke196
theorem Kw197 : RowOk Tryz.prog 110 Ka197 Kb197 := rowOk_frozen Krun3 Ke197
theorem Kw199 : RowOk Tryz.prog 110 Ka199 Kb199 := rowOk_frozen Krun3 Ke199
theorem Kw200 : RowOk Tryz.prog 110 Ka200 Kb200 := rowOk_frozen Krun3 Ke200
theorem Kw207 : RowOk Tryz.prog 110 Ka207 Kb207 := rowOk_frozen Krun3 Ke207
theorem Kw208 : RowOk Tryz.prog 110 Ka208 Kb208 := rowOk_frozen Krun3 Ke208
theorem Kw213 : RowOk Tryz.prog 110 Ka213 Kb213 := rowOk_frozen Krun3 Ke213
theorem Kw218 : RowOk Tryz.prog 110 Ka218 Kb218 := rowOk_frozen Krun3 Ke218
theorem Kw222 : RowOk Tryz.prog 110 Ka222 Kb222 := rowOk_frozen Krun3 Ke222
theorem Kw223 : RowOk Tryz.prog 110 Ka223 Kb223 := rowOk_frozen Krun3 Ke223
theorem Kw225 : RowOk Tryz.prog 110 Ka225 Kb225 := rowOk_frozen Krun3 Ke225
theorem Kw227 : RowOk Tryz.prog 110 Ka227 Kb227 := rowOk_frozen Krun3 Ke227
theorem Kw228 : RowOk Tryz.prog 110 Ka228 Kb228 := rowOk_frozen Krun3 Ke228
theorem Kw230 : RowOk Tryz.prog 110 Ka230 Kb230 := rowOk_frozen Krun3 Ke230
theorem Kw231 : RowOk Tryz.prog 110 Ka231 Kb231 := rowOk_frozen Krun3 Ke231
theorem Kw238 : RowOk Tryz.prog 110 Ka238 Kb238 := rowOk_frozen Krun3 Ke238
theorem Kw239 : RowOk Tryz.prog 110 Ka239 Kb239 := rowOk_frozen Krun3 Ke239
theorem Kw244 : RowOk Tryz.prog 110 Ka244 Kb244 := rowOk_frozen Krun3 Ke244
theorem Krr110_4 : ∀ x ∈ Kr110_4, RowOk Tryz.prog 110 x.1 x.2 := (all_cons Kw38 (all_cons Kw42 (all_cons Kw43 (all_cons Kw45 (all_cons Kw47 (all_cons Kw48 (all_cons Kw50 (all_cons Kw51 (all_cons Kw60 (all_cons Kw61 (all_cons Kw62 (all_cons Kw68 (all_cons Kw119 (all_cons Kw126 (all_cons Kw129 (all_cons Kw136 (all_cons Kw137 (all_cons Kw144 (all_cons Kw145 (all_cons Kw156 (all_cons Kw160 (all_cons Kw161 (all_cons Kw163 (all_cons Kw165 (all_cons Kw166 (all_cons Kw168 (all_cons Kw169 (all_cons Kw176 (all_cons Kw177 (all_cons Kw182 (all_cons Kw187 (all_cons Kw191 (all_cons Kw192 (all_cons Kw194 (all_cons Kw196 (all_cons Kw197 (all_cons Kw199 (all_cons Kw200 (all_cons Kw207 (all_cons Kw208 (all_cons Kw213 (all_cons Kw218 (all_cons Kw222 (all_cons Kw223 (all_cons Kw225 (all_cons Kw227 (all_cons Kw228 (all_cons Kw230 (all_cons Kw231 (all_cons Kw238 (all_cons Kw239 (all_cons Kw244 Krr110_1))))))))))))))))))))))))))))))))))))))))))))))))))))
theorem Kw18 : RowOk Tryz.prog 157 Ka18 Kb18 := rowOk_frozen Krun3 Ke18
theorem Kw83 : RowOk Tryz.prog 157 Ka83 Kb83 := rowOk_frozen Krun3 Ke83
theorem Kw89 : RowOk Tryz.prog 157 Ka89 Kb89 := rowOk_frozen Krun3 Ke89
theorem Kw93 : RowOk Tryz.prog 157 Ka93 Kb93 := rowOk_frozen Krun3 Ke93
theorem Kw97 : RowOk Tryz.prog 157 Ka97 Kb97 := rowOk_frozen Krun3 Ke97
theorem Krr157_4 : ∀ x ∈ Kr157_4, RowOk Tryz.prog 157 x.1 x.2 := (all_cons Kw18 (all_cons Kw83 (all_cons Kw89 (all_cons Kw93 (all_cons Kw97 all_nil)))))
theorem Kw39 : RowOk Tryz.prog 356 Ka39 Kb39 := rowOk_frozen Krun3 Ke39
theorem Kw52 : RowOk Tryz.prog 356 Ka52 Kb52 := rowOk_frozen Krun3 Ke52
theorem Kw53 : RowOk Tryz.prog 356 Ka53 Kb53 := rowOk_frozen Krun3 Ke53
theorem Kw54 : RowOk Tryz.prog 356 Ka54 Kb54 := rowOk_frozen Krun3 Ke54
theorem Kw63 : RowOk Tryz.prog 356 Ka63 Kb63 := rowOk_frozen Krun3 Ke63
theorem Kw64 : RowOk Tryz.prog 356 Ka64 Kb64 := rowOk_frozen Krun3 Ke64
theorem Kw120 : RowOk Tryz.prog 356 Ka120 Kb120 := rowOk_frozen Krun3 Ke120
theorem Kw121 : RowOk Tryz.prog 356 Ka121 Kb121 := rowOk_frozen Krun3 Ke121
theorem Kw122 : RowOk Tryz.prog 356 Ka122 Kb122 := rowOk_frozen Krun3 Ke122
theorem Kw123 : RowOk Tryz.prog 356 Ka123 Kb123 := rowOk_frozen Krun3 Ke123
theorem Kw130 : RowOk Tryz.prog 356 Ka130 Kb130 := rowOk_frozen Krun3 Ke130
theorem Kw131 : RowOk Tryz.prog 356 Ka131 Kb131 := rowOk_frozen Krun3 Ke131
theorem Kw132 : RowOk Tryz.prog 356 Ka132 Kb132 := rowOk_frozen Krun3 Ke132
theorem Kw133 : RowOk Tryz.prog 356 Ka133 Kb133 := rowOk_frozen Krun3 Ke133
theorem Kw138 : RowOk Tryz.prog 356 Ka138 Kb138 := rowOk_frozen Krun3 Ke138
theorem Kw139 : RowOk Tryz.prog 356 Ka139 Kb139 := rowOk_frozen Krun3 Ke139
theorem Kw140 : RowOk Tryz.prog 356 Ka140 Kb140 := rowOk_frozen Krun3 Ke140
theorem Kw141 : RowOk Tryz.prog 356 Ka141 Kb141 := rowOk_frozen Krun3 Ke141
theorem Kw146 : RowOk Tryz.prog 356 Ka146 Kb146 := rowOk_frozen Krun3 Ke146
theorem Kw147 : RowOk Tryz.prog 356 Ka147 Kb147 := rowOk_frozen Krun3 Ke147
theorem Kw148 : RowOk Tryz.prog 356 Ka148 Kb148 := rowOk_frozen Krun3 Ke148
theorem Kw149 : RowOk Tryz.prog 356 Ka149 Kb149 := rowOk_frozen Krun3 Ke149
theorem Kw157 : RowOk Tryz.prog 356 Ka157 Kb157 := rowOk_frozen Krun3 Ke157
theorem Kw170 : RowOk Tryz.prog 356 Ka170 Kb170 := rowOk_frozen Krun3 Ke170
theorem Kw171 : RowOk Tryz.prog 356 Ka171 Kb171 := rowOk_frozen Krun3 Ke171
theorem Kw172 : RowOk Tryz.prog 356 Ka172 Kb172 := rowOk_frozen Krun3 Ke172
theorem Kw178 : RowOk Tryz.prog 356 Ka178 Kb178 := rowOk_frozen Krun3 Ke178
theorem Kw188 : RowOk Tryz.prog 356 Ka188 Kb188 := rowOk_frozen Krun3 Ke188
theorem Kw201 : RowOk Tryz.prog 356 Ka201 Kb201 := rowOk_frozen Krun3 Ke201
theorem Kw202 : RowOk Tryz.prog 356 Ka202 Kb202 := rowOk_frozen Krun3 Ke202
theorem Kw203 : RowOk Tryz.prog 356 Ka203 Kb203 := rowOk_frozen Krun3 Ke203
theorem Kw209 : RowOk Tryz.prog 356 Ka209 Kb209 := rowOk_frozen Krun3 Ke209
theorem Kw219 : RowOk Tryz.prog 356 Ka219 Kb219 := rowOk_frozen Krun3 Ke219
theorem Kw232 : RowOk Tryz.prog 356 Ka232 Kb232 := rowOk_frozen Krun3 Ke232
theorem Kw233 : RowOk Tryz.prog 356 Ka233 Kb233 := rowOk_frozen Krun3 Ke233
theorem Kw234 : RowOk Tryz.prog 356 Ka234 Kb234 := rowOk_frozen Krun3 Ke234
theorem Kw240 : RowOk Tryz.prog 356 Ka240 Kb240 := rowOk_frozen Krun3 Ke240
theorem Krr356_4 : ∀ x ∈ Kr356_4, RowOk Tryz.prog 356 x.1 x.2 := (all_cons Kw39 (all_cons Kw52 (all_cons Kw53 (all_cons Kw54 (all_cons Kw63 (all_cons Kw64 (all_cons Kw120 (all_cons Kw121 (all_cons Kw122 (all_cons Kw123 (all_cons Kw130 (all_cons Kw131 (all_cons Kw132 (all_cons Kw133 (all_cons Kw138 (all_cons Kw139 (all_cons Kw140 (all_cons Kw141 (all_cons Kw146 (all_cons Kw147 (all_cons Kw148 (all_cons Kw149 (all_cons Kw157 (all_cons Kw170 (all_cons Kw171 (all_cons Kw172 (all_cons Kw178 (all_cons Kw188 (all_cons Kw201 (all_cons Kw202 (all_cons Kw203 (all_cons Kw209 (all_cons Kw219 (all_cons Kw232 (all_cons Kw233 (all_cons Kw234 (all_cons Kw240 all_nil)))))))))))))))))))))))))))))))))))))
theorem Kprims4 (f : FuncId) (g : List PV → Option PV) (h : Kprim4 f = some g) : PrimOk Tryz.prog f g ∧ Go.Vm.Enters Tryz.prog f := by
  revert g
  unfold Kprim4
  exact topA (Q := QP) (ndA (m := 205) (ndA (m := 102) (ndA (m := 51) (ndA (m := 25) (ndA (m := 12) nnA (ndA (m := 18) nnA (ndA (m := 21) nnA (ndA (m := 23) nnA (ndA (m := 24) nnA (lfA ⟨lookRow_ok Krr24_2, fk24.enters⟩)))))) nnA) (ndA (m := 76) nnA (ndA (m := 89) (ndA (m := 82) (ndA (m := 79) nnA (ndA (m := 80) nnA (ndA (m := 81) (lfA ⟨lookRow_ok Krr80_1, fk80.enters⟩) nnA))) (ndA (m := 85) nnA (ndA (m := 87) (ndA (m := 86) (lfA ⟨idx_ok Tryz.strings_IndexByte, en85⟩) nnA) nnA))) nnA))) (ndA (m := 153) (ndA (m := 127) (ndA (m := 114) (ndA (m := 108) nnA (ndA (m := 111) (ndA (m := 109) nnA (ndA (m := 110) nnA (lfA ⟨lookRow_ok Krr110_4, fk110.enters⟩))) (ndA (m := 112) nnA (ndA (m := 113) nnA (lfA ⟨lookRow_ok Krr113_3, fk113.enters⟩))))) nnA) (ndA (m := 140) nnA (ndA (m := 146) nnA (ndA (m := 149) nnA (ndA (m := 151) (ndA (m := 150) (lfA ⟨atoi_ok Tryz.strconv_Atoi, en149⟩) nnA) (ndA (m := 152) nnA (lfA ⟨lookRow_ok Krr152_2, fk152.enters⟩))))))) (ndA (m := 179) (ndA (m := 166) (ndA (m := 159) (ndA (m := 156) nnA (ndA (m := 157) nnA (ndA (m := 158) (lfA ⟨lookRow_ok Krr157_4, fk157.enters⟩) nnA))) (ndA (m := 162) (ndA (m := 160) nnA (ndA (m := 161) (lfA ⟨lookRow_ok Krr160_3, fk160.enters⟩) nnA)) (ndA (m := 164) nnA (ndA (m := 165) nnA (lfA ⟨lookRow_ok Krr165_3, fk165.enters⟩))))) (ndA (m := 172) nnA (ndA (m := 175) (ndA (m := 173) (lfA ⟨lookRow_ok Krr172_1, fk172.enters⟩) nnA) nnA))) nnA))) (ndA (m := 307) (ndA (m := 256) (ndA (m := 230) (ndA (m := 217) nnA (ndA (m := 223) (ndA (m := 220) (ndA (m := 218) (lfA ⟨lookRow_ok Krr217_1, fk217.enters⟩) nnA) nnA) nnA)) (ndA (m := 243) nnA (ndA (m := 249) (ndA (m := 246) nnA (ndA (m := 247) nnA (ndA (m := 248) nnA (lfA ⟨cmp_ok Tryz.strings_Compare, en248⟩)))) nnA))) nnA) (ndA (m := 358) (ndA (m := 332) nnA (ndA (m := 345) nnA (ndA (m := 351) nnA (ndA (m := 354) nnA (ndA (m := 356) nnA (ndA (m := 357) (lfA ⟨lookRow_ok Krr356_4, fk356.enters⟩) nnA)))))) nnA)))
theorem Ksound4 : Sound Tryz.prog Ktb4 := sound_of (tyOfAt rfl) Kprims4 fnAt (cloneAt Ktb4 (tyOfAt rfl))
theorem Krun4 : RunOk Tryz.prog (runFE Ktb4 glOf 5000) := runOk_of Ksound4 fnAt mixed glOf 5000
theorem Kw23 : RowOk Tryz.prog 106 Ka23 Kb23 := rowOk_frozen Krun4 Ke23
theorem Kw85 : RowOk Tryz.prog 106 Ka85 Kb85 := rowOk_frozen Krun4 Ke85
theorem Kw91 : RowOk Tryz.prog 106 Ka91 Kb91 := rowOk_frozen Krun4 Ke91
theorem Kw95 : RowOk Tryz.prog 106 Ka95 Kb95 := rowOk_frozen Krun4 Ke95
theorem Kw99 : RowOk Tryz.prog 106 Ka99 Kb99 := rowOk_frozen Krun4 Ke99
theorem Krr106_5 : ∀ x ∈ Kr106_5, RowOk Tryz.prog 106 x.1 x.2 := (all_cons Kw23 (all_cons Kw85 (all_cons Kw91 (all_cons Kw95 (all_cons Kw99 all_nil)))))
theorem Kprims5 (f : FuncId) (g : List PV → Option PV) (h : Kprim5 f = some g) : PrimOk Tryz.prog f g ∧ Go.Vm.Enters Tryz.prog f := by
  revert g
  unfold Kprim5
  exact topA (Q := QP) (ndA (m := 205) (ndA (m := 102) (ndA (m := 51) (ndA (m := 25) (ndA (m := 12) nnA (ndA (m := 18) nnA (ndA (m := 21) nnA (ndA (m := 23) nnA (ndA (m := 24) nnA (lfA ⟨lookRow_ok Krr24_2, fk24.enters⟩)))))) nnA) (ndA (m := 76) nnA (ndA (m := 89) (ndA (m := 82) (ndA (m := 79) nnA (ndA (m := 80) nnA (ndA (m := 81) (lfA ⟨lookRow_ok Krr80_1, fk80.enters⟩) nnA))) (ndA (m := 85) nnA (ndA (m := 87) (ndA (m := 86) (lfA ⟨idx_ok Tryz.strings_IndexByte, en85⟩) nnA) nnA))) nnA))) (ndA (m := 153) (ndA (m := 127) (ndA (m := 114) (ndA (m := 108) (ndA (m := 105) nnA (ndA (m := 106) nnA (ndA (m := 107) (lfA ⟨lookRow_ok Krr106_5, fk106.enters⟩) nnA))) (ndA (m := 111) (ndA (m := 109) nnA (ndA (m := 110) nnA (lfA ⟨lookRow_ok Krr110_4, fk110.enters⟩))) (ndA (m := 112) nnA (ndA (m := 113) nnA (lfA ⟨lookRow_ok Krr113_3, fk113.enters⟩))))) nnA) (ndA (m := 140) nnA (ndA (m := 146) nnA (ndA (m := 149) nnA (ndA (m := 151) (ndA (m := 150) (lfA ⟨atoi_ok Tryz.strconv_Atoi, en149⟩) nnA) (ndA (m := 152) nnA (lfA ⟨lookRow_ok Krr152_2, fk152.enters⟩))))))) (ndA (m := 179) (ndA (m := 166) (ndA (m := 159) (ndA (m := 156) nnA (ndA (m := 157) nnA (ndA (m := 158) (lfA ⟨lookRow_ok Krr157_4, fk157.enters⟩) nnA))) (ndA (m := 162) (ndA (m := 160) nnA (ndA (m := 161) (lfA ⟨lookRow_ok Krr160_3, fk160.enters⟩) nnA)) (ndA (m := 164) nnA (ndA (m := 165) nnA (lfA ⟨lookRow_ok Krr165_3, fk165.enters⟩))))) (ndA (m := 172) nnA (ndA (m := 175) (ndA (m := 173) (lfA ⟨lookRow_ok Krr172_1, fk172.enters⟩) nnA) nnA))) nnA))) (ndA (m := 307) (ndA (m := 256) (ndA (m := 230) (ndA (m := 217) nnA (ndA (m := 223) (ndA (m := 220) (ndA (m := 218) (lfA ⟨lookRow_ok Krr217_1, fk217.enters⟩) nnA) nnA) nnA)) (ndA (m := 243) nnA (ndA (m := 249) (ndA (m := 246) nnA (ndA (m := 247) nnA (ndA (m := 248) nnA (lfA ⟨cmp_ok Tryz.strings_Compare, en248⟩)))) nnA))) nnA) (ndA (m := 358) (ndA (m := 332) nnA (ndA (m := 345) nnA (ndA (m := 351) nnA (ndA (m := 354) nnA (ndA (m := 356) nnA (ndA (m := 357) (lfA ⟨lookRow_ok Krr356_4, fk356.enters⟩) nnA)))))) nnA)))
theorem Ksound5 : Sound Tryz.prog Ktb5 := sound_of (tyOfAt rfl) Kprims5 fnAt (cloneAt Ktb5 (tyOfAt rfl))
theorem Krun5 : RunOk Tryz.prog (runFE Ktb5 glOf 5000) := runOk_of Ksound5 fnAt mixed glOf 5000
theorem Kw24 : RowOk Tryz.prog 6 Ka24 Kb24 := rowOk_frozen Krun5 Ke24
theorem Kw102 : RowOk Tryz.prog 6 Ka102 Kb102 := rowOk_frozen Krun5 Ke102
theorem Krr6_6 : ∀ x ∈ Kr6_6, RowOk Tryz.prog 6 x.1 x.2 := (all_cons Kw24 (all_cons Kw102 all_nil))
theorem Kw32 : RowOk Tryz.prog 69 Ka32 Kb32 := rowOk_frozen Krun5 Ke32
theorem Kw110 : RowOk Tryz.prog 69 Ka110 Kb110 := rowOk_frozen Krun5 Ke110
theorem Kw111 : RowOk Tryz.prog 69 Ka111 Kb111 := rowOk_frozen Krun5 Ke111
theorem Kw112 : RowOk Tryz.prog 69 Ka112 Kb112 := rowOk_frozen Krun5 Ke112
theorem Kw113 : RowOk Tryz.prog 69 Ka113 Kb113 := rowOk_frozen Krun5 Ke113
theorem Krr69_6 : ∀ x ∈ Kr69_6, RowOk Tryz.prog 69 x.1 x.2 := (all_cons Kw32 (all_cons Kw110 (all_cons Kw111 (all_cons Kw112 (all_cons Kw113 all_nil)))))
theorem Kw25 : RowOk Tryz.prog 120 Ka25 Kb25 := rowOk_frozen Krun5 Ke25
theorem Kw103 : RowOk Tryz.prog 120 Ka103 Kb103 := rowOk_frozen Krun5 Ke103
theorem Krr120_6 : ∀ x ∈ Kr120_6, RowOk Tryz.prog 120 x.1 x.2 := (all_cons Kw25 (all_cons Kw103 all_nil))
theorem Kprims6 (f : FuncId) (g : List PV → Option PV) (h : Kprim6 f = some g) : PrimOk Tryz.prog f g ∧ Go.Vm.Enters Tryz.prog f := by
  revert g
  unfold Kprim6
  exact topA (Q := QP) (ndA (m := 205) (ndA (m := 102) (ndA (m := 51) (ndA (m := 25) (ndA (m := 12) (ndA (m := 6) nnA (ndA (m := 9) (ndA (m := 7) (lfA ⟨lookRow_ok Krr6_6, fk6.enters⟩) nnA) nnA)) (ndA (m := 18) nnA (ndA (m := 21) nnA (ndA (m := 23) nnA (ndA (m := 24) nnA (lfA ⟨lookRow_ok Krr24_2, fk24.enters⟩)))))) nnA) (ndA (m := 76) (ndA (m := 63) nnA (ndA (m := 69) nnA (ndA (m := 72) (ndA (m := 70) (lfA ⟨lookRow_ok Krr69_6, fk69.enters⟩) nnA) nnA))) (ndA (m := 89) (ndA (m := 82) (ndA (m := 79) nnA (ndA (m := 80) nnA (ndA (m := 81) (lfA ⟨lookRow_ok Krr80_1, fk80.enters⟩) nnA))) (ndA (m := 85) nnA (ndA (m := 87) (ndA (m := 86) (lfA ⟨idx_ok Tryz.strings_IndexByte, en85⟩) nnA) nnA))) nnA))) (ndA (m := 153) (ndA (m := 127) (ndA (m := 114) (ndA (m := 108) (ndA (m := 105) nnA (ndA (m := 106) nnA (ndA (m := 107) (lfA ⟨lookRow_ok Krr106_5, fk106.enters⟩) nnA))) (ndA (m := 111) (ndA (m := 109) nnA (ndA (m := 110) nnA (lfA ⟨lookRow_ok Krr110_4, fk110.enters⟩))) (ndA (m := 112) nnA (ndA (m := 113) nnA (lfA ⟨lookRow_ok Krr113_3, fk113.enters⟩))))) (ndA (m := 120) nnA (ndA (m := 123) (ndA (m := 121) (lfA ⟨lookRow_ok Krr120_6, fk120.enters⟩) nnA) nnA))) (ndA (m := 140) nnA (ndA (m := 146) nnA (ndA (m := 149) nnA (ndA (m := 151) (ndA (m := 150) (lfA ⟨atoi_ok Tryz.strconv_Atoi, en149⟩) nnA) (ndA (m := 152) nnA (lfA ⟨lookRow_ok Krr152_2, fk152.enters⟩))))))) (ndA (m := 179) (ndA (m := 166) (ndA (m := 159) (ndA (m := 156) nnA (ndA (m := 157) nnA (ndA (m := 158) (lfA ⟨lookRow_ok Krr157_4, fk157.enters⟩) nnA))) (ndA (m := 162) (ndA (m := 160) nnA (ndA (m := 161) (lfA ⟨lookRow_ok Krr160_3, fk160.enters⟩) nnA)) (ndA (m := 164) nnA (ndA (m := 165) nnA (lfA ⟨lookRow_ok Krr165_3, fk165.enters⟩))))) (ndA (m := 172) nnA (ndA (m := 175) (ndA (m := 173) (lfA ⟨lookRow_ok Krr172_1, fk172.enters⟩) nnA) nnA))) nnA))) (ndA (m := 307) (ndA (m := 256) (ndA (m := 230) (ndA (m := 217) nnA (ndA (m := 223) (ndA (m := 220) (ndA (m := 218) (lfA ⟨lookRow_ok Krr217_1, fk217.enters⟩) nnA) nnA) nnA)) (ndA (m := 243) nnA (ndA (m := 249) (ndA (m := 246) nnA (ndA (m := 247) nnA (ndA (m := 248) nnA (lfA ⟨cmp_ok Tryz.strings_Compare, en248⟩)))) nnA))) nnA) (ndA (m := 358) (ndA (m := 332) nnA (ndA (m := 345) nnA (ndA (m := 351) nnA (ndA (m := 354) nnA (ndA (m := 356) nnA (ndA (m := 357) (lfA ⟨lookRow_ok Krr356_4, fk356.enters⟩) nnA)))))) nnA)))
theorem Ksound6 : Sound Tryz.prog Ktb6 := sound_of (tyOfAt rfl) Kprims6 fnAt (cloneAt Ktb6 (tyOfAt rfl))
theorem Krun6 : RunOk Tryz.prog (runFE Ktb6 glOf 5000) := runOk_of Ksound6 fnAt mixed glOf 5000
theorem Kw31 : RowOk Tryz.prog 68 Ka31 Kb31 := rowOk_frozen Krun6 Ke31
theorem Kw109 : RowOk Tryz.prog 68 Ka109 Kb109 := rowOk_frozen Krun6 Ke109
theorem Krr68_7 : ∀ x ∈ Kr68_7, RowOk Tryz.prog 68 x.1 x.2 := (all_cons Kw31 (all_cons Kw109 all_nil))
theorem Kprims7 (f : FuncId) (g : List PV → Option PV) (h : Kprim7 f = some g) : PrimOk Tryz.prog f g ∧ Go.Vm.Enters Tryz.prog f := by
  revert g
  unfold Kprim7
  exact topA (Q := QP) (ndA (m := 205) (ndA (m := 102) (ndA (m := 51) (ndA (m := 25) (ndA (m := 12) (ndA (m := 6) nnA (ndA (m := 9) (ndA (m := 7) (lfA ⟨lookRow_ok Krr6_6, fk6.enters⟩) nnA) nnA)) (ndA (m := 18) nnA (ndA (m := 21) nnA (ndA (m := 23) nnA (ndA (m := 24) nnA (lfA ⟨lookRow_ok Krr24_2, fk24.enters⟩)))))) nnA) (ndA (m := 76) (ndA (m := 63) nnA (ndA (m := 69) (ndA (m := 66) nnA (ndA (m := 67) nnA (ndA (m := 68) nnA (lfA ⟨lookRow_ok Krr68_7, fk68.enters⟩)))) (ndA (m := 72) (ndA (m := 70) (lfA ⟨lookRow_ok Krr69_6, fk69.enters⟩) nnA) nnA))) (ndA (m := 89) (ndA (m := 82) (ndA (m := 79) nnA (ndA (m := 80) nnA (ndA (m := 81) (lfA ⟨lookRow_ok Krr80_1, fk80.enters⟩) nnA))) (ndA (m := 85) nnA (ndA (m := 87) (ndA (m := 86) (lfA ⟨idx_ok Tryz.strings_IndexByte, en85⟩) nnA) nnA))) nnA))) (ndA (m := 153) (ndA (m := 127) (ndA (m := 114) (ndA (m := 108) (ndA (m := 105) nnA (ndA (m := 106) nnA (ndA (m := 107) (lfA ⟨lookRow_ok Krr106_5, fk106.enters⟩) nnA))) (ndA (m := 111) (ndA (m := 109) nnA (ndA (m := 110) nnA (lfA ⟨lookRow_ok Krr110_4, fk110.enters⟩))) (ndA (m := 112) nnA (ndA (m := 113) nnA (lfA ⟨lookRow_ok Krr113_3, fk113.enters⟩))))) (ndA (m := 120) nnA (ndA (m := 123) (ndA (m := 121) (lfA ⟨lookRow_ok Krr120_6, fk120.enters⟩) nnA) nnA))) (ndA (m := 140) nnA (ndA (m := 146) nnA (ndA (m := 149) nnA (ndA (m := 151) (ndA (m := 150) (lfA ⟨atoi_ok Tryz.strconv_Atoi, en149⟩) nnA) (ndA (m := 152) nnA (lfA ⟨lookRow_ok Krr152_2, fk152.enters⟩))))))) (ndA (m := 179) (ndA (m := 166) (ndA (m := 159) (ndA (m := 156) nnA (ndA (m := 157) nnA (ndA (m := 158) (lfA ⟨lookRow_ok Krr157_4, fk157.enters⟩) nnA))) (ndA (m := 162) (ndA (m := 160) nnA (ndA (m := 161) (lfA ⟨lookRow_ok Krr160_3, fk160.enters⟩) nnA)) (ndA (m := 164) nnA (ndA (m := 165) nnA (lfA ⟨lookRow_ok Krr165_3, fk165.enters⟩))))) (ndA (m := 172) nnA (ndA (m := 175) (ndA (m := 173) (lfA ⟨lookRow_ok Krr172_1, fk172.enters⟩) nnA) nnA))) nnA))) (ndA (m := 307) (ndA (m := 256) (ndA (m := 230) (ndA (m := 217) nnA (ndA (m := 223) (ndA (m := 220) (ndA (m := 218) (lfA ⟨lookRow_ok Krr217_1, fk217.enters⟩) nnA) nnA) nnA)) (ndA (m := 243) nnA (ndA (m := 249) (ndA (m := 246) nnA (ndA (m := 247) nnA (ndA (m := 248) nnA (lfA ⟨cmp_ok Tryz.strings_Compare, en248⟩)))) nnA))) nnA) (ndA (m := 358) (ndA (m := 332) nnA (ndA (m := 345) nnA (ndA (m := 351) nnA (ndA (m := 354) nnA (ndA (m := 356) nnA (ndA (m := 357) (lfA ⟨lookRow_ok Krr356_4, fk356.enters⟩) nnA)))))) nnA)))
theorem Ksound7 : Sound Tryz.prog Ktb7 := sound_of (tyOfAt rfl) Kprims7 fnAt (cloneAt Ktb7 (tyOfAt rfl))
theorem Krun7 : RunOk Tryz.prog (runFE Ktb7 glOf 5000) := runOk_of Ksound7 fnAt mixed glOf 5000
theorem Kw33 : RowOk Tryz.prog 36 Ka33 Kb33 := rowOk_frozen Krun7 Ke33
theorem Kw114 : RowOk Tryz.prog 36 Ka114 Kb114 := rowOk_frozen Krun7 Ke114
theorem Krr36_8 : ∀ x ∈ Kr36_8, RowOk Tryz.prog 36 x.1 x.2 := (all_cons Kw33 (all_cons Kw114 all_nil))
theorem Kprims8 (f : FuncId) (g : List PV → Option PV) (h : Kprim8 f = some g) : PrimOk Tryz.prog f g ∧ Go.Vm.Enters Tryz.prog f := by
  revert g
  unfold Kprim8
  exact topA (Q := QP) (ndA (m := 205) (ndA (m := 102) (ndA (m := 51) (ndA (m := 25) (ndA (m := 12) (ndA (m := 6) nnA (ndA (m := 9) (ndA (m := 7) (lfA ⟨lookRow_ok Krr6_6, fk6.enters⟩) nnA) nnA)) (ndA (m := 18) nnA (ndA (m := 21) nnA (ndA (m := 23) nnA (ndA (m := 24) nnA (lfA ⟨lookRow_ok Krr24_2, fk24.enters⟩)))))) (ndA (m := 38) (ndA (m := 31) nnA (ndA (m := 34) nnA (ndA (m := 36) nnA (ndA (m := 37) (lfA ⟨lookRow_ok Krr36_8, fk36.enters⟩) nnA)))) nnA)) (ndA (m := 76) (ndA (m := 63) nnA (ndA (m := 69) (ndA (m := 66) nnA (ndA (m := 67) nnA (ndA (m := 68) nnA (lfA ⟨lookRow_ok Krr68_7, fk68.enters⟩)))) (ndA (m := 72) (ndA (m := 70) (lfA ⟨lookRow_ok Krr69_6, fk69.enters⟩) nnA) nnA))) (ndA (m := 89) (ndA (m := 82) (ndA (m := 79) nnA (ndA (m := 80) nnA (ndA (m := 81) (lfA ⟨lookRow_ok Krr80_1, fk80.enters⟩) nnA))) (ndA (m := 85) nnA (ndA (m := 87) (ndA (m := 86) (lfA ⟨idx_ok Tryz.strings_IndexByte, en85⟩) nnA) nnA))) nnA))) (ndA (m := 153) (ndA (m := 127) (ndA (m := 114) (ndA (m := 108) (ndA (m := 105) nnA (ndA (m := 106) nnA (ndA (m := 107) (lfA ⟨lookRow_ok Krr106_5, fk106.enters⟩) nnA))) (ndA (m := 111) (ndA (m := 109) nnA (ndA (m := 110) nnA (lfA ⟨lookRow_ok Krr110_4, fk110.enters⟩))) (ndA (m := 112) nnA (ndA (m := 113) nnA (lfA ⟨lookRow_ok Krr113_3, fk113.enters⟩))))) (ndA (m := 120) nnA (ndA (m := 123) (ndA (m := 121) (lfA ⟨lookRow_ok Krr120_6, fk120.enters⟩) nnA) nnA))) (ndA (m := 140) nnA (ndA (m := 146) nnA (ndA (m := 149) nnA (ndA (m := 151) (ndA (m := 150) (lfA ⟨atoi_ok Tryz.strconv_Atoi, en149⟩) nnA) (ndA (m := 152) nnA (lfA ⟨lookRow_ok Krr152_2, fk152.enters⟩))))))) (ndA (m := 179) (ndA (m := 166) (ndA (m := 159) (ndA (m := 156) nnA (ndA (m := 157) nnA (ndA (m := 158) (lfA ⟨lookRow_ok Krr157_4, fk157.enters⟩) nnA))) (ndA (m := 162) (ndA (m := 160) nnA (ndA (m := 161) (lfA ⟨lookRow_ok Krr160_3, fk160.enters⟩) nnA)) (ndA (m := 164) nnA (ndA (m := 165) nnA (lfA ⟨lookRow_ok Krr165_3, fk165.enters⟩))))) (ndA (m := 172) nnA (ndA (m := 175) (ndA (m := 173) (lfA ⟨lookRow_ok Krr172_1, fk172.enters⟩) nnA) nnA))) nnA))) (ndA (m := 307) (ndA (m := 256) (ndA (m := 230) (ndA (m := 217) nnA (ndA (m := 223) (ndA (m := 220) (ndA (m := 218) (lfA ⟨lookRow_ok Krr217_1, fk217.enters⟩) nnA) nnA) nnA)) (ndA (m := 243) nnA (ndA (m := 249) (ndA (m := 246) nnA (ndA (m := 247) nnA (ndA (m := 248) nnA (lfA ⟨cmp_ok Tryz.strings_Compare, en248⟩)))) nnA))) nnA) (ndA (m := 358) (ndA (m := 332) nnA (ndA (m := 345) nnA (ndA (m := 351) nnA (ndA (m := 354) nnA (ndA (m := 356) nnA (ndA (m := 357) (lfA ⟨lookRow_ok Krr356_4, fk356.enters⟩) nnA)))))) nnA)))
theorem Ksound8 : Sound Tryz.prog Ktb8 := sound_of (tyOfAt rfl) Kprims8 fnAt (cloneAt Ktb8 (tyOfAt rfl))
theorem Krun8 : RunOk Tryz.prog (runFE Ktb8 glOf 5000) := runOk_of Ksound8 fnAt mixed glOf 5000
theorem Kw34 : RowOk Tryz.prog 20 Ka34 Kb34 := rowOk_frozen Krun8 Ke34
theorem Kw116 : RowOk Tryz.prog 20 Ka116 Kb116 := rowOk_frozen Krun8 Ke116
theorem Krr20_9 : ∀ x ∈ Kr20_9, RowOk Tryz.prog 20 x.1 x.2 := (all_cons Kw34 (all_cons Kw116 all_nil))
theorem Kw40 : RowOk Tryz.prog 409 Ka40 Kb40 := rowOk_frozen Krun8 Ke40
theorem Kw55 : RowOk Tryz.prog 409 Ka55 Kb55 := rowOk_frozen Krun8 Ke55
theorem Kw65 : RowOk Tryz.prog 409 Ka65 Kb65 := rowOk_frozen Krun8 Ke65
theorem Kw69 : RowOk Tryz.prog 409 Ka69 Kb69 := rowOk_frozen Krun8 Ke69
theorem Kw124 : RowOk Tryz.prog 409 Ka124 Kb124 := rowOk_frozen Krun8 Ke124
theorem Kw134 : RowOk Tryz.prog 409 Ka134 Kb134 := rowOk_frozen Krun8 Ke134
theorem Kw142 : RowOk Tryz.prog 409 Ka142 Kb142 := rowOk_frozen Krun8 Ke142
theorem Kw150 : RowOk Tryz.prog 409 Ka150 Kb150 := rowOk_frozen Krun8 Ke150
theorem Kw158 : RowOk Tryz.prog 409 Ka158 Kb158 := rowOk_frozen Krun8 Ke158
theorem Kw173 : RowOk Tryz.prog 409 Ka173 Kb173 := rowOk_frozen Krun8 Ke173
theorem Kw179 : RowOk Tryz.prog 409 Ka179 Kb179 := rowOk_frozen Krun8 Ke179
theorem Kw183 : RowOk Tryz.prog 409 Ka183 Kb183 := rowOk_frozen Krun8 Ke183
theorem Kw189 : RowOk Tryz.prog 409 Ka189 Kb189 := rowOk_frozen Krun8 Ke189
theorem Kw204 : RowOk Tryz.prog 409 Ka204 Kb204 := rowOk_frozen Krun8 Ke204
theorem Kw210 : RowOk Tryz.prog 409 Ka210 Kb210 := rowOk_frozen Krun8 Ke210
theorem Kw214 : RowOk Tryz.prog 409 Ka214 Kb214 := rowOk_frozen Krun8 Ke214
theorem Kw220 : RowOk Tryz.prog 409 Ka220 Kb220 := rowOk_frozen Krun8 Ke220
theorem Kw235 : RowOk Tryz.prog 409 Ka235 Kb235 := rowOk_frozen Krun8 Ke235
theorem Kw241 : RowOk Tryz.prog 409 Ka241 Kb241 := rowOk_frozen Krun8 Ke241
theorem Kw245 : RowOk Tryz.prog 409 Ka245 Kb245 := rowOk_frozen Krun8 Ke245
theorem Krr409_9 : ∀ x ∈ Kr409_9, RowOk Tryz.prog 409 x.1 x.2 := (all_cons Kw40 (all_cons Kw55 (all_cons Kw65 (all_cons Kw69 (all_cons Kw124 (all_cons Kw134 (all_cons Kw142 (all_cons Kw150 (all_cons Kw158 (all_cons Kw173 (all_cons Kw179 (all_cons Kw183 (all_cons Kw189 (all_cons Kw204 (all_cons Kw210 (all_cons Kw214 (all_cons Kw220 (all_cons Kw235 (all_cons Kw241 (all_cons Kw245 all_nil))))))))))))))))))))
theorem Kprims9 (f : FuncId) (g : List PV → Option PV) (h : Kprim9 f = some g) : PrimOk Tryz.prog f g ∧ Go.Vm.Enters Tryz.prog f := by
  revert g
  unfold Kprim9
  exact topA (Q := QP) (ndA (m := 205) (ndA (m := 102) (ndA (m := 51) (ndA (m := 25) (ndA (m := 12) (ndA (m := 6) nnA (ndA (m := 9) (ndA (m := 7) (lfA ⟨lookRow_ok Krr6_6, fk6.enters⟩) nnA) nnA)) (ndA (m := 18) nnA (ndA (m := 21) (ndA (m := 19) nnA (ndA (m := 20) nnA (lfA ⟨lookRow_ok Krr20_9, fk20.enters⟩))) (ndA (m := 23) nnA (ndA (m := 24) nnA (lfA ⟨lookRow_ok Krr24_2, fk24.enters⟩)))))) (ndA (m := 38) (ndA (m := 31) nnA (ndA (m := 34) nnA (ndA (m := 36) nnA (ndA (m := 37) (lfA ⟨lookRow_ok Krr36_8, fk36.enters⟩) nnA)))) nnA)) (ndA (m := 76) (ndA (m := 63) nnA (ndA (m := 69) (ndA (m := 66) nnA (ndA (m := 67) nnA (ndA (m := 68) nnA (lfA ⟨lookRow_ok Krr68_7, fk68.enters⟩)))) (ndA (m := 72) (ndA (m := 70) (lfA ⟨lookRow_ok Krr69_6, fk69.enters⟩) nnA) nnA))) (ndA (m := 89) (ndA (m := 82) (ndA (m := 79) nnA (ndA (m := 80) nnA (ndA (m := 81) (lfA ⟨lookRow_ok Krr80_1, fk80.enters⟩) nnA))) (ndA (m := 85) nnA (ndA (m := 87) (ndA (m := 86) (lfA ⟨idx_ok Tryz.strings_IndexByte, en85⟩) nnA) nnA))) nnA))) (ndA (m := 153) (ndA (m := 127) (ndA (m := 114) (ndA (m := 108) (ndA (m := 105) nnA (ndA (m := 106) nnA (ndA (m := 107) (lfA ⟨lookRow_ok Krr106_5, fk106.enters⟩) nnA))) (ndA (m := 111) (ndA (m := 109) nnA (ndA (m := 110) nnA (lfA ⟨lookRow_ok Krr110_4, fk110.enters⟩))) (ndA (m := 112) nnA (ndA (m := 113) nnA (lfA ⟨lookRow_ok Krr113_3, fk113.enters⟩))))) (ndA (m := 120) nnA (ndA (m := 123) (ndA (m := 121) (lfA ⟨lookRow_ok Krr120_6, fk120.enters⟩) nnA) nnA))) (ndA (m := 140) nnA (ndA (m := 146) nnA (ndA (m := 149) nnA (ndA (m := 151) (ndA (m := 150) (lfA ⟨atoi_ok Tryz.strconv_Atoi, en149⟩) nnA) (ndA (m := 152) nnA (lfA ⟨lookRow_ok Krr152_2, fk152.enters⟩))))))) (ndA (m := 179) (ndA (m := 166) (ndA (m := 159) (ndA (m := 156) nnA (ndA (m := 157) nnA (ndA (m := 158) (lfA ⟨lookRow_ok Krr157_4, fk157.enters⟩) nnA))) (ndA (m := 162) (ndA (m := 160) nnA (ndA (m := 161) (lfA ⟨lookRow_ok Krr160_3, fk160.enters⟩) nnA)) (ndA (m := 164) nnA (ndA (m := 165) nnA (lfA ⟨lookRow_ok Krr165_3, fk165.enters⟩))))) (ndA (m := 172) nnA (ndA (m := 175) (ndA (m := 173) (lfA ⟨lookRow_ok Krr172_1, fk172.enters⟩) nnA) nnA))) nnA))) (ndA (m := 307) (ndA (m := 256) (ndA (m := 230) (ndA (m := 217) nnA (ndA (m := 223) (ndA (m := 220) (ndA (m := 218) (lfA ⟨lookRow_ok Krr217_1, fk217.enters⟩) nnA) nnA) nnA)) (ndA (m := 243) nnA (ndA (m := 249) (ndA (m := 246) nnA (ndA (m := 247) nnA (ndA (m := 248) nnA (lfA ⟨cmp_ok Tryz.strings_Compare, en248⟩)))) nnA))) nnA) (ndA (m := 358) (ndA (m := 332) nnA (ndA (m := 345) nnA (ndA (m := 351) nnA (ndA (m := 354) nnA (ndA (m := 356) nnA (ndA (m := 357) (lfA ⟨lookRow_ok Krr356_4, fk356.enters⟩) nnA)))))) (ndA (m := 384) nnA (ndA (m := 397) nnA (ndA (m := 403) nnA (ndA (m := 406) nnA (ndA (m := 408) nnA (ndA (m := 409) nnA (lfA ⟨lookRow_ok Krr409_9, fk409.enters⟩))))))))))
theorem Ksound9 : Sound Tryz.prog Ktb9 := sound_of (tyOfAt rfl) Kprims9 fnAt (cloneAt Ktb9 (tyOfAt rfl))
theorem Krun9 : RunOk Tryz.prog (runFE Ktb9 glOf 5000) := runOk_of Ksound9 fnAt mixed glOf 5000
theorem Kw36 : RowOk Tryz.prog 28 Ka36 Kb36 := rowOk_frozen Krun9 Ke36
theorem Kw57 : RowOk Tryz.prog 28 Ka57 Kb57 := rowOk_frozen Krun9 Ke57
theorem Kw67 : RowOk Tryz.prog 28 Ka67 Kb67 := rowOk_frozen Krun9 Ke67
theorem Kw117 : RowOk Tryz.prog 28 Ka117 Kb117 := rowOk_frozen Krun9 Ke117
theorem Kw128 : RowOk Tryz.prog 28 Ka128 Kb128 := rowOk_frozen Krun9 Ke128
theorem Kw175 : RowOk Tryz.prog 28 Ka175 Kb175 := rowOk_frozen Krun9 Ke175
theorem Kw181 : RowOk Tryz.prog 28 Ka181 Kb181 := rowOk_frozen Krun9 Ke181
theorem Kw206 : RowOk Tryz.prog 28 Ka206 Kb206 := rowOk_frozen Krun9 Ke206
theorem Kw212 : RowOk Tryz.prog 28 Ka212 Kb212 := rowOk_frozen Krun9 Ke212
theorem Kw237 : RowOk Tryz.prog 28 Ka237 Kb237 := rowOk_frozen Krun9 Ke237
theorem Kw243 : RowOk Tryz.prog 28 Ka243 Kb243 := rowOk_frozen Krun9 Ke243
theorem Krr28_10 : ∀ x ∈ Kr28_10, RowOk Tryz.prog 28 x.1 x.2 := (all_cons Kw36 (all_cons Kw57 (all_cons Kw67 (all_cons Kw117 (all_cons Kw128 (all_cons Kw175 (all_cons Kw181 (all_cons Kw206 (all_cons Kw212 (all_cons Kw237 (all_cons Kw243 all_nil)))))))))))
theorem Kprims10 (f : FuncId) (g : List PV → Option PV) (h : Kprim10 f = some g) : PrimOk Tryz.prog f g ∧ Go.Vm.Enters Tryz.prog f := by
  revert g
  unfold Kprim10
  exact topA (Q := QP) (ndA (m := 205) (ndA (m := 102) (ndA (m := 51) (ndA (m := 25) (ndA (m := 12) (ndA (m := 6) nnA (ndA (m := 9) (ndA (m := 7) (lfA ⟨lookRow_ok Krr6_6, fk6.enters⟩) nnA) nnA)) (ndA (m := 18) nnA (ndA (m := 21) (ndA (m := 19) nnA (ndA (m := 20) nnA (lfA ⟨lookRow_ok Krr20_9, fk20.enters⟩))) (ndA (m := 23) nnA (ndA (m := 24) nnA (lfA ⟨lookRow_ok Krr24_2, fk24.enters⟩)))))) (ndA (m := 38) (ndA (m := 31) (ndA (m := 28) nnA (ndA (m := 29) (lfA ⟨lookRow_ok Krr28_10, fk28.enters⟩) nnA)) (ndA (m := 34) nnA (ndA (m := 36) nnA (ndA (m := 37) (lfA ⟨lookRow_ok Krr36_8, fk36.enters⟩) nnA)))) nnA)) (ndA (m := 76) (ndA (m := 63) nnA (ndA (m := 69) (ndA (m := 66) nnA (ndA (m := 67) nnA (ndA (m := 68) nnA (lfA ⟨lookRow_ok Krr68_7, fk68.enters⟩)))) (ndA (m := 72) (ndA (m := 70) (lfA ⟨lookRow_ok Krr69_6, fk69.enters⟩) nnA) nnA))) (ndA (m := 89) (ndA (m := 82) (ndA (m := 79) nnA (ndA (m := 80) nnA (ndA (m := 81) (lfA ⟨lookRow_ok Krr80_1, fk80.enters⟩) nnA))) (ndA (m := 85) nnA (ndA (m := 87) (ndA (m := 86) (lfA ⟨idx_ok Tryz.strings_IndexByte, en85⟩) nnA) nnA))) nnA))) (ndA (m := 153) (ndA (m := 127) (ndA (m := 114) (ndA (m := 108) (ndA (m := 105) nnA (ndA (m := 106) nnA (ndA (m := 107) (lfA ⟨lookRow_ok Krr106_5, fk106.enters⟩) nnA))) (ndA (m := 111) (ndA (m := 109) nnA (ndA (m := 110) nnA (lfA ⟨lookRow_ok Krr110_4, fk110.enters⟩))) (ndA (m := 112) nnA (ndA (m := 113) nnA (lfA ⟨lookRow_ok Krr113_3, fk113.enters⟩))))) (ndA (m := 120) nnA (ndA (m := 123) (ndA (m := 121) (lfA ⟨lookRow_ok Krr120_6, fk120.enters⟩) nnA) nnA))) (ndA (m := 140) nnA (ndA (m := 146) nnA (ndA (m := 149) nnA (ndA (m := 151) (ndA (m := 150) (lfA ⟨atoi_ok Tryz.strconv_Atoi, en149⟩) nnA) (ndA (m := 152) nnA (lfA ⟨lookRow_ok Krr152_2, fk152.enters⟩))))))) (ndA (m := 179) (ndA (m := 166) (ndA (m := 159) (ndA (m := 156) nnA (ndA (m := 157) nnA (ndA (m := 158) (lfA ⟨lookRow_ok Krr157_4, fk157.enters⟩) nnA))) (ndA (m := 162) (ndA (m := 160) nnA (ndA (m := 161) (lfA ⟨lookRow_ok Krr160_3, fk160.enters⟩) nnA)) (ndA (m := 164) nnA (ndA (m := 165) nnA (lfA ⟨lookRow_ok Krr165_3, fk165.enters⟩))))) (ndA (m := 172) nnA (ndA (m := 175) (ndA (m := 173) (lfA ⟨lookRow_ok Krr172_1, fk172.enters⟩) nnA) nnA))) nnA))) (ndA (m := 307) (ndA (m := 256) (ndA (m := 230) (ndA (m := 217) nnA (ndA (m := 223) (ndA (m := 220) (ndA (m := 218) (lfA ⟨lookRow_ok Krr217_1, fk217.enters⟩) nnA) nnA) nnA)) (ndA (m := 243) nnA (ndA (m := 249) (ndA (m := 246) nnA (ndA (m := 247) nnA (ndA (m := 248) nnA (lfA ⟨cmp_ok Tryz.strings_Compare, en248⟩)))) nnA))) nnA) (ndA (m := 358) (ndA (m := 332) nnA (ndA (m := 345) nnA (ndA (m := 351) nnA (ndA (m := 354) nnA (ndA (m := 356) nnA (ndA (m := 357) (lfA ⟨lookRow_ok Krr356_4, fk356.enters⟩) nnA)))))) (ndA (m := 384) nnA (ndA (m := 397) nnA (ndA (m := 403) nnA (ndA (m := 406) nnA (ndA (m := 408) nnA (ndA (m := 409) nnA (lfA ⟨lookRow_ok Krr409_9, fk409.enters⟩))))))))))
theorem Ksound10 : Sound Tryz.prog Ktb10 := sound_of (tyOfAt rfl) Kprims10 fnAt (cloneAt Ktb10 (tyOfAt rfl))
theorem Krun10 : RunOk Tryz.prog (runFE Ktb10 glOf 5000) := runOk_of Ksound10 fnAt mixed glOf 5000
theorem Kw56 : RowOk Tryz.prog 7 Ka56 Kb56 := rowOk_frozen Krun10 Ke56
theorem Kw66 : RowOk Tryz.prog 7 Ka66 Kb66 := rowOk_frozen Krun10 Ke66
theorem Kw70 : RowOk Tryz.prog 7 Ka70 Kb70 := rowOk_frozen Krun10 Ke70
theorem Kw127 : RowOk Tryz.prog 7 Ka127 Kb127 := rowOk_frozen Krun10 Ke127
theorem Kw151 : RowOk Tryz.prog 7 Ka151 Kb151 := rowOk_frozen Krun10 Ke151
theorem Kw152 : RowOk Tryz.prog 7 Ka152 Kb152 := rowOk_frozen Krun10 Ke152
theorem Kw174 : RowOk Tryz.prog 7 Ka174 Kb174 := rowOk_frozen Krun10 Ke174
theorem Kw180 : RowOk Tryz.prog 7 Ka180 Kb180 := rowOk_frozen Krun10 Ke180
theorem Kw184 : RowOk Tryz.prog 7 Ka184 Kb184 := rowOk_frozen Krun10 Ke184
theorem Kw205 : RowOk Tryz.prog 7 Ka205 Kb205 := rowOk_frozen Krun10 Ke205
theorem Kw211 : RowOk Tryz.prog 7 Ka211 Kb211 := rowOk_frozen Krun10 Ke211
theorem Kw215 : RowOk Tryz.prog 7 Ka215 Kb215 := rowOk_frozen Krun10 Ke215
theorem Kw236 : RowOk Tryz.prog 7 Ka236 Kb236 := rowOk_frozen Krun10 Ke236
theorem Kw242 : RowOk Tryz.prog 7 Ka242 Kb242 := rowOk_frozen Krun10 Ke242
theorem Kw246 : RowOk Tryz.prog 7 Ka246 Kb246 := rowOk_frozen Krun10 Ke246
theorem Krr7_11 : ∀ x ∈ Kr7_11, RowOk Tryz.prog 7 x.1 x.2 := (all_cons Kw56 (all_cons Kw66 (all_cons Kw70 (all_cons Kw127 (all_cons Kw151 (all_cons Kw152 (all_cons Kw174 (all_cons Kw180 (all_cons Kw184 (all_cons Kw205 (all_cons Kw211 (all_cons Kw215 (all_cons Kw236 (all_cons Kw242 (all_cons Kw246 all_nil)))))))))))))))
theorem Kprims11 (f : FuncId) (g : List PV → Option PV) (h : Kprim11 f = some g) : PrimOk Tryz.prog f g ∧ Go.Vm.Enters Tryz.prog f := by
  revert g
  unfold Kprim11
  exact topA (Q := QP) (ndA (m := 205) (ndA (m := 102) (ndA (m := 51) (ndA (m := 25) (ndA (m := 12) (ndA (m := 6) nnA (ndA (m := 9) (ndA (m := 7) (lfA ⟨lookRow_ok Krr6_6, fk6.enters⟩) (ndA (m := 8) (lfA ⟨lookRow_ok Krr7_11, fk7.enters⟩) nnA)) nnA)) (ndA (m := 18) nnA (ndA (m := 21) (ndA (m := 19) nnA (ndA (m := 20) nnA (lfA ⟨lookRow_ok Krr20_9, fk20.enters⟩))) (ndA (m := 23) nnA (ndA (m := 24) nnA (lfA ⟨lookRow_ok Krr24_2, fk24.enters⟩)))))) (ndA (m := 38) (ndA (m := 31) (ndA (m := 28) nnA (ndA (m := 29) (lfA ⟨lookRow_ok Krr28_10, fk28.enters⟩) nnA)) (ndA (m := 34) nnA (ndA (m := 36) nnA (ndA (m := 37) (lfA ⟨lookRow_ok Krr36_8, fk36.enters⟩) nnA)))) nnA)) (ndA (m := 76) (ndA (m := 63) nnA (ndA (m := 69) (ndA (m := 66) nnA (ndA (m := 67) nnA (ndA (m := 68) nnA (lfA ⟨lookRow_ok Krr68_7, fk68.enters⟩)))) (ndA (m := 72) (ndA (m := 70) (lfA ⟨lookRow_ok Krr69_6, fk69.enters⟩) nnA) nnA))) (ndA (m := 89) (ndA (m := 82) (ndA (m := 79) nnA (ndA (m := 80) nnA (ndA (m := 81) (lfA ⟨lookRow_ok Krr80_1, fk80.enters⟩) nnA))) (ndA (m := 85) nnA (ndA (m := 87) (ndA (m := 86) (lfA ⟨idx_ok Tryz.strings_IndexByte, en85⟩) nnA) nnA))) nnA))) (ndA (m := 153) (ndA (m := 127) (ndA (m := 114) (ndA (m := 108) (ndA (m := 105) nnA (ndA (m := 106) nnA (ndA (m := 107) (lfA ⟨lookRow_ok Krr106_5, fk106.enters⟩) nnA))) (ndA (m := 111) (ndA (m := 109) nnA (ndA (m := 110) nnA (lfA ⟨lookRow_ok Krr110_4, fk110.enters⟩))) (ndA (m := 112) nnA (ndA (m := 113) nnA (lfA ⟨lookRow_ok Krr113_3, fk113.enters⟩))))) (ndA (m := 120) nnA (ndA (m := 123) (ndA (m := 121) (lfA ⟨lookRow_ok Krr120_6, fk120.enters⟩) nnA) nnA))) (ndA (m := 140) nnA (ndA (m := 146) nnA (ndA (m := 149) nnA (ndA (m := 151) (ndA (m := 150) (lfA ⟨atoi_ok Tryz.strconv_Atoi, en149⟩) nnA) (ndA (m := 152) nnA (lfA ⟨lookRow_ok Krr152_2, fk152.enters⟩))))))) (ndA (m := 179) (ndA (m := 166) (ndA (m := 159) (ndA (m := 156) nnA (ndA (m := 157) nnA (ndA (m := 158) (lfA ⟨lookRow_ok Krr157_4, fk157.enters⟩) nnA))) (ndA (m := 162) (ndA (m := 160) nnA (ndA (m := 161) (lfA ⟨lookRow_ok Krr160_3, fk160.enters⟩) nnA)) (ndA (m := 164) nnA (ndA (m := 165) nnA (lfA ⟨lookRow_ok Krr165_3, fk165.enters⟩))))) (ndA (m := 172) nnA (ndA (m := 175) (ndA (m := 173) (lfA ⟨lookRow_ok Krr172_1, fk172.enters⟩) nnA) nnA))) nnA))) (ndA (m := 307) (ndA (m := 256) (ndA (m := 230) (ndA (m := 217) nnA (ndA (m := 223) (ndA (m := 220) (ndA (m := 218) (lfA ⟨lookRow_ok Krr217_1, fk217.enters⟩) nnA) nnA) nnA)) (ndA (m := 243) nnA (ndA (m := 249) (ndA (m := 246) nnA (ndA (m := 247) nnA (ndA (m := 248) nnA (lfA ⟨cmp_ok Tryz.strings_Compare, en248⟩)))) nnA))) nnA) (ndA (m := 358) (ndA (m := 332) nnA (ndA (m := 345) nnA (ndA (m := 351) nnA (ndA (m := 354) nnA (ndA (m := 356) nnA (ndA (m := 357) (lfA ⟨lookRow_ok Krr356_4, fk356.enters⟩) nnA)))))) (ndA (m := 384) nnA (ndA (m := 397) nnA (ndA (m := 403) nnA (ndA (m := 406) nnA (ndA (m := 408) nnA (ndA (m := 409) nnA (lfA ⟨lookRow_ok Krr409_9, fk409.enters⟩))))))))))
theorem Ksound11 : Sound Tryz.prog Ktb11 := sound_of (tyOfAt rfl) Kprims11 fnAt (cloneAt Ktb11 (tyOfAt rfl))
theorem Krun11 : RunOk Tryz.prog (runFE Ktb11 glOf 5000) := runOk_of Ksound11 fnAt mixed glOf 5000
theorem Kw153 : RowOk Tryz.prog 9 Ka153 Kb153 := rowOk_frozen Krun11 Ke153
theorem Krr9_12 : ∀ x ∈ Kr9_12, RowOk Tryz.prog 9 x.1 x.2 := (all_cons Kw153 all_nil)
theorem Kprims12 (f : FuncId) (g : List PV → Option PV) (h : Kprim12 f = some g) : PrimOk Tryz.prog f g ∧ Go.Vm.Enters Tryz.prog f := by
  revert g
  unfold Kprim12
  exact topA (Q := QP) (ndA (m := 205) (ndA (m := 102) (ndA (m := 51) (ndA (m := 25) (ndA (m := 12) (ndA (m := 6) nnA (ndA (m := 9) (ndA (m := 7) (lfA ⟨lookRow_ok Krr6_6, fk6.enters⟩) (ndA (m := 8) (lfA ⟨lookRow_ok Krr7_11, fk7.enters⟩) nnA)) (ndA (m := 10) (lfA ⟨lookRow_ok Krr9_12, fk9.enters⟩) nnA))) (ndA (m := 18) nnA (ndA (m := 21) (ndA (m := 19) nnA (ndA (m := 20) nnA (lfA ⟨lookRow_ok Krr20_9, fk20.enters⟩))) (ndA (m := 23) nnA (ndA (m := 24) nnA (lfA ⟨lookRow_ok Krr24_2, fk24.enters⟩)))))) (ndA (m := 38) (ndA (m := 31) (ndA (m := 28) nnA (ndA (m := 29) (lfA ⟨lookRow_ok Krr28_10, fk28.enters⟩) nnA)) (ndA (m := 34) nnA (ndA (m := 36) nnA (ndA (m := 37) (lfA ⟨lookRow_ok Krr36_8, fk36.enters⟩) nnA)))) nnA)) (ndA (m := 76) (ndA (m := 63) nnA (ndA (m := 69) (ndA (m := 66) nnA (ndA (m := 67) nnA (ndA (m := 68) nnA (lfA ⟨lookRow_ok Krr68_7, fk68.enters⟩)))) (ndA (m := 72) (ndA (m := 70) (lfA ⟨lookRow_ok Krr69_6, fk69.enters⟩) nnA) nnA))) (ndA (m := 89) (ndA (m := 82) (ndA (m := 79) nnA (ndA (m := 80) nnA (ndA (m := 81) (lfA ⟨lookRow_ok Krr80_1, fk80.enters⟩) nnA))) (ndA (m := 85) nnA (ndA (m := 87) (ndA (m := 86) (lfA ⟨idx_ok Tryz.strings_IndexByte, en85⟩) nnA) nnA))) nnA))) (ndA (m := 153) (ndA (m := 127) (ndA (m := 114) (ndA (m := 108) (ndA (m := 105) nnA (ndA (m := 106) nnA (ndA (m := 107) (lfA ⟨lookRow_ok Krr106_5, fk106.enters⟩) nnA))) (ndA (m := 111) (ndA (m := 109) nnA (ndA (m := 110) nnA (lfA ⟨lookRow_ok Krr110_4, fk110.enters⟩))) (ndA (m := 112) nnA (ndA (m := 113) nnA (lfA ⟨lookRow_ok Krr113_3, fk113.enters⟩))))) (ndA (m := 120) nnA (ndA (m := 123) (ndA (m := 121) (lfA ⟨lookRow_ok Krr120_6, fk120.enters⟩) nnA) nnA))) (ndA (m := 140) nnA (ndA (m := 146) nnA (ndA (m := 149) nnA (ndA (m := 151) (ndA (m := 150) (lfA ⟨atoi_ok Tryz.strconv_Atoi, en149⟩) nnA) (ndA (m := 152) nnA (lfA ⟨lookRow_ok Krr152_2, fk152.enters⟩))))))) (ndA (m := 179) (ndA (m := 166) (ndA (m := 159) (ndA (m := 156) nnA (ndA (m := 157) nnA (ndA (m := 158) (lfA ⟨lookRow_ok Krr157_4, fk157.enters⟩) nnA))) (ndA (m := 162) (ndA (m := 160) nnA (ndA (m := 161) (lfA ⟨lookRow_ok Krr160_3, fk160.enters⟩) nnA)) (ndA (m := 164) nnA (ndA (m := 165) nnA (lfA ⟨lookRow_ok Krr165_3, fk165.enters⟩))))) (ndA (m := 172) nnA (ndA (m := 175) (ndA (m := 173) (lfA ⟨lookRow_ok Krr172_1, fk172.enters⟩) nnA) nnA))) nnA))) (ndA (m := 307) (ndA (m := 256) (ndA (m := 230) (ndA (m := 217) nnA (ndA (m := 223) (ndA (m := 220) (ndA (m := 218) (lfA ⟨lookRow_ok Krr217_1, fk217.enters⟩) nnA) nnA) nnA)) (ndA (m := 243) nnA (ndA (m := 249) (ndA (m := 246) nnA (ndA (m := 247) nnA (ndA (m := 248) nnA (lfA ⟨cmp_ok Tryz.strings_Compare, en248⟩)))) nnA))) nnA) (ndA (m := 358) (ndA (m := 332) nnA (ndA (m := 345) nnA (ndA (m := 351) nnA (ndA (m := 354) nnA (ndA (m := 356) nnA (ndA (m := 357) (lfA ⟨lookRow_ok Krr356_4, fk356.enters⟩) nnA)))))) (ndA (m := 384) nnA (ndA (m := 397) nnA (ndA (m := 403) nnA (ndA (m := 406) nnA (ndA (m := 408) nnA (ndA (m := 409) nnA (lfA ⟨lookRow_ok Krr409_9, fk409.enters⟩))))))))))
theorem Ksound12 : Sound Tryz.prog Ktb12 := sound_of (tyOfAt rfl) Kprims12 fnAt (cloneAt Ktb12 (tyOfAt rfl))
theorem Krun12 : RunOk Tryz.prog (runFE Ktb12 glOf 5000) := runOk_of Ksound12 fnAt mixed glOf 5000
end Go.Proofs.YtbkokdopdcegkaaGreatDoor
