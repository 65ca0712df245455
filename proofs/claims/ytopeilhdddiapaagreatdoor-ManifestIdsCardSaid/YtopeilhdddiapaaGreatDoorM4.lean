/- Part 4 of the proof: Lay4, Mn0, Msm, ExcL, Sl2, St, Ty, Con, Mg2, Mg3, Mg4, Mg5, Mg6, Mg7, Mg8, Mg9. -/
import Derived.Shelf.Strconv.Atoi
import Derived.Shelf.Strconv.Itoa3
import Derived.Shelf.Strings.Count
import Derived.Shelf.Strings.OnBuilder
import Derived.Shelf.Strings.Search2
import Derived.Shelf.Strings.SlTrimAscii
import Derived.Test.YtopeilhdddiapaaGreatDoorProg
import Derived.Lib.Atoi
import Derived.Lib.ItoaNum
import Derived.Lib.Bytealg
import Derived.Lib.AtoiErrMem
import Derived.Lib.Join
import Derived.Test.YtopeilhdddiapaaGreatDoorM3
open Nat renaming reduceAdd → zrA, reduceSub → zrS, reduceMul → zrM, reduceLT → zrL, reduceEqDiff → zrE, reduceLeDiff → zrD, reduceShiftRight → zrR, reduceMod → zrO
open Int renaming reduceLE → ziE, reduceLT → ziL, reduceToNat → ziN
section
/- The layings of Lays.n160, Lays.n219, Lays.n138, Lays.n172, LaysM.n171, Lays.n171, Lays.n156, in plain words (made by the library's command). -/
namespace Go.Proofs
open Go.Shelf
def Tryz.llays160_ren : Go.Shelf.Ren := ⟨fun | 160 => 29 | 232 => 49 | 231 => 48 | 227 => 50 | 234 => 52 | 233 => 51 | 236 => 54 | 235 => 53 | 228 => 80 | 271 => 83 | 151 => 82 | 197 => 81 | 120 => 123 | 152 => 122 | 260 => 121 | 137 => 140 | 119 => 141 | 224 => 78 | 225 => 77 | 217 => 76 | 266 => 119 | n => n, fun | 9 => 9 | 4 => 4 | 3 => 3 | 5 => 5 | 117 => 79 | 116 => 78 | 0 => 0 | 124 => 82 | 21 => 21 | 105 => 102 | 46 => 94 | 119 => 157 | 139 => 160 | 138 => 159 | n => n, fun | 3 => 4 | 4 => 5 | n => n⟩
theorem Tryz.llays160 : Go.Proofs.Lays.n160 Tryz.prog Tryz.llays160_ren := {
  mixed := by kernel_rfl,
  f119 := Tryz.func141.trans (congrArg some (by kernel_rfl)),
  f120 := Tryz.func123.trans (congrArg some (by kernel_rfl)),
  f137 := Tryz.func140.trans (congrArg some (by kernel_rfl)),
  f151 := Tryz.func82.trans (congrArg some (by kernel_rfl)),
  f152 := Tryz.func122.trans (congrArg some (by kernel_rfl)),
  f160 := Tryz.func29.trans (congrArg some (by kernel_rfl)),
  f197 := Tryz.func81.trans (congrArg some (by kernel_rfl)),
  f217 := Tryz.func76.trans (congrArg some (by kernel_rfl)),
  f224 := Tryz.func78.trans (congrArg some (by kernel_rfl)),
  f225 := Tryz.func77.trans (congrArg some (by kernel_rfl)),
  f227 := Tryz.func50.trans (congrArg some (by kernel_rfl)),
  f228 := Tryz.func80.trans (congrArg some (by kernel_rfl)),
  f231 := Tryz.func48.trans (congrArg some (by kernel_rfl)),
  f232 := Tryz.func49.trans (congrArg some (by kernel_rfl)),
  f233 := Tryz.func51.trans (congrArg some (by kernel_rfl)),
  f234 := Tryz.func52.trans (congrArg some (by kernel_rfl)),
  f235 := Tryz.func53.trans (congrArg some (by kernel_rfl)),
  f236 := Tryz.func54.trans (congrArg some (by kernel_rfl)),
  f260 := Tryz.func121.trans (congrArg some (by kernel_rfl)),
  f266 := Tryz.func119.trans (congrArg some (by kernel_rfl)),
  f271 := Tryz.func83.trans (congrArg some (by kernel_rfl)),
  t0 := Tryz.underlying0,
  a0 := Tryz.isAgg0,
  z0 := Tryz.sizeOf0,
  v0 := Tryz.zeroValue0,
  t3 := Tryz.underlying3,
  a3 := Tryz.isAgg3,
  z3 := Tryz.sizeOf3,
  v3 := Tryz.zeroValue3,
  t4 := Tryz.underlying4,
  a4 := Tryz.isAgg4,
  z4 := Tryz.sizeOf4,
  v4 := Tryz.zeroValue4,
  t5 := Tryz.underlying5,
  a5 := Tryz.isAgg5,
  z5 := Tryz.sizeOf5,
  v5 := Tryz.zeroValue5,
  t9 := Tryz.underlying9,
  a9 := Tryz.isAgg9,
  z9 := Tryz.sizeOf9,
  v9 := Tryz.zeroValue9,
  t21 := Tryz.underlying21,
  a21 := Tryz.isAgg21,
  z21 := Tryz.sizeOf21,
  v21 := Tryz.zeroValue21,
  t46 := Tryz.underlying94,
  a46 := Tryz.isAgg94,
  z46 := Tryz.sizeOf94,
  v46 := Tryz.zeroValue94,
  t105 := Tryz.underlying102,
  a105 := Tryz.isAgg102,
  z105 := Tryz.sizeOf102,
  v105 := Tryz.zeroValue102,
  t116 := Tryz.underlying78,
  a116 := Tryz.isAgg78,
  z116 := Tryz.sizeOf78,
  t117 := Tryz.underlying79,
  a117 := Tryz.isAgg79,
  z117 := Tryz.sizeOf79,
  v117 := Tryz.zeroValue79,
  t119 := Tryz.underlying157,
  a119 := Tryz.isAgg157,
  z119 := Tryz.sizeOf157,
  t124 := Tryz.underlying82,
  a124 := Tryz.isAgg82,
  z124 := Tryz.sizeOf82,
  v124 := Tryz.zeroValue82,
  t138 := Tryz.underlying159,
  a138 := Tryz.isAgg159,
  z138 := Tryz.sizeOf159,
  v138 := Tryz.zeroValue159,
  t139 := Tryz.underlying160,
  a139 := Tryz.isAgg160,
  z139 := Tryz.sizeOf160,
  v139 := Tryz.zeroValue160,
  g3 := by kernel_rfl,
  g4 := by kernel_rfl }
def Tryz.llays219_ren : Go.Shelf.Ren := ⟨fun | 219 => 47 | 217 => 76 | 225 => 77 | 224 => 78 | 267 => 79 | 266 => 119 | 314 => 120 | n => n, fun | 9 => 9 | 3 => 3 | 4 => 4 | 5 => 5 | 46 => 94 | 146 => 137 | 51 => 130 | n => n, fun | 1 => 0 | n => n⟩
theorem Tryz.llays219 : Go.Proofs.Lays.n219 Tryz.prog Tryz.llays219_ren := {
  mixed := by kernel_rfl,
  f217 := Tryz.func76.trans (congrArg some (by kernel_rfl)),
  f219 := Tryz.func47.trans (congrArg some (by kernel_rfl)),
  f224 := Tryz.func78.trans (congrArg some (by kernel_rfl)),
  f225 := Tryz.func77.trans (congrArg some (by kernel_rfl)),
  f266 := Tryz.func119.trans (congrArg some (by kernel_rfl)),
  f267 := Tryz.func79.trans (congrArg some (by kernel_rfl)),
  f314 := Tryz.func120.trans (congrArg some (by kernel_rfl)),
  t3 := Tryz.underlying3,
  a3 := Tryz.isAgg3,
  z3 := Tryz.sizeOf3,
  v3 := Tryz.zeroValue3,
  t4 := Tryz.underlying4,
  a4 := Tryz.isAgg4,
  z4 := Tryz.sizeOf4,
  v4 := Tryz.zeroValue4,
  t5 := Tryz.underlying5,
  a5 := Tryz.isAgg5,
  z5 := Tryz.sizeOf5,
  v5 := Tryz.zeroValue5,
  t9 := Tryz.underlying9,
  a9 := Tryz.isAgg9,
  z9 := Tryz.sizeOf9,
  v9 := Tryz.zeroValue9,
  t46 := Tryz.underlying94,
  a46 := Tryz.isAgg94,
  z46 := Tryz.sizeOf94,
  v46 := Tryz.zeroValue94,
  t51 := Tryz.underlying130,
  a51 := Tryz.isAgg130,
  z51 := Tryz.sizeOf130,
  v51 := Tryz.zeroValue130,
  t146 := Tryz.underlying137,
  a146 := Tryz.isAgg137,
  z146 := Tryz.sizeOf137,
  v146 := Tryz.zeroValue137,
  g1 := by kernel_rfl }
def Tryz.llays138_ren : Go.Shelf.Ren := ⟨fun | 138 => 61 | 195 => 95 | 218 => 96 | 143 => 62 | 219 => 47 | 217 => 76 | 225 => 77 | 224 => 78 | 267 => 79 | 266 => 119 | 314 => 120 | n => n, fun | 9 => 9 | 3 => 3 | 4 => 4 | 5 => 5 | 0 => 0 | 46 => 94 | 146 => 137 | 51 => 130 | n => n, fun | 1 => 0 | n => n⟩
theorem Tryz.llays138 : Go.Proofs.Lays.n138 Tryz.prog Tryz.llays138_ren := {
  mixed := by kernel_rfl,
  f138 := Tryz.func61.trans (congrArg some (by kernel_rfl)),
  f143 := Tryz.func62.trans (congrArg some (by kernel_rfl)),
  f195 := Tryz.func95.trans (congrArg some (by kernel_rfl)),
  f217 := Tryz.func76.trans (congrArg some (by kernel_rfl)),
  f218 := Tryz.func96.trans (congrArg some (by kernel_rfl)),
  f219 := Tryz.func47.trans (congrArg some (by kernel_rfl)),
  f224 := Tryz.func78.trans (congrArg some (by kernel_rfl)),
  f225 := Tryz.func77.trans (congrArg some (by kernel_rfl)),
  f266 := Tryz.func119.trans (congrArg some (by kernel_rfl)),
  f267 := Tryz.func79.trans (congrArg some (by kernel_rfl)),
  f314 := Tryz.func120.trans (congrArg some (by kernel_rfl)),
  t0 := Tryz.underlying0,
  a0 := Tryz.isAgg0,
  z0 := Tryz.sizeOf0,
  v0 := Tryz.zeroValue0,
  t3 := Tryz.underlying3,
  a3 := Tryz.isAgg3,
  z3 := Tryz.sizeOf3,
  v3 := Tryz.zeroValue3,
  t4 := Tryz.underlying4,
  a4 := Tryz.isAgg4,
  z4 := Tryz.sizeOf4,
  v4 := Tryz.zeroValue4,
  t5 := Tryz.underlying5,
  a5 := Tryz.isAgg5,
  z5 := Tryz.sizeOf5,
  v5 := Tryz.zeroValue5,
  t9 := Tryz.underlying9,
  a9 := Tryz.isAgg9,
  z9 := Tryz.sizeOf9,
  v9 := Tryz.zeroValue9,
  t46 := Tryz.underlying94,
  a46 := Tryz.isAgg94,
  z46 := Tryz.sizeOf94,
  v46 := Tryz.zeroValue94,
  t51 := Tryz.underlying130,
  a51 := Tryz.isAgg130,
  z51 := Tryz.sizeOf130,
  v51 := Tryz.zeroValue130,
  t146 := Tryz.underlying137,
  a146 := Tryz.isAgg137,
  z146 := Tryz.sizeOf137,
  v146 := Tryz.zeroValue137,
  g1 := by kernel_rfl }
def Tryz.llays172_ren : Go.Shelf.Ren := ⟨fun | 172 => 30 | 244 => 55 | 245 => 56 | 247 => 84 | 279 => 85 | 280 => 86 | 281 => 87 | 282 => 88 | 287 => 124 | 316 => 125 | 171 => 22 | 205 => 126 | 321 => 142 | 322 => 143 | 243 => 31 | 246 => 57 | 283 => 89 | 284 => 90 | 285 => 91 | 286 => 92 | 129 => 108 | 317 => 127 | 318 => 128 | 319 => 129 | 320 => 130 | 337 => 144 | 338 => 145 | n => n, fun | 9 => 9 | 3 => 3 | 75 => 54 | 76 => 55 | 4 => 4 | 5 => 5 | 167 => 105 | 37 => 58 | 0 => 0 | 85 => 106 | 2 => 2 | 168 => 108 | 53 => 112 | 175 => 140 | 46 => 94 | 210 => 143 | 127 => 85 | 145 => 165 | 143 => 163 | 21 => 21 | 171 => 111 | 173 => 115 | 212 => 146 | 51 => 130 | 20 => 20 | 213 => 147 | 232 => 49 | 233 => 170 | 80 => 62 | n => n, fun | 15 => 1 | 16 => 2 | 17 => 3 | 18 => 6 | 19 => 7 | n => n⟩
theorem Tryz.llays172 : Go.Proofs.Lays.n172 Tryz.prog Tryz.llays172_ren := {
  mixed := by kernel_rfl,
  f129 := Tryz.func108.trans (congrArg some (by kernel_rfl)),
  f171 := Tryz.func22.trans (congrArg some (by kernel_rfl)),
  f172 := Tryz.func30.trans (congrArg some (by kernel_rfl)),
  f205 := Tryz.func126.trans (congrArg some (by kernel_rfl)),
  f243 := Tryz.func31.trans (congrArg some (by kernel_rfl)),
  f244 := Tryz.func55.trans (congrArg some (by kernel_rfl)),
  f245 := Tryz.func56.trans (congrArg some (by kernel_rfl)),
  f246 := Tryz.func57.trans (congrArg some (by kernel_rfl)),
  f247 := Tryz.func84.trans (congrArg some (by kernel_rfl)),
  f279 := Tryz.func85.trans (congrArg some (by kernel_rfl)),
  f280 := Tryz.func86.trans (congrArg some (by kernel_rfl)),
  f281 := Tryz.func87.trans (congrArg some (by kernel_rfl)),
  f282 := Tryz.func88.trans (congrArg some (by kernel_rfl)),
  f283 := Tryz.func89.trans (congrArg some (by kernel_rfl)),
  f284 := Tryz.func90.trans (congrArg some (by kernel_rfl)),
  f285 := Tryz.func91.trans (congrArg some (by kernel_rfl)),
  f286 := Tryz.func92.trans (congrArg some (by kernel_rfl)),
  f287 := Tryz.func124.trans (congrArg some (by kernel_rfl)),
  f316 := Tryz.func125.trans (congrArg some (by kernel_rfl)),
  f317 := Tryz.func127.trans (congrArg some (by kernel_rfl)),
  f318 := Tryz.func128.trans (congrArg some (by kernel_rfl)),
  f319 := Tryz.func129.trans (congrArg some (by kernel_rfl)),
  f320 := Tryz.func130.trans (congrArg some (by kernel_rfl)),
  f321 := Tryz.func142.trans (congrArg some (by kernel_rfl)),
  f322 := Tryz.func143.trans (congrArg some (by kernel_rfl)),
  f337 := Tryz.func144.trans (congrArg some (by kernel_rfl)),
  f338 := Tryz.func145.trans (congrArg some (by kernel_rfl)),
  t0 := Tryz.underlying0,
  a0 := Tryz.isAgg0,
  z0 := Tryz.sizeOf0,
  v0 := Tryz.zeroValue0,
  t2 := Tryz.underlying2,
  a2 := Tryz.isAgg2,
  z2 := Tryz.sizeOf2,
  v2 := Tryz.zeroValue2,
  t3 := Tryz.underlying3,
  a3 := Tryz.isAgg3,
  z3 := Tryz.sizeOf3,
  v3 := Tryz.zeroValue3,
  t4 := Tryz.underlying4,
  a4 := Tryz.isAgg4,
  z4 := Tryz.sizeOf4,
  v4 := Tryz.zeroValue4,
  t5 := Tryz.underlying5,
  a5 := Tryz.isAgg5,
  z5 := Tryz.sizeOf5,
  v5 := Tryz.zeroValue5,
  t9 := Tryz.underlying9,
  a9 := Tryz.isAgg9,
  z9 := Tryz.sizeOf9,
  v9 := Tryz.zeroValue9,
  t20 := Tryz.underlying20,
  a20 := Tryz.isAgg20,
  z20 := Tryz.sizeOf20,
  v20 := Tryz.zeroValue20,
  t21 := Tryz.underlying21,
  a21 := Tryz.isAgg21,
  z21 := Tryz.sizeOf21,
  v21 := Tryz.zeroValue21,
  t37 := Tryz.underlying58,
  a37 := Tryz.isAgg58,
  z37 := Tryz.sizeOf58,
  v37 := Tryz.zeroValue58,
  t46 := Tryz.underlying94,
  a46 := Tryz.isAgg94,
  z46 := Tryz.sizeOf94,
  v46 := Tryz.zeroValue94,
  t51 := Tryz.underlying130,
  a51 := Tryz.isAgg130,
  z51 := Tryz.sizeOf130,
  v51 := Tryz.zeroValue130,
  t53 := Tryz.underlying112,
  a53 := Tryz.isAgg112,
  z53 := Tryz.sizeOf112,
  v53 := Tryz.zeroValue112,
  t75 := Tryz.underlying54,
  a75 := Tryz.isAgg54,
  z75 := Tryz.sizeOf54,
  v75 := Tryz.zeroValue54,
  t76 := Tryz.underlying55,
  a76 := Tryz.isAgg55,
  z76 := Tryz.sizeOf55,
  v76 := Tryz.zeroValue55,
  t85 := Tryz.underlying106,
  a85 := Tryz.isAgg106,
  z85 := Tryz.sizeOf106,
  v85 := Tryz.zeroValue106,
  t127 := Tryz.underlying85,
  a127 := Tryz.isAgg85,
  z127 := Tryz.sizeOf85,
  v127 := Tryz.zeroValue85,
  t143 := Tryz.underlying163,
  a143 := Tryz.isAgg163,
  z143 := Tryz.sizeOf163,
  v143 := Tryz.zeroValue163,
  t145 := Tryz.underlying165,
  a145 := Tryz.isAgg165,
  z145 := Tryz.sizeOf165,
  v145 := Tryz.zeroValue165,
  t167 := Tryz.underlying105,
  a167 := Tryz.isAgg105,
  z167 := Tryz.sizeOf105,
  v167 := Tryz.zeroValue105,
  t168 := Tryz.underlying108,
  a168 := Tryz.isAgg108,
  z168 := Tryz.sizeOf108,
  v168 := Tryz.zeroValue108,
  t171 := Tryz.underlying111,
  a171 := Tryz.isAgg111,
  z171 := Tryz.sizeOf111,
  v171 := Tryz.zeroValue111,
  t173 := Tryz.underlying115,
  a173 := Tryz.isAgg115,
  z173 := Tryz.sizeOf115,
  v173 := Tryz.zeroValue115,
  t175 := Tryz.underlying140,
  a175 := Tryz.isAgg140,
  z175 := Tryz.sizeOf140,
  v175 := Tryz.zeroValue140,
  t210 := Tryz.underlying143,
  a210 := Tryz.isAgg143,
  z210 := Tryz.sizeOf143,
  v210 := Tryz.zeroValue143,
  t212 := Tryz.underlying146,
  a212 := Tryz.isAgg146,
  z212 := Tryz.sizeOf146,
  v212 := Tryz.zeroValue146,
  t213 := Tryz.underlying147,
  a213 := Tryz.isAgg147,
  z213 := Tryz.sizeOf147,
  t232 := Tryz.underlying49,
  a232 := Tryz.isAgg49,
  z232 := Tryz.sizeOf49,
  v232 := Tryz.zeroValue49,
  t233 := Tryz.underlying170,
  a233 := Tryz.isAgg170,
  z233 := Tryz.sizeOf170,
  v233 := Tryz.zeroValue170,
  g15 := by kernel_rfl,
  g16 := by kernel_rfl,
  g17 := by kernel_rfl,
  g18 := by kernel_rfl,
  g19 := by kernel_rfl }
def Tryz.llaysm171_ren : Go.Shelf.Ren := ⟨fun | 171 => 22 | 243 => 31 | 246 => 57 | 283 => 89 | 284 => 90 | 285 => 91 | 286 => 92 | 129 => 108 | 317 => 127 | 318 => 128 | 319 => 129 | 320 => 130 | 337 => 144 | 338 => 145 | n => n, fun | 3 => 3 | 9 => 9 | 2 => 2 | 4 => 4 | 171 => 111 | 0 => 0 | 53 => 112 | 37 => 58 | 5 => 5 | 173 => 115 | 212 => 146 | 51 => 130 | 20 => 20 | 213 => 147 | 46 => 94 | 232 => 49 | 233 => 170 | n => n, fun | 17 => 3 | 18 => 6 | 19 => 7 | n => n⟩
theorem Tryz.llaysm171 : Go.Proofs.LaysM.n171 Tryz.prog Tryz.llaysm171_ren := {
  mixed := by kernel_rfl,
  f129 := Tryz.func108.trans (congrArg some (by kernel_rfl)),
  f171 := Tryz.func22.trans (congrArg some (by kernel_rfl)),
  f243 := Tryz.func31.trans (congrArg some (by kernel_rfl)),
  f246 := Tryz.func57.trans (congrArg some (by kernel_rfl)),
  f283 := Tryz.func89.trans (congrArg some (by kernel_rfl)),
  f284 := Tryz.func90.trans (congrArg some (by kernel_rfl)),
  f285 := Tryz.func91.trans (congrArg some (by kernel_rfl)),
  f286 := Tryz.func92.trans (congrArg some (by kernel_rfl)),
  f317 := Tryz.func127.trans (congrArg some (by kernel_rfl)),
  f318 := Tryz.func128.trans (congrArg some (by kernel_rfl)),
  f319 := Tryz.func129.trans (congrArg some (by kernel_rfl)),
  f320 := Tryz.func130.trans (congrArg some (by kernel_rfl)),
  f337 := Tryz.func144.trans (congrArg some (by kernel_rfl)),
  f338 := Tryz.func145.trans (congrArg some (by kernel_rfl)),
  t0 := Tryz.underlying0,
  a0 := Tryz.isAgg0,
  z0 := Tryz.sizeOf0,
  v0 := Tryz.zeroValue0,
  t2 := Tryz.underlying2,
  a2 := Tryz.isAgg2,
  z2 := Tryz.sizeOf2,
  v2 := Tryz.zeroValue2,
  t3 := Tryz.underlying3,
  a3 := Tryz.isAgg3,
  z3 := Tryz.sizeOf3,
  v3 := Tryz.zeroValue3,
  t4 := Tryz.underlying4,
  a4 := Tryz.isAgg4,
  z4 := Tryz.sizeOf4,
  v4 := Tryz.zeroValue4,
  t5 := Tryz.underlying5,
  a5 := Tryz.isAgg5,
  z5 := Tryz.sizeOf5,
  v5 := Tryz.zeroValue5,
  t9 := Tryz.underlying9,
  a9 := Tryz.isAgg9,
  z9 := Tryz.sizeOf9,
  v9 := Tryz.zeroValue9,
  t20 := Tryz.underlying20,
  a20 := Tryz.isAgg20,
  z20 := Tryz.sizeOf20,
  v20 := Tryz.zeroValue20,
  t37 := Tryz.underlying58,
  a37 := Tryz.isAgg58,
  z37 := Tryz.sizeOf58,
  v37 := Tryz.zeroValue58,
  t46 := Tryz.underlying94,
  a46 := Tryz.isAgg94,
  z46 := Tryz.sizeOf94,
  v46 := Tryz.zeroValue94,
  t51 := Tryz.underlying130,
  a51 := Tryz.isAgg130,
  z51 := Tryz.sizeOf130,
  v51 := Tryz.zeroValue130,
  t53 := Tryz.underlying112,
  a53 := Tryz.isAgg112,
  z53 := Tryz.sizeOf112,
  v53 := Tryz.zeroValue112,
  t171 := Tryz.underlying111,
  a171 := Tryz.isAgg111,
  z171 := Tryz.sizeOf111,
  v171 := Tryz.zeroValue111,
  t173 := Tryz.underlying115,
  a173 := Tryz.isAgg115,
  z173 := Tryz.sizeOf115,
  v173 := Tryz.zeroValue115,
  t212 := Tryz.underlying146,
  a212 := Tryz.isAgg146,
  z212 := Tryz.sizeOf146,
  v212 := Tryz.zeroValue146,
  t213 := Tryz.underlying147,
  a213 := Tryz.isAgg147,
  z213 := Tryz.sizeOf147,
  t232 := Tryz.underlying49,
  a232 := Tryz.isAgg49,
  z232 := Tryz.sizeOf49,
  v232 := Tryz.zeroValue49,
  t233 := Tryz.underlying170,
  a233 := Tryz.isAgg170,
  z233 := Tryz.sizeOf170,
  v233 := Tryz.zeroValue170,
  g17 := by kernel_rfl,
  g18 := by kernel_rfl,
  g19 := by kernel_rfl,
  i0 := by kernel_rfl,
  i2 := by kernel_rfl,
  i3 := by kernel_rfl,
  i4 := by kernel_rfl,
  i5 := by kernel_rfl,
  i9 := by kernel_rfl,
  i20 := by kernel_rfl,
  i37 := by kernel_rfl,
  i46 := by kernel_rfl,
  i51 := by kernel_rfl,
  i53 := by kernel_rfl,
  i171 := by kernel_rfl,
  i173 := by kernel_rfl,
  i212 := by kernel_rfl,
  i232 := by kernel_rfl,
  i233 := by kernel_rfl,
  m17 := by kernel_rfl,
  m18 := by kernel_rfl,
  m19 := by kernel_rfl }
def Tryz.llays171_ren : Go.Shelf.Ren := ⟨fun | 171 => 22 | 243 => 31 | 246 => 57 | 283 => 89 | 284 => 90 | 285 => 91 | 286 => 92 | 129 => 108 | 317 => 127 | 318 => 128 | 319 => 129 | 320 => 130 | 337 => 144 | 338 => 145 | n => n, fun | 3 => 3 | 9 => 9 | 2 => 2 | 4 => 4 | 171 => 111 | 0 => 0 | 53 => 112 | 37 => 58 | 5 => 5 | 173 => 115 | 212 => 146 | 51 => 130 | 20 => 20 | 213 => 147 | 46 => 94 | 232 => 49 | 233 => 170 | n => n, fun | 17 => 3 | 18 => 6 | 19 => 7 | n => n⟩
theorem Tryz.llays171 : Go.Proofs.Lays.n171 Tryz.prog Tryz.llays171_ren := {
  mixed := by kernel_rfl,
  f129 := Tryz.func108.trans (congrArg some (by kernel_rfl)),
  f171 := Tryz.func22.trans (congrArg some (by kernel_rfl)),
  f243 := Tryz.func31.trans (congrArg some (by kernel_rfl)),
  f246 := Tryz.func57.trans (congrArg some (by kernel_rfl)),
  f283 := Tryz.func89.trans (congrArg some (by kernel_rfl)),
  f284 := Tryz.func90.trans (congrArg some (by kernel_rfl)),
  f285 := Tryz.func91.trans (congrArg some (by kernel_rfl)),
  f286 := Tryz.func92.trans (congrArg some (by kernel_rfl)),
  f317 := Tryz.func127.trans (congrArg some (by kernel_rfl)),
  f318 := Tryz.func128.trans (congrArg some (by kernel_rfl)),
  f319 := Tryz.func129.trans (congrArg some (by kernel_rfl)),
  f320 := Tryz.func130.trans (congrArg some (by kernel_rfl)),
  f337 := Tryz.func144.trans (congrArg some (by kernel_rfl)),
  f338 := Tryz.func145.trans (congrArg some (by kernel_rfl)),
  t0 := Tryz.underlying0,
  a0 := Tryz.isAgg0,
  z0 := Tryz.sizeOf0,
  v0 := Tryz.zeroValue0,
  t2 := Tryz.underlying2,
  a2 := Tryz.isAgg2,
  z2 := Tryz.sizeOf2,
  v2 := Tryz.zeroValue2,
  t3 := Tryz.underlying3,
  a3 := Tryz.isAgg3,
  z3 := Tryz.sizeOf3,
  v3 := Tryz.zeroValue3,
  t4 := Tryz.underlying4,
  a4 := Tryz.isAgg4,
  z4 := Tryz.sizeOf4,
  v4 := Tryz.zeroValue4,
  t5 := Tryz.underlying5,
  a5 := Tryz.isAgg5,
  z5 := Tryz.sizeOf5,
  v5 := Tryz.zeroValue5,
  t9 := Tryz.underlying9,
  a9 := Tryz.isAgg9,
  z9 := Tryz.sizeOf9,
  v9 := Tryz.zeroValue9,
  t20 := Tryz.underlying20,
  a20 := Tryz.isAgg20,
  z20 := Tryz.sizeOf20,
  v20 := Tryz.zeroValue20,
  t37 := Tryz.underlying58,
  a37 := Tryz.isAgg58,
  z37 := Tryz.sizeOf58,
  v37 := Tryz.zeroValue58,
  t46 := Tryz.underlying94,
  a46 := Tryz.isAgg94,
  z46 := Tryz.sizeOf94,
  v46 := Tryz.zeroValue94,
  t51 := Tryz.underlying130,
  a51 := Tryz.isAgg130,
  z51 := Tryz.sizeOf130,
  v51 := Tryz.zeroValue130,
  t53 := Tryz.underlying112,
  a53 := Tryz.isAgg112,
  z53 := Tryz.sizeOf112,
  v53 := Tryz.zeroValue112,
  t171 := Tryz.underlying111,
  a171 := Tryz.isAgg111,
  z171 := Tryz.sizeOf111,
  v171 := Tryz.zeroValue111,
  t173 := Tryz.underlying115,
  a173 := Tryz.isAgg115,
  z173 := Tryz.sizeOf115,
  v173 := Tryz.zeroValue115,
  t212 := Tryz.underlying146,
  a212 := Tryz.isAgg146,
  z212 := Tryz.sizeOf146,
  v212 := Tryz.zeroValue146,
  t213 := Tryz.underlying147,
  a213 := Tryz.isAgg147,
  z213 := Tryz.sizeOf147,
  t232 := Tryz.underlying49,
  a232 := Tryz.isAgg49,
  z232 := Tryz.sizeOf49,
  v232 := Tryz.zeroValue49,
  t233 := Tryz.underlying170,
  a233 := Tryz.isAgg170,
  z233 := Tryz.sizeOf170,
  v233 := Tryz.zeroValue170,
  g17 := by kernel_rfl,
  g18 := by kernel_rfl,
  g19 := by kernel_rfl }
def Tryz.llays156_ren : Go.Shelf.Ren := ⟨fun | 156 => 23 | 165 => 32 | 166 => 33 | 169 => 34 | 240 => 58 | 241 => 59 | 276 => 93 | 277 => 94 | n => n, fun | 31 => 36 | 9 => 9 | 3 => 3 | 4 => 4 | 0 => 0 | 20 => 20 | 72 => 60 | 76 => 55 | 70 => 57 | 37 => 58 | 75 => 54 | 127 => 85 | 164 => 117 | 5 => 5 | 80 => 62 | n => n, fun | n => n⟩
theorem Tryz.llays156 : Go.Proofs.Lays.n156 Tryz.prog Tryz.llays156_ren := {
  mixed := by kernel_rfl,
  f156 := Tryz.func23.trans (congrArg some (by kernel_rfl)),
  f165 := Tryz.func32.trans (congrArg some (by kernel_rfl)),
  f166 := Tryz.func33.trans (congrArg some (by kernel_rfl)),
  f169 := Tryz.func34.trans (congrArg some (by kernel_rfl)),
  f240 := Tryz.func58.trans (congrArg some (by kernel_rfl)),
  f241 := Tryz.func59.trans (congrArg some (by kernel_rfl)),
  f276 := Tryz.func93.trans (congrArg some (by kernel_rfl)),
  f277 := Tryz.func94.trans (congrArg some (by kernel_rfl)),
  t0 := Tryz.underlying0,
  a0 := Tryz.isAgg0,
  z0 := Tryz.sizeOf0,
  v0 := Tryz.zeroValue0,
  t3 := Tryz.underlying3,
  a3 := Tryz.isAgg3,
  z3 := Tryz.sizeOf3,
  v3 := Tryz.zeroValue3,
  t4 := Tryz.underlying4,
  a4 := Tryz.isAgg4,
  z4 := Tryz.sizeOf4,
  v4 := Tryz.zeroValue4,
  t9 := Tryz.underlying9,
  a9 := Tryz.isAgg9,
  z9 := Tryz.sizeOf9,
  v9 := Tryz.zeroValue9,
  t20 := Tryz.underlying20,
  a20 := Tryz.isAgg20,
  z20 := Tryz.sizeOf20,
  v20 := Tryz.zeroValue20,
  t31 := Tryz.underlying36,
  a31 := Tryz.isAgg36,
  z31 := Tryz.sizeOf36,
  v31 := Tryz.zeroValue36,
  t37 := Tryz.underlying58,
  a37 := Tryz.isAgg58,
  z37 := Tryz.sizeOf58,
  v37 := Tryz.zeroValue58,
  t70 := Tryz.underlying57,
  a70 := Tryz.isAgg57,
  z70 := Tryz.sizeOf57,
  v70 := Tryz.zeroValue57,
  t72 := Tryz.underlying60,
  a72 := Tryz.isAgg60,
  z72 := Tryz.sizeOf60,
  v72 := Tryz.zeroValue60,
  t75 := Tryz.underlying54,
  a75 := Tryz.isAgg54,
  z75 := Tryz.sizeOf54,
  v75 := Tryz.zeroValue54,
  t76 := Tryz.underlying55,
  a76 := Tryz.isAgg55,
  z76 := Tryz.sizeOf55,
  v76 := Tryz.zeroValue55,
  t127 := Tryz.underlying85,
  a127 := Tryz.isAgg85,
  z127 := Tryz.sizeOf85,
  v127 := Tryz.zeroValue85,
  t164 := Tryz.underlying117,
  a164 := Tryz.isAgg117,
  z164 := Tryz.sizeOf117,
  v164 := Tryz.zeroValue117 }
end Go.Proofs
end

section
/- Names of the manifest: plain laws of parts, numbers and ids. -/
set_option linter.unusedSimpArgs false
set_option linter.unusedVariables false
namespace Go.Proofs.YtopeilhdddiapaaGreatDoor.Ex
open Go Go.Lib

/-- The parts of a text, cut at a byte. -/
def splitF (c : UInt8) : List UInt8 → List (List UInt8)
  | [] => [[]]
  | b :: r => if b = c then [] :: splitF c r else match splitF c r with
    | p :: ps => (b :: p) :: ps
    | [] => [[b]]
theorem splitF_ne (c : UInt8) : ∀ l, splitF c l ≠ []
  | [] => by simp [splitF]
  | b :: r => by
    unfold splitF
    split
    · simp
    · split <;> simp
theorem splitF_len (c : UInt8) : ∀ l : List UInt8, (splitF c l).length = l.count c + 1
  | [] => rfl
  | b :: r => by
    have h := splitF_len c r
    unfold splitF
    by_cases hb : b = c
    · rw [if_pos hb, List.length_cons, h, hb, List.count_cons_self]
    · rw [if_neg hb, List.count_cons_of_ne hb]
      cases hs : splitF c r with
      | nil => exact absurd hs (splitF_ne c r)
      | cons p ps =>
        rw [hs] at h
        rw [← h]
        rfl
theorem split_sub {c : UInt8} : ∀ {l p : List UInt8}, p ∈ splitF c l → p.length ≤ l.length
  | [], p, h => by simp [splitF] at h; simp [h]
  | b :: r, p, h => by
    unfold splitF at h
    by_cases hb : b = c
    · rw [if_pos hb] at h
      rcases List.mem_cons.1 h with rfl | h
      · simp
      · have := split_sub h; simp; omega
    · rw [if_neg hb] at h
      cases hs : splitF c r with
      | nil => exact absurd hs (splitF_ne c r)
      | cons q qs =>
        rw [hs] at h
        rcases List.mem_cons.1 h with rfl | h
        · have := split_sub (c := c) (l := r) (p := q) (by rw [hs]; simp); simp; omega
        · have := split_sub (c := c) (l := r) (p := p) (by rw [hs]; simp [h]); simp; omega
theorem splitF_app (c : UInt8) (r : List UInt8) : ∀ p : List UInt8, c ∉ p → splitF c (p ++ c :: r) = p :: splitF c r
  | [], _ => by simp [splitF]
  | b :: p, h => by
    have hb : ¬ b = c := fun e => h (by simp [e])
    have h' := splitF_app c r p (fun e => h (by simp [e]))
    rw [List.cons_append, splitF, if_neg hb, h']
theorem splitF_one (c : UInt8) : ∀ p : List UInt8, c ∉ p → splitF c p = [p]
  | [], _ => rfl
  | b :: p, h => by
    have hb : ¬ b = c := fun e => h (by simp [e])
    have h' := splitF_one c p (fun e => h (by simp [e]))
    rw [splitF, if_neg hb, h']
theorem index_split (c : UInt8) : ∀ l : List UInt8, (indexByte l c = -1 ∧ c ∉ l) ∨ ∃ p r, l = p ++ c :: r ∧ c ∉ p ∧ indexByte l c = (p.length : Int)
  | [] => .inl ⟨rfl, by simp⟩
  | b :: l => by
    by_cases hb : b = c
    · exact .inr ⟨[], l, by simp [hb], by simp, by simp [indexByte, hb]⟩
    · have hbq : (b == c) = false := by simpa using hb
      rcases index_split c l with ⟨h1, h2⟩ | ⟨p, r, h1, h2, h3⟩
      · exact .inl ⟨by simp [indexByte, hbq, h1], fun e => by rcases List.mem_cons.1 e with h | h; exact hb h.symm; exact h2 h⟩
      · refine .inr ⟨b :: p, r, by simp [h1], fun e => by rcases List.mem_cons.1 e with h | h; exact hb h.symm; exact h2 h, ?_⟩
        have hne : (indexByte l c == -1) = false := by rw [h3]; exact beq_eq_false_iff_ne.2 (by omega)
        unfold indexByte
        rw [hbq, hne, h3]
        simp

/-- A number in digits, just so. -/
def natF (l : List UInt8) : Option Nat := if l = [] ∨ 10 < l.length ∨ (1 < l.length ∧ l[0]? = some 48) then none else match decFrom 0 l with
  | some n => if n ≤ 2147483647 then some n else none
  | none => none
def natB (l : List UInt8) : Bool := (natF l).isSome
def goodIdF (l : List UInt8) : Bool := (splitF 46 l).all natB && (splitF 46 l).length == 3
theorem digit_of {acc : Nat} : ∀ {l : List UInt8} {n : Nat}, decFrom acc l = some n → ∀ b ∈ l, 48 ≤ b.toNat ∧ b.toNat ≤ 57 := by
  intro l
  induction l generalizing acc with
  | nil => intro n _ b hb; cases hb
  | cons a r ih =>
    intro n h b hb
    unfold decFrom at h
    cases hd : digitVal a with
    | none => rw [hd] at h; cases h
    | some d =>
      rw [hd] at h
      rcases List.mem_cons.1 hb with rfl | hb
      · unfold digitVal at hd
        split at hd
        · assumption
        · cases hd
      · exact ih h b hb
theorem digits_dec (acc : Nat) : ∀ l : List UInt8, (∀ b ∈ l, 48 ≤ b.toNat ∧ b.toNat ≤ 57) → ∃ n, decFrom acc l = some n := by
  intro l
  induction l generalizing acc with
  | nil => intro _; exact ⟨acc, rfl⟩
  | cons a r ih =>
    intro h
    have ha := h a (by simp)
    obtain ⟨n, hn⟩ := ih (acc * 10 + (a.toNat - 48)) fun b hb => h b (by simp [hb])
    refine ⟨n, ?_⟩
    unfold decFrom digitVal
    rw [if_pos ha]
    exact hn
theorem natB_digits {l : List UInt8} (h : natB l = true) : ∀ b ∈ l, 48 ≤ b.toNat ∧ b.toNat ≤ 57 := by
  unfold natB natF at h
  split at h
  · cases h
  · cases hd : decFrom 0 l with
    | none => rw [hd] at h; cases h
    | some n => exact digit_of hd
theorem natB_not {c : UInt8} (hc : ¬ (48 ≤ c.toNat ∧ c.toNat ≤ 57)) {l : List UInt8} (h : natB l = true) : c ∉ l := fun hm => hc (natB_digits h c hm)

/-- Whose an object is: nothing, or the id. -/
def idOfF (l : List UInt8) : Option (List UInt8) :=
  match splitF 47 l with
  | [a, b] => if goodIdF a = true ∧ (b = [109] ∨ natB b = true) then some a else none
  | _ => none
theorem idOf_app {p r : List UInt8} (hp : (47 : UInt8) ∉ p) : idOfF (p ++ 47 :: r) = if goodIdF p = true ∧ (r = [109] ∨ natB r = true) then some p else none := by
  unfold idOfF
  rw [splitF_app 47 r p hp]
  by_cases hr : (47 : UInt8) ∈ r
  · have h1 : ¬ (r = [109] ∨ natB r = true) := by
      rintro (rfl | h)
      · simp at hr
      · exact natB_not (by decide) h hr
    rw [if_neg (fun h => h1 h.2)]
    have h2 : 2 ≤ (splitF 47 r).length := by
      rw [splitF_len]
      have := List.count_pos_iff.2 hr
      omega
    match hs : splitF 47 r, h2 with
    | a :: b :: t, _ => rfl
  · rw [splitF_one 47 r hr]
theorem idOf_no {l : List UInt8} (h : (47 : UInt8) ∉ l) : idOfF l = none := by
  unfold idOfF
  rw [splitF_one 47 l h]

/-- Digits. -/
theorem decDigits_eq (u : Nat) : decDigits u = if u < 10 then [UInt8.ofNat (48 + u)] else decDigits (u / 10) ++ [UInt8.ofNat (48 + u % 10)] := by
  rw [decDigits]
  split <;> rfl
theorem decFrom_app (acc : Nat) : ∀ (a b : List UInt8) (n : Nat), decFrom acc a = some n → decFrom acc (a ++ b) = decFrom n b := by
  intro a
  induction a generalizing acc with
  | nil => intro b n h; cases h; rfl
  | cons x r ih =>
    intro b n h
    unfold decFrom at h
    rw [List.cons_append, decFrom]
    cases hd : digitVal x with
    | none => rw [hd] at h; cases h
    | some d => rw [hd] at h; exact ih _ b n h
theorem digit_val {d : Nat} (h : d < 10) : digitVal (UInt8.ofNat (48 + d)) = some d := by
  unfold digitVal
  have : (UInt8.ofNat (48 + d)).toNat = 48 + d := by rw [UInt8.toNat_ofNat']; omega
  rw [this, if_pos (by omega)]
  congr 1
  omega
theorem dec_digits (u : Nat) : decFrom 0 (decDigits u) = some u := by
  induction u using Nat.strongRecOn with
  | _ u ih =>
    rw [decDigits_eq]
    split
    · rename_i h
      unfold decFrom
      rw [digit_val h]
      simp [decFrom]
    · rename_i h
      rw [decFrom_app 0 _ _ _ (ih (u / 10) (by omega))]
      unfold decFrom
      rw [digit_val (by omega)]
      simp only [decFrom]
      congr 1
      omega
theorem digits_ne (u : Nat) : decDigits u ≠ [] := by
  rw [decDigits_eq]
  split <;> simp
theorem digits_len (u : Nat) : ∀ k, u < 10 ^ k → 0 < k → (decDigits u).length ≤ k := by
  induction u using Nat.strongRecOn with
  | _ u ih =>
    intro k hk h0
    rw [decDigits_eq]
    split
    · simp; omega
    · rename_i h
      obtain ⟨j, rfl⟩ : ∃ j, k = j + 1 := ⟨k - 1, by omega⟩
      have hj : 0 < j := by
        rcases Nat.eq_zero_or_pos j with rfl | hj
        · omega
        · exact hj
      have := ih (u / 10) (by omega) j (by rw [Nat.pow_succ] at hk; omega) hj
      rw [List.length_append]
      simp
      omega
theorem digits_head (u : Nat) : 1 < (decDigits u).length → (decDigits u)[0]? ≠ some 48 := by
  induction u using Nat.strongRecOn with
  | _ u ih =>
    rw [decDigits_eq]
    split
    · simp
    · rename_i h
      intro _
      have hne := digits_ne (u / 10)
      have hl : 0 < (decDigits (u / 10)).length := List.length_pos_iff.2 hne
      rw [List.getElem?_append_left hl]
      by_cases h1 : 1 < (decDigits (u / 10)).length
      · exact ih (u / 10) (by omega) h1
      · rw [decDigits_eq] at h1 ⊢
        split
        · rename_i h2
          intro h3
          have h3 : UInt8.ofNat (48 + u / 10) = 48 := by simpa using h3
          have h4 : (UInt8.ofNat (48 + u / 10)).toNat = 48 := by rw [h3]; rfl
          rw [UInt8.toNat_ofNat'] at h4
          omega
        · rename_i h2
          rw [if_neg h2, List.length_append] at h1
          have := List.length_pos_iff.2 (digits_ne (u / 10 / 10))
          rw [List.length_singleton] at h1
          omega
theorem nat_digits {u : Nat} (h : u ≤ 2147483647) : natF (decDigits u) = some u := by
  unfold natF
  rw [if_neg, dec_digits]
  · simp [h]
  · rintro (h1 | h1 | ⟨h1, h2⟩)
    · exact digits_ne u h1
    · have := digits_len u 10 (by omega) (by omega)
      omega
    · exact digits_head u h1 h2
theorem natB_dec {u : Nat} (h : u ≤ 2147483647) : natB (decDigits u) = true := by unfold natB; rw [nat_digits h]; rfl
/-- An id. -/
def idB (a b c : Nat) : List UInt8 := decDigits a ++ 46 :: (decDigits b ++ 46 :: decDigits c)
theorem dec_no {u : Nat} {c : UInt8} (hc : ¬ (48 ≤ c.toNat ∧ c.toNat ≤ 57)) : c ∉ decDigits u := fun hm => hc (digit_of (dec_digits u) c hm)
theorem split_id (a b c : Nat) : splitF 46 (idB a b c) = [decDigits a, decDigits b, decDigits c] := by
  unfold idB
  rw [splitF_app _ _ _ (dec_no (by decide)), splitF_app _ _ _ (dec_no (by decide)), splitF_one _ _ (dec_no (by decide))]
theorem good_id {a b c : Nat} (ha : a ≤ 2147483647) (hb : b ≤ 2147483647) (hc : c ≤ 2147483647) : goodIdF (idB a b c) = true := by
  unfold goodIdF
  rw [split_id]
  simp [natB_dec ha, natB_dec hb, natB_dec hc]
theorem dec_inj {a b : Nat} (h : decDigits a = decDigits b) : a = b := by
  have h1 := dec_digits a
  rw [h, dec_digits b] at h1
  cases h1
  rfl
theorem id_inj {a b c a' b' c' : Nat} (h : idB a b c = idB a' b' c') : a = a' ∧ b = b' ∧ c = c' := by
  have h1 := split_id a b c
  rw [h, split_id] at h1
  injection h1 with h1 h2
  injection h2 with h2 h3
  injection h3 with h3 _
  exact ⟨(dec_inj h1).symm, (dec_inj h2).symm, (dec_inj h3).symm⟩
theorem id_no {a b c : Nat} : (47 : UInt8) ∉ idB a b c := by
  unfold idB
  simp only [List.mem_append, List.mem_cons, not_or]
  exact ⟨dec_no (by decide), by decide, dec_no (by decide), by decide, dec_no (by decide)⟩
theorem id_ne {a b c : Nat} : idB a b c ≠ [] := by unfold idB; simp
end Go.Proofs.YtopeilhdddiapaaGreatDoor.Ex
end

section
/- Texts: what the library makes of them, as sums. -/
set_option linter.unusedSimpArgs false
set_option linter.unusedVariables false
namespace Go.Proofs.YtopeilhdddiapaaGreatDoor.Ex
open Go Go.RowKit
def sTrim : List AV → AH → Option (AV × AH)
  | [.lit (.string s), .lit (.string cs)], h => bif decide (s.size ≤ 9223372036854775807) && (decide (cs.size < 4294967281) && cs.data.toList.all fun b => decide (b.toNat < 128)) then some (.lit (.string ⟨(Lib.trimS s.data.toList cs.data.toList).toArray⟩), h) else none
  | _, _ => none
def sIndex : List AV → AH → Option (AV × AH)
  | [.lit (.string s), .lit (.string ⟨⟨[c]⟩⟩)], h => some (.lit (.int .i64 (Lib.indexByte s.data.toList c)), h)
  | _, _ => none
def sCount : List AV → AH → Option (AV × AH)
  | [.lit (.string s), .lit (.string ⟨⟨[c]⟩⟩)], h => some (.lit (.int .i64 (s.data.toList.count c : Nat)), h)
  | _, _ => none
def sAtoi : List AV → AH → Option (AV × AH)
  | [.lit (.string s)], h => bif decide (s.size ≤ 18) then (Lib.atoi s.data.toList).map fun n => (.tup [.lit (.int .i64 n), .lit .nilIface], h) else none
  | _, _ => none
def dig2 (n : Nat) : List UInt8 := if n < 10 then [UInt8.ofNat (48 + n)] else [UInt8.ofNat (48 + n / 10), UInt8.ofNat (48 + n % 10)]
theorem dig2_eq {n : Nat} (h : n < 100) : dig2 n = Lib.decDigits n := by
  rw [decDigits_eq]
  unfold dig2
  split
  · rfl
  · rw [decDigits_eq, if_pos (by omega)]
    rfl
def uintsL : List AV → Option (List Int)
  | [] => some []
  | .lit (.int .u64 x) :: r => (uintsL r).map (x :: ·)
  | _ :: _ => none
def tabL : List AV := Lib.pow10Tab.map fun z => .lit (.int .u64 z)
def sItoa : List AV → AH → Option (AV × AH)
  | [.lit (.int .i64 n)], h => bif decide (0 ≤ n) && decide (n < 100) then some (.lit (.string ⟨(dig2 n.toNat).toArray⟩), h) else match h.at 1 with
    | some (.frz l _) => bif decide (uintsL l = some Lib.pow10Tab) && (decide (-9223372036854775808 ≤ n) && decide (n ≤ 9223372036854775807)) then some (.lit (.string ⟨(Lib.itoa n).toArray⟩), h) else none
    | _ => none
  | _, _ => none
def strsL : List AV → Option (List ByteArray)
  | [] => some []
  | .lit (.string x) :: r => (strsL r).map (x :: ·)
  | _ :: _ => none
def sJoin : List AV → AH → Option (AV × AH)
  | [.sl b off n _, .lit (.string sep)], h => match getB h b with
    | some (l, _) => match strsL ((l.drop off).take n) with
      | some xs => bif Nat.beq n xs.length && (decide (xs.length ≤ 140737488355328) && decide ((Lib.join (xs.map (·.data.toList)) sep.data.toList).length ≤ 140737488355328)) then some (.lit (.string ⟨(Lib.join (xs.map (·.data.toList)) sep.data.toList).toArray⟩), h) else none
      | none => none
    | none => none
  | _, _ => none
variable {ρ : Nat → Value} {fl : Nat} {μ : Mu} {h h' : AH} {w : World} {v : AV} {args : List AV} {args' : List Value}
theorem sTrim_ok (hg : sTrim args h = some (v, h')) (hr : HR Tryz.prog ρ fl μ h w) (ha : rels ρ μ w args args') :
    Calls Tryz.prog 29 args'.toArray w fun e w' => ∃ μ' v', e = .returned v' ∧ Eff Tryz.prog ρ fl μ h w μ' h' w' ∧ rel ρ μ' w' v v' := by
  unfold sTrim at hg
  split at hg
  case h_2 => cases hg
  rename_i s cs
  cases hc : (decide (s.size ≤ 9223372036854775807) && (decide (cs.size < 4294967281) && cs.data.toList.all fun b => decide (b.toNat < 128))) with
  | false => rw [hc] at hg; cases hg
  | true =>
  rw [hc] at hg
  cases hg
  simp only [Bool.and_eq_true, decide_eq_true_eq] at hc
  obtain ⟨h1, h2, h3⟩ := hc
  obtain ⟨v1, vs, rfl, r1, r2⟩ := rels_cons_inv ha
  obtain ⟨v2, vs, rfl, r3, r4⟩ := rels_cons_inv r2
  obtain rfl := rels_nil_inv r4
  obtain rfl : v1 = .string s := rel_lit_inv r1
  obtain rfl : v2 = .string cs := rel_lit_inv r3
  refine (Any.strings_Trim_laid Tryz.llays160 (by kernel_rfl) s cs w h1 h2 (fun j b hb => of_decide_eq_true (List.all_eq_true.1 h3 b (List.mem_of_getElem? hb)))).mono fun e w' hy => ?_
  obtain ⟨rfl, hk⟩ := hy
  exact ⟨μ, _, rfl, eff_below hr hk, rel_lit rfl⟩
theorem sIndex_ok (hg : sIndex args h = some (v, h')) (hr : HR Tryz.prog ρ fl μ h w) (ha : rels ρ μ w args args') :
    Calls Tryz.prog 47 args'.toArray w fun e w' => ∃ μ' v', e = .returned v' ∧ Eff Tryz.prog ρ fl μ h w μ' h' w' ∧ rel ρ μ' w' v v' := by
  unfold sIndex at hg
  split at hg
  case h_2 => cases hg
  rename_i s c
  cases hg
  obtain ⟨v1, vs, rfl, r1, r2⟩ := rels_cons_inv ha
  obtain ⟨v2, vs, rfl, r3, r4⟩ := rels_cons_inv r2
  obtain rfl := rels_nil_inv r4
  obtain rfl : v1 = .string s := rel_lit_inv r1
  obtain rfl : v2 = .string ⟨#[c]⟩ := rel_lit_inv r3
  refine (Any.stringslite_Index_one Tryz.llays219 s c w).mono fun e w' hy => ?_
  obtain ⟨rfl, rfl⟩ := hy
  exact ⟨μ, _, rfl, Eff.refl hr, rel_lit rfl⟩
theorem sCount_ok (hg : sCount args h = some (v, h')) (hr : HR Tryz.prog ρ fl μ h w) (ha : rels ρ μ w args args') :
    Calls Tryz.prog 61 args'.toArray w fun e w' => ∃ μ' v', e = .returned v' ∧ Eff Tryz.prog ρ fl μ h w μ' h' w' ∧ rel ρ μ' w' v v' := by
  unfold sCount at hg
  split at hg
  case h_2 => cases hg
  rename_i s c
  cases hg
  obtain ⟨v1, vs, rfl, r1, r2⟩ := rels_cons_inv ha
  obtain ⟨v2, vs, rfl, r3, r4⟩ := rels_cons_inv r2
  obtain rfl := rels_nil_inv r4
  obtain rfl : v1 = .string s := rel_lit_inv r1
  obtain rfl : v2 = .string ⟨#[c]⟩ := rel_lit_inv r3
  refine (Any.strings_Count_one Tryz.llays138 s c w).mono fun e w' hy => ?_
  obtain ⟨rfl, rfl⟩ := hy
  exact ⟨μ, _, rfl, Eff.refl hr, rel_lit rfl⟩
theorem sAtoi_ok (hg : sAtoi args h = some (v, h')) (hr : HR Tryz.prog ρ fl μ h w) (ha : rels ρ μ w args args') :
    Calls Tryz.prog 30 args'.toArray w fun e w' => ∃ μ' v', e = .returned v' ∧ Eff Tryz.prog ρ fl μ h w μ' h' w' ∧ rel ρ μ' w' v v' := by
  unfold sAtoi at hg
  split at hg
  case h_2 => cases hg
  rename_i s
  cases hc : decide (s.size ≤ 18) with
  | false => rw [hc] at hg; cases hg
  | true =>
  rw [hc] at hg
  cases hn : Lib.atoi s.data.toList with
  | none => rw [hn] at hg; cases hg
  | some n =>
  rw [hn] at hg
  cases hg
  obtain ⟨v1, vs, rfl, r1, r2⟩ := rels_cons_inv ha
  obtain rfl := rels_nil_inv r2
  obtain rfl : v1 = .string s := rel_lit_inv r1
  refine (Any.strconv_Atoi Tryz.llays172 s n (of_decide_eq_true hc) hn w).mono fun e w' hy => ?_
  obtain ⟨rfl, t, rfl⟩ := hy
  exact ⟨μ, _, rfl, eff_below hr (Lib.bytesWorld_below _ _ _), by unfold rel; exact ⟨_, rfl, rels_cons (rel_lit rfl) (rels_cons (rel_lit rfl) rels_nil)⟩⟩
theorem uintsL_eq : ∀ {l : List AV} {xs : List Int}, uintsL l = some xs → l = xs.map fun z => AV.lit (.int .u64 z)
  | [], xs, h => by cases h; rfl
  | a :: r, xs, h => by
    unfold uintsL at h
    split at h
    · rename_i h0; cases h0
    · rename_i x r' h0
      cases h0
      cases hr : uintsL r with
      | none => rw [hr] at h; cases h
      | some ys =>
        rw [hr] at h
        cases h
        rw [uintsL_eq hr]
        rfl
    · cases h
theorem strsL_eq : ∀ {l : List AV} {xs : List ByteArray}, strsL l = some xs → l = xs.map fun z => AV.lit (.string z)
  | [], xs, h => by cases h; rfl
  | a :: r, xs, h => by
    unfold strsL at h
    split at h
    · rename_i h0; cases h0
    · rename_i x r' h0
      cases h0
      cases hr : strsL r with
      | none => rw [hr] at h; cases h
      | some ys =>
        rw [hr] at h
        cases h
        rw [strsL_eq hr]
        rfl
    · cases h
/-- Small numbers alone. -/
def sItoaS : List AV → AH → Option (AV × AH)
  | [.lit (.int .i64 n)], h => bif decide (0 ≤ n) && decide (n < 100) then some (.lit (.string ⟨(dig2 n.toNat).toArray⟩), h) else none
  | _, _ => none
theorem sItoaS_ok (hg : sItoaS args h = some (v, h')) (hr : HR Tryz.prog ρ fl μ h w) (ha : rels ρ μ w args args') :
    Calls Tryz.prog 22 args'.toArray w fun e w' => ∃ μ' v', e = .returned v' ∧ Eff Tryz.prog ρ fl μ h w μ' h' w' ∧ rel ρ μ' w' v v' := by
  unfold sItoaS at hg
  split at hg
  case h_2 => cases hg
  rename_i n
  cases hs : (decide (0 ≤ n) && decide (n < 100)) with
  | false => rw [hs] at hg; cases hg
  | true =>
  rw [hs] at hg
  cases hg
  simp only [Bool.and_eq_true, decide_eq_true_eq] at hs
  obtain ⟨v1, vs, rfl, r1, r2⟩ := rels_cons_inv ha
  obtain rfl := rels_nil_inv r2
  obtain rfl : v1 = .int .i64 n := rel_lit_inv r1
  obtain ⟨k, rfl⟩ := Int.eq_ofNat_of_zero_le hs.1
  refine (Any.strconv_Itoa_small Tryz.llays171 k (by omega) w).mono fun e w' hy => ?_
  obtain ⟨rfl, rfl⟩ := hy
  refine ⟨μ, _, rfl, Eff.refl hr, ?_⟩
  rw [show ((k : Int)).toNat = k from rfl, dig2_eq (by omega)]
  exact rel_lit rfl
theorem sItoa_ok (hρ : ρ 1000000 = .int .i64 3) (hρ1 : ρ 1000001 = .int .i64 20) (hg : sItoa args h = some (v, h')) (hr : HR Tryz.prog ρ fl μ h w) (ha : rels ρ μ w args args') :
    Calls Tryz.prog 22 args'.toArray w fun e w' => ∃ μ' v', e = .returned v' ∧ Eff Tryz.prog ρ fl μ h w μ' h' w' ∧ rel ρ μ' w' v v' := by
  unfold sItoa at hg
  split at hg
  case h_2 => cases hg
  rename_i n
  cases hs : (decide (0 ≤ n) && decide (n < 100)) with
  | true =>
    rw [hs] at hg
    exact sItoaS_ok (by show (bif decide (0 ≤ n) && decide (n < 100) then _ else _) = _; rw [hs]; exact hg) hr ha
  | false =>
  rw [hs] at hg
  simp only [cond_false] at hg
  split at hg
  case h_2 => cases hg
  rename_i l e hb
  cases hc : (decide (uintsL l = some Lib.pow10Tab) && (decide (-9223372036854775808 ≤ n) && decide (n ≤ 9223372036854775807))) with
  | false => rw [hc] at hg; cases hg
  | true =>
  rw [hc] at hg
  cases hg
  simp only [Bool.and_eq_true, decide_eq_true_eq] at hc
  obtain ⟨hl, h0, h1⟩ := hc
  obtain ⟨v1, vs, rfl, r1, r2⟩ := rels_cons_inv ha
  obtain rfl := rels_nil_inv r2
  obtain rfl : v1 = .int .i64 n := rel_lit_inv r1
  have hr' : HRL Tryz.prog ρ fl μ h.L w := hr
  obtain ⟨hμ, cur, e', fz, hw, hsz⟩ := hr'.pin 3 hρ
  rw [hρ1] at hsz
  have hsz : cur.size = 20 := by injection hsz with _ h; omega
  obtain ⟨-, -, o, hw2, hrel⟩ := hr'.obj 1 _ 0 (.frz l e) hμ (by rw [L_at]; exact hb)
  obtain rfl : Obj.cells cur e' fz = o := Option.some.inj (hw.symm.trans hw2)
  have hlq := uintsL_eq hl
  have htab : Lib.TabIs Tryz.prog w "internal/strconv.uint64pow10" .u64 Lib.pow10Tab := by
    unfold Lib.TabIs World.var?
    rw [show Tryz.prog.globalNamed "internal/strconv.uint64pow10" = some 3 by kernel_rfl]
    show (match w.heap[3]? with | some (.cells cs _ _) => some cs | _ => none) = _
    have hw0 : w.heap[3]? = some (.cells cur e' fz) := hw
    rw [hw0]
    show some cur = _
    congr 1
    obtain ⟨cur2, fz2, he, hle, hcell⟩ := hrel
    obtain ⟨rfl, -, -⟩ := Obj.cells.inj he
    apply Array.ext'
    apply List.ext_getElem?
    intro i
    by_cases hi : i < 20
    · have hz : l[i]? = some (.lit (.int .u64 (Lib.pow10Tab.getD i 0))) := by
        rw [hlq, List.getElem?_map, List.getD_eq_getElem?_getD, List.getElem?_eq_getElem (show i < Lib.pow10Tab.length from hi)]
        rfl
      obtain ⟨v, hv, hvr⟩ := hcell i _ hz
      rw [rel_lit_inv hvr, Nat.zero_add] at hv
      rw [Array.getElem?_toList, hv, List.getElem?_map, List.getD_eq_getElem?_getD, List.getElem?_eq_getElem (show i < Lib.pow10Tab.length from hi)]
      rfl
    · rw [List.getElem?_eq_none (by rw [Array.length_toList]; omega), List.getElem?_eq_none (by rw [List.length_map]; show 20 ≤ i; omega)]
  refine (Any.strconv_Itoa Tryz.llaysm171 n h0 h1 w htab).mono fun e w' hy => ?_
  obtain ⟨rfl, k, os, rfl⟩ := hy
  refine ⟨μ, _, rfl, eff_old hr ⟨rfl, rfl, rfl⟩ (by show w.heap.size ≤ (w.heap ++ os).size; simp) (fun r hr => ?_), rel_lit rfl⟩
  show (w.heap ++ os)[r]? = _
  rw [Array.getElem?_append_left hr]
theorem joinX : Builder.Extra Tryz.prog Tryz.llays156_ren where
  sizeBuilder := by kernel_rfl
  liesBuilder := by kernel_rfl
  t5 := Tryz.llays172.t5
  a5 := Tryz.llays172.a5
  z5 := Tryz.llays172.z5
  v5 := Tryz.llays172.v5
  infoByte := by kernel_rfl
  cellsByte := by kernel_rfl
  sizeByte := by kernel_rfl
  neB5 := by decide
theorem sJoin_ok (hg : sJoin args h = some (v, h')) (hr : HR Tryz.prog ρ fl μ h w) (ha : rels ρ μ w args args') :
    Calls Tryz.prog 23 args'.toArray w fun e w' => ∃ μ' v', e = .returned v' ∧ Eff Tryz.prog ρ fl μ h w μ' h' w' ∧ rel ρ μ' w' v v' := by
  unfold sJoin at hg
  split at hg
  case h_2 => cases hg
  rename_i b off n cap sep
  split at hg
  case h_2 => cases hg
  rename_i l e hb
  split at hg
  case h_2 => cases hg
  rename_i xs hxs
  cases hc : (Nat.beq n xs.length && (decide (xs.length ≤ 140737488355328) && decide ((Lib.join (xs.map (·.data.toList)) sep.data.toList).length ≤ 140737488355328))) with
  | false => rw [hc] at hg; cases hg
  | true =>
  rw [hc] at hg
  cases hg
  simp only [Bool.and_eq_true, decide_eq_true_eq] at hc
  obtain ⟨hn, hN, hlen⟩ := hc
  obtain rfl := Nat.eq_of_beq_eq_true hn
  obtain ⟨v1, vs, rfl, r1, r2⟩ := rels_cons_inv ha
  obtain ⟨v2, vs, rfl, r3, r4⟩ := rels_cons_inv r2
  obtain rfl := rels_nil_inv r4
  obtain rfl : v2 = .string sep := rel_lit_inv r3
  have hxs := strsL_eq hxs
  rcases rel_sl_inv r1 with ⟨r, base, o, c', m1, rfl, hco, hcap⟩ | ⟨h0, -, a, rfl⟩
  · have hc0 := (capRel_le hcap).1
    obtain ⟨cur, k1, k2, k3⟩ := getB_sound hr m1 hb
    refine (Any.strings_Join Tryz.llays156 joinX r o c' xs sep w (fun j x hj => ?_) (Array.getElem?_eq_some_iff.1 k1).1 hN hc0 hlen).mono fun e' w' hy => ?_
    · have hjl : j < xs.length := (List.getElem?_eq_some_iff.1 hj).1
      obtain rfl : o = base + off := by rcases hco with h | h <;> omega
      have hl : l[off + j]? = some (.lit (.string x)) := by
        have : ((l.drop off).take xs.length)[j]? = some (.lit (.string x)) := by rw [hxs, List.getElem?_map, hj]; rfl
        rw [List.getElem?_take_of_lt hjl, List.getElem?_drop] at this
        exact this
      obtain ⟨v0, q1, q2⟩ := k2.2 (off + j) _ hl
      rw [cell_in k1, Nat.add_assoc, q1, rel_lit_inv q2]
    · obtain ⟨rfl, hk⟩ := hy
      exact ⟨μ, _, rfl, eff_below hr hk, rel_lit rfl⟩
  · have h0 : xs.length = 0 := h0
    obtain rfl := List.length_eq_zero_iff.1 h0
    refine (Any.strings_Join_none Tryz.llays156 joinX _ _ sep w).mono fun e' w' hy => ?_
    obtain ⟨rfl, rfl⟩ := hy
    exact ⟨μ, _, rfl, Eff.refl hr, rel_lit rfl⟩
end Go.Proofs.YtopeilhdddiapaaGreatDoor.Ex
end

section
/- The hashes, the logarithms and the closed examples of the laws, summed up. -/
set_option linter.unusedSimpArgs false
set_option linter.unusedVariables false
namespace Go.Proofs.YtopeilhdddiapaaGreatDoor.Ex
open Go Go.RowKit

theorem follows_mixed : Tryz.prog.follows .mixedOrders = true := by kernel_rfl

theorem bif_some {α : Type} {b : Bool} {x : α} {y : Option α} {z : α} (h : (bif b then some x else y) = some z) : (b = true ∧ x = z) ∨ y = some z := by
  cases b
  · exact .inr h
  · exact .inl ⟨rfl, Option.some.inj h⟩

/-- What the sums of the first kind know: the library's texts. -/
def S01 : Sums := fun f =>
  bif Nat.beq f 29 then some sTrim else
  bif Nat.beq f 47 then some sIndex else
  bif Nat.beq f 61 then some sCount else
  bif Nat.beq f 30 then some sAtoi else
  bif Nat.beq f 23 then some sJoin else
  bif Nat.beq f 22 then some sItoaS else none
theorem sums_ok01 (ρ : Nat → Value) (fl : Nat) : SumsOK Tryz.prog ρ fl S01 := by
  intro f g args h v h' hs hg μ w args' hr ha
  unfold S01 at hs
  rcases bif_some hs with ⟨h1, rfl⟩ | hs
  · obtain rfl := Nat.eq_of_beq_eq_true h1
    exact sTrim_ok hg hr ha
  rcases bif_some hs with ⟨h1, rfl⟩ | hs
  · obtain rfl := Nat.eq_of_beq_eq_true h1
    exact sIndex_ok hg hr ha
  rcases bif_some hs with ⟨h1, rfl⟩ | hs
  · obtain rfl := Nat.eq_of_beq_eq_true h1
    exact sCount_ok hg hr ha
  rcases bif_some hs with ⟨h1, rfl⟩ | hs
  · obtain rfl := Nat.eq_of_beq_eq_true h1
    exact sAtoi_ok hg hr ha
  rcases bif_some hs with ⟨h1, rfl⟩ | hs
  · obtain rfl := Nat.eq_of_beq_eq_true h1
    exact sJoin_ok hg hr ha
  rcases bif_some hs with ⟨h1, rfl⟩ | hs
  · obtain rfl := Nat.eq_of_beq_eq_true h1
    exact sItoaS_ok hg hr ha
  cases hs

theorem closed_c {f n : Nat} (hrun : isTrue (ex Tryz.prog (tabOf Tryz.prog NT0) S01 n (.call f [] none) .nil) = true) (w : World) : Calls Tryz.prog f #[] w fun e w' => e = .returned (.bool true) ∧ Below w.heap.size w w' := by
  obtain ⟨h', hx⟩ := isTrue_inv hrun
  refine (ex_calls (ρ := fun _ => default) (args' := []) tab_sound noNG follows_mixed (sums_ok01 _ _) hx rels_nil).mono fun e w' hy => ?_
  obtain ⟨v', μ', rfl, hb, hv⟩ := hy
  exact ⟨by rw [rel_bool_inv hv], hb⟩

set_option maxRecDepth 100000 in
theorem lives25_run : isTrue (ex Tryz.prog (tabOf Tryz.prog NT0) S01 100000 (.call 17 [] none) .nil) = true := by decide +kernel
def S0 : Sums := fun f => bif Nat.beq f 17 then some sTrue else bif Nat.beq f 22 then some sItoa else S01 f
/-- Values from outside: where the library's table lies, and how long it is. -/
def ρT : Nat → Value := fun i => bif Nat.beq i 1000000 then .int .i64 3 else bif Nat.beq i 1000001 then .int .i64 20 else default
theorem sums_ok (fl : Nat) : SumsOK Tryz.prog ρT fl S0 := by
  intro f g args h v h' hs hg μ w args' hr ha
  unfold S0 at hs
  rcases bif_some hs with ⟨h1, rfl⟩ | hs
  · obtain rfl := Nat.eq_of_beq_eq_true h1
    exact sTrue_ok (closed_c lives25_run) hg hr ha
  rcases bif_some hs with ⟨h1, rfl⟩ | hs
  · obtain rfl := Nat.eq_of_beq_eq_true h1
    exact sItoa_ok rfl rfl hg hr ha
  · exact sums_ok01 ρT fl f g args h v h' hs hg μ w args' hr ha

/-! Calls of what is summed up. -/
section
variable {H : AH} {Q : AV → AH → Prop}

end

end Go.Proofs.YtopeilhdddiapaaGreatDoor.Ex
end

section
/- Small functions on lists of numbers. -/
set_option linter.unusedSimpArgs false
set_option linter.unusedVariables false
set_option maxRecDepth 10000
namespace Go.Proofs.YtopeilhdddiapaaGreatDoor.Ex
open Go

/-- A number in a list of numbers. -/
theorem IsSl.int {T : TT} {F : Nat → Prop} {h : AH} {v : AV} {xs : List Int} {e : TypeId} (hs : IsSl RInt F h v xs) (hA : isAggT T e = some false) (hS : sizeT T e = some 1) {i : Nat} (hi : i < xs.length) :
    loadA T h e (slB v) (slO v + i) = some (.lit (.int .i64 (xs.getD i 0))) := by
  obtain ⟨c, ⟨rfl, _⟩, h2⟩ := hs.get (T := T) (List.getElem?_eq_getElem hi)
  have := h2 e 1 0 hS (by omega) (by show 0 + 1 ≤ 1; omega)
  simp only [RInt, Nat.mul_one, Nat.add_zero] at this
  rw [this]
  simp [ldL, hA, hS, List.getD_eq_getElem?_getD, List.getElem?_eq_getElem hi]

theorem drop_contains {x : Int} {xs : List Int} {i : Nat} (hi : i < xs.length) : (xs.drop i).contains x = (x == xs.getD i 0 || (xs.drop (i + 1)).contains x) := by
  rw [List.drop_eq_getElem_cons hi, List.getD_eq_getElem?_getD, List.getElem?_eq_getElem hi, List.contains_cons]; rfl

def idxF (x : Int) : List Int → Int → Int
  | [], _ => -1
  | y :: r, i => if x = y then i else idxF x r (i + 1)

theorem idxF_mem (x : Int) : ∀ (l : List Int) (i : Int), 0 ≤ i → (0 ≤ idxF x l i ↔ x ∈ l)
  | [], i, hi => by simp [idxF]
  | y :: r, i, hi => by
    unfold idxF
    by_cases h : x = y
    · rw [if_pos h]; simp [h, hi]
    · rw [if_neg h, idxF_mem x r (i + 1) (by omega)]; simp [h]
theorem idxF_drop (x : Int) {xs : List Int} {i : Nat} (hi : i < xs.length) : idxF x (xs.drop i) i = if x = xs.getD i 0 then (i : Int) else idxF x (xs.drop (i + 1)) ((i + 1 : Nat) : Int) := by
  rw [List.drop_eq_getElem_cons hi, List.getD_eq_getElem?_getD, List.getElem?_eq_getElem hi, idxF]; rfl

/-- A copy of a slice: its rows are new. -/
theorem fresh_append {α : Type} {R : Rep α} {T : TT} {F : Nat → Prop} {H : AH} {v zv : AV} {xs : List α} {t e by' : Nat} (hu : und T t = some (.slice e)) (hz : sizeT T e = some R.z) (hzv : zeroT T e = some zv) (hb : bytesT T e = some by') (hzl : zv.cells.length = R.z) (h0 : 0 < R.z) (h200 : R.z ≤ 200)
    (hr : IsSl R F H v xs) (hn : xs.length ≤ 4611686018427387904) (hy : xs.length * by' ≤ 140737488355328) {p : Nat} (hp : H.at p = some (.cells [] e)) :
    ∃ s' h', appendA T H t t (.sl p 0 0 (.kn 0)) v = some (s', h') ∧ Ext H.n H h' ∧ IsSl R (fun b => F b ∨ b = p ∨ H.n ≤ b) h' s' xs ∧ SlF (fun b => b = p ∨ H.n ≤ b) s' ∧ isNil s' = false := by
  obtain ⟨L, h1, h2, hc, h3⟩ := hr.out
  have e0 : L.length = xs.length := h3.1
  have hlt := at_lt hp
  rcases append_fresh (T := T) (h := H) (t := t) (tx := t) (e := e) (z := R.z) (by' := by') (zv := zv) (M := L) (p := p) (x := v) hu hu hz hzv hb hzl h0 h200 hp h1.src h1.len h1.1 h3.ones (by rw [e0]; exact hn) (by rw [e0]; exact hy) with ⟨hM, ha⟩ | ⟨hM, ha⟩
  · subst hM
    obtain rfl : xs = [] := List.eq_nil_of_length_eq_zero (by rw [← e0]; rfl)
    refine ⟨_, _, ha, Ext.refl _ _, .mk (L := []) ⟨by simp, .inr ⟨p, 0, _, [], rfl, by unfold getR; rw [hp], by simp [cut]⟩⟩ (fun b off n cap e => by cases e; exact .inr (.inl rfl)) (fun b off n cap e => by cases e; exact Nat.le_refl 0) .nil, fun b off n cap e => by cases e; exact .inl rfl, rfl⟩
  · refine ⟨_, _, ha, (Ext.refl _ _).push _ (Nat.le_refl _), .mk (L := L) ⟨h1.1, .inr ⟨H.n, 0, _, L.flatten, rfl, by unfold getR; rw [at_push_n], ?_⟩⟩ (fun b off n cap e => by cases e; exact .inr (.inr (Nat.le_refl _))) (fun b off n cap e => by cases e; rfl) (h3.lift fun b hb hlt => ⟨at_push_lt _ hlt, .inl hb⟩), fun b off n cap e => by cases e; exact .inr (Nat.le_refl _), rfl⟩
    unfold cut
    rw [if_pos (by rw [flat_len h1.1]; omega), List.drop_zero, ← flat_len h1.1, List.take_length]

theorem IsSl.reach {F G : Nat → Prop} {H : AH} {v : AV} {xs : List Int} (h : IsSl RInt F H v xs) (hv : SlF G v) : IsSl RInt G H v xs := by
  obtain ⟨L, f1, f2, f3, f4⟩ := h.out
  exact .mk f1 hv f3 ⟨f4.1, fun i c x h1 h2 => f4.2 i c x h1 h2⟩

theorem IsSl.empty {α : Type} {R : Rep α} {F : Nat → Prop} {H : AH} {v : AV} {xs : List α} (h : IsSl R F H v xs) (hn : isNil v = true) : xs = [] := by
  refine List.eq_nil_of_length_eq_zero ?_
  rw [← h.lenD]
  unfold isNil at hn
  split at hn
  · rfl
  · cases hn

end Go.Proofs.YtopeilhdddiapaaGreatDoor.Ex
end

section
/- Texts in the machine: length, bytes, parts, comparison, what is put together. -/
set_option linter.unusedSimpArgs false
set_option linter.unusedVariables false
namespace Go.Proofs.YtopeilhdddiapaaGreatDoor.Ex
open Go

theorem loop_eq (bs : ByteArray) : ∀ (k i : Nat) (r : List UInt8), bs.size - i = k → ByteArray.toList.loop bs i r = r.reverse ++ bs.data.toList.drop i := by
  intro k
  induction k with
  | zero =>
    intro i r h
    rw [ByteArray.toList.loop, if_neg (by omega)]
    have : bs.data.toList.drop i = [] := List.drop_eq_nil_iff.2 (by rw [Array.length_toList]; show bs.size ≤ i; omega)
    rw [this, List.append_nil]
  | succ k ih =>
    intro i r h
    have hi : i < bs.data.toList.length := by rw [Array.length_toList]; show i < bs.size; omega
    rw [ByteArray.toList.loop, if_pos (by omega), ih (i + 1) _ (by omega), List.reverse_cons, List.append_assoc, List.drop_eq_getElem_cons hi]
    congr 2
    show [bs.get! i] ++ _ = _
    have : bs.get! i = bs.data.toList[i] := by
      show bs.data[i]! = _
      rw [getElem!_pos bs.data i (by rw [Array.length_toList] at hi; exact hi)]
      simp
    rw [this]
    rfl
theorem toList_eq (l : List UInt8) : (⟨l.toArray⟩ : ByteArray).toList = l := by
  unfold ByteArray.toList
  rw [loop_eq _ _ 0 [] rfl]
  simp

def isStrV : AV → Bool
  | .lit (.string _) => true
  | _ => false
def strV : AV → List UInt8
  | .lit (.string s) => s.data.toList
  | _ => []
theorem isStrV_out {v : AV} (h : isStrV v = true) : v = .lit (.string ⟨(strV v).toArray⟩) := by
  unfold isStrV at h
  split at h
  · rfl
  · cases h
def isIntV : AV → Bool
  | .lit (.int _ _) => true
  | _ => false
def intV : AV → Int
  | .lit (.int _ n) => n
  | _ => 0
theorem isIntV_out {v : AV} (h : isIntV v = true) : ∃ k, v = .lit (.int k (intV v)) := by
  unfold isIntV at h
  split at h
  · exact ⟨_, rfl⟩
  · cases h
theorem isIntV_lit {k : IntKind} {n : Int} : isIntV (.lit (.int k n)) = true := rfl
theorem intV_lit {k : IntKind} {n : Int} : intV (.lit (.int k n)) = n := rfl
theorem isStrV_lit {s : ByteArray} : isStrV (.lit (.string s)) = true := rfl
theorem strV_lit {l : List UInt8} : strV (.lit (.string ⟨l.toArray⟩)) = l := rfl
theorem isStrT_out {N : NT} {e : TypeId} {P : Program} (hT : isStrT (tabOf P N) e = true) : P.underlying e = some .string := by
  have hu : und (tabOf P N) e = some .string := by
    unfold isStrT at hT
    split at hT
    · assumption
    · cases hT
  have := und_tab hu
  cases hq : P.underlying e with
  | none => rw [hq] at this; cases this
  | some x => rw [hq] at this; exact congrArg some this
section
variable {P : Program} {N : NT} {t : TM} {h : AH} {d : Option Tmp} {ty e : TypeId} {ps : String} {af : Array Edge} {g : Option (Nat × Bool)}
theorem bsize (l : List UInt8) : (⟨l.toArray⟩ : ByteArray).size = l.length := by show l.toArray.size = _; simp
theorem a_slen {i ty' : Nat} (hs : isStrV (t.get i) = true) (hT : isStrT (tabOf P N) ty' = true) : aop P (tabOf P N) ⟨d, .call ⟨.builtin .len, #[.tmp i], #[ty']⟩, ty, ps, af, g⟩ t h = some (.val (.lit (.int .i64 ((strV (t.get i)).length : Nat))), h) := by
  have hP := isStrT_out hT
  have hv := isStrV_out hs
  rw [a_call]
  have he : litEnv t (.tmp i) = .string ⟨(strV (t.get i)).toArray⟩ := by
    have : evalA t (.tmp i) = some (.lit (.string ⟨(strV (t.get i)).toArray⟩)) := by rw [ev_tmp]; exact congrArg some hv
    simp [litEnv, this, toVal]
  have hl : litOp P ⟨d, .call ⟨.builtin .len, #[.tmp i], #[ty']⟩, ty, ps, af, g⟩ t = some (.val (.lit (.int .i64 ((strV (t.get i)).length : Nat)))) := by
    have hev : evalA t (.tmp i) = some (.lit (.string ⟨(strV (t.get i)).toArray⟩)) := by rw [ev_tmp]; exact congrArg some hv
    simp only [litOp, notSelect, Op.operands, Call.operands, execOp, resolve]
    simp [litAll, hev, toVal, invoke, builtin, Builtin.len_, he, underlying]
    rw [pur_prog, hP]
    simp only [bsize]
    rfl
  simp only [aCall, aBuiltin, evals, ev_tmp, orLit, hl]
  generalize strV (t.get i) = l at hv ⊢
  rw [hv]
/-- A byte of a text. -/
def sixM (h : AH) (r : AR) (l : List UInt8) : Option AV → AR
  | some (.lit (.int _ n)) => if 0 ≤ n then match l[n.toNat]? with
    | some b => some (.val (.lit (.int .u8 (b.toNat : Int))), h)
    | none => r
    else r
  | _ => r
theorem a_six {i : Nat} {y : Operand} (hs : isStrV (t.get i) = true) (hT : isStrT (tabOf P N) e = true) : aop P (tabOf P N) ⟨d, .index e (.tmp i) y, ty, ps, af, g⟩ t h = sixM h (aIdxR P (tabOf P N) ⟨d, .index e (.tmp i) y, ty, ps, af, g⟩ t h e (.tmp i) y) (strV (t.get i)) (evalA t y) := by
  have hv := isStrV_out hs
  unfold sixM
  split
  · rename_i k n hy
    split
    · rename_i h0
      split
      · rename_i b hb
        refine idx_str hT (by rw [ev_tmp]; exact congrArg some hv) hy ?_
        unfold strAt
        rw [if_pos h0]
        show ((⟨(strV (t.get i)).toArray⟩ : ByteArray).data[n.toNat]?).map _ = _
        show ((strV (t.get i)).toArray[n.toNat]?).map _ = _
        rw [List.getElem?_toArray, hb]
        rfl
      · rfl
    · rfl
  · rfl
theorem six_int {r : AR} {l : List UInt8} {k : IntKind} {n : Int} : sixM h r l (some (.lit (.int k n))) = if 0 ≤ n then match l[n.toNat]? with
    | some b => some (.val (.lit (.int .u8 (b.toNat : Int))), h)
    | none => r
    else r := rfl
/-- A part of a text. -/
def sslM (h : AH) (r : AR) (l : List UInt8) (lo hi : Int) : AR := if 0 ≤ lo ∧ lo ≤ hi ∧ hi ≤ (l.length : Int) then some (.val (.lit (.string ⟨((l.take hi.toNat).drop lo.toNat).toArray⟩)), h) else r
def aSlS (P : Program) (T : TT) (o : Oper) (t : TM) (h : AH) (e : TypeId) (x : Operand) (lo hi : Option Operand) : AR := aSlice P T o t h e x lo hi none
def bndM (d : Int) : Option AV → Option Int
  | some (.lit (.int _ n)) => some n
  | _ => none
theorem pur_slice {N : NT} {l : List UInt8} {lo hi : Option Value} {a b : Int} (hT : isStrT (tabOf P N) e = true) (hlo : (lo = none ∧ a = 0) ∨ ∃ k, lo = some (.int k a)) (hhi : (hi = none ∧ b = l.length) ∨ ∃ k, hi = some (.int k b)) (h0 : 0 ≤ a ∧ a ≤ b ∧ b ≤ (l.length : Int)) :
    pur P (Instr.sliceAt e (.string ⟨l.toArray⟩) lo hi none) = some (.ok (.string ⟨((l.take b.toNat).drop a.toNat).toArray⟩)) := by
  have hP := isStrT_out hT
  have hx : (⟨l.toArray⟩ : ByteArray).extract a.toNat b.toNat = ⟨((l.take b.toNat).drop a.toNat).toArray⟩ := by
    have : ((⟨l.toArray⟩ : ByteArray).extract a.toNat b.toNat).data = ((l.take b.toNat).drop a.toNat).toArray := by
      rw [ByteArray.data_extract]
      show (l.toArray).extract a.toNat b.toNat = _
      rw [List.extract_toArray, List.extract_eq_take_drop]
      congr 1
      rw [List.drop_take]
    exact ByteArray.ext this
  have u1 : ∀ {α : Type} (f : TypeDesc → Sem α), pur P (underlying e >>= f) = pur P (f .string) := fun f => by
    show pur P ((match P.underlying e with | some d => pure d | none => stuck "no such type") >>= f) = _
    rw [hP]
    rfl
  have hb' : Instr.sliceBounds false (⟨l.toArray⟩ : ByteArray).size (⟨l.toArray⟩ : ByteArray).size lo hi none = pure (a.toNat, b.toNat, l.length) := by
    rw [bsize]
    unfold Instr.sliceBounds
    rcases hlo with ⟨rfl, rfl⟩ | ⟨k, rfl⟩ <;> rcases hhi with ⟨rfl, rfl⟩ | ⟨k', rfl⟩
    · rfl
    · have hb2 : 0 ≤ b ∧ b ≤ (l.length : Int) := ⟨by omega, h0.2.2⟩
      simp [Instr.sliceBound, asIntOf, hb2]
    · have ha2 : 0 ≤ a ∧ a ≤ ((l.length : Nat) : Int) := ⟨by omega, by omega⟩
      simp [Instr.sliceBound, asIntOf, ha2]
    · have hb2 : 0 ≤ b ∧ b ≤ (l.length : Int) := ⟨by omega, h0.2.2⟩
      have ha2 : 0 ≤ a ∧ a ≤ b := ⟨by omega, by omega⟩
      have hm : max b 0 = b := by omega
      simp [Instr.sliceBound, asIntOf, hb2, ha2, hm]
  unfold Instr.sliceAt
  show pur P (underlying e >>= _) = _
  rw [u1]
  show pur P (Instr.slice e (.string ⟨l.toArray⟩) lo hi none) = _
  unfold Instr.slice
  show pur P (underlying e >>= _) = _
  rw [u1]
  simp only [Option.isSome_none, hb', Bool.false_eq_true, if_false]
  show some (PR.ok (Value.string ((⟨l.toArray⟩ : ByteArray).extract a.toNat b.toNat))) = _
  rw [hx]
/-- What an expression of a part of a text gives. -/
theorem slice_str {N : NT} {i : Nat} {lo hi : Option Operand} {a b : Int} (hT : isStrT (tabOf P N) e = true) (hs : isStrV (t.get i) = true) (hlo : (lo = none ∧ a = 0) ∨ ∃ y k, lo = some y ∧ evalA t y = some (.lit (.int k a))) (hhi : (hi = none ∧ b = (strV (t.get i)).length) ∨ ∃ y k, hi = some y ∧ evalA t y = some (.lit (.int k b))) (h0 : 0 ≤ a ∧ a ≤ b ∧ b ≤ ((strV (t.get i)).length : Int)) :
    aop P (tabOf P N) ⟨d, .slice e (.tmp i) lo hi none, ty, ps, af, g⟩ t h = some (.val (.lit (.string ⟨(((strV (t.get i)).take b.toNat).drop a.toNat).toArray⟩)), h) := by
  have hv := isStrV_out hs
  have hx : evalA t (.tmp i) = some (.lit (.string ⟨(strV (t.get i)).toArray⟩)) := by rw [ev_tmp]; exact congrArg some hv
  have ex : litEnv t (.tmp i) = .string ⟨(strV (t.get i)).toArray⟩ := by simp [litEnv, hx, toVal]
  generalize strV (t.get i) = l at *
  have h1 : litOp P ⟨d, .slice e (.tmp i) lo hi none, ty, ps, af, g⟩ t = some (.val (.lit (.string ⟨((l.take b.toNat).drop a.toNat).toArray⟩))) := by
    have fin : ∀ {lo' hi' : Option Value}, ((lo' = none ∧ a = 0) ∨ ∃ k, lo' = some (.int k a)) → ((hi' = none ∧ b = l.length) ∨ ∃ k, hi' = some (.int k b)) → ∀ (f : Value → Sem Next), pur P (Instr.sliceAt e (.string ⟨l.toArray⟩) lo' hi' none >>= f) = pur P (f (.string ⟨((l.take b.toNat).drop a.toNat).toArray⟩)) := fun {lo' hi'} q1 q2 f => by
      have he := pur_slice (P := P) (e := e) (l := l) hT q1 q2 h0
      generalize Instr.sliceAt e (.string ⟨l.toArray⟩) lo' hi' none = s at he
      induction s with
      | pure x => simp [pur] at he; subst he; rfl
      | halt r => cases r <;> simp [pur] at he
      | program k ih => exact ih P he
      | mark e k ih => exact ih he
      | _ => simp [pur] at he
    unfold litOp
    rcases hlo with ⟨rfl, rfl⟩ | ⟨y, k, rfl, hy⟩ <;> rcases hhi with ⟨rfl, rfl⟩ | ⟨y', k', rfl, hy'⟩
    · rw [if_pos (by simp [notSelect, Op.operands, litAll, hx, toVal])]
      simp only [execOp, ex, Option.map_none]
      exact congrArg ofPR (fin (.inl ⟨rfl, rfl⟩) (.inl ⟨rfl, rfl⟩) _)
    · rw [if_pos (by simp [notSelect, Op.operands, litAll, hx, hy', toVal])]
      have e' : litEnv t y' = .int k' b := by simp [litEnv, hy', toVal]
      simp only [execOp, ex, Option.map_none, Option.map_some, e']
      exact congrArg ofPR (fin (.inl ⟨rfl, rfl⟩) (.inr ⟨_, rfl⟩) _)
    · rw [if_pos (by simp [notSelect, Op.operands, litAll, hx, hy, toVal])]
      have e' : litEnv t y = .int k a := by simp [litEnv, hy, toVal]
      simp only [execOp, ex, Option.map_none, Option.map_some, e']
      exact congrArg ofPR (fin (.inr ⟨_, rfl⟩) (.inl ⟨rfl, rfl⟩) _)
    · rw [if_pos (by simp [notSelect, Op.operands, litAll, hx, hy, hy', toVal])]
      have e1 : litEnv t y = .int k a := by simp [litEnv, hy, toVal]
      have e2 : litEnv t y' = .int k' b := by simp [litEnv, hy', toVal]
      simp only [execOp, ex, Option.map_none, Option.map_some, e1, e2]
      exact congrArg ofPR (fin (.inr ⟨_, rfl⟩) (.inr ⟨_, rfl⟩) _)
  show aSlice _ _ _ _ _ _ _ _ _ _ = _
  unfold aSlice orLit
  rw [h1]
theorem a_ssl_hi {i j : Nat} (hT : isStrT (tabOf P N) e = true) (hs : isStrV (t.get i) = true) (hj : isIntV (t.get j) = true) :
    aop P (tabOf P N) ⟨d, .slice e (.tmp i) none (some (.tmp j)) none, ty, ps, af, g⟩ t h = sslM h (aSlS P (tabOf P N) ⟨d, .slice e (.tmp i) none (some (.tmp j)) none, ty, ps, af, g⟩ t h e (.tmp i) none (some (.tmp j))) (strV (t.get i)) 0 (intV (t.get j)) := by
  unfold sslM
  split
  · rename_i h0
    obtain ⟨k, hk⟩ := isIntV_out hj
    exact slice_str hT hs (.inl ⟨rfl, rfl⟩) (.inr ⟨_, k, rfl, by rw [ev_tmp, hk]; rfl⟩) h0
  · rfl
theorem a_ssl_lo {i j : Nat} (hT : isStrT (tabOf P N) e = true) (hs : isStrV (t.get i) = true) (hj : isIntV (t.get j) = true) :
    aop P (tabOf P N) ⟨d, .slice e (.tmp i) (some (.tmp j)) none none, ty, ps, af, g⟩ t h = sslM h (aSlS P (tabOf P N) ⟨d, .slice e (.tmp i) (some (.tmp j)) none none, ty, ps, af, g⟩ t h e (.tmp i) (some (.tmp j)) none) (strV (t.get i)) (intV (t.get j)) ((strV (t.get i)).length : Nat) := by
  unfold sslM
  split
  · rename_i h0
    obtain ⟨k, hk⟩ := isIntV_out hj
    exact slice_str hT hs (.inr ⟨_, k, rfl, by rw [ev_tmp, hk]; rfl⟩) (.inl ⟨rfl, rfl⟩) h0
  · rfl
theorem a_ssl_lohi {i j m : Nat} (hT : isStrT (tabOf P N) e = true) (hs : isStrV (t.get i) = true) (hj : isIntV (t.get j) = true) (hm : isIntV (t.get m) = true) :
    aop P (tabOf P N) ⟨d, .slice e (.tmp i) (some (.tmp j)) (some (.tmp m)) none, ty, ps, af, g⟩ t h = sslM h (aSlS P (tabOf P N) ⟨d, .slice e (.tmp i) (some (.tmp j)) (some (.tmp m)) none, ty, ps, af, g⟩ t h e (.tmp i) (some (.tmp j)) (some (.tmp m))) (strV (t.get i)) (intV (t.get j)) (intV (t.get m)) := by
  unfold sslM
  split
  · rename_i h0
    obtain ⟨k, hk⟩ := isIntV_out hj
    obtain ⟨k', hk'⟩ := isIntV_out hm
    exact slice_str hT hs (.inr ⟨_, k, rfl, by rw [ev_tmp, hk]; rfl⟩) (.inr ⟨_, k', rfl, by rw [ev_tmp, hk']; rfl⟩) h0
  · rfl
/-! Comparison, and what is put together. -/
theorem pur_seq {a b : List UInt8} : pur P (binOp .eql e (Value.string ⟨a.toArray⟩) (Value.string ⟨b.toArray⟩)) = some (.ok (Value.bool (a == b))) := by
  have hd : ((⟨a.toArray⟩ : ByteArray).toList == (⟨b.toArray⟩ : ByteArray).toList) = (a == b) := by rw [toList_eq, toList_eq]
  show pur P (pure (Value.bool ((⟨a.toArray⟩ : ByteArray).toList == (⟨b.toArray⟩ : ByteArray).toList))) = _
  rw [hd]
  rfl
theorem pur_sne {a b : List UInt8} : pur P (binOp .neq e (Value.string ⟨a.toArray⟩) (Value.string ⟨b.toArray⟩)) = some (.ok (Value.bool (!(a == b)))) := by
  have hd : ((⟨a.toArray⟩ : ByteArray).toList == (⟨b.toArray⟩ : ByteArray).toList) = (a == b) := by rw [toList_eq, toList_eq]
  show pur P (pure (Value.bool !((⟨a.toArray⟩ : ByteArray).toList == (⟨b.toArray⟩ : ByteArray).toList))) = _
  rw [hd]
  rfl
theorem pur_sadd {a b : List UInt8} (hs : a.length + b.length ≤ 4611686018427387904) : pur P (binOp .add e (Value.string ⟨a.toArray⟩) (Value.string ⟨b.toArray⟩)) = some (.ok (Value.string ⟨(a ++ b).toArray⟩)) := by
  show pur P (if (((⟨a.toArray⟩ : ByteArray).size + (⟨b.toArray⟩ : ByteArray).size : Nat) : Int) > IntKind.i64.max then _ else pure (Value.string ((⟨a.toArray⟩ : ByteArray) ++ ⟨b.toArray⟩))) = _
  rw [if_neg (by rw [bsize, bsize]; show ¬ ((9223372036854775807 : Int) < _); omega)]
  have : (⟨a.toArray⟩ : ByteArray) ++ ⟨b.toArray⟩ = ⟨(a ++ b).toArray⟩ := ByteArray.ext (by rw [ByteArray.data_append, List.append_toArray])
  rw [this]
  rfl
theorem ofPV_str {s : ByteArray} : ofPV h (some (.ok (Value.string s))) = some (.val (.lit (.string s)), h) := rfl
theorem same_sV {n : Nat} {v : AV} (hs : isStrV v = true) : AV.same n v v = true := by
  rw [isStrV_out hs]
  exact same_str
end
end Go.Proofs.YtopeilhdddiapaaGreatDoor.Ex
end

section
/- How the program's structs lie in the abstract heap. -/
set_option linter.unusedSimpArgs false
set_option linter.unusedVariables false
set_option maxRecDepth 10000
namespace Go.Proofs.YtopeilhdddiapaaGreatDoor.Ex
open Go

structure IvD where
  first : Int
  last : Int
  acting : List Int
  boots : List Int
  mayRw : Bool
structure VerD where
  epoch : Int
  n : Int
  deriving DecidableEq
structure InfoD where
  les : Int
  head : VerD
  tail : VerD
  born : Int
  deriving DecidableEq
structure PgD where
  pool : Int
  seed : Int
  deriving DecidableEq
structure OsdD where
  ex : Bool
  up : Bool
  weight : Int
  boot : Int
  upFrom : Int
  upThru : Int
  deriving DecidableEq
structure PoolD where
  id : Int
  size : Int
  min : Int
  pgs : Int
  deriving DecidableEq
structure BktD where
  id : Int
  kind : Int
  items : List Int
  weights : List Int
  deriving DecidableEq
structure MapD where
  epoch : Int
  osds : List OsdD
  pools : List PoolD
  buckets : List BktD
  leaf : Int
  deriving DecidableEq

def RIv : Rep IvD := RMap (fun x => (x.first, x.last, x.acting, x.boots, x.mayRw)) (RPair RInt (RPair RInt (RPair (RSl RInt) (RPair (RSl RInt) RBool))))
def RVer : Rep VerD := RMap (fun x => (x.epoch, x.n)) (RPair RInt RInt)
def RInfo : Rep InfoD := RMap (fun x => (x.les, x.head, x.tail, x.born)) (RPair RInt (RPair RVer (RPair RVer RInt)))
def RPg : Rep PgD := RMap (fun x => (x.pool, x.seed)) (RPair RInt RInt)
def ROsd : Rep OsdD := RMap (fun x => (x.ex, x.up, x.weight, x.boot, x.upFrom, x.upThru)) (RPair RBool (RPair RBool (RPair RInt (RPair RInt (RPair RInt RInt)))))
def RPool : Rep PoolD := RMap (fun x => (x.id, x.size, x.min, x.pgs)) (RPair RInt (RPair RInt (RPair RInt RInt)))
def RBkt : Rep BktD := RMap (fun x => (x.id, x.kind, x.items, x.weights)) (RPair RInt (RPair RInt (RPair (RSl RInt) (RSl RInt))))
def RMp : Rep MapD := RMap (fun x => (x.epoch, x.osds, x.pools, x.buckets, x.leaf)) (RPair RInt (RPair (RSl ROsd) (RPair (RSl RPool) (RPair (RSl RBkt) RInt))))

section
variable {F : Nat → Prop} {h : AH} {c : List AV}

theorem RInt_is {x : Int} : RInt.is F h c x ↔ c = [.lit (.int .i64 x)] ∧ I64 x := Iff.rfl
theorem RBool_is {x : Bool} : RBool.is F h c x ↔ c = [.lit (.bool x)] := Iff.rfl
theorem RSl_is {α : Type} {R : Rep α} {xs : List α} : (RSl R).is F h c xs ↔ ∃ v, c = [v] ∧ IsSl R F h v xs :=
  ⟨fun hh => by obtain ⟨v, L, rfl, h1⟩ := hh; exact ⟨v, rfl, v, L, rfl, h1⟩, fun ⟨v, e, hh⟩ => e ▸ hh⟩
theorem RPair_is {α β : Type} {R : Rep α} {S : Rep β} {x : α × β} : (RPair R S).is F h c x ↔ ∃ c1 c2, c = c1 ++ c2 ∧ R.is F h c1 x.1 ∧ S.is F h c2 x.2 := Iff.rfl

theorem RIv_is {x : IvD} : RIv.is F h c x ↔ ∃ va vb, c = [.lit (.int .i64 x.first), .lit (.int .i64 x.last), va, vb, .lit (.bool x.mayRw)] ∧ IsSl RInt F h va x.acting ∧ IsSl RInt F h vb x.boots ∧ I64 x.first ∧ I64 x.last := by
  constructor
  · rintro ⟨_, _, rfl, ⟨rfl, h1⟩, _, _, rfl, ⟨rfl, h2⟩, _, _, rfl, h3, _, _, rfl, h4, rfl⟩
    obtain ⟨va, rfl, h3⟩ := RSl_is.1 h3
    obtain ⟨vb, rfl, h4⟩ := RSl_is.1 h4
    exact ⟨va, vb, rfl, h3, h4, h1, h2⟩
  · rintro ⟨va, vb, rfl, h3, h4, h1, h2⟩
    exact ⟨_, _, rfl, ⟨rfl, h1⟩, _, _, rfl, ⟨rfl, h2⟩, _, _, rfl, h3, _, _, rfl, h4, rfl⟩

theorem RVer_is {x : VerD} : RVer.is F h c x ↔ c = [.lit (.int .i64 x.epoch), .lit (.int .i64 x.n)] ∧ I64 x.epoch ∧ I64 x.n := by
  constructor
  · rintro ⟨_, _, rfl, ⟨rfl, h1⟩, rfl, h2⟩
    exact ⟨rfl, h1, h2⟩
  · rintro ⟨rfl, h1, h2⟩
    exact ⟨_, _, rfl, ⟨rfl, h1⟩, rfl, h2⟩
theorem RInfo_is {x : InfoD} : RInfo.is F h c x ↔ c = [.lit (.int .i64 x.les), .lit (.int .i64 x.head.epoch), .lit (.int .i64 x.head.n), .lit (.int .i64 x.tail.epoch), .lit (.int .i64 x.tail.n), .lit (.int .i64 x.born)] ∧ I64 x.les ∧ (I64 x.head.epoch ∧ I64 x.head.n) ∧ (I64 x.tail.epoch ∧ I64 x.tail.n) ∧ I64 x.born := by
  constructor
  · rintro ⟨_, _, rfl, ⟨rfl, h1⟩, _, _, rfl, h2, _, _, rfl, h3, rfl, h4⟩
    obtain ⟨rfl, h2'⟩ := RVer_is.1 h2
    obtain ⟨rfl, h3'⟩ := RVer_is.1 h3
    exact ⟨rfl, h1, h2', h3', h4⟩
  · rintro ⟨rfl, h1, h2, h3, h4⟩
    exact ⟨_, _, rfl, ⟨rfl, h1⟩, _, _, rfl, RVer_is.2 ⟨rfl, h2⟩, _, _, rfl, RVer_is.2 ⟨rfl, h3⟩, rfl, h4⟩
theorem RPg_is {x : PgD} : RPg.is F h c x ↔ c = [.lit (.int .i64 x.pool), .lit (.int .i64 x.seed)] ∧ I64 x.pool ∧ I64 x.seed := by
  constructor
  · rintro ⟨_, _, rfl, ⟨rfl, h1⟩, rfl, h2⟩
    exact ⟨rfl, h1, h2⟩
  · rintro ⟨rfl, h1, h2⟩
    exact ⟨_, _, rfl, ⟨rfl, h1⟩, rfl, h2⟩
theorem ROsd_is {x : OsdD} : ROsd.is F h c x ↔ c = [.lit (.bool x.ex), .lit (.bool x.up), .lit (.int .i64 x.weight), .lit (.int .i64 x.boot), .lit (.int .i64 x.upFrom), .lit (.int .i64 x.upThru)] ∧ I64 x.weight ∧ I64 x.boot ∧ I64 x.upFrom ∧ I64 x.upThru := by
  constructor
  · rintro ⟨_, _, rfl, rfl, _, _, rfl, rfl, _, _, rfl, ⟨rfl, h1⟩, _, _, rfl, ⟨rfl, h2⟩, _, _, rfl, ⟨rfl, h3⟩, rfl, h4⟩
    exact ⟨rfl, h1, h2, h3, h4⟩
  · rintro ⟨rfl, h1, h2, h3, h4⟩
    exact ⟨_, _, rfl, rfl, _, _, rfl, rfl, _, _, rfl, ⟨rfl, h1⟩, _, _, rfl, ⟨rfl, h2⟩, _, _, rfl, ⟨rfl, h3⟩, rfl, h4⟩
theorem RPool_is {x : PoolD} : RPool.is F h c x ↔ c = [.lit (.int .i64 x.id), .lit (.int .i64 x.size), .lit (.int .i64 x.min), .lit (.int .i64 x.pgs)] ∧ I64 x.id ∧ I64 x.size ∧ I64 x.min ∧ I64 x.pgs := by
  constructor
  · rintro ⟨_, _, rfl, ⟨rfl, h1⟩, _, _, rfl, ⟨rfl, h2⟩, _, _, rfl, ⟨rfl, h3⟩, rfl, h4⟩
    exact ⟨rfl, h1, h2, h3, h4⟩
  · rintro ⟨rfl, h1, h2, h3, h4⟩
    exact ⟨_, _, rfl, ⟨rfl, h1⟩, _, _, rfl, ⟨rfl, h2⟩, _, _, rfl, ⟨rfl, h3⟩, rfl, h4⟩
theorem RBkt_is {x : BktD} : RBkt.is F h c x ↔ ∃ va vb, c = [.lit (.int .i64 x.id), .lit (.int .i64 x.kind), va, vb] ∧ IsSl RInt F h va x.items ∧ IsSl RInt F h vb x.weights ∧ I64 x.id ∧ I64 x.kind := by
  constructor
  · rintro ⟨_, _, rfl, ⟨rfl, h1⟩, _, _, rfl, ⟨rfl, h2⟩, _, _, rfl, h3, h4⟩
    obtain ⟨va, rfl, h3⟩ := RSl_is.1 h3
    obtain ⟨vb, rfl, h4⟩ := RSl_is.1 h4
    exact ⟨va, vb, rfl, h3, h4, h1, h2⟩
  · rintro ⟨va, vb, rfl, h3, h4, h1, h2⟩
    exact ⟨_, _, rfl, ⟨rfl, h1⟩, _, _, rfl, ⟨rfl, h2⟩, _, _, rfl, h3, h4⟩
theorem RMp_is {x : MapD} : RMp.is F h c x ↔ ∃ vo vp vb, c = [.lit (.int .i64 x.epoch), vo, vp, vb, .lit (.int .i64 x.leaf)] ∧ IsSl ROsd F h vo x.osds ∧ IsSl RPool F h vp x.pools ∧ IsSl RBkt F h vb x.buckets ∧ I64 x.epoch ∧ I64 x.leaf := by
  constructor
  · rintro ⟨_, _, rfl, ⟨rfl, h1⟩, _, _, rfl, h2, _, _, rfl, h3, _, _, rfl, h4, rfl, h5⟩
    obtain ⟨vo, rfl, h2⟩ := RSl_is.1 h2
    obtain ⟨vp, rfl, h3⟩ := RSl_is.1 h3
    obtain ⟨vb, rfl, h4⟩ := RSl_is.1 h4
    exact ⟨vo, vp, vb, rfl, h2, h3, h4, h1, h5⟩
  · rintro ⟨vo, vp, vb, rfl, h2, h3, h4, h1, h5⟩
    exact ⟨_, _, rfl, ⟨rfl, h1⟩, _, _, rfl, h2, _, _, rfl, h3, _, _, rfl, h4, rfl, h5⟩
end

theorem RIv_z : RIv.z = 5 := rfl
theorem RInfo_z : RInfo.z = 6 := rfl
theorem RPg_z : RPg.z = 2 := rfl
theorem ROsd_z : ROsd.z = 6 := rfl
theorem RPool_z : RPool.z = 4 := rfl
theorem RBkt_z : RBkt.z = 4 := rfl
theorem RMp_z : RMp.z = 5 := rfl

/-- The loads of an element, by place. -/
theorem IsSl.at {α : Type} {R : Rep α} {T : TT} {F : Nat → Prop} {h : AH} {v : AV} {xs : List α} (hs : IsSl R F h v xs) {z : Nat} (hz : R.z = z) {i : Nat} {x : α} (hx : xs[i]? = some x) :
    ∃ c, R.is F h c x ∧ (∀ e n j, sizeT T e = some n → 0 < n → j + n ≤ z → loadA T h e (slB v) (slO v + i * z + j) = ldL T e c j) ∧ (∀ e n, sizeT T e = some n → 0 < n → n ≤ z → loadA T h e (slB v) (slO v + i * z) = ldL T e c 0) := by
  subst hz
  obtain ⟨c, h1, h2⟩ := hs.get (T := T) hx
  exact ⟨c, h1, h2, fun e n hn h0 hle => by have := h2 e n 0 hn h0 (by omega); simpa using this⟩

/-- A list of elements of so many bytes is not too great. -/
def Sm {α : Type} (by' : Nat) (ys : List α) : Prop := ys.length * by' ≤ 140737488351232

/-- The loads of an element in a heap that has grown; what the element is, is told of the heap ahead. -/
theorem IsSl.atE {α : Type} {R : Rep α} {T : TT} {F : Nat → Prop} {H h : AH} {v : AV} {xs : List α} (hs : IsSl R F H v xs) (he : Ext H.n H h) {z : Nat} (hz : R.z = z) {i : Nat} {x : α} (hx : xs[i]? = some x) :
    ∃ c, R.is F H c x ∧ (∀ e n j, sizeT T e = some n → 0 < n → j + n ≤ z → loadA T h e (slB v) (slO v + i * z + j) = ldL T e c j) ∧ (∀ e n, sizeT T e = some n → 0 < n → n ≤ z → loadA T h e (slB v) (slO v + i * z) = ldL T e c 0) := by
  have key : ∀ e off, loadA T h e (slB v) off = loadA T H e (slB v) off := fun e off => by
    obtain ⟨L, h1, _, _, h3⟩ := hs.out
    rcases h1.2 with ⟨rfl, rfl⟩ | ⟨b, o, cap, row, rfl, h4, h5⟩
    · have := h3.1
      have hlt := (List.getElem?_eq_some_iff.1 hx).1
      simp at this
      omega
    · have := he.2 b (getR_lt h4)
      simp only [slB, loadA, getR, this]
  obtain ⟨c, h1, h2, h3⟩ := hs.at (T := T) hz hx
  exact ⟨c, h1, fun e n j a b d => by rw [key]; exact h2 e n j a b d, fun e n a b d => by rw [key]; exact h3 e n a b d⟩

end Go.Proofs.YtopeilhdddiapaaGreatDoor.Ex
end

section
/- Bytes as a text, in the abstract machine. -/
set_option linter.unusedSimpArgs false
set_option linter.unusedVariables false
set_option maxRecDepth 10000
namespace Go.Proofs.YtopeilhdddiapaaGreatDoor.Ex
open Go

section
variable {P : Program} {T : TT} {t : TM} {h : AH} {d : Option Tmp} {ty : TypeId} {ps : String} {af : Array Edge} {g : Option (Nat × Bool)}
/-- Bytes as a text. -/
def aConQ (P : Program) (T : TT) (o : Oper) (t : TM) (h : AH) (src dst : TypeId) (x : Operand) : AR := aConvert P T o t h src dst x
def conM (h : AH) (r : AR) : AV → AR
  | .sl b off len _ => match bytesAt h b off len with
    | some bs => some (.val (.lit (.string ⟨bs.toArray⟩)), h)
    | none => r
  | _ => r
theorem conM_sl {r : AR} {b off len : Nat} {cap : Cap} : conM h r (.sl b off len cap) = match bytesAt h b off len with
    | some bs => some (.val (.lit (.string ⟨bs.toArray⟩)), h)
    | none => r := rfl
theorem a_conM {i : Nat} : aConR Tryz.prog (tabOf Tryz.prog NT0) ⟨d, .convert 58 9 (.tmp i), ty, ps, af, g⟩ t h 58 9 (.tmp i) = conM h (aConQ Tryz.prog (tabOf Tryz.prog NT0) ⟨d, .convert 58 9 (.tmp i), ty, ps, af, g⟩ t h 58 9 (.tmp i)) (t.get i) := by
  unfold conM
  split
  · rename_i b off len cap hv
    split
    · rename_i bs hbs
      have hu1 : und (tabOf Tryz.prog NT0) 58 = some (.slice 5) := by kernel_rfl
      have hu2 : und (tabOf Tryz.prog NT0) 9 = some .string := by kernel_rfl
      have hu3 : und (tabOf Tryz.prog NT0) 5 = some (.int .u8) := by kernel_rfl
      have hl : litOp Tryz.prog ⟨d, .convert 58 9 (.tmp i), ty, ps, af, g⟩ t = none := by
        unfold litOp
        rw [if_neg]
        simp [Op.operands, litAll, ev_tmp, hv, toVal]
      unfold aConR aConvert
      rw [ev_tmp, hv]
      unfold orLit
      rw [hl]
      simp only [aConv1, hu1, hu2, hu3, hbs, Option.map_some, val]
    · rfl
  · rfl
end

def bL (xs : List UInt8) : List AV := xs.map fun n => .lit (.int .u8 n.toNat)
theorem bytesA_bL : ∀ xs : List UInt8, bytesA (bL xs) = some xs
  | [] => rfl
  | x :: xs => by
    have hlt : Nat.blt x.toNat 256 = true := by rw [Nat.blt_eq]; exact UInt8.toNat_lt x
    show (bif Nat.blt x.toNat 256 then (bytesA (bL xs)).map (UInt8.ofNat x.toNat :: ·) else none) = _
    rw [hlt, bytesA_bL xs]
    simp
theorem OwnL.bytes {G : Nat → Prop} {n0 : Nat} {h : AH} {v : AV} {e : TypeId} {xs : List UInt8} (ho : OwnL RByte G n0 h v e xs) (hne : xs ≠ []) :
    ∃ p, v = .sl p 0 xs.length (.un 1) ∧ n0 ≤ p ∧ h.at p = some (.cells (bL xs) e) ∧ bytesAt h p 0 xs.length = some xs := by
  obtain ⟨L, h1, h2⟩ := ho
  have hL : L.flatten = bL xs := by
    obtain ⟨e1, e2⟩ := h2
    have key : ∀ (L : List (List AV)) (xs : List UInt8), L.length = xs.length → (∀ (i : Nat) c x, L[i]? = some c → xs[i]? = some x → RByte.is (fun b => G b ∧ Apart v b) h c x) → L.flatten = bL xs := by
      intro L
      induction L with
      | nil => intro xs hl _; cases xs with | nil => rfl | cons => cases hl
      | cons a r ih =>
        intro xs hl hh
        cases xs with
        | nil => cases hl
        | cons x xs =>
          have i1 := ih xs (by simpa using hl) (fun i c y a b => hh (i + 1) c y (by simpa using a) (by simpa using b))
          obtain rfl := hh 0 a x rfl rfl
          rw [List.flatten_cons, i1]
          rfl
    exact key L xs e1 e2
  have e0 := h2.1
  rcases h1.2 with ⟨rfl, rfl⟩ | ⟨p, rfl, hp, hat⟩
  · exact absurd (List.eq_nil_of_length_eq_zero (by rw [← e0]; rfl)) hne
  · refine ⟨p, by rw [e0]; rfl, hp, by rw [hat, hL], ?_⟩
    unfold bytesAt getR
    rw [hat, hL]
    show (match cut (bL xs) 0 xs.length with | some cs => bytesA cs | none => none) = _
    unfold cut
    rw [if_pos (by unfold bL; simp)]
    show bytesA (((bL xs).drop 0).take xs.length) = _
    rw [List.drop_zero, List.take_of_length_le (by unfold bL; simp), bytesA_bL]
end Go.Proofs.YtopeilhdddiapaaGreatDoor.Ex
end

section
/- Names put together (both sides), numbers in digits. -/
set_option linter.unusedSimpArgs false
set_option linter.unusedVariables false
set_option maxRecDepth 10000
set_option maxHeartbeats 4000000
namespace Go.Proofs.YtopeilhdddiapaaGreatDoor.Ex
open Go

section
variable {H : AH} {Q : AV → AH → Prop}
theorem itoa_c {n : Int} {e : TypeId} (hT : H.at 1 = some (.frz tabL e)) (h0 : -9223372036854775808 ≤ n) (h1 : n ≤ 9223372036854775807) (hq : Q (.lit (.string ⟨(Lib.itoa n).toArray⟩)) H) : WC Tryz.prog (tabOf Tryz.prog NT0) S0 22 [.lit (.int .i64 n)] H Q := by
  refine WC_sum Tryz.func22 rfl (g := sItoa) rfl ?_ hq
  cases hs : (decide (0 ≤ n) && decide (n < 100)) with
  | true =>
    simp only [Bool.and_eq_true, decide_eq_true_eq] at hs
    have e1 : Lib.itoa n = dig2 n.toNat := by
      unfold Lib.itoa
      rw [if_neg (by omega), dig2_eq (by omega)]
    rw [e1]
    show (bif decide (0 ≤ n) && decide (n < 100) then _ else _) = _
    rw [decide_eq_true hs.1, decide_eq_true hs.2]
    rfl
  | false =>
    have hu : uintsL tabL = some Lib.pow10Tab := by decide
    show (bif decide (0 ≤ n) && decide (n < 100) then _ else _) = _
    rw [hs]
    simp only [hT, hu, h0, h1, decide_true, Bool.and_self, cond_true, cond_false]
theorem trim_c {s cs : List UInt8} (h1 : s.length ≤ 9223372036854775807) (h2 : cs.length < 4294967281) (h3 : cs.all (fun b => decide (b.toNat < 128)) = true) (hq : Q (.lit (.string ⟨(Lib.trimS s cs).toArray⟩)) H) : WC Tryz.prog (tabOf Tryz.prog NT0) S0 29 [.lit (.string ⟨s.toArray⟩), .lit (.string ⟨cs.toArray⟩)] H Q := by
  refine WC_sum Tryz.func29 rfl (g := sTrim) rfl ?_ hq
  show (bif decide ((⟨s.toArray⟩ : ByteArray).size ≤ 9223372036854775807) && (decide ((⟨cs.toArray⟩ : ByteArray).size < 4294967281) && cs.all fun b => decide (b.toNat < 128)) then _ else _) = _
  rw [bsize, bsize, decide_eq_true h1, decide_eq_true h2, h3]
  rfl
theorem index_c {s : List UInt8} {c : UInt8} (hq : Q (.lit (.int .i64 (Lib.indexByte s c))) H) : WC Tryz.prog (tabOf Tryz.prog NT0) S0 47 [.lit (.string ⟨s.toArray⟩), .lit (.string ⟨#[c]⟩)] H Q :=
  WC_sum Tryz.func47 rfl (g := sIndex) rfl rfl hq
theorem count_c {s : List UInt8} {c : UInt8} (hq : Q (.lit (.int .i64 (s.count c : Nat))) H) : WC Tryz.prog (tabOf Tryz.prog NT0) S0 61 [.lit (.string ⟨s.toArray⟩), .lit (.string ⟨#[c]⟩)] H Q :=
  WC_sum Tryz.func61 rfl (g := sCount) rfl rfl hq
theorem atoi_c {s : List UInt8} {n : Int} (h1 : s.length ≤ 18) (h2 : Lib.atoi s = some n) (hq : Q (.tup [.lit (.int .i64 n), .lit .nilIface]) H) : WC Tryz.prog (tabOf Tryz.prog NT0) S0 30 [.lit (.string ⟨s.toArray⟩)] H Q := by
  refine WC_sum Tryz.func30 rfl (g := sAtoi) rfl ?_ hq
  show (bif decide ((⟨s.toArray⟩ : ByteArray).size ≤ 18) then (Lib.atoi s).map fun n => (AV.tup [.lit (.int .i64 n), .lit .nilIface], H) else none) = _
  rw [bsize, decide_eq_true h1, h2]
  rfl
theorem lives25_c (hq : Q (.lit (.bool true)) H) : WC Tryz.prog (tabOf Tryz.prog NT0) S0 17 [] H Q := WC_sum Tryz.func17 rfl (g := sTrue) rfl rfl hq
end

theorem itoa_nat (n : Nat) : Lib.itoa (n : Int) = Lib.decDigits n := by
  unfold Lib.itoa
  rw [if_neg (by omega)]
  rfl
theorem dig_len {n : Nat} (h : n ≤ 9223372036854775807) : (Lib.decDigits n).length ≤ 20 := digits_len n 20 (by omega) (by omega)
theorem mname_x {H : AH} {l : List UInt8} (hl : l.length ≤ 4611686018427387000) : WC Tryz.prog (tabOf Tryz.prog NT0) S0 15 [.lit (.string ⟨l.toArray⟩)] H fun r h' => r = .lit (.string ⟨(l ++ [47, 109]).toArray⟩) ∧ h' = H := by
  refine WC_fn Tryz.func15 rfl rfl ?_
  have e1 : ∀ (P : Program) (e : TypeId), pur P (binOp .add e (Value.string ⟨l.toArray⟩) (Value.string ⟨#[47, 109]⟩)) = some (.ok (Value.string ⟨(l ++ [47, 109]).toArray⟩)) := fun P e => pur_sadd (b := [47, 109]) (by simp; omega)
  simp only [core, zrA, zrS, zrM, zrL, zrE, reduceCtorEq, zrD, ziE, ziL, ziN, Tryz.ntmps15, e1, ofPV_str]
theorem mnameR_x {H : AH} {l : List UInt8} (hl : l.length ≤ 4611686018427387000) : WC Tryz.prog (tabOf Tryz.prog NT0) S0 16 [.lit (.string ⟨l.toArray⟩)] H fun r h' => r = .lit (.string ⟨(l ++ [47, 109]).toArray⟩) ∧ h' = H := by
  refine WC_fn Tryz.func16 rfl rfl ?_
  have e1 : ∀ (P : Program) (e : TypeId), pur P (binOp .add e (Value.string ⟨l.toArray⟩) (Value.string ⟨#[47, 109]⟩)) = some (.ok (Value.string ⟨(l ++ [47, 109]).toArray⟩)) := fun P e => pur_sadd (b := [47, 109]) (by simp; omega)
  simp only [core, zrA, zrS, zrM, zrL, zrE, reduceCtorEq, zrD, ziE, ziL, ziN, Tryz.ntmps16, e1, ofPV_str]
theorem pname_x {H : AH} {l : List UInt8} {n : Nat} {e : TypeId} (hT : H.at 1 = some (.frz tabL e)) (hl : l.length ≤ 4611686018427387000) (hn : n ≤ 9223372036854775807) : WC Tryz.prog (tabOf Tryz.prog NT0) S0 8 [.lit (.string ⟨l.toArray⟩), .lit (.int .i64 n)] H fun r h' => r = .lit (.string ⟨(l ++ 47 :: Lib.decDigits n).toArray⟩) ∧ h' = H := by
  refine WC_fn Tryz.func8 rfl rfl ?_
  have hd := dig_len hn
  have e1 : ∀ (P : Program) (e : TypeId), pur P (binOp .add e (Value.string ⟨l.toArray⟩) (Value.string ⟨#[47]⟩)) = some (.ok (Value.string ⟨(l ++ [47]).toArray⟩)) := fun P e => pur_sadd (b := [47]) (by simp; omega)
  have e2 : ∀ (P : Program) (e : TypeId), pur P (binOp .add e (Value.string ⟨(l ++ [47]).toArray⟩) (Value.string ⟨(Lib.decDigits n).toArray⟩)) = some (.ok (Value.string ⟨(l ++ [47] ++ Lib.decDigits n).toArray⟩)) := fun P e => pur_sadd (by rw [List.length_append]; simp; omega)
  simp only [core, zrA, zrS, zrM, zrL, zrE, reduceCtorEq, zrD, ziE, ziL, ziN, Tryz.ntmps8, e1, ofPV_str]
  refine itoa_c hT (by omega) (by omega) ?_
  rw [itoa_nat]
  simp only [core, zrA, zrS, zrM, zrL, zrE, reduceCtorEq, zrD, ziE, ziL, ziN, e2, ofPV_str]
  rw [List.append_assoc]
  rfl
theorem digits_x {H : AH} {n : Nat} (hN : n ≤ 9223372036854775807) : WC Tryz.prog (tabOf Tryz.prog NT0) S0 24 [.lit (.int .i64 n)] H fun r h' => Ext H.n H h' ∧ r = .lit (.string ⟨(Lib.decDigits n).toArray⟩) := by
  refine WC_fn Tryz.func24 rfl rfl ?_
  simp only [core, zrA, zrS, zrM, zrL, zrE, reduceCtorEq, zrD, ziE, ziL, ziN, Tryz.ntmps24]
  refine WB_ind (fun (k : Nat) t h => Ext H.n H h ∧ k ≤ 9223372036854775807 ∧ ∃ s, Lib.decDigits n = Lib.decDigits k ++ s ∧ t.n = 17 ∧ t.get 0 = .lit (.int .i64 (k : Nat)) ∧ t.get 3 = .lit (.string ⟨s.toArray⟩)) (fun k => k) ?_ n _ _ ?_
  · rintro k t h ⟨E, hk, s, hs, hn, g0, g3⟩ ih
    have hdl := dig_len hN
    have hsl : s.length ≤ 20 := by rw [hs, List.length_append] at hdl; omega
    have w1 : Int.tmod (k : Int) 10 = ((k % 10 : Nat) : Int) := rfl
    have w2 : IntKind.i64.wrap (48 + ((k % 10 : Nat) : Int)) = ((48 + k % 10 : Nat) : Int) := (wrap_in (by omega) (by omega)).trans (by omega)
    have w3 : IntKind.u8.wrap ((48 + k % 10 : Nat) : Int) = ((48 + k % 10 : Nat) : Int) := by rw [IntKind.wrap_u8]; omega
    have w4 : Int.tdiv (k : Int) 10 = ((k / 10 : Nat) : Int) := rfl
    have w5 : IntKind.i64.wrap ((k / 10 : Nat) : Int) = ((k / 10 : Nat) : Int) := wrap_in (by omega) (by omega)
    have z1 : ((10 : Int) = 0) = False := by simp
    obtain ⟨b, hb⟩ : ∃ b, b = UInt8.ofNat (48 + k % 10) := ⟨_, rfl⟩
    have hbn : b.toNat = 48 + k % 10 := by rw [hb, UInt8.toNat_ofNat']; omega
    obtain ⟨hA, hhA⟩ : ∃ hA, hA = h.push (.cells [.lit (.int .u8 ((48 + k % 10 : Nat) : Int))] 5) := ⟨_, rfl⟩
    have eA : Ext h.n h hA := hhA ▸ (Ext.refl _ _).push _ (Nat.le_refl _)
    have XA : hA.at h.n = some (.cells (bL [b]) 5) := by
      have : bL [b] = [.lit (.int .u8 ((48 + k % 10 : Nat) : Int))] := by show [AV.lit (Value.int .u8 (b.toNat : Int))] = _; rw [hbn]
      rw [this]
      exact hhA ▸ at_push_n _ _
    have hby : bytesAt hA h.n 0 1 = some [b] := by
      unfold bytesAt getR
      rw [XA]
      show (match cut (bL [b]) 0 1 with | some l => bytesA l | none => none) = _
      exact bytesA_bL [b]
    have e2 : ∀ (P : Program) (e : TypeId), pur P (binOp .add e (Value.string ⟨[b].toArray⟩) (Value.string ⟨s.toArray⟩)) = some (.ok (Value.string ⟨([b] ++ s).toArray⟩)) := fun P e => pur_sadd (by simp; omega)
    have hq : (((k / 10 : Nat) : Int) == 0) = decide (k < 10) := by
      by_cases h10 : k < 10
      · rw [decide_eq_true h10, show k / 10 = 0 by omega]; rfl
      · rw [decide_eq_false h10]; exact beq_eq_false_iff_ne.2 (by omega)
    have E2 := E.trans (eA.mono E.1)
    by_cases h10 : k < 10
    · have hq' : (((k / 10 : Nat) : Int) == 0) = true := by rw [hq, decide_eq_true h10]
      simp only [core, zrA, zrS, zrM, zrL, zrE, reduceCtorEq, zrD, ziE, ziL, ziN, hn, g0, g3, w1, w2, w3, w4, w5, z1, ← hhA, a_conM, conM_sl, hby, e2, ofPV_str, hq']
      refine ⟨E2, ?_⟩
      rw [hs, decDigits_eq, if_pos h10, hb, show k % 10 = k by omega]
      rfl
    · have hq' : (((k / 10 : Nat) : Int) == 0) = false := by rw [hq, decide_eq_false h10]
      simp only [core, zrA, zrS, zrM, zrL, zrE, reduceCtorEq, zrD, ziE, ziL, ziN, hn, g0, g3, w1, w2, w3, w4, w5, z1, ← hhA, a_conM, conM_sl, hby, e2, ofPV_str, hq']
      refine ih (k / 10) _ _ ⟨E2, by omega, [b] ++ s, ?_, ?_⟩ (by omega)
      · rw [hs, decDigits_eq k, if_neg h10, List.append_assoc, hb]
      · simp only [core, zrA, zrS, zrM, zrL, zrE, reduceCtorEq, zrD, ziE, ziL, ziN, hn, g0, g3]
  · refine ⟨Ext.refl _ _, hN, [], by simp, ?_⟩
    simp only [core, zrA, zrS, zrM, zrL, zrE, reduceCtorEq, zrD, ziE, ziL, ziN]
    try ((repeat' apply And.intro) <;> first | rfl | trivial)
theorem pnameR_x {H : AH} {l : List UInt8} {n : Nat} (hl : l.length ≤ 4611686018427387000) (hN : n ≤ 9223372036854775807) : WC Tryz.prog (tabOf Tryz.prog NT0) S0 9 [.lit (.string ⟨l.toArray⟩), .lit (.int .i64 n)] H fun r h' => Ext H.n H h' ∧ r = .lit (.string ⟨(l ++ 47 :: Lib.decDigits n).toArray⟩) := by
  refine WC_fn Tryz.func9 rfl rfl ?_
  have hd := dig_len hN
  have e1 : ∀ (P : Program) (e : TypeId), pur P (binOp .add e (Value.string ⟨l.toArray⟩) (Value.string ⟨#[47]⟩)) = some (.ok (Value.string ⟨(l ++ [47]).toArray⟩)) := fun P e => pur_sadd (b := [47]) (by simp; omega)
  have e2 : ∀ (P : Program) (e : TypeId), pur P (binOp .add e (Value.string ⟨(l ++ [47]).toArray⟩) (Value.string ⟨(Lib.decDigits n).toArray⟩)) = some (.ok (Value.string ⟨(l ++ [47] ++ Lib.decDigits n).toArray⟩)) := fun P e => pur_sadd (by rw [List.length_append]; simp; omega)
  have hneg : ((n : Int) < 0) = False := by simp
  simp only [core, zrA, zrS, zrM, zrL, zrE, reduceCtorEq, zrD, ziE, ziL, ziN, Tryz.ntmps9, e1, ofPV_str, hneg]
  refine (digits_x hN).mono ?_
  rintro _ h2 ⟨E2, rfl⟩
  simp only [core, zrA, zrS, zrM, zrL, zrE, reduceCtorEq, zrD, ziE, ziL, ziN, e2, ofPV_str]
  exact ⟨E2, by rw [List.append_assoc]; rfl⟩
end Go.Proofs.YtopeilhdddiapaaGreatDoor.Ex
end

section
/- Texts cut: strings.Cut, strings.Split at one byte, the document's cut. -/
set_option linter.unusedSimpArgs false
set_option linter.unusedVariables false
set_option maxRecDepth 10000
set_option maxHeartbeats 4000000
namespace Go.Proofs.YtopeilhdddiapaaGreatDoor.Ex
open Go

theorem sl_take {l : List UInt8} {k : Nat} : (l.take k).drop 0 = l.take k := by simp
theorem cut1_x {H : AH} {l : List UInt8} {c : UInt8} (hN : l.length ≤ 4611686018427387000) : WC Tryz.prog (tabOf Tryz.prog NT0) S0 28 [.lit (.string ⟨l.toArray⟩), .lit (.string ⟨#[c]⟩)] H fun r h' => h' = H ∧
    ((c ∉ l ∧ r = .tup [.lit (.string ⟨l.toArray⟩), .lit (.string ⟨#[]⟩), .lit (.bool false)]) ∨ ∃ p q, l = p ++ c :: q ∧ c ∉ p ∧ r = .tup [.lit (.string ⟨p.toArray⟩), .lit (.string ⟨q.toArray⟩), .lit (.bool true)]) := by
  refine WC_fn Tryz.func28 rfl rfl ?_
  simp only [core, zrA, zrS, zrM, zrL, zrE, reduceCtorEq, zrD, ziE, ziL, ziN, Tryz.ntmps28]
  refine index_c ?_
  rcases index_split c l with ⟨h1, h2⟩ | ⟨p, q, h1, h2, h3⟩
  · rw [h1]
    have hneg : ((0 : Int) ≤ -1) = False := by simp
    simp only [core, zrA, zrS, zrM, zrL, zrE, reduceCtorEq, zrD, ziE, ziL, ziN, hneg]
    exact .inl h2
  · rw [h3]
    have hpos : ((0 : Int) ≤ (p.length : Int)) = True := by simp
    have hlen : l.length = p.length + 1 + q.length := by rw [h1]; simp; omega
    simp only [core, zrA, zrS, zrM, zrL, zrE, reduceCtorEq, zrD, ziE, ziL, ziN, hpos]
    rw [WB_regionD [0, 1, 2, 3, 4, 5, 6, 7, 8, 9, 10, 11] 11146287883925545150749134857300540068462592 (by kernel_rfl)]
    have w1 : IntKind.i64.wrap ((p.length : Int) + ((1 : Nat) : Int)) = ((p.length + 1 : Nat) : Int) := (wrap_in (by omega) (by omega)).trans (by omega)
    have t1 : l.take p.length = p := by rw [h1, List.take_left']; rfl
    have t2 : (l.take l.length).drop (p.length + 1) = q := by
      rw [List.take_length, h1, ← List.drop_drop, List.drop_left']
      · rfl
      · rfl
    have hs1 : ∀ r, sslM H r l 0 (p.length : Int) = some (.val (.lit (.string ⟨p.toArray⟩)), H) := fun r => by
      unfold sslM
      rw [if_pos ⟨by omega, by omega, by omega⟩, Int.toNat_natCast, t1]
      rfl
    have hs2 : ∀ r, sslM H r l ((p.length + 1 : Nat) : Int) ((l.length : Nat) : Int) = some (.val (.lit (.string ⟨q.toArray⟩)), H) := fun r => by
      unfold sslM
      rw [if_pos ⟨by omega, by omega, by omega⟩, Int.toNat_natCast, Int.toNat_natCast, t2]
    repeat ((with_reducible refine WDM_cons ?_; simp only [dw1]; try simp only [dw2, zrA, zrM, zrR, zrO, zrE]); simp only [core, zrA, zrS, zrM, zrL, zrE, reduceCtorEq, zrD, ziE, ziL, ziN, cored, a_ssl_hi, a_ssl_lo, a_slen, isStrV_lit, strV_lit, isIntV_lit, intV_lit, hs1, hs2, w1, List.length_singleton])
    exact .inr ⟨p, q, h1, h2, rfl⟩
theorem cut_x {H : AH} {l : List UInt8} {c : UInt8} (hN : l.length ≤ 4611686018427387000) : WC Tryz.prog (tabOf Tryz.prog NT0) S0 18 [.lit (.string ⟨l.toArray⟩), .lit (.string ⟨#[c]⟩)] H fun r h' => h' = H ∧
    ((c ∉ l ∧ r = .tup [.lit (.string ⟨l.toArray⟩), .lit (.string ⟨#[]⟩), .lit (.bool false)]) ∨ ∃ p q, l = p ++ c :: q ∧ c ∉ p ∧ r = .tup [.lit (.string ⟨p.toArray⟩), .lit (.string ⟨q.toArray⟩), .lit (.bool true)]) := by
  refine WC_fn Tryz.func18 rfl rfl ?_
  simp only [core, zrA, zrS, zrM, zrL, zrE, reduceCtorEq, zrD, ziE, ziL, ziN, Tryz.ntmps18]
  refine (cut1_x hN).mono ?_
  rintro _ _ ⟨q5, ⟨h1, rfl⟩ | ⟨p, q, h1, h2, rfl⟩⟩
  · replace q5 := q5.symm
    subst q5
    simp only [core, zrA, zrS, zrM, zrL, zrE, reduceCtorEq, zrD, ziE, ziL, ziN]
    exact .inl h1
  · replace q5 := q5.symm
    subst q5
    simp only [core, zrA, zrS, zrM, zrL, zrE, reduceCtorEq, zrD, ziE, ziL, ziN]
    exact .inr ⟨p, q, h1, h2, rfl⟩
/-- A text in a row. -/
def RTx : Rep (List UInt8) where
  z := 1
  is _ _ c x := c = [.lit (.string ⟨x.toArray⟩)]
  len := fun h => by subst h; rfl
  one := fun h v hv => by subst h; simp at hv; subst hv; rfl
  lift := fun h _ => h
theorem RTx_z : RTx.z = 1 := rfl
theorem RTx_is {F : Nat → Prop} {h : AH} {c : List AV} {x : List UInt8} : RTx.is F h c x ↔ c = [.lit (.string ⟨x.toArray⟩)] := Iff.rfl
abbrev OwnT (n0 : Nat) (h : AH) (v : AV) (xs : List (List UInt8)) : Prop := OwnL RTx (fun _ => False) n0 h v 9 xs
theorem push_tx {n0 q : Nat} {h : AH} {v : AV} {xs : List (List UInt8)} {x : List UInt8} {cap : Cap} {e' : TypeId} (ho : OwnT n0 h v xs) (hn0 : n0 ≤ h.n) (A : h.at q = some (.cells [.lit (.string ⟨x.toArray⟩)] e')) (hl : xs.length ≤ 1000000000000) :
    ∃ s' h', appendA (tabOf Tryz.prog NT0) h 36 36 v (.sl q 0 1 cap) = some (s', h') ∧ OwnT n0 h' s' (xs ++ [x]) ∧ Ext n0 h h' := by
  obtain ⟨s', h', a, b, c, d⟩ := ho.snoc (T := tabOf Tryz.prog NT0) (t := 36) (tx := 36) (y := x) (cap := cap) (by kernel_rfl) (by kernel_rfl) (by kernel_rfl) (zv := .lit (.string ⟨#[]⟩)) (by kernel_rfl) (by' := 16) (by kernel_rfl) (by kernel_rfl) (by decide) (by decide) A (RTx_is.2 rfl) (by omega) (by omega) hn0
  exact ⟨s', h', a, b, c⟩
/-- The document's parts so far: those that ended, and where the last one began. -/
theorem cutR_x {H : AH} {l : List UInt8} {c : UInt8} (hl : l.length ≤ 1000000000000) : WC Tryz.prog (tabOf Tryz.prog NT0) S0 20 [.lit (.string ⟨l.toArray⟩), .lit (.int .u8 (c.toNat : Int))] H fun r h' => Ext H.n H h' ∧ IsSl RTx (fun b => H.n ≤ b) h' r (splitF c l) := by
  refine WC_fn Tryz.func20 rfl rfl ?_
  obtain ⟨n, hN⟩ : ∃ n, n = l.length := ⟨_, rfl⟩
  simp only [core, zrA, zrS, zrM, zrL, zrE, reduceCtorEq, zrD, ziE, ziL, ziN, Tryz.ntmps20, a_slen, isStrV_lit, strV_lit, ← hN]
  refine WB_for n (fun i t h => Ext H.n H h ∧ ∃ v ps q j, j ≤ i ∧ OwnL RTx (fun _ => False) H.n h v 9 ps ∧ (l.take i).drop j = q ∧ c ∉ q ∧ j + q.length = i ∧ ps.length ≤ j ∧ (∀ r, splitF c (l.take i ++ r) = ps ++ splitF c (q ++ r)) ∧ t.n = 34 ∧ t.get 0 = .lit (.string ⟨l.toArray⟩) ∧ t.get 1 = .lit (.int .u8 (c.toNat : Int)) ∧ t.get 5 = v ∧ t.get 6 = .lit (.int .i64 (j : Nat)) ∧ t.get 7 = .lit (.int .i64 i)) ?_ ?_ _ _ ?_
  · rintro i t h hlt hc ⟨E, v, ps, q, j, hji, ho, hq, hcq, hjq, hpl, hsp, hn, g0, g1, g5, g6, g7⟩ ih
    have hwi := wrap_succ (n := n) hlt (by omega)
    obtain ⟨x, hx⟩ : ∃ x, l[i]? = some x := ⟨_, List.getElem?_eq_getElem (by omega)⟩
    have htk : l.take (i + 1) = l.take i ++ [x] := by
      obtain ⟨h1, h2⟩ := List.getElem?_eq_some_iff.1 hx
      rw [List.take_succ_eq_append_getElem h1, h2]
    have u1 := ho.one
    by_cases hxc : x = c
    · have hxe : ((x.toNat : Int) == (c.toNat : Int)) = true := by rw [hxc]; simp
      have hs1 : ∀ r, sslM h r l (j : Int) (i : Int) = some (.val (.lit (.string ⟨q.toArray⟩)), h) := fun r => by
        unfold sslM
        rw [if_pos ⟨by omega, by omega, by omega⟩, Int.toNat_natCast, Int.toNat_natCast, hq]
      simp only [core, zrA, zrS, zrM, zrL, zrE, reduceCtorEq, zrD, ziE, ziL, ziN, hn, g0, g1, g5, g6, g7, hlt, hc, a_slen, a_six, isStrV_lit, strV_lit, ← hN, six_int, hx, Int.toNat_natCast, Int.natCast_nonneg, hwi, hxe, a_ssl_lohi, isIntV_lit, intV_lit, hs1, u1]
      have e5 : Ext h.n h (h.push (.cells [.lit (.string ⟨q.toArray⟩)] 9)) := (Ext.refl _ _).push _ (Nat.le_refl _)
      refine WOp_app (push_tx (ho.ext e5 (Nat.le_refl _)) (by rw [n_push]; have := E.1; omega) (at_push_n h _) (by omega)) ?_
      rintro s6 h6 ⟨o6, e6⟩
      have u6 := o6.one
      have E6 : Ext H.n H h6 := (E.trans (e5.mono E.1)).trans e6
      simp only [core, zrA, zrS, zrM, zrL, zrE, reduceCtorEq, zrD, ziE, ziL, ziN, hn, g0, g1, g5, g6, g7, u6, hwi]
      refine ih _ _ ⟨E6, s6, ps ++ [q], [], i + 1, Nat.le_refl _, o6, ?_, by simp, rfl, by rw [List.length_append, List.length_singleton]; omega, fun r => ?_, ?_⟩
      · rw [List.drop_eq_nil_iff]
        rw [List.length_take]
        omega
      · rw [htk, List.append_assoc, hsp, hxc]
        show ps ++ splitF c (q ++ c :: r) = _
        rw [splitF_app c r q hcq, List.append_assoc]
        rfl
      · simp only [core, zrA, zrS, zrM, zrL, zrE, reduceCtorEq, zrD, ziE, ziL, ziN, hn, g0, g1, g5, g6, g7]
    · have hxe : ((x.toNat : Int) == (c.toNat : Int)) = false := by
        refine beq_eq_false_iff_ne.2 fun hh => hxc ?_
        exact UInt8.toNat_inj.1 (by omega)
      simp only [core, zrA, zrS, zrM, zrL, zrE, reduceCtorEq, zrD, ziE, ziL, ziN, hn, g0, g1, g5, g6, g7, hlt, hc, a_slen, a_six, isStrV_lit, strV_lit, ← hN, six_int, hx, Int.toNat_natCast, Int.natCast_nonneg, hwi, hxe]
      refine ih _ _ ⟨E, v, ps, q ++ [x], j, by omega, ho, ?_, ?_, by simp; omega, hpl, fun r => ?_, ?_⟩
      · rw [htk, List.drop_append_of_le_length (by rw [List.length_take]; omega), hq]
      · intro hm
        rcases List.mem_append.1 hm with hm | hm
        · exact hcq hm
        · exact hxc (List.mem_singleton.1 hm).symm
      · rw [htk, List.append_assoc, hsp, List.append_assoc]
      · simp only [core, zrA, zrS, zrM, zrL, zrE, reduceCtorEq, zrD, ziE, ziL, ziN, hn, g0, g1, g5, g6, g7]
  · rintro t h hc ⟨E, v, ps, q, j, hji, ho, hq, hcq, hjq, hpl, hsp, hn, g0, g1, g5, g6, g7⟩
    have u1 := ho.one
    have hs1 : ∀ r, sslM h r l (j : Int) ((n : Nat) : Int) = some (.val (.lit (.string ⟨q.toArray⟩)), h) := fun r => by
      unfold sslM
      rw [if_pos ⟨by omega, by omega, by omega⟩, Int.toNat_natCast, Int.toNat_natCast, hq]
    simp only [core, zrA, zrS, zrM, zrL, zrE, reduceCtorEq, zrD, ziE, ziL, ziN, hn, g0, g1, g5, g6, g7, hc, a_slen, isStrV_lit, strV_lit, ← hN, a_ssl_lo, isIntV_lit, intV_lit, hs1, u1]
    have e5 : Ext h.n h (h.push (.cells [.lit (.string ⟨q.toArray⟩)] 9)) := (Ext.refl _ _).push _ (Nat.le_refl _)
    refine WOp_app (push_tx (ho.ext e5 (Nat.le_refl _)) (by rw [n_push]; have := E.1; omega) (at_push_n h _) (by omega)) ?_
    rintro s6 h6 ⟨o6, e6⟩
    have u6 := o6.one
    have E6 : Ext H.n H h6 := (E.trans (e5.mono E.1)).trans e6
    simp only [core, zrA, zrS, zrM, zrL, zrE, reduceCtorEq, zrD, ziE, ziL, ziN, hn, g0, g1, g5, g6, g7, u6]
    refine ⟨E6, ?_⟩
    have hfin : splitF c l = ps ++ [q] := by
      have h1 := hsp []
      rw [List.append_nil, List.append_nil, hN, List.take_length, splitF_one c q hcq] at h1
      exact h1
    rw [hfin]
    exact o6.toSl (fun _ hh => hh.elim) (fun _ hh => hh)
  · refine ⟨Ext.refl _ _, .lit (.slice none 0 0), [], [], 0, Nat.le_refl _, .nil, by simp, by simp, rfl, Nat.le_refl _, fun r => by simp, ?_⟩
    simp only [core, zrA, zrS, zrM, zrL, zrE, reduceCtorEq, zrD, ziE, ziL, ziN]
    try ((repeat' apply And.intro) <;> first | rfl | trivial)
end Go.Proofs.YtopeilhdddiapaaGreatDoor.Ex
end

section
/- strings.Split at one byte. -/
set_option linter.unusedSimpArgs false
set_option linter.unusedVariables false
set_option maxRecDepth 10000
set_option maxHeartbeats 4000000
namespace Go.Proofs.YtopeilhdddiapaaGreatDoor.Ex
open Go

def txV (l : List UInt8) : AV := .lit (.string ⟨l.toArray⟩)
def zS (n : Nat) : List AV := rep [txV []] n
theorem zS_succ (n : Nat) : zS (n + 1) = txV [] :: zS n := rfl
theorem zS_len (n : Nat) : (zS n).length = n := by
  induction n with
  | zero => rfl
  | succ n ih => rw [zS_succ, List.length_cons, ih]
theorem put_tx {ps : List (List UInt8)} {p : List UInt8} {i K : Nat} (hl : ps.length = i) (hi : i < K) : put (ps.map txV ++ zS (K - i)) i [txV p] = some ((ps ++ [p]).map txV ++ zS (K - (i + 1))) := by
  have hz : K - i = (K - (i + 1)) + 1 := by omega
  have hm : (ps.map txV).length = i := by rw [List.length_map, hl]
  unfold put
  rw [if_pos (by rw [List.length_append, hm, zS_len]; show i + 1 ≤ _; omega)]
  congr 1
  have hdr : (ps.map txV ++ txV [] :: zS (K - (i + 1))).drop (i + [txV p].length) = zS (K - (i + 1)) := by
    have e : ps.map txV ++ txV [] :: zS (K - (i + 1)) = (ps.map txV ++ [txV []]) ++ zS (K - (i + 1)) := by simp
    rw [e, List.drop_left']
    rw [List.length_append, hm]
    rfl
  rw [List.take_left' hm, hz, zS_succ, hdr, List.map_append]
  rfl
theorem map_flat : ∀ xs : List (List UInt8), (xs.map fun x => [txV x]).flatten = xs.map txV
  | [] => rfl
  | a :: r => by rw [List.map_cons, List.flatten_cons, map_flat r]; rfl
theorem isl_row {F : Nat → Prop} {h : AH} {p n : Nat} {e : TypeId} {xs : List (List UInt8)} (hat : h.at p = some (.cells (xs.map txV) e)) (hF : F p) (hn : xs.length = n) : IsSl RTx F h (.sl p 0 n (.kn n)) xs := by
  subst hn
  have hfl := map_flat xs
  have he : Els RTx F h (xs.map fun x => [txV x]) xs := ⟨by simp, fun i c x h1 h2 => by
    rw [List.getElem?_map, h2] at h1
    cases h1
    exact RTx_is.2 rfl⟩
  have hl := flat_len (z := RTx.z) he.lens
  refine .mk ⟨he.lens, .inr ⟨p, 0, .kn xs.length, xs.map txV, by simp, by unfold getR; rw [hat], ?_⟩⟩ (fun b off n cap e => by cases e; exact hF) (fun b off n cap e => by cases e; exact Nat.le_refl _) he
  rw [hfl] at hl ⊢
  unfold cut
  rw [if_pos (by rw [hl]; simp), List.drop_zero, show (xs.map fun x => [txV x]).length * RTx.z = (xs.map txV).length by rw [hl], List.take_length]
section
variable {d : Option Nat} {ty ps af : _} {g : _} {t : TM} {h : AH}
theorem a_mkT {i : Nat} {n : Nat} (hi : t.get i = .lit (.int .i64 n)) (hn : n ≤ 1000000000) :
    aop Tryz.prog (tabOf Tryz.prog NT0) ⟨d, .makeSlice 36 (.tmp i) (.tmp i), ty, ps, af, g⟩ t h = some (.val (.sl h.n 0 n (.kn n)), h.push (.cells (zS n) 9)) := by
  have e1 : und (tabOf Tryz.prog NT0) 36 = some (.slice 9) := by kernel_rfl
  have h00 : (tabOf Tryz.prog NT0 9).map (fun i => (i.bytes, i.zero.cells, i.size)) = some (16, [txV []], 1) := by kernel_rfl
  obtain ⟨i0, h0, he⟩ := Option.map_eq_some_iff.1 h00
  obtain ⟨hb, hz, hs⟩ : i0.bytes = 16 ∧ i0.zero.cells = [txV []] ∧ i0.size = 1 := by
    simp only [Prod.mk.injEq] at he
    exact he
  show aMakeSlice _ t h _ _ _ = _
  unfold aMakeSlice
  rw [e1, show evalA t (.tmp i) = some (t.get i) from rfl, hi]
  simp only [Option.bind_some, natA_int]
  rw [if_pos (Int.natCast_nonneg n)]
  simp only [Int.toNat_natCast, h0, hb, hz, hs]
  rw [if_pos (by simp; refine ⟨by omega, by omega⟩)]
  rfl
end
theorem index0_x {H : AH} {l : List UInt8} {c : UInt8} : WC Tryz.prog (tabOf Tryz.prog NT0) S0 62 [.lit (.string ⟨l.toArray⟩), .lit (.string ⟨#[c]⟩)] H fun r h' => r = .lit (.int .i64 (Lib.indexByte l c)) ∧ h' = H := by
  refine WC_fn Tryz.func62 rfl rfl ?_
  simp only [core, zrA, zrS, zrM, zrL, zrE, reduceCtorEq, zrD, ziE, ziL, ziN, Tryz.ntmps62]
  refine index_c ?_
  simp only [core, zrA, zrS, zrM, zrL, zrE, reduceCtorEq, zrD, ziE, ziL, ziN]
  try exact ⟨rfl, rfl⟩
theorem gen_x {H : AH} {l : List UInt8} {c : UInt8} (hl : l.length ≤ 1100000) : WC Tryz.prog (tabOf Tryz.prog NT0) S0 35 [.lit (.string ⟨l.toArray⟩), .lit (.string ⟨#[c]⟩), .lit (.int .i64 0), .lit (.int .i64 (-1))] H fun r h' => Ext H.n H h' ∧ IsSl RTx (fun b => H.n ≤ b) h' r (splitF c l) := by
  refine WC_fn Tryz.func35 rfl rfl ?_
  have e1 : ∀ (P : Program) (e : TypeId), pur P (binOp .eql e (Value.string ⟨#[c]⟩) (Value.string ⟨#[]⟩)) = some (.ok (.bool false)) := fun P e => by
    rw [show pur P (binOp .eql e (Value.string ⟨#[c]⟩) (Value.string ⟨#[]⟩)) = some (.ok (.bool ([c] == []))) from pur_seq (a := [c]) (b := [])]
    rfl
  have hm1 : (((-1 : Int)) == 0) = false := rfl
  have hm2 : ((-1 : Int) < 0) = True := by simp
  simp only [core, zrA, zrS, zrM, zrL, zrE, reduceCtorEq, zrD, ziE, ziL, ziN, Tryz.ntmps35, e1, hm1, hm2]
  refine count_c ?_
  obtain ⟨k, hk⟩ : ∃ k, k = l.count c := ⟨_, rfl⟩
  have hkl : k ≤ l.length := hk ▸ List.count_le_length
  rw [← hk]
  have w1 : IntKind.i64.wrap ((k : Int) + 1) = ((k + 1 : Nat) : Int) := (wrap_in (by omega) (by omega)).trans (by omega)
  have w2 : IntKind.i64.wrap ((l.length : Int) + 1) = ((l.length + 1 : Nat) : Int) := (wrap_in (by omega) (by omega)).trans (by omega)
  have w3 : IntKind.i64.wrap (((k + 1 : Nat) : Int) - 1) = (k : Int) := (wrap_in (by omega) (by omega)).trans (by omega)
  have hmn : (if ((l.length + 1 : Nat) : Int) < ((k + 1 : Nat) : Int) then ((l.length + 1 : Nat) : Int) else ((k + 1 : Nat) : Int)) = ((k + 1 : Nat) : Int) := if_neg (by omega)
  simp only [core, zrA, zrS, zrM, zrL, zrE, reduceCtorEq, zrD, ziE, ziL, ziN, w1, w2, w3, a_slen, isStrV_lit, strV_lit, hmn]
  rw [a_mkT (n := k + 1) (by simp only [core, zrA, zrS, zrM, zrL, zrE, reduceCtorEq, zrD, ziE, ziL, ziN]) (by omega)]
  obtain ⟨h0, hh0⟩ : ∃ h0, h0 = H.push (.cells (zS (k + 1)) 9) := ⟨_, rfl⟩
  have e0 : Ext H.n H h0 := hh0 ▸ (Ext.refl _ _).push _ (Nat.le_refl _)
  have X0 : h0.at H.n = some (.cells (zS (k + 1)) 9) := hh0 ▸ at_push_n _ _
  have i9 : isSl (.sl H.n 0 (k + 1) (.kn (k + 1))) = true := rfl
  have d9 : lenD (.sl H.n 0 (k + 1) (.kn (k + 1))) = k + 1 := rfl
  have j9 : slB (.sl H.n 0 (k + 1) (.kn (k + 1))) = H.n := rfl
  have k9 : slO (.sl H.n 0 (k + 1) (.kn (k + 1))) = 0 := rfl
  simp only [core, zrA, zrS, zrM, zrL, zrE, reduceCtorEq, zrD, ziE, ziL, ziN, ← hh0, w3]
  refine WB_for k (fun i t h => ∃ ps s, h.at H.n = some (.cells (ps.map txV ++ zS (k + 1 - i)) 9) ∧ ps.length = i ∧ splitF c l = ps ++ splitF c s ∧ s.length ≤ l.length ∧ Ext H.n H h ∧ t.n = 66 ∧ t.get 0 = .lit (.string ⟨s.toArray⟩) ∧ t.get 1 = .lit (.string ⟨#[c]⟩) ∧ t.get 2 = .lit (.int .i64 0) ∧ t.get 3 = .lit (.int .i64 k) ∧ t.get 9 = .sl H.n 0 (k + 1) (.kn (k + 1)) ∧ t.get 10 = .lit (.int .i64 i)) ?_ ?_ _ _ ?_
  · rintro i t h hlt hc ⟨ps, s, Q, hps, hsp, hsl, E, hn, g0, g1, g2, g3, g9, g10⟩ ih
    have hwi := wrap_succ (n := k) hlt (by omega)
    have hcnt : (splitF c s).length = k + 1 - i := by
      have h1 := splitF_len c l
      rw [hsp, List.length_append, hps, ← hk] at h1
      omega
    simp only [core, zrA, zrS, zrM, zrL, zrE, reduceCtorEq, zrD, ziE, ziL, ziN, hn, g0, g1, g2, g3, g9, g10, hlt, hc]
    refine index0_x.mono ?_
    rintro _ _ ⟨rfl, q5⟩
    replace q5 := q5.symm
    subst q5
    rcases index_split c s with ⟨h1, h2⟩ | ⟨p, r, h1, h2, h3⟩
    · rw [splitF_one c s h2] at hcnt
      simp at hcnt
      omega
    rw [h3]
    have hneg : ((p.length : Int) < 0) = False := by simp
    have hlen : s.length = p.length + 1 + r.length := by rw [h1]; simp; omega
    have v1 : IntKind.i64.wrap ((p.length : Int) + 0) = (p.length : Int) := (wrap_in (by omega) (by omega)).trans (by omega)
    have v2 : IntKind.i64.wrap ((p.length : Int) + ((1 : Nat) : Int)) = ((p.length + 1 : Nat) : Int) := (wrap_in (by omega) (by omega)).trans (by omega)
    have t1 : s.take p.length = p := by rw [h1, List.take_left']; rfl
    have t2 : (s.take s.length).drop (p.length + 1) = r := by
      rw [List.take_length, h1, ← List.drop_drop, List.drop_left']
      · rfl
      · rfl
    have hs1 : ∀ q h, sslM h q s 0 (p.length : Int) = some (.val (.lit (.string ⟨p.toArray⟩)), h) := fun q h => by
      unfold sslM
      rw [if_pos ⟨by omega, by omega, by omega⟩, Int.toNat_natCast, t1]
      rfl
    have hs2 : ∀ q h, sslM h q s ((p.length + 1 : Nat) : Int) ((s.length : Nat) : Int) = some (.val (.lit (.string ⟨r.toArray⟩)), h) := fun q h => by
      unfold sslM
      rw [if_pos ⟨by omega, by omega, by omega⟩, Int.toNat_natCast, Int.toNat_natCast, t2]
    have hput : put (ps.map txV ++ zS (k + 1 - i)) i [AV.lit (.string ⟨p.toArray⟩)] = some ((ps ++ [p]).map txV ++ zS (k + 1 - (i + 1))) := put_tx hps (by omega)
    have lQ := at_lt Q
    have hik : i < k + 1 := by omega
    simp only [corem, WB_cond_s, put, ldL, WB_label, List.nil_append, List.drop_zero, List.take_zero, zrA, zrS, zrM, zrL, zrE, reduceCtorEq, zrD, ziE, ziL, ziN, -put, hn, g0, g1, g2, g3, g9, g10, hneg, v1, v2, a_ssl_hi, a_ssl_lo, a_slen, isStrV_lit, strV_lit, isIntV_lit, intV_lit, hs1, hs2, i9, d9, j9, k9, hik, Q, lQ, hput, hwi, List.length_singleton]
    refine ih _ _ ⟨ps ++ [p], r, at_put_same _ lQ, by simp [hps], ?_, by omega, E.put _ (Nat.le_refl _), ?_⟩
    · rw [hsp, h1, splitF_app c r p h2, List.append_assoc]
      rfl
    · simp only [core, zrA, zrS, zrM, zrL, zrE, reduceCtorEq, zrD, ziE, ziL, ziN, hn, g0, g1, g2, g3, g9, g10]
  · rintro t h hc ⟨ps, s, Q, hps, hsp, hsl, E, hn, g0, g1, g2, g3, g9, g10⟩
    have hcnt : (splitF c s).length = 1 := by
      have h1 := splitF_len c l
      rw [hsp, List.length_append, hps, ← hk] at h1
      omega
    have hns : c ∉ s := fun hm => by
      rw [splitF_len] at hcnt
      have := List.count_pos_iff.2 hm
      omega
    rw [splitF_one c s hns] at hsp
    have hput : put (ps.map txV ++ zS (k + 1 - k)) k [AV.lit (.string ⟨s.toArray⟩)] = some ((ps ++ [s]).map txV ++ zS (k + 1 - (k + 1))) := put_tx hps (by omega)
    have hz0 : zS (k + 1 - (k + 1)) = [] := by rw [Nat.sub_self]; rfl
    rw [hz0, List.append_nil] at hput
    have lQ := at_lt Q
    have hik : k < k + 1 := by omega
    have v1 : IntKind.i64.wrap ((k : Int) + 1) = ((k + 1 : Nat) : Int) := (wrap_in (by omega) (by omega)).trans (by omega)
    have hsub : IsSl RTx (fun b => H.n ≤ b) (h.put H.n (.cells ((ps ++ [s]).map txV) 9)) (.sl H.n 0 (k + 1) (.kn (k + 1))) (ps ++ [s]) := isl_row (at_put_same _ lQ) (Nat.le_refl _) (by simp [hps])
    have z1 : ((0 : Int) ≤ ((k + 1 : Nat) : Int)) = True := by simp; omega
    have z2 : (((k + 1 : Nat) : Int) ≤ ((k + 1 : Nat) : Int)) = True := by simp
    have hcap : CapOk 1 (.sl H.n 0 (k + 1) (.kn (k + 1))) := fun b off n cap e => by cases e; exact Nat.le_refl _
    have hsub2 : IsSl RTx (fun b => H.n ≤ b) (h.put H.n (.cells ((ps ++ [s]).map txV) 9)) (subSl 1 0 (k + 1) (.sl H.n 0 (k + 1) (.kn (k + 1)))) (((ps ++ [s]).take (k + 1)).drop 0) := hsub.sub (Nat.zero_le _) (by simp [hps])
    rw [List.drop_zero, List.take_of_length_le (by simp [hps])] at hsub2
    have o2 := hsub2.one
    simp only [corem, WB_cond_s, put, ldL, WB_label, List.nil_append, List.drop_zero, List.take_zero, zrA, zrS, zrM, zrL, zrE, reduceCtorEq, zrD, ziE, ziL, ziN, -put, hn, g0, g1, g2, g3, g9, g10, hc, i9, d9, j9, k9, hik, Q, lQ, hput, v1, z1, z2, hcap, o2]
    rw [hsp]
    exact ⟨E.put _ (Nat.le_refl _), hsub2⟩
  · refine ⟨[], l, by rw [X0]; simp, rfl, rfl, Nat.le_refl _, e0, ?_⟩
    simp only [core, zrA, zrS, zrM, zrL, zrE, reduceCtorEq, zrD, ziE, ziL, ziN]
    try ((repeat' apply And.intro) <;> first | rfl | trivial)
theorem split_x {H : AH} {l : List UInt8} {c : UInt8} (hl : l.length ≤ 1100000) : WC Tryz.prog (tabOf Tryz.prog NT0) S0 25 [.lit (.string ⟨l.toArray⟩), .lit (.string ⟨#[c]⟩)] H fun r h' => Ext H.n H h' ∧ IsSl RTx (fun b => H.n ≤ b) h' r (splitF c l) := by
  refine WC_fn Tryz.func25 rfl rfl ?_
  simp only [core, zrA, zrS, zrM, zrL, zrE, reduceCtorEq, zrD, ziE, ziL, ziN, Tryz.ntmps25]
  refine (gen_x hl).mono ?_
  rintro r h2 ⟨E2, hs⟩
  have o2 := hs.one
  simp only [core, zrA, zrS, zrM, zrL, zrE, reduceCtorEq, zrD, ziE, ziL, ziN, o2]
  exact ⟨E2, hs⟩
end Go.Proofs.YtopeilhdddiapaaGreatDoor.Ex
end

section
/- Numbers in names (both sides). -/
set_option linter.unusedSimpArgs false
set_option linter.unusedVariables false
set_option maxRecDepth 10000
set_option maxHeartbeats 4000000
namespace Go.Proofs.YtopeilhdddiapaaGreatDoor.Ex
open Go

def digs : List UInt8 := [48, 49, 50, 51, 52, 53, 54, 55, 56, 57]
theorem digs_iff (b : UInt8) : digs.contains b = true ↔ 48 ≤ b.toNat ∧ b.toNat ≤ 57 := by
  have key : ∀ n : Fin 256, digs.contains (UInt8.ofNat n.val) = true ↔ 48 ≤ (UInt8.ofNat n.val).toNat ∧ (UInt8.ofNat n.val).toNat ≤ 57 := by decide +kernel
  have := key ⟨b.toNat, UInt8.toNat_lt b⟩
  rw [UInt8.ofNat_toNat] at this
  exact this
theorem dropW_nil {p : UInt8 → Bool} : ∀ {l : List UInt8}, l.dropWhile p = [] ↔ ∀ b ∈ l, p b = true
  | [] => by simp
  | a :: r => by
    rw [List.dropWhile_cons]
    by_cases ha : p a = true
    · rw [if_pos ha, dropW_nil]
      simp [ha]
    · rw [if_neg ha]
      simp [ha]
theorem dropW_head {p : UInt8 → Bool} {a : UInt8} {r : List UInt8} : ∀ {l : List UInt8}, l.dropWhile p = a :: r → p a = false
  | [], h => by cases h
  | x :: l, h => by
    rw [List.dropWhile_cons] at h
    by_cases hx : p x = true
    · rw [if_pos hx] at h
      exact dropW_head h
    · rw [if_neg hx] at h
      cases h
      simpa using hx
theorem trim_nil {l : List UInt8} : Lib.trimS l digs = [] ↔ ∀ b ∈ l, 48 ≤ b.toNat ∧ b.toNat ≤ 57 := by
  unfold Lib.trimS Lib.trimLeftS Lib.trimRightS
  rw [dropW_nil]
  constructor
  · intro h
    by_cases hd : l.reverse.dropWhile (digs.contains ·) = []
    · rw [dropW_nil] at hd
      exact fun b hb => (digs_iff b).1 (hd b (by simpa using hb))
    · exfalso
      obtain ⟨a, r, ha⟩ : ∃ a r, l.reverse.dropWhile (digs.contains ·) = a :: r := by
        cases hq : l.reverse.dropWhile (digs.contains ·) with
        | nil => exact absurd hq hd
        | cons a r => exact ⟨a, r, rfl⟩
      have h1 : digs.contains a = false := dropW_head ha
      rw [ha] at h
      rw [h a (by simp)] at h1
      cases h1
  · intro h b hb
    have hb : b ∈ l.reverse.dropWhile (digs.contains ·) := by simpa using hb
    exact (digs_iff b).2 (h b (by simpa using (List.dropWhile_sublist _).subset hb))
/-- The number, or less than nothing. -/
def natN (l : List UInt8) : Int := match natF l with
  | some n => n
  | none => -1
theorem natN_ge (l : List UInt8) : decide (0 ≤ natN l) = natB l := by
  unfold natN natB
  cases natF l <;> simp
theorem natN_lt (l : List UInt8) : decide (natN l < 0) = !natB l := by
  unfold natN natB
  cases natF l <;> simp
theorem natF_bad {l : List UInt8} (h : l = [] ∨ 10 < l.length ∨ (1 < l.length ∧ l[0]? = some 48)) : natF l = none := by unfold natF; rw [if_pos h]
theorem natF_not {l : List UInt8} {i : Nat} {b : UInt8} (hb : l[i]? = some b) (h : ¬ (48 ≤ b.toNat ∧ b.toNat ≤ 57)) : natF l = none := by
  cases hn : natF l with
  | none => rfl
  | some n => exact absurd (natB_digits (l := l) (by unfold natB; rw [hn]; rfl) b (List.mem_of_getElem? hb)) h
theorem natF_ok {l : List UInt8} {n : Nat} (h : ¬ (l = [] ∨ 10 < l.length ∨ (1 < l.length ∧ l[0]? = some 48))) (hd : Lib.decFrom 0 l = some n) : natF l = if n ≤ 2147483647 then some n else none := by
  unfold natF
  rw [if_neg h, hd]
theorem dec_lt : ∀ {l : List UInt8} {n acc : Nat}, Lib.decFrom acc l = some n → n < (acc + 1) * 10 ^ l.length
  | [], n, acc, h => by cases h; simp
  | b :: r, n, acc, h => by
    unfold Lib.decFrom at h
    cases hd : Lib.digitVal b with
    | none => rw [hd] at h; cases h
    | some d =>
      rw [hd] at h
      have h1 := dec_lt h
      have hd9 : d ≤ 9 := by
        unfold Lib.digitVal at hd
        split at hd
        · cases hd; omega
        · cases hd
      rw [List.length_cons, Nat.pow_succ]
      have h2 : (acc * 10 + d + 1) * 10 ^ r.length ≤ ((acc + 1) * 10) * 10 ^ r.length := Nat.mul_le_mul_right _ (by omega)
      calc n < (acc * 10 + d + 1) * 10 ^ r.length := h1
        _ ≤ ((acc + 1) * 10) * 10 ^ r.length := h2
        _ = (acc + 1) * (10 ^ r.length * 10) := by rw [Nat.mul_assoc, Nat.mul_comm 10]
theorem atoi_dec {b : UInt8} {r : List UInt8} {n : Nat} (h : Lib.decFrom 0 (b :: r) = some n) : Lib.atoi (b :: r) = some (n : Int) := by
  have hb := digit_of h b (by simp)
  unfold Lib.atoi
  have h1 : (b == 45) = false := by
    refine beq_eq_false_iff_ne.2 fun hh => ?_
    subst hh
    exact absurd hb.1 (by decide)
  have h2 : (b == 43) = false := by
    refine beq_eq_false_iff_ne.2 fun hh => ?_
    subst hh
    exact absurd hb.1 (by decide)
  simp only [h1, h2]
  show (Lib.decNat (b :: r)).map _ = _
  unfold Lib.decNat
  rw [if_neg (by simp), h]
  rfl
theorem atoi_dec' {l : List UInt8} {n : Nat} (hl : l ≠ []) (h : Lib.decFrom 0 l = some n) : Lib.atoi l = some (n : Int) := by
  cases l with
  | nil => exact absurd rfl hl
  | cons b r => exact atoi_dec h
section
variable {d : Option Nat} {ty ps af : _} {g : _} {t : TM} {h : AH}
theorem a_nilI {i : Nat} (hv : t.get i = .lit .nilIface) : aop Tryz.prog (tabOf Tryz.prog NT0) ⟨d, .binOp .eql 54 (.tmp i) (.const .nilIface) 54, ty, ps, af, g⟩ t h = some (.val (.lit (.bool true)), h) := by
  have hx : evalA t (.tmp i) = some (.lit .nilIface) := by rw [ev_tmp]; exact congrArg some hv
  have ex : litEnv t (.tmp i) = .nilIface := by simp [litEnv, hx, toVal]
  have ey : litEnv t (.const .nilIface) = .nilIface := rfl
  have h0 : litOp Tryz.prog ⟨d, .binOp .eql 54 (.tmp i) (.const .nilIface) 54, ty, ps, af, g⟩ t = some (.val (.lit (.bool true))) := by
    unfold litOp
    rw [if_pos (by simp [notSelect, Op.operands, litAll, hx, toVal]; try rfl)]
    simp only [execOp, ex, ey]
    kernel_rfl
  show aBin _ _ _ _ _ _ _ _ _ = _
  unfold aBin
  rw [hx]
  unfold orLit
  rw [h0]
end
theorem natural_x {H : AH} {l : List UInt8} (hl : l.length ≤ 4611686018427387000) : WC Tryz.prog (tabOf Tryz.prog NT0) S0 19 [.lit (.string ⟨l.toArray⟩)] H fun r h' => h' = H ∧ ∃ v : Int, r = .tup [.lit (.int .i64 v), .lit (.bool (natB l))] := by
  refine WC_fn Tryz.func19 rfl rfl ?_
  have q1 : ∀ (P : Program) (e : TypeId), pur P (binOp .eql e (Value.string ⟨l.toArray⟩) (Value.string ⟨#[]⟩)) = some (.ok (.bool (l == []))) := fun P e => pur_seq (b := [])
  have nb : natF l = none → natB l = false := fun h => by unfold natB; rw [h]; rfl
  cases e0 : (l == []) with
  | true =>
    have hn := nb (natF_bad (.inl (by simpa using e0)))
    simp only [core, zrA, zrS, zrM, zrL, zrE, reduceCtorEq, zrD, ziE, ziL, ziN, Tryz.ntmps19, a_slen, isStrV_lit, strV_lit, q1, e0, aundef, hn]
    try exact ⟨_, rfl⟩
  | false =>
  have hne : l ≠ [] := fun h => by rw [h] at e0; cases e0
  cases e1 : decide ((10 : Int) < (l.length : Int)) with
  | true =>
    have hn := nb (natF_bad (.inr (.inl (by have := of_decide_eq_true e1; omega))))
    simp only [core, zrA, zrS, zrM, zrL, zrE, reduceCtorEq, zrD, ziE, ziL, ziN, Tryz.ntmps19, a_slen, isStrV_lit, strV_lit, q1, e0, e1, aundef, hn]
    try exact ⟨_, rfl⟩
  | false =>
  have h10 : l.length ≤ 10 := by have := of_decide_eq_false e1; omega
  obtain ⟨b, hi⟩ : ∃ b, l[0]? = some b := by cases l with | nil => exact absurd rfl hne | cons b r => exact ⟨b, rfl⟩
  have hle : ((0 : Int) ≤ 0) := by omega
  have q2 : ∀ (t : List UInt8) (P : Program) (e : TypeId), pur P (binOp .neq e (Value.string ⟨t.toArray⟩) (Value.string ⟨#[]⟩)) = some (.ok (.bool (!(t == [])))) := fun t P e => pur_sne (b := [])
  obtain ⟨T, hT⟩ : ∃ T, T = Lib.trimS l digs := ⟨_, rfl⟩
  have key : (decide ((1 : Int) < (l.length : Int)) = true ∧ ((b.toNat : Int) == 48) = true) ∨ ((decide ((1 : Int) < (l.length : Int)) = false) ∨ (decide ((1 : Int) < (l.length : Int)) = true ∧ ((b.toNat : Int) == 48) = false)) := by
    cases decide ((1 : Int) < (l.length : Int)) <;> cases ((b.toNat : Int) == 48) <;> simp
  rcases key with ⟨e2, e3⟩ | key
  · have hb48 : b = 48 := UInt8.toNat_inj.1 (by have := eq_of_beq e3; show b.toNat = 48; omega)
    have hn := nb (natF_bad (.inr (.inr ⟨by have := of_decide_eq_true e2; omega, by rw [hi, hb48]⟩)))
    simp only [core, zrA, zrS, zrM, zrL, zrE, reduceCtorEq, zrD, ziE, ziL, ziN, Tryz.ntmps19, a_slen, a_six, six_int, isStrV_lit, strV_lit, q1, e0, e1, e2, e3, aundef, hn, hi, hle]
    try exact ⟨_, rfl⟩
  have hok : ¬ (l = [] ∨ 10 < l.length ∨ (1 < l.length ∧ l[0]? = some 48)) := by
    rintro (h | h | ⟨h, h'⟩)
    · exact hne h
    · omega
    · rw [hi] at h'
      cases h'
      rcases key with e2 | ⟨e2, e3⟩
      · have := of_decide_eq_false e2; omega
      · exact absurd e3 (by decide)
  rcases key with e2 | ⟨e2, e3⟩
  all_goals
    try simp only [core, zrA, zrS, zrM, zrL, zrE, reduceCtorEq, zrD, ziE, ziL, ziN, Tryz.ntmps19, a_slen, a_six, six_int, isStrV_lit, strV_lit, q1, e0, e1, e2, aundef, hi, hle]
    try simp only [core, zrA, zrS, zrM, zrL, zrE, reduceCtorEq, zrD, ziE, ziL, ziN, Tryz.ntmps19, a_slen, a_six, six_int, isStrV_lit, strV_lit, q1, e0, e1, e2, e3, aundef, hi, hle]
    refine trim_c (cs := digs) (by omega) (by decide) (by decide) ?_
    rw [← hT]
    cases et : (T == ([] : List UInt8)) with
    | false =>
      have hTn : T ≠ [] := fun h => by rw [h] at et; cases et
      have hn : natB l = false := by
        cases hq : natB l with
        | false => rfl
        | true => exact absurd (hT.trans (trim_nil.2 (natB_digits hq))) hTn
      simp only [core, zrA, zrS, zrM, zrL, zrE, reduceCtorEq, zrD, ziE, ziL, ziN, q2, et, hn]
      try exact ⟨_, rfl⟩
    | true =>
      have hT0 : T = [] := by simpa using et
      obtain ⟨n, hd⟩ := digits_dec 0 l (trim_nil.1 (hT.symm.trans hT0))
      have hnb := natF_ok hok hd
      have hnlt := dec_lt hd
      have hnB : natB l = decide ((n : Int) ≤ 2147483647) := by
        unfold natB
        rw [hnb]
        by_cases h : n ≤ 2147483647
        · rw [if_pos h, decide_eq_true (by omega)]; rfl
        · rw [if_neg h, decide_eq_false (by omega)]; rfl
      simp only [core, zrA, zrS, zrM, zrL, zrE, reduceCtorEq, zrD, ziE, ziL, ziN, q2, et]
      refine atoi_c (by omega) (atoi_dec' hne hd) ?_
      rw [hnB]
      simp only [core, zrA, zrS, zrM, zrL, zrE, reduceCtorEq, zrD, ziE, ziL, ziN, a_nilI]
      try exact ⟨_, rfl⟩
end Go.Proofs.YtopeilhdddiapaaGreatDoor.Ex
end

section
/- Numbers in names: the document's. -/
set_option linter.unusedSimpArgs false
set_option linter.unusedVariables false
set_option maxRecDepth 10000
set_option maxHeartbeats 4000000
namespace Go.Proofs.YtopeilhdddiapaaGreatDoor.Ex
open Go

theorem number_x {H : AH} {l : List UInt8} (hl : l.length ≤ 4611686018427387000) : WC Tryz.prog (tabOf Tryz.prog NT0) S0 21 [.lit (.string ⟨l.toArray⟩)] H fun r h' => h' = H ∧ r = .lit (.int .i64 (natN l)) := by
  refine WC_fn Tryz.func21 rfl rfl ?_
  have q1 : ∀ (P : Program) (e : TypeId), pur P (binOp .eql e (Value.string ⟨l.toArray⟩) (Value.string ⟨#[]⟩)) = some (.ok (.bool (l == []))) := fun P e => pur_seq (b := [])
  have nb : natF l = none → natN l = -1 := fun h => by unfold natN; rw [h]
  cases e0 : (l == []) with
  | true =>
    have hnn := nb (natF_bad (.inl (by simpa using e0)))
    simp only [core, zrA, zrS, zrM, zrL, zrE, reduceCtorEq, zrD, ziE, ziL, ziN, Tryz.ntmps21, a_slen, isStrV_lit, strV_lit, q1, e0, aundef, hnn]
    try exact ⟨rfl, rfl⟩
  | false =>
  have hne : l ≠ [] := fun h => by rw [h] at e0; cases e0
  cases e1 : decide ((10 : Int) < (l.length : Int)) with
  | true =>
    have hnn := nb (natF_bad (.inr (.inl (by have := of_decide_eq_true e1; omega))))
    simp only [core, zrA, zrS, zrM, zrL, zrE, reduceCtorEq, zrD, ziE, ziL, ziN, Tryz.ntmps21, a_slen, isStrV_lit, strV_lit, q1, e0, e1, aundef, hnn]
    try exact ⟨rfl, rfl⟩
  | false =>
  have h10 : l.length ≤ 10 := by have := of_decide_eq_false e1; omega
  obtain ⟨b, hi⟩ : ∃ b, l[0]? = some b := by cases l with | nil => exact absurd rfl hne | cons b r => exact ⟨b, rfl⟩
  have hle : ((0 : Int) ≤ 0) := by omega
  have key : (decide ((1 : Int) < (l.length : Int)) = true ∧ ((b.toNat : Int) == 48) = true) ∨ ((decide ((1 : Int) < (l.length : Int)) = false) ∨ (decide ((1 : Int) < (l.length : Int)) = true ∧ ((b.toNat : Int) == 48) = false)) := by
    cases decide ((1 : Int) < (l.length : Int)) <;> cases ((b.toNat : Int) == 48) <;> simp
  rcases key with ⟨e2, e3⟩ | key
  · have hb48 : b = 48 := UInt8.toNat_inj.1 (by have := eq_of_beq e3; show b.toNat = 48; omega)
    have hnn := nb (natF_bad (.inr (.inr ⟨by have := of_decide_eq_true e2; omega, by rw [hi, hb48]⟩)))
    simp only [core, zrA, zrS, zrM, zrL, zrE, reduceCtorEq, zrD, ziE, ziL, ziN, Tryz.ntmps21, a_slen, a_six, six_int, isStrV_lit, strV_lit, q1, e0, e1, e2, e3, aundef, hnn, hi, hle]
    try exact ⟨rfl, rfl⟩
  have hok : ¬ (l = [] ∨ 10 < l.length ∨ (1 < l.length ∧ l[0]? = some 48)) := by
    rintro (h | h | ⟨h, h'⟩)
    · exact hne h
    · omega
    · rw [hi] at h'
      cases h'
      rcases key with e2 | ⟨e2, e3⟩
      · have := of_decide_eq_false e2; omega
      · exact absurd e3 (by decide)
  obtain ⟨n, hN⟩ : ∃ n, n = l.length := ⟨_, rfl⟩
  rcases key with e2 | ⟨e2, e3⟩
  all_goals
    try simp only [core, zrA, zrS, zrM, zrL, zrE, reduceCtorEq, zrD, ziE, ziL, ziN, Tryz.ntmps21, a_slen, a_six, six_int, isStrV_lit, strV_lit, q1, e0, e1, e2, aundef, hi, hle]
    try simp only [core, zrA, zrS, zrM, zrL, zrE, reduceCtorEq, zrD, ziE, ziL, ziN, Tryz.ntmps21, a_slen, a_six, six_int, isStrV_lit, strV_lit, q1, e0, e1, e2, e3, aundef, hi, hle]
    refine WB_for n (fun i t h => h = H ∧ ∃ a : Nat, Lib.decFrom 0 (l.take i) = some a ∧ t.n = 49 ∧ t.get 0 = .lit (.string ⟨l.toArray⟩) ∧ t.get 3 = .lit (.int .i64 (a : Nat)) ∧ t.get 4 = .lit (.int .i64 i)) ?_ ?_ _ _ ?_
    · rintro i t h hlt hc ⟨rfl, a, hda, hn, g0, g3, g4⟩ ih
      have hwi := wrap_succ (n := n) hlt (by omega)
      obtain ⟨x, hx⟩ : ∃ x, l[i]? = some x := ⟨_, List.getElem?_eq_getElem (by omega)⟩
      have htk : l.take (i + 1) = l.take i ++ [x] := by
        obtain ⟨h1, h2⟩ := List.getElem?_eq_some_iff.1 hx
        rw [List.take_succ_eq_append_getElem h1, h2]
      have halt := dec_lt hda
      have hle10 : 10 ^ (l.take i).length ≤ 10 ^ 10 := Nat.pow_le_pow_right (by omega) (by rw [List.length_take]; omega)
      cases f1 : decide ((x.toNat : Int) < 48) with
      | true =>
        have hnn := nb (natF_not hx (by have := of_decide_eq_true f1; omega))
        simp only [core, zrA, zrS, zrM, zrL, zrE, reduceCtorEq, zrD, ziE, ziL, ziN, hn, g0, g3, g4, hlt, hc, a_slen, a_six, isStrV_lit, strV_lit, ← hN, six_int, hx, Int.toNat_natCast, Int.natCast_nonneg, f1, aundef, hnn]
        try exact ⟨rfl, rfl⟩
      | false =>
      cases f2 : decide ((57 : Int) < (x.toNat : Int)) with
      | true =>
        have hnn := nb (natF_not hx (by have := of_decide_eq_true f2; omega))
        simp only [core, zrA, zrS, zrM, zrL, zrE, reduceCtorEq, zrD, ziE, ziL, ziN, hn, g0, g3, g4, hlt, hc, a_slen, a_six, isStrV_lit, strV_lit, ← hN, six_int, hx, Int.toNat_natCast, Int.natCast_nonneg, f1, f2, aundef, hnn]
        try exact ⟨rfl, rfl⟩
      | false =>
        have k1 := of_decide_eq_false f1
        have k2 := of_decide_eq_false f2
        have w1 : IntKind.i64.wrap (10 * (a : Int)) = ((10 * a : Nat) : Int) := (wrap_in (by omega) (by omega)).trans (by omega)
        have w2 : IntKind.u8.wrap ((x.toNat : Int) - 48) = ((x.toNat - 48 : Nat) : Int) := by rw [IntKind.wrap_u8]; omega
        have w3 : IntKind.i64.wrap ((x.toNat - 48 : Nat) : Int) = ((x.toNat - 48 : Nat) : Int) := wrap_in (by omega) (by omega)
        have w4 : IntKind.i64.wrap (((10 * a : Nat) : Int) + ((x.toNat - 48 : Nat) : Int)) = ((10 * a + (x.toNat - 48) : Nat) : Int) := (wrap_in (by omega) (by omega)).trans (by omega)
        simp only [core, zrA, zrS, zrM, zrL, zrE, reduceCtorEq, zrD, ziE, ziL, ziN, hn, g0, g3, g4, hlt, hc, a_slen, a_six, isStrV_lit, strV_lit, ← hN, six_int, hx, Int.toNat_natCast, Int.natCast_nonneg, f1, f2, aundef, w1, w2, w3, w4, hwi]
        refine ih _ _ ⟨rfl, 10 * a + (x.toNat - 48), ?_, ?_⟩
        · rw [htk, decFrom_app 0 _ _ _ hda]
          unfold Lib.decFrom Lib.digitVal
          rw [if_pos (by omega)]
          simp only [Lib.decFrom]
          congr 1
          omega
        · simp only [core, zrA, zrS, zrM, zrL, zrE, reduceCtorEq, zrD, ziE, ziL, ziN, hn, g0, g3, g4]
    · rintro t h hc ⟨rfl, a, hda, hn, g0, g3, g4⟩
      rw [hN, List.take_length] at hda
      have hnF := natF_ok hok hda
      by_cases hm : a ≤ 2147483647
      · have hm' : ((2147483647 : Int) < (a : Int)) = False := by simp; omega
        have hr : natN l = (a : Int) := by unfold natN; rw [hnF, if_pos hm]
        simp only [core, zrA, zrS, zrM, zrL, zrE, reduceCtorEq, zrD, ziE, ziL, ziN, hn, g0, g3, g4, hc, a_slen, isStrV_lit, strV_lit, ← hN, hm', hr]
        try exact ⟨rfl, rfl⟩
      · have hm' : ((2147483647 : Int) < (a : Int)) = True := by simp; omega
        have hr : natN l = -1 := by unfold natN; rw [hnF, if_neg hm]
        simp only [core, zrA, zrS, zrM, zrL, zrE, reduceCtorEq, zrD, ziE, ziL, ziN, hn, g0, g3, g4, hc, a_slen, isStrV_lit, strV_lit, ← hN, hm', hr]
        try exact ⟨rfl, rfl⟩
    · refine ⟨rfl, 0, rfl, ?_⟩
      simp only [core, zrA, zrS, zrM, zrL, zrE, reduceCtorEq, zrD, ziE, ziL, ziN]
      try ((repeat' apply And.intro) <;> first | rfl | trivial)
end Go.Proofs.YtopeilhdddiapaaGreatDoor.Ex
end

section
/- Ids (both sides): is it one? -/
set_option linter.unusedSimpArgs false
set_option linter.unusedVariables false
set_option maxRecDepth 10000
set_option maxHeartbeats 4000000
namespace Go.Proofs.YtopeilhdddiapaaGreatDoor.Ex
open Go

theorem goodId_x {H : AH} {l : List UInt8} (hl : l.length ≤ 1100000) : WC Tryz.prog (tabOf Tryz.prog NT0) S0 13 [.lit (.string ⟨l.toArray⟩)] H fun r h' => Ext H.n H h' ∧ r = .lit (.bool (goodIdF l)) := by
  refine WC_fn Tryz.func13 rfl rfl ?_
  simp only [core, zrA, zrS, zrM, zrL, zrE, reduceCtorEq, zrD, ziE, ziL, ziN, Tryz.ntmps13]
  refine (split_x (c := 46) hl).mono ?_
  rintro v h1 ⟨E1, hs⟩
  have o1 := hs.one
  have i1 := hs.isSl
  have d1 := hs.lenD
  have hgood : goodIdF l = ((splitF 46 l).all natB && (splitF 46 l).length == 3) := rfl
  have hpl : ∀ p ∈ splitF 46 l, p.length ≤ 4611686018427387000 := by
    intro p hp
    have := split_sub hp
    omega
  obtain ⟨ps, hps⟩ : ∃ ps, ps = splitF 46 l := ⟨_, rfl⟩
  rw [← hps] at hs d1 hgood hpl
  obtain ⟨n, hN⟩ : ∃ n, n = ps.length := ⟨_, rfl⟩
  rw [← hN] at d1
  have hnl : n ≤ 1100001 := by rw [hN, hps, splitF_len]; have := List.count_le_length (a := (46 : UInt8)) (l := l); omega
  simp only [core, zrA, zrS, zrM, zrL, zrE, reduceCtorEq, zrD, ziE, ziL, ziN, o1, i1, d1]
  refine WB_for n (fun i t h => h = h1 ∧ (ps.take i).all natB = true ∧ t.n = 27 ∧ t.get 3 = v ∧ t.get 10 = v ∧ t.get 11 = .lit (.int .i64 n) ∧ t.get 12 = .lit (.int .i64 i)) ?_ ?_ _ _ ?_
  · rintro i t h hlt hc ⟨rfl, hall, hn, g3, g10, g11, g12⟩ ih
    have hwi := wrap_succ (n := n) hlt (by omega)
    obtain ⟨x, hx⟩ : ∃ x, ps[i]? = some x := ⟨_, List.getElem?_eq_getElem (by omega)⟩
    obtain ⟨cc, hc1, hld, hld0⟩ := hs.at (T := tabOf Tryz.prog NT0) RTx_z hx
    obtain rfl := RTx_is.1 hc1
    have ld := hld0 9 1 (by kernel_rfl) (by decide) (by decide)
    rw [Nat.mul_one] at ld
    simp only [core, zrA, zrS, zrM, zrL, zrE, reduceCtorEq, zrD, ziE, ziL, ziN, hn, g3, g10, g11, g12, hlt, hc, i1, d1, ld]
    refine (natural_x (hpl x (List.mem_of_getElem? hx))).mono ?_
    rintro _ _ ⟨q5, w, rfl⟩
    replace q5 := q5.symm
    subst q5
    cases hb : natB x with
    | false =>
      have hg : goodIdF l = false := by
        rw [hgood, show ps.all natB = false by rw [List.all_eq_false]; exact ⟨x, List.mem_of_getElem? hx, by rw [hb]; simp⟩]
        rfl
      simp only [core, zrA, zrS, zrM, zrL, zrE, reduceCtorEq, zrD, ziE, ziL, ziN, hn, g3, g10, g11, g12, hg]
      first | exact E1 | exact ⟨E1, rfl⟩
    | true =>
      simp only [core, zrA, zrS, zrM, zrL, zrE, reduceCtorEq, zrD, ziE, ziL, ziN, hn, g3, g10, g11, g12, hwi]
      refine ih _ _ ⟨rfl, ?_, ?_⟩
      · obtain ⟨h1, h2⟩ := List.getElem?_eq_some_iff.1 hx
        rw [List.take_succ_eq_append_getElem h1, h2, List.all_append, hall]
        simp [hb]
      · simp only [core, zrA, zrS, zrM, zrL, zrE, reduceCtorEq, zrD, ziE, ziL, ziN, hn, g3, g10, g11, g12]
  · rintro t h hc ⟨rfl, hall, hn, g3, g10, g11, g12⟩
    rw [hN, List.take_length] at hall
    have hg : goodIdF l = ((n : Int) == 3) := by
      rw [hgood, hall, ← hN, Bool.true_and]
      rw [Bool.eq_iff_iff, beq_iff_eq, beq_iff_eq]
      omega
    simp only [core, zrA, zrS, zrM, zrL, zrE, reduceCtorEq, zrD, ziE, ziL, ziN, hn, g3, g10, g11, g12, hc, i1, d1, hg]
    first | exact E1 | exact ⟨E1, rfl⟩
  · refine ⟨rfl, by simp, ?_⟩
    simp only [core, zrA, zrS, zrM, zrL, zrE, reduceCtorEq, zrD, ziE, ziL, ziN]
    try ((repeat' apply And.intro) <;> first | rfl | trivial)
theorem goodIdR_x {H : AH} {l : List UInt8} (hl : l.length ≤ 1100000) : WC Tryz.prog (tabOf Tryz.prog NT0) S0 14 [.lit (.string ⟨l.toArray⟩)] H fun r h' => Ext H.n H h' ∧ r = .lit (.bool (goodIdF l)) := by
  refine WC_fn Tryz.func14 rfl rfl ?_
  simp only [core, zrA, zrS, zrM, zrL, zrE, reduceCtorEq, zrD, ziE, ziL, ziN, Tryz.ntmps14]
  refine (cutR_x (c := 46) (by omega)).mono ?_
  rintro v h1 ⟨E1, hs⟩
  have o1 := hs.one
  have i1 := hs.isSl
  have d1 := hs.lenD
  have hgood : goodIdF l = ((splitF 46 l).all natB && (splitF 46 l).length == 3) := rfl
  have hpl : ∀ p ∈ splitF 46 l, p.length ≤ 4611686018427387000 := by
    intro p hp
    have := split_sub hp
    omega
  obtain ⟨ps, hps⟩ : ∃ ps, ps = splitF 46 l := ⟨_, rfl⟩
  rw [← hps] at hs d1 hgood hpl
  obtain ⟨n, hN⟩ : ∃ n, n = ps.length := ⟨_, rfl⟩
  rw [← hN] at d1
  cases h3 : ((n : Int) == 3) with
  | false =>
    have hg : goodIdF l = false := by
      rw [hgood, ← hN, Bool.and_eq_false_iff]
      exact .inr (beq_eq_false_iff_ne.2 fun hh => by rw [hh] at h3; cases h3)
    simp only [core, zrA, zrS, zrM, zrL, zrE, reduceCtorEq, zrD, ziE, ziL, ziN, o1, i1, d1, h3, aundef, hg]
    first | exact E1 | exact ⟨E1, rfl⟩
  | true =>
  have hn3 : n = 3 := by have := eq_of_beq h3; omega
  obtain ⟨a, b, c, habc⟩ : ∃ a b c, ps = [a, b, c] := by
    match ps, hN.symm.trans hn3 with
    | [a, b, c], _ => exact ⟨a, b, c, rfl⟩
  have ha : ps[0]? = some a := by rw [habc]; rfl
  have hb : ps[1]? = some b := by rw [habc]; rfl
  have hcc : ps[2]? = some c := by rw [habc]; rfl
  have hg : goodIdF l = (natB a && natB b && natB c) := by rw [hgood, habc]; simp [Bool.and_assoc]
  have ld : ∀ {i : Nat} {x : List UInt8}, ps[i]? = some x → loadA (tabOf Tryz.prog NT0) h1 9 (slB v) (slO v + i) = some (.lit (.string ⟨x.toArray⟩)) := fun {i x} hx => by
    obtain ⟨cc, hc1, hld, hld0⟩ := hs.at (T := tabOf Tryz.prog NT0) RTx_z hx
    obtain rfl := RTx_is.1 hc1
    have ld := hld0 9 1 (by kernel_rfl) (by decide) (by decide)
    rw [Nat.mul_one] at ld
    rw [ld]
    rfl
  have l0 := ld ha
  have l1 := ld hb
  have l2 := ld hcc
  rw [Nat.add_zero] at l0
  have k0 : 0 < n := by omega
  have k1 : 1 < n := by omega
  have k2 : 2 < n := by omega
  have ca := natN_ge a
  have cb := natN_ge b
  have cc := natN_ge c
  simp only [core, zrA, zrS, zrM, zrL, zrE, reduceCtorEq, zrD, ziE, ziL, ziN, o1, i1, d1, h3, aundef, l0, k0]
  refine (number_x (hpl a (List.mem_of_getElem? ha))).mono ?_
  rintro _ _ ⟨q5, rfl⟩
  replace q5 := q5.symm
  subst q5
  cases za : natB a with
  | false =>
    rw [za] at ca hg
    simp only [core, zrA, zrS, zrM, zrL, zrE, reduceCtorEq, zrD, ziE, ziL, ziN, ca, aundef, hg]
    first | exact E1 | exact ⟨E1, rfl⟩
  | true =>
  rw [za] at ca hg
  simp only [core, zrA, zrS, zrM, zrL, zrE, reduceCtorEq, zrD, ziE, ziL, ziN, o1, i1, d1, ca, aundef, l1, k1]
  refine (number_x (hpl b (List.mem_of_getElem? hb))).mono ?_
  rintro _ _ ⟨q5, rfl⟩
  replace q5 := q5.symm
  subst q5
  cases zb : natB b with
  | false =>
    rw [zb] at cb hg
    simp only [core, zrA, zrS, zrM, zrL, zrE, reduceCtorEq, zrD, ziE, ziL, ziN, cb, aundef, hg]
    first | exact E1 | exact ⟨E1, rfl⟩
  | true =>
  rw [zb] at cb hg
  simp only [core, zrA, zrS, zrM, zrL, zrE, reduceCtorEq, zrD, ziE, ziL, ziN, o1, i1, d1, cb, aundef, l2, k2]
  refine (number_x (hpl c (List.mem_of_getElem? hcc))).mono ?_
  rintro _ _ ⟨q5, rfl⟩
  replace q5 := q5.symm
  subst q5
  simp only [core, zrA, zrS, zrM, zrL, zrE, reduceCtorEq, zrD, ziE, ziL, ziN, cc, hg]
  first | exact E1 | exact ⟨E1, rfl⟩
end Go.Proofs.YtopeilhdddiapaaGreatDoor.Ex
end

section
/- Whose an object is (both sides). -/
set_option linter.unusedSimpArgs false
set_option linter.unusedVariables false
set_option maxRecDepth 10000
set_option maxHeartbeats 4000000
namespace Go.Proofs.YtopeilhdddiapaaGreatDoor.Ex
open Go

/-- An id, or nothing. -/
def idV : Option (List UInt8) → AV
  | some a => .tup [.lit (.string ⟨a.toArray⟩), .lit (.bool true)]
  | none => .tup [.lit (.string ⟨#[]⟩), .lit (.bool false)]
theorem idOf_x {H : AH} {l : List UInt8} (hl : l.length ≤ 1100000) : WC Tryz.prog (tabOf Tryz.prog NT0) S0 5 [.lit (.string ⟨l.toArray⟩)] H fun r h' => Ext H.n H h' ∧ r = idV (idOfF l) := by
  refine WC_fn Tryz.func5 rfl rfl ?_
  simp only [core, zrA, zrS, zrM, zrL, zrE, reduceCtorEq, zrD, ziE, ziL, ziN, Tryz.ntmps5]
  refine (cut_x (c := 47) (by omega)).mono ?_
  rintro _ _ ⟨q5, ⟨h1, rfl⟩ | ⟨p, q, h1, h2, rfl⟩⟩
  · replace q5 := q5.symm
    subst q5
    simp only [core, zrA, zrS, zrM, zrL, zrE, reduceCtorEq, zrD, ziE, ziL, ziN]
    refine (natural_x (l := []) (by simp)).mono ?_
    rintro _ _ ⟨q5, w, rfl⟩
    replace q5 := q5.symm
    subst q5
    rw [idOf_no h1]
    simp only [core, zrA, zrS, zrM, zrL, zrE, reduceCtorEq, zrD, ziE, ziL, ziN, aundef, idV]
    first | exact Ext.refl _ _ | exact ⟨Ext.refl _ _, rfl⟩
  · replace q5 := q5.symm
    subst q5
    have hlen : l.length = p.length + 1 + q.length := by rw [h1]; simp; omega
    simp only [core, zrA, zrS, zrM, zrL, zrE, reduceCtorEq, zrD, ziE, ziL, ziN]
    refine (natural_x (l := q) (by omega)).mono ?_
    rintro _ _ ⟨q5, w, rfl⟩
    replace q5 := q5.symm
    subst q5
    simp only [core, zrA, zrS, zrM, zrL, zrE, reduceCtorEq, zrD, ziE, ziL, ziN]
    refine (goodId_x (l := p) (by omega)).mono ?_
    rintro _ h2' ⟨E2, rfl⟩
    have hid := idOf_app (p := p) (r := q) h2
    rw [← h1] at hid
    have q2 : ∀ (P : Program) (e : TypeId), pur P (binOp .neq e (Value.string ⟨q.toArray⟩) (Value.string ⟨#[109]⟩)) = some (.ok (.bool (!(q == [109])))) := fun P e => pur_sne (b := [109])
    cases zp : goodIdF p with
    | false =>
      rw [hid, if_neg (by rw [zp]; simp)]
      simp only [core, zrA, zrS, zrM, zrL, zrE, reduceCtorEq, zrD, ziE, ziL, ziN, aundef, idV]
      first | exact E2 | exact ⟨E2, rfl⟩
    | true =>
    cases zm : (q == ([109] : List UInt8)) with
    | true =>
      have hqm : q = [109] := by simpa using zm
      rw [hid, if_pos ⟨zp, .inl hqm⟩]
      simp only [core, zrA, zrS, zrM, zrL, zrE, reduceCtorEq, zrD, ziE, ziL, ziN, q2, zm, aundef, idV]
      first | exact E2 | exact ⟨E2, rfl⟩
    | false =>
    have hqm : q ≠ [109] := by simpa using zm
    cases zn : natB q with
    | true =>
      rw [hid, if_pos ⟨zp, .inr zn⟩]
      simp only [core, zrA, zrS, zrM, zrL, zrE, reduceCtorEq, zrD, ziE, ziL, ziN, q2, zm, zn, aundef, idV]
      first | exact E2 | exact ⟨E2, rfl⟩
    | false =>
      rw [hid, if_neg (by rintro ⟨-, h | h⟩; exact hqm h; rw [zn] at h; cases h)]
      simp only [core, zrA, zrS, zrM, zrL, zrE, reduceCtorEq, zrD, ziE, ziL, ziN, q2, zm, zn, aundef, idV]
      first | exact E2 | exact ⟨E2, rfl⟩
theorem idOfR_x {H : AH} {l : List UInt8} (hl : l.length ≤ 1100000) : WC Tryz.prog (tabOf Tryz.prog NT0) S0 6 [.lit (.string ⟨l.toArray⟩)] H fun r h' => Ext H.n H h' ∧ r = idV (idOfF l) := by
  refine WC_fn Tryz.func6 rfl rfl ?_
  simp only [core, zrA, zrS, zrM, zrL, zrE, reduceCtorEq, zrD, ziE, ziL, ziN, Tryz.ntmps6]
  refine (cutR_x (c := 47) (by omega)).mono ?_
  rintro v h1 ⟨E1, hs⟩
  have o1 := hs.one
  have i1 := hs.isSl
  have d1 := hs.lenD
  have hpl : ∀ p ∈ splitF 47 l, p.length ≤ 1100000 := fun p hp => Nat.le_trans (split_sub hp) hl
  have hid : idOfF l = (match splitF 47 l with | [a, b] => if goodIdF a = true ∧ (b = [109] ∨ natB b = true) then some a else none | _ => none) := rfl
  obtain ⟨ps, hps⟩ : ∃ ps, ps = splitF 47 l := ⟨_, rfl⟩
  rw [← hps] at hs d1 hid hpl
  obtain ⟨n, hN⟩ : ∃ n, n = ps.length := ⟨_, rfl⟩
  rw [← hN] at d1
  cases h3 : ((n : Int) != 2) with
  | true =>
    have hn2 : n ≠ 2 := fun hh => by rw [hh] at h3; cases h3
    have hg : idOfF l = none := by
      rw [hid]
      match ps, hN with
      | [], _ => rfl
      | [_], _ => rfl
      | [_, _], h => exact absurd h hn2
      | _ :: _ :: _ :: _, _ => rfl
    rw [hg]
    simp only [core, zrA, zrS, zrM, zrL, zrE, reduceCtorEq, zrD, ziE, ziL, ziN, o1, i1, d1, h3, aundef, idV]
    first | exact E1 | exact ⟨E1, rfl⟩
  | false =>
  have hn2 : n = 2 := by
    have : ((n : Int) == 2) = true := by
      cases hq : ((n : Int) == 2) with
      | true => rfl
      | false => rw [bne, hq] at h3; cases h3
    have := eq_of_beq this
    omega
  obtain ⟨a, b, hab⟩ : ∃ a b, ps = [a, b] := by
    match ps, hN.symm.trans hn2 with
    | [a, b], _ => exact ⟨a, b, rfl⟩
  have ha : ps[0]? = some a := by rw [hab]; rfl
  have hb : ps[1]? = some b := by rw [hab]; rfl
  rw [hab] at hid
  have hid : idOfF l = if goodIdF a = true ∧ (b = [109] ∨ natB b = true) then some a else none := hid
  have ld : ∀ {h : AH} {i : Nat} {x : List UInt8}, Ext h1.n h1 h → ps[i]? = some x → loadA (tabOf Tryz.prog NT0) h 9 (slB v) (slO v + i) = some (.lit (.string ⟨x.toArray⟩)) := fun {h i x} e hx => by
    obtain ⟨cc, hc1, hld, hld0⟩ := hs.atE (T := tabOf Tryz.prog NT0) e RTx_z hx
    obtain rfl := RTx_is.1 hc1
    have ld := hld0 9 1 (by kernel_rfl) (by decide) (by decide)
    rw [Nat.mul_one] at ld
    rw [ld]
    rfl
  have l0 := ld (Ext.refl _ _) ha
  rw [Nat.add_zero] at l0
  have k0 : 0 < n := by omega
  have k1 : 1 < n := by omega
  simp only [core, zrA, zrS, zrM, zrL, zrE, reduceCtorEq, zrD, ziE, ziL, ziN, o1, i1, d1, h3, aundef, l0, k0]
  refine (goodIdR_x (hpl a (List.mem_of_getElem? ha))).mono ?_
  rintro _ h2 ⟨E2, rfl⟩
  have E12 := E1.trans (E2.mono E1.1)
  have l1 := ld E2 hb
  have l0 := ld E2 ha
  rw [Nat.add_zero] at l0
  have q2 : ∀ (P : Program) (e : TypeId), pur P (binOp .neq e (Value.string ⟨b.toArray⟩) (Value.string ⟨#[109]⟩)) = some (.ok (.bool (!(b == [109])))) := fun P e => pur_sne (b := [109])
  cases za : goodIdF a with
  | false =>
    rw [hid, if_neg (by rw [za]; simp)]
    simp only [core, zrA, zrS, zrM, zrL, zrE, reduceCtorEq, zrD, ziE, ziL, ziN, aundef, idV]
    first | exact E12 | exact ⟨E12, rfl⟩
  | true =>
  cases zm : (b == ([109] : List UInt8)) with
  | true =>
    have hqm : b = [109] := by simpa using zm
    rw [hid, if_pos ⟨za, .inl hqm⟩]
    simp only [core, zrA, zrS, zrM, zrL, zrE, reduceCtorEq, zrD, ziE, ziL, ziN, q2, zm, aundef, idV, o1, i1, d1, l1, l0, k0, k1]
    first | exact E12 | exact ⟨E12, rfl⟩
  | false =>
  have hqm : b ≠ [109] := by simpa using zm
  simp only [core, zrA, zrS, zrM, zrL, zrE, reduceCtorEq, zrD, ziE, ziL, ziN, q2, zm, aundef, o1, i1, d1, l1, l0, k0, k1]
  refine (number_x (Nat.le_trans (hpl b (List.mem_of_getElem? hb)) (by omega))).mono ?_
  rintro _ _ ⟨q5, rfl⟩
  replace q5 := q5.symm
  subst q5
  have cb := natN_lt b
  cases zn : natB b with
  | true =>
    rw [zn] at cb
    rw [hid, if_pos ⟨za, .inr zn⟩]
    simp only [core, zrA, zrS, zrM, zrL, zrE, reduceCtorEq, zrD, ziE, ziL, ziN, cb, aundef, idV, o1, i1, d1, l0, k0]
    first | exact E12 | exact ⟨E12, rfl⟩
  | false =>
    rw [zn] at cb
    rw [hid, if_neg (by rintro ⟨-, h | h⟩; exact hqm h; rw [zn] at h; cases h)]
    simp only [core, zrA, zrS, zrM, zrL, zrE, reduceCtorEq, zrD, ziE, ziL, ziN, cb, aundef, idV, o1, i1, d1, l0, k0]
    first | exact E12 | exact ⟨E12, rfl⟩
end Go.Proofs.YtopeilhdddiapaaGreatDoor.Ex
end

section
/- Ids made (both sides). -/
set_option linter.unusedSimpArgs false
set_option linter.unusedVariables false
set_option maxRecDepth 10000
set_option maxHeartbeats 4000000
namespace Go.Proofs.YtopeilhdddiapaaGreatDoor.Ex
open Go

section
variable {d : Option Tmp} {ty : TypeId} {ps : String} {af : Array Edge} {g : Option (Nat × Bool)} {t : TM} {h : AH}
/-- One of three numbers. -/
def ix3M (h : AH) (r : AR) : AV → AV → AR
  | .agg [.lit (.int .i64 a), .lit (.int .i64 b), .lit (.int .i64 c)], .lit (.int _ n) => if n = 0 then some (.val (.lit (.int .i64 a)), h) else if n = 1 then some (.val (.lit (.int .i64 b)), h) else if n = 2 then some (.val (.lit (.int .i64 c)), h) else r
  | _, _ => r
theorem ix3_eq {r : AR} {a b c : Int} {k : IntKind} {n : Int} : ix3M h r (.agg [.lit (.int .i64 a), .lit (.int .i64 b), .lit (.int .i64 c)]) (.lit (.int k n)) = if n = 0 then some (.val (.lit (.int .i64 a)), h) else if n = 1 then some (.val (.lit (.int .i64 b)), h) else if n = 2 then some (.val (.lit (.int .i64 c)), h) else r := rfl
theorem a_idx3 {i j : Nat} : aop Tryz.prog (tabOf Tryz.prog NT0) ⟨d, .index 22 (.tmp i) (.tmp j), ty, ps, af, g⟩ t h = ix3M h (aIdxR Tryz.prog (tabOf Tryz.prog NT0) ⟨d, .index 22 (.tmp i) (.tmp j), ty, ps, af, g⟩ t h 22 (.tmp i) (.tmp j)) (t.get i) (t.get j) := by
  unfold ix3M
  split
  · rename_i a b c k n h1 h2
    have e1 : litEnv t (.tmp i) = .agg #[.int .i64 a, .int .i64 b, .int .i64 c] := by simp [litEnv, ev_tmp, h1, toVal, toScals, scal]
    have e2 : litEnv t (.tmp j) = .int k n := by simp [litEnv, ev_tmp, h2, toVal]
    have key : ∀ s, pur Tryz.prog (Instr.index 22 (.agg #[.int .i64 a, .int .i64 b, .int .i64 c]) (.int k n)) = some (.ok (.int .i64 s)) → aIndex Tryz.prog (tabOf Tryz.prog NT0) ⟨d, .index 22 (.tmp i) (.tmp j), ty, ps, af, g⟩ t h 22 (.tmp i) (.tmp j) = some (.val (.lit (.int .i64 s)), h) := fun s he => by
      have hk : ∀ (f : Value → Sem Next), pur Tryz.prog (Instr.index 22 (.agg #[.int .i64 a, .int .i64 b, .int .i64 c]) (.int k n) >>= f) = pur Tryz.prog (f (.int .i64 s)) := fun f => by
        generalize Instr.index 22 (.agg #[.int .i64 a, .int .i64 b, .int .i64 c]) (.int k n) = q at he
        induction q with
        | pure x => simp [pur] at he; subst he; rfl
        | halt r => cases r <;> simp [pur] at he
        | program k ih => exact ih _ he
        | mark e k ih => exact ih he
        | _ => simp [pur] at he
      have h0 : litOp Tryz.prog ⟨d, .index 22 (.tmp i) (.tmp j), ty, ps, af, g⟩ t = some (.val (.lit (.int .i64 s))) := by
        unfold litOp
        rw [if_pos (by simp [notSelect, Op.operands, litAll, ev_tmp, h1, h2, toVal, toScals, scal])]
        simp only [execOp, e1, e2, hk]
        rfl
      unfold aIndex orLit
      rw [h0]
    show aIndex _ _ _ _ _ _ _ _ = _
    split
    · rename_i h0; subst h0; exact key a (by kernel_rfl)
    · split
      · rename_i h0; subst h0; exact key b (by kernel_rfl)
      · split
        · rename_i h0; subst h0; exact key c (by kernel_rfl)
        · rfl
  · rfl
end
def okI (x : Int) : Bool := decide (0 ≤ x) && decide (x ≤ 2147483647)
def idF (a b c : Int) : List UInt8 := if okI a = true ∧ okI b = true ∧ okI c = true then idB a.toNat b.toNat c.toNat else []
theorem okI_nat {x : Int} (h : okI x = true) : ∃ n : Nat, x = n ∧ n ≤ 2147483647 := by
  unfold okI at h
  simp only [Bool.and_eq_true, decide_eq_true_eq] at h
  exact ⟨x.toNat, by omega, by omega⟩
theorem join3 (a b c : List UInt8) : Lib.join [a, b, c] [46] = a ++ 46 :: (b ++ 46 :: c) := by
  unfold Lib.join
  simp [List.intercalate, List.intersperse]
theorem ownT_row {n0 : Nat} {h : AH} {v : AV} {xs : List (List UInt8)} (ho : OwnT n0 h v xs) (hne : xs ≠ []) : ∃ p, v = .sl p 0 xs.length (.un 1) ∧ n0 ≤ p ∧ h.at p = some (.cells (xs.map txV) 9) := by
  obtain ⟨L, h1, h2⟩ := ho
  have hL : L.flatten = xs.map txV := by
    obtain ⟨e1, e2⟩ := h2
    have key : ∀ (L : List (List AV)) (xs : List (List UInt8)), L.length = xs.length → (∀ (i : Nat) c x, L[i]? = some c → xs[i]? = some x → RTx.is (fun b => False ∧ Apart v b) h c x) → L.flatten = xs.map txV := by
      intro L
      induction L with
      | nil => intro xs hl _; cases xs with | nil => rfl | cons => cases hl
      | cons a r ih =>
        intro xs hl hh
        cases xs with
        | nil => cases hl
        | cons x xs =>
          have i1 := ih xs (by simpa using hl) (fun i c y a b => hh (i + 1) c y (by simpa using a) (by simpa using b))
          obtain rfl := RTx_is.1 (hh 0 a x rfl rfl)
          rw [List.flatten_cons, i1]
          rfl
    exact key L xs e1 e2
  have e0 := h2.1
  rcases h1.2 with ⟨rfl, rfl⟩ | ⟨p, rfl, hp, hat⟩
  · exact absurd (List.eq_nil_of_length_eq_zero (by rw [← e0]; rfl)) hne
  · exact ⟨p, by rw [e0]; rfl, hp, by rw [hat, hL]⟩
theorem strs_tx : ∀ xs : List (List UInt8), strsL (xs.map txV) = some (xs.map fun l => ⟨l.toArray⟩)
  | [] => rfl
  | x :: r => by
    show (strsL (r.map txV)).map _ = _
    rw [strs_tx r]
    rfl
theorem join_c {H : AH} {Q : AV → AH → Prop} {p n : Nat} {cap : Cap} {xs : List (List UInt8)} {sep : List UInt8} {e : TypeId} (hat : H.at p = some (.cells (xs.map txV) e)) (hn : n = xs.length) (hx : xs.length ≤ 140737488355328) (hlen : (Lib.join xs sep).length ≤ 140737488355328) (hq : Q (.lit (.string ⟨(Lib.join xs sep).toArray⟩)) H) :
    WC Tryz.prog (tabOf Tryz.prog NT0) S0 23 [.sl p 0 n cap, .lit (.string ⟨sep.toArray⟩)] H Q := by
  refine WC_sum Tryz.func23 rfl (g := sJoin) rfl ?_ hq
  subst hn
  have hg : getB H p = some (xs.map txV, e) := by unfold getB; rw [hat]
  have ht : ((xs.map txV).drop 0).take xs.length = xs.map txV := by rw [List.drop_zero, List.take_of_length_le (by simp)]
  have hb : (xs.map fun l => (⟨l.toArray⟩ : ByteArray)).map (·.data.toList) = xs := by rw [List.map_map]; show xs.map (fun l => l) = xs; exact List.map_id' xs
  show (match getB H p with | some (l, _) => _ | none => _) = _
  rw [hg]
  show (match strsL (((xs.map txV).drop 0).take xs.length) with | some ys => _ | none => _) = _
  rw [ht, strs_tx]
  show (bif Nat.beq xs.length (xs.map fun l => (⟨l.toArray⟩ : ByteArray)).length && (decide ((xs.map fun l => (⟨l.toArray⟩ : ByteArray)).length ≤ 140737488355328) && decide ((Lib.join ((xs.map fun l => (⟨l.toArray⟩ : ByteArray)).map (·.data.toList)) sep).length ≤ 140737488355328)) then some (AV.lit (.string ⟨(Lib.join ((xs.map fun l => (⟨l.toArray⟩ : ByteArray)).map (·.data.toList)) sep).toArray⟩), H) else none) = _
  rw [hb, List.length_map, Nat.beq_refl, decide_eq_true hx, decide_eq_true hlen]
  rfl
theorem id_x {H : AH} {a b c : Int} {e : TypeId} (hT : H.at 1 = some (.frz tabL e)) : WC Tryz.prog (tabOf Tryz.prog NT0) S0 7 [.lit (.int .i64 a), .lit (.int .i64 b), .lit (.int .i64 c)] H fun r h' => Ext H.n H h' ∧ r = .lit (.string ⟨(idF a b c).toArray⟩) := by
  refine WC_fn Tryz.func7 rfl rfl ?_
  have lT := at_lt hT
  simp only [core, zrA, zrS, zrM, zrL, zrE, reduceCtorEq, zrD, ziE, ziL, ziN, Tryz.ntmps7]
  refine WB_for 3 (fun i t h => Ext H.n H h ∧ ∃ v, (∀ j x, j < i → [a, b, c][j]? = some x → okI x = true) ∧ OwnT H.n h v (([a, b, c].take i).map fun x => Lib.decDigits x.toNat) ∧ t.n = 31 ∧ t.get 7 = v ∧ t.get 13 = .agg [.lit (.int .i64 a), .lit (.int .i64 b), .lit (.int .i64 c)] ∧ t.get 14 = .lit (.int .i64 (i : Nat))) ?_ ?_ _ _ ?_
  · rintro i t h hlt hc ⟨E, v, hok, ho, hn, g7, g13, g14⟩ ih
    have u1 := ho.one
    have T1 : h.at 1 = some (.frz tabL e) := (E.2 _ lT).trans hT
    have hcase : ∃ x, [a, b, c][i]? = some x ∧ ∀ q h, ix3M h q (.agg [.lit (.int .i64 a), .lit (.int .i64 b), .lit (.int .i64 c)]) (.lit (.int .i64 (i : Nat))) = some (.val (.lit (.int .i64 x)), h) := by
      have : i = 0 ∨ i = 1 ∨ i = 2 := by omega
      rcases this with rfl | rfl | rfl
      · exact ⟨a, rfl, fun _ _ => rfl⟩
      · exact ⟨b, rfl, fun _ _ => rfl⟩
      · exact ⟨c, rfl, fun _ _ => rfl⟩
    obtain ⟨x, hx, hix⟩ := hcase
    have hwi := wrap_succ (n := 3) hlt (by omega)
    have hc3 : ((i : Int) < 3) = True := by simp; omega
    have hbad : okI x = false → idF a b c = [] := fun hb => by
      unfold idF
      rw [if_neg]
      rintro ⟨h1, h2, h3⟩
      have : i = 0 ∨ i = 1 ∨ i = 2 := by omega
      rcases this with rfl | rfl | rfl
      · cases hx; rw [h1] at hb; cases hb
      · cases hx; rw [h2] at hb; cases hb
      · cases hx; rw [h3] at hb; cases hb
    cases f1 : decide (x < 0) with
    | true =>
      have hb := hbad (by unfold okI; have := of_decide_eq_true f1; rw [decide_eq_false (by omega)]; rfl)
      simp only [core, zrA, zrS, zrM, zrL, zrE, reduceCtorEq, zrD, ziE, ziL, ziN, hn, g7, g13, g14, hlt, hc3, a_idx3, hix, f1, aundef, hb]
      first | exact E | exact ⟨E, rfl⟩
    | false =>
    cases f2 : decide (2147483647 < x) with
    | true =>
      have hb := hbad (by unfold okI; have := of_decide_eq_true f2; rw [decide_eq_false (p := x ≤ 2147483647) (by omega), Bool.and_false])
      simp only [core, zrA, zrS, zrM, zrL, zrE, reduceCtorEq, zrD, ziE, ziL, ziN, hn, g7, g13, g14, hlt, hc3, a_idx3, hix, f1, f2, aundef, hb]
      first | exact E | exact ⟨E, rfl⟩
    | false =>
      have k1 := of_decide_eq_false f1
      have k2 := of_decide_eq_false f2
      have hxo : okI x = true := by unfold okI; rw [decide_eq_true (by omega), decide_eq_true (by omega)]; rfl
      simp only [core, zrA, zrS, zrM, zrL, zrE, reduceCtorEq, zrD, ziE, ziL, ziN, hn, g7, g13, g14, hlt, hc3, a_idx3, hix, f1, f2, aundef]
      refine itoa_c T1 (by omega) (by omega) ?_
      obtain ⟨m, rfl, hm⟩ := okI_nat hxo
      rw [itoa_nat]
      have e5 : Ext h.n h (h.push (.cells [.lit (.string ⟨(Lib.decDigits m).toArray⟩)] 9)) := (Ext.refl _ _).push _ (Nat.le_refl _)
      simp only [core, zrA, zrS, zrM, zrL, zrE, reduceCtorEq, zrD, ziE, ziL, ziN, hn, g7, g13, g14, u1]
      refine WOp_app (push_tx (ho.ext e5 (Nat.le_refl _)) (by rw [n_push]; have := E.1; omega) (at_push_n h _) (by simp; omega)) ?_
      rintro s6 h6 ⟨o6, e6⟩
      have u6 := o6.one
      have E6 : Ext H.n H h6 := (E.trans (e5.mono E.1)).trans e6
      simp only [core, zrA, zrS, zrM, zrL, zrE, reduceCtorEq, zrD, ziE, ziL, ziN, hn, g7, g13, g14, u6, hwi]
      refine ih _ _ ⟨E6, s6, fun j y hj hy => ?_, ?_, ?_⟩
      · by_cases hji : j < i
        · exact hok j y hji hy
        · obtain rfl : j = i := by omega
          rw [hx] at hy
          cases hy
          exact hxo
      · obtain ⟨h1, h2⟩ := List.getElem?_eq_some_iff.1 hx
        rw [List.take_succ_eq_append_getElem h1, List.map_append, h2]
        exact o6
      · simp only [core, zrA, zrS, zrM, zrL, zrE, reduceCtorEq, zrD, ziE, ziL, ziN, hn, g7, g13, g14]
  · rintro t h hc ⟨E, v, hok, ho, hn, g7, g13, g14⟩
    have ha := hok 0 a (by omega) rfl
    have hb := hok 1 b (by omega) rfl
    have hcc := hok 2 c (by omega) rfl
    have hid : idF a b c = idB a.toNat b.toNat c.toNat := by unfold idF; rw [if_pos ⟨ha, hb, hcc⟩]
    have u1 := ho.one
    have hc3 : (((3 : Nat) : Int) < 3) = False := by simp
    obtain ⟨p, rfl, hp, hat⟩ := ownT_row ho (by simp)
    obtain ⟨x, rfl, hx⟩ := okI_nat ha
    obtain ⟨y, rfl, hy⟩ := okI_nat hb
    obtain ⟨z, rfl, hz⟩ := okI_nat hcc
    have lx := dig_len (n := x) (by omega)
    have ly := dig_len (n := y) (by omega)
    have lz := dig_len (n := z) (by omega)
    have hm3 : ([(x : Int), (y : Int), (z : Int)].take 3).map (fun x => Lib.decDigits x.toNat) = [Lib.decDigits x, Lib.decDigits y, Lib.decDigits z] := rfl
    rw [hm3] at hat u1
    have hj := join3 (Lib.decDigits x) (Lib.decDigits y) (Lib.decDigits z)
    simp only [core, zrA, zrS, zrM, zrL, zrE, reduceCtorEq, zrD, ziE, ziL, ziN, hn, g7, g13, g14, hc3, u1]
    refine join_c (sep := [46]) hat rfl (by simp) (by rw [hj]; simp; omega) ?_
    rw [hj]
    simp only [core, zrA, zrS, zrM, zrL, zrE, reduceCtorEq, zrD, ziE, ziL, ziN, hn, g7, g13, g14]
    rw [hid]
    first | exact E | exact ⟨E, rfl⟩
  · refine ⟨Ext.refl _ _, .lit (.slice none 0 0), fun j x hj => by omega, .nil, ?_⟩
    simp only [core, zrA, zrS, zrM, zrL, zrE, reduceCtorEq, zrD, ziE, ziL, ziN]
    try ((repeat' apply And.intro) <;> first | rfl | trivial)
theorem idR_x {H : AH} {a b c : Int} : WC Tryz.prog (tabOf Tryz.prog NT0) S0 12 [.lit (.int .i64 a), .lit (.int .i64 b), .lit (.int .i64 c)] H fun r h' => Ext H.n H h' ∧ r = .lit (.string ⟨(idF a b c).toArray⟩) := by
  refine WC_fn Tryz.func12 rfl rfl ?_
  simp only [core, zrA, zrS, zrM, zrL, zrE, reduceCtorEq, zrD, ziE, ziL, ziN, Tryz.ntmps12]
  refine WB_for 3 (fun i t h => h = H ∧ (∀ j x, j < i → [a, b, c][j]? = some x → okI x = true) ∧ t.n = 33 ∧ t.get 0 = .lit (.int .i64 a) ∧ t.get 1 = .lit (.int .i64 b) ∧ t.get 2 = .lit (.int .i64 c) ∧ t.get 12 = .agg [.lit (.int .i64 a), .lit (.int .i64 b), .lit (.int .i64 c)] ∧ t.get 13 = .lit (.int .i64 (i : Nat))) ?_ ?_ _ _ ?_
  · rintro i t h hlt hc ⟨rfl, hok, hn, g0, g1, g2, g12, g13⟩ ih
    have hcase : ∃ x, [a, b, c][i]? = some x ∧ ∀ q h, ix3M h q (.agg [.lit (.int .i64 a), .lit (.int .i64 b), .lit (.int .i64 c)]) (.lit (.int .i64 (i : Nat))) = some (.val (.lit (.int .i64 x)), h) := by
      have : i = 0 ∨ i = 1 ∨ i = 2 := by omega
      rcases this with rfl | rfl | rfl
      · exact ⟨a, rfl, fun _ _ => rfl⟩
      · exact ⟨b, rfl, fun _ _ => rfl⟩
      · exact ⟨c, rfl, fun _ _ => rfl⟩
    obtain ⟨x, hx, hix⟩ := hcase
    have hwi := wrap_succ (n := 3) hlt (by omega)
    have hc3 : ((i : Int) < 3) = True := by simp; omega
    have hbad : okI x = false → idF a b c = [] := fun hb => by
      unfold idF
      rw [if_neg]
      rintro ⟨h1, h2, h3⟩
      have : i = 0 ∨ i = 1 ∨ i = 2 := by omega
      rcases this with rfl | rfl | rfl
      · cases hx; rw [h1] at hb; cases hb
      · cases hx; rw [h2] at hb; cases hb
      · cases hx; rw [h3] at hb; cases hb
    cases f1 : decide (x < 0) with
    | true =>
      have hb := hbad (by unfold okI; have := of_decide_eq_true f1; rw [decide_eq_false (by omega)]; rfl)
      simp only [core, zrA, zrS, zrM, zrL, zrE, reduceCtorEq, zrD, ziE, ziL, ziN, hn, g0, g1, g2, g12, g13, hlt, hc3, a_idx3, hix, f1, aundef, hb]
      first | exact Ext.refl _ _ | exact ⟨Ext.refl _ _, rfl⟩
    | false =>
    cases f2 : decide (2147483647 < x) with
    | true =>
      have hb := hbad (by unfold okI; have := of_decide_eq_true f2; rw [decide_eq_false (p := x ≤ 2147483647) (by omega), Bool.and_false])
      simp only [core, zrA, zrS, zrM, zrL, zrE, reduceCtorEq, zrD, ziE, ziL, ziN, hn, g0, g1, g2, g12, g13, hlt, hc3, a_idx3, hix, f1, f2, aundef, hb]
      first | exact Ext.refl _ _ | exact ⟨Ext.refl _ _, rfl⟩
    | false =>
      have k1 := of_decide_eq_false f1
      have k2 := of_decide_eq_false f2
      have hxo : okI x = true := by unfold okI; rw [decide_eq_true (by omega), decide_eq_true (by omega)]; rfl
      simp only [core, zrA, zrS, zrM, zrL, zrE, reduceCtorEq, zrD, ziE, ziL, ziN, hn, g0, g1, g2, g12, g13, hlt, hc3, a_idx3, hix, f1, f2, aundef, hwi]
      refine ih _ _ ⟨rfl, fun j y hj hy => ?_, ?_⟩
      · by_cases hji : j < i
        · exact hok j y hji hy
        · obtain rfl : j = i := by omega
          rw [hx] at hy
          cases hy
          exact hxo
      · simp only [core, zrA, zrS, zrM, zrL, zrE, reduceCtorEq, zrD, ziE, ziL, ziN, hn, g0, g1, g2, g12, g13]
  · rintro t h hc ⟨rfl, hok, hn, g0, g1, g2, g12, g13⟩
    have ha := hok 0 a (by omega) rfl
    have hb := hok 1 b (by omega) rfl
    have hcc := hok 2 c (by omega) rfl
    have hid : idF a b c = idB a.toNat b.toNat c.toNat := by unfold idF; rw [if_pos ⟨ha, hb, hcc⟩]
    have hc3 : (((3 : Nat) : Int) < 3) = False := by simp
    obtain ⟨x, rfl, hx⟩ := okI_nat ha
    obtain ⟨y, rfl, hy⟩ := okI_nat hb
    obtain ⟨z, rfl, hz⟩ := okI_nat hcc
    have lx := dig_len (n := x) (by omega)
    have ly := dig_len (n := y) (by omega)
    have lz := dig_len (n := z) (by omega)
    obtain ⟨X, hX⟩ : ∃ X, X = Lib.decDigits x := ⟨_, rfl⟩
    obtain ⟨Y, hY⟩ : ∃ Y, Y = Lib.decDigits y := ⟨_, rfl⟩
    obtain ⟨Z, hZ⟩ : ∃ Z, Z = Lib.decDigits z := ⟨_, rfl⟩
    rw [← hX] at lx
    rw [← hY] at ly
    rw [← hZ] at lz
    have e1 : ∀ (P : Program) (e : TypeId), pur P (binOp .add e (Value.string ⟨X.toArray⟩) (Value.string ⟨#[46]⟩)) = some (.ok (Value.string ⟨(X ++ [46]).toArray⟩)) := fun P e => pur_sadd (b := [46]) (by simp; omega)
    have e2 : ∀ (P : Program) (e : TypeId), pur P (binOp .add e (Value.string ⟨(X ++ [46]).toArray⟩) (Value.string ⟨Y.toArray⟩)) = some (.ok (Value.string ⟨(X ++ [46] ++ Y).toArray⟩)) := fun P e => pur_sadd (by simp; omega)
    have e3 : ∀ (P : Program) (e : TypeId), pur P (binOp .add e (Value.string ⟨(X ++ [46] ++ Y).toArray⟩) (Value.string ⟨#[46]⟩)) = some (.ok (Value.string ⟨(X ++ [46] ++ Y ++ [46]).toArray⟩)) := fun P e => pur_sadd (b := [46]) (by simp; omega)
    have e4 : ∀ (P : Program) (e : TypeId), pur P (binOp .add e (Value.string ⟨(X ++ [46] ++ Y ++ [46]).toArray⟩) (Value.string ⟨Z.toArray⟩)) = some (.ok (Value.string ⟨(X ++ [46] ++ Y ++ [46] ++ Z).toArray⟩)) := fun P e => pur_sadd (by simp; omega)
    simp only [core, zrA, zrS, zrM, zrL, zrE, reduceCtorEq, zrD, ziE, ziL, ziN, hn, g0, g1, g2, g12, g13, hc3]
    refine (digits_x (n := x) (by omega)).mono ?_
    rintro _ h2 ⟨E2, rfl⟩
    rw [← hX]
    simp only [core, zrA, zrS, zrM, zrL, zrE, reduceCtorEq, zrD, ziE, ziL, ziN, hn, g0, g1, g2, g12, g13, e1, ofPV_str]
    refine (digits_x (n := y) (by omega)).mono ?_
    rintro _ h3 ⟨E3, rfl⟩
    rw [← hY]
    simp only [core, zrA, zrS, zrM, zrL, zrE, reduceCtorEq, zrD, ziE, ziL, ziN, hn, g0, g1, g2, g12, g13, e2, e3, ofPV_str]
    refine (digits_x (n := z) (by omega)).mono ?_
    rintro _ h4 ⟨E4, rfl⟩
    rw [← hZ]
    simp only [core, zrA, zrS, zrM, zrL, zrE, reduceCtorEq, zrD, ziE, ziL, ziN, hn, g0, g1, g2, g12, g13, e4, ofPV_str]
    have E := (E2.trans (E3.mono E2.1)).trans (E4.mono (Nat.le_trans E2.1 E3.1))
    have hfin : X ++ [46] ++ Y ++ [46] ++ Z = idF (x : Int) (y : Int) (z : Int) := by
      rw [hid, hX, hY, hZ]
      unfold idB
      simp
    rw [hfin]
    first | exact E | exact ⟨E, rfl⟩
  · refine ⟨rfl, fun j x hj => by omega, ?_⟩
    simp only [core, zrA, zrS, zrM, zrL, zrE, reduceCtorEq, zrD, ziE, ziL, ziN]
    try ((repeat' apply And.intro) <;> first | rfl | trivial)
end Go.Proofs.YtopeilhdddiapaaGreatDoor.Ex
end
