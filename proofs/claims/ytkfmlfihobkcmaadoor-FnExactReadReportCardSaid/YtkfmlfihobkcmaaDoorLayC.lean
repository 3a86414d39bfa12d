/- The library's functions strconv.Itoa, strconv.Atoi, strings.Cut, strings.Split over this program, as contracts of the abstract machine. The layings were printed by the kit's lay-shelf.mjs and lay-plain.mjs. -/
import Derived.Test.YtkfmlfihobkcmaaDoorVmShelf
import Derived.Test.YtkfmlfihobkcmaaDoorVmLayer
import Derived.Test.YtkfmlfihobkcmaaDoorVmKind
import Derived.Test.YtkfmlfihobkcmaaDoorProg
import Derived.Shelf.Strconv.Itoa3
import Derived.Shelf.Strconv.AtoiAll
import Derived.Shelf.Strings.Cut
import Derived.Shelf.Strings.Split
import Derived.KernelRfl
import Derived.Lib.AppendIntMem
set_option linter.all false
set_option maxRecDepth 100000
namespace Go.Proofs
open Go.Shelf
def Tryd.laysM171_ren : Go.Shelf.Ren := ⟨fun | 171 => 39 | 243 => 60 | 246 => 71 | 283 => 84 | 284 => 85 | 285 => 86 | 286 => 87 | 129 => 95 | 317 => 94 | 318 => 96 | 319 => 97 | 320 => 98 | 337 => 101 | 338 => 102 | n => n, fun | 3 => 3 | 9 => 9 | 2 => 2 | 4 => 4 | 171 => 100 | 0 => 0 | 53 => 101 | 37 => 77 | 5 => 5 | 173 => 104 | 212 => 115 | 51 => 106 | 20 => 20 | 213 => 116 | 46 => 90 | 232 => 129 | 233 => 130 | n => n, fun | 17 => 3 | 18 => 6 | 19 => 7 | n => n⟩
theorem Tryd.laysM171 : Go.Proofs.LaysM.n171 Tryd.prog Tryd.laysM171_ren := {
  mixed := by kernel_rfl
  f129 := Tryd.func95.trans (congrArg some (by kernel_rfl))
  f171 := Tryd.func39.trans (congrArg some (by kernel_rfl))
  f243 := Tryd.func60.trans (congrArg some (by kernel_rfl))
  f246 := Tryd.func71.trans (congrArg some (by kernel_rfl))
  f283 := Tryd.func84.trans (congrArg some (by kernel_rfl))
  f284 := Tryd.func85.trans (congrArg some (by kernel_rfl))
  f285 := Tryd.func86.trans (congrArg some (by kernel_rfl))
  f286 := Tryd.func87.trans (congrArg some (by kernel_rfl))
  f317 := Tryd.func94.trans (congrArg some (by kernel_rfl))
  f318 := Tryd.func96.trans (congrArg some (by kernel_rfl))
  f319 := Tryd.func97.trans (congrArg some (by kernel_rfl))
  f320 := Tryd.func98.trans (congrArg some (by kernel_rfl))
  f337 := Tryd.func101.trans (congrArg some (by kernel_rfl))
  f338 := Tryd.func102.trans (congrArg some (by kernel_rfl))
  t0 := Tryd.underlying0
  a0 := Tryd.isAgg0
  z0 := Tryd.sizeOf0
  v0 := Tryd.zeroValue0
  t2 := Tryd.underlying2
  a2 := Tryd.isAgg2
  z2 := Tryd.sizeOf2
  v2 := Tryd.zeroValue2
  t3 := Tryd.underlying3
  a3 := Tryd.isAgg3
  z3 := Tryd.sizeOf3
  v3 := Tryd.zeroValue3
  t4 := Tryd.underlying4
  a4 := Tryd.isAgg4
  z4 := Tryd.sizeOf4
  v4 := Tryd.zeroValue4
  t5 := Tryd.underlying5
  a5 := Tryd.isAgg5
  z5 := Tryd.sizeOf5
  v5 := Tryd.zeroValue5
  t9 := Tryd.underlying9
  a9 := Tryd.isAgg9
  z9 := Tryd.sizeOf9
  v9 := Tryd.zeroValue9
  t20 := Tryd.underlying20
  a20 := Tryd.isAgg20
  z20 := Tryd.sizeOf20
  v20 := Tryd.zeroValue20
  t37 := Tryd.underlying77
  a37 := Tryd.isAgg77
  z37 := Tryd.sizeOf77
  v37 := Tryd.zeroValue77
  t46 := Tryd.underlying90
  a46 := Tryd.isAgg90
  z46 := Tryd.sizeOf90
  v46 := Tryd.zeroValue90
  t51 := Tryd.underlying106
  a51 := Tryd.isAgg106
  z51 := Tryd.sizeOf106
  v51 := Tryd.zeroValue106
  t53 := Tryd.underlying101
  a53 := Tryd.isAgg101
  z53 := Tryd.sizeOf101
  v53 := Tryd.zeroValue101
  t171 := Tryd.underlying100
  a171 := Tryd.isAgg100
  z171 := Tryd.sizeOf100
  v171 := Tryd.zeroValue100
  t173 := Tryd.underlying104
  a173 := Tryd.isAgg104
  z173 := Tryd.sizeOf104
  v173 := Tryd.zeroValue104
  t212 := Tryd.underlying115
  a212 := Tryd.isAgg115
  z212 := Tryd.sizeOf115
  v212 := Tryd.zeroValue115
  t213 := Tryd.underlying116
  a213 := Tryd.isAgg116
  z213 := Tryd.sizeOf116
  t232 := Tryd.underlying129
  a232 := Tryd.isAgg129
  z232 := Tryd.sizeOf129
  v232 := Tryd.zeroValue129
  t233 := Tryd.underlying130
  a233 := Tryd.isAgg130
  z233 := Tryd.sizeOf130
  v233 := Tryd.zeroValue130
  g17 := by kernel_rfl
  g18 := by kernel_rfl
  g19 := by kernel_rfl
  i0 := by kernel_rfl
  i2 := by kernel_rfl
  i3 := by kernel_rfl
  i4 := by kernel_rfl
  i5 := by kernel_rfl
  i9 := by kernel_rfl
  i20 := by kernel_rfl
  i37 := by kernel_rfl
  i46 := by kernel_rfl
  i51 := by kernel_rfl
  i53 := by kernel_rfl
  i171 := by kernel_rfl
  i173 := by kernel_rfl
  i212 := by kernel_rfl
  i232 := by kernel_rfl
  i233 := by kernel_rfl
  m17 := by kernel_rfl
  m18 := by kernel_rfl
  m19 := by kernel_rfl }
def Tryd.laysC172_ren : Go.Shelf.Ren := ⟨fun | 172 => 48 | 244 => 63 | 245 => 64 | 247 => 76 | 279 => 77 | 280 => 78 | 281 => 79 | 282 => 80 | 287 => 90 | 316 => 91 | 171 => 39 | 205 => 92 | 321 => 99 | 322 => 100 | 243 => 60 | 246 => 71 | 283 => 84 | 284 => 85 | 285 => 86 | 286 => 87 | 129 => 95 | 317 => 94 | 318 => 96 | 319 => 97 | 320 => 98 | 337 => 101 | 338 => 102 | n => n, fun | 9 => 9 | 3 => 3 | 75 => 72 | 76 => 73 | 4 => 4 | 5 => 5 | 167 => 91 | 37 => 77 | 0 => 0 | 85 => 92 | 2 => 2 | 168 => 94 | 53 => 101 | 175 => 109 | 46 => 90 | 210 => 113 | 127 => 120 | 145 => 123 | 143 => 121 | 21 => 21 | 171 => 100 | 173 => 104 | 212 => 115 | 51 => 106 | 20 => 20 | 213 => 116 | 232 => 129 | 233 => 130 | 80 => 131 | n => n, fun | 15 => 1 | 16 => 2 | 17 => 3 | 18 => 6 | 19 => 7 | n => n⟩
theorem Tryd.laysC172 : Go.Proofs.LaysC.n172 Tryd.prog Tryd.laysC172_ren := {
  mixed := by kernel_rfl
  f129 := Tryd.func95.trans (congrArg some (by kernel_rfl))
  f171 := Tryd.func39.trans (congrArg some (by kernel_rfl))
  f172 := Tryd.func48.trans (congrArg some (by kernel_rfl))
  f205 := Tryd.func92.trans (congrArg some (by kernel_rfl))
  f243 := Tryd.func60.trans (congrArg some (by kernel_rfl))
  f244 := Tryd.func63.trans (congrArg some (by kernel_rfl))
  f245 := Tryd.func64.trans (congrArg some (by kernel_rfl))
  f246 := Tryd.func71.trans (congrArg some (by kernel_rfl))
  f247 := Tryd.func76.trans (congrArg some (by kernel_rfl))
  f279 := Tryd.func77.trans (congrArg some (by kernel_rfl))
  f280 := Tryd.func78.trans (congrArg some (by kernel_rfl))
  f281 := Tryd.func79.trans (congrArg some (by kernel_rfl))
  f282 := Tryd.func80.trans (congrArg some (by kernel_rfl))
  f283 := Tryd.func84.trans (congrArg some (by kernel_rfl))
  f284 := Tryd.func85.trans (congrArg some (by kernel_rfl))
  f285 := Tryd.func86.trans (congrArg some (by kernel_rfl))
  f286 := Tryd.func87.trans (congrArg some (by kernel_rfl))
  f287 := Tryd.func90.trans (congrArg some (by kernel_rfl))
  f316 := Tryd.func91.trans (congrArg some (by kernel_rfl))
  f317 := Tryd.func94.trans (congrArg some (by kernel_rfl))
  f318 := Tryd.func96.trans (congrArg some (by kernel_rfl))
  f319 := Tryd.func97.trans (congrArg some (by kernel_rfl))
  f320 := Tryd.func98.trans (congrArg some (by kernel_rfl))
  f321 := Tryd.func99.trans (congrArg some (by kernel_rfl))
  f322 := Tryd.func100.trans (congrArg some (by kernel_rfl))
  f337 := Tryd.func101.trans (congrArg some (by kernel_rfl))
  f338 := Tryd.func102.trans (congrArg some (by kernel_rfl))
  t0 := Tryd.underlying0
  a0 := Tryd.isAgg0
  z0 := Tryd.sizeOf0
  v0 := Tryd.zeroValue0
  t2 := Tryd.underlying2
  a2 := Tryd.isAgg2
  z2 := Tryd.sizeOf2
  v2 := Tryd.zeroValue2
  t3 := Tryd.underlying3
  a3 := Tryd.isAgg3
  z3 := Tryd.sizeOf3
  v3 := Tryd.zeroValue3
  t4 := Tryd.underlying4
  a4 := Tryd.isAgg4
  z4 := Tryd.sizeOf4
  v4 := Tryd.zeroValue4
  t5 := Tryd.underlying5
  a5 := Tryd.isAgg5
  z5 := Tryd.sizeOf5
  v5 := Tryd.zeroValue5
  t9 := Tryd.underlying9
  a9 := Tryd.isAgg9
  z9 := Tryd.sizeOf9
  v9 := Tryd.zeroValue9
  t20 := Tryd.underlying20
  a20 := Tryd.isAgg20
  z20 := Tryd.sizeOf20
  v20 := Tryd.zeroValue20
  t21 := Tryd.underlying21
  a21 := Tryd.isAgg21
  z21 := Tryd.sizeOf21
  v21 := Tryd.zeroValue21
  t37 := Tryd.underlying77
  a37 := Tryd.isAgg77
  z37 := Tryd.sizeOf77
  v37 := Tryd.zeroValue77
  t46 := Tryd.underlying90
  a46 := Tryd.isAgg90
  z46 := Tryd.sizeOf90
  v46 := Tryd.zeroValue90
  t51 := Tryd.underlying106
  a51 := Tryd.isAgg106
  z51 := Tryd.sizeOf106
  v51 := Tryd.zeroValue106
  t53 := Tryd.underlying101
  a53 := Tryd.isAgg101
  z53 := Tryd.sizeOf101
  v53 := Tryd.zeroValue101
  t75 := Tryd.underlying72
  a75 := Tryd.isAgg72
  z75 := Tryd.sizeOf72
  v75 := Tryd.zeroValue72
  t76 := Tryd.underlying73
  a76 := Tryd.isAgg73
  z76 := Tryd.sizeOf73
  v76 := Tryd.zeroValue73
  t85 := Tryd.underlying92
  a85 := Tryd.isAgg92
  z85 := Tryd.sizeOf92
  v85 := Tryd.zeroValue92
  t127 := Tryd.underlying120
  a127 := Tryd.isAgg120
  z127 := Tryd.sizeOf120
  v127 := Tryd.zeroValue120
  t143 := Tryd.underlying121
  a143 := Tryd.isAgg121
  z143 := Tryd.sizeOf121
  v143 := Tryd.zeroValue121
  t145 := Tryd.underlying123
  a145 := Tryd.isAgg123
  z145 := Tryd.sizeOf123
  v145 := Tryd.zeroValue123
  t167 := Tryd.underlying91
  a167 := Tryd.isAgg91
  z167 := Tryd.sizeOf91
  v167 := Tryd.zeroValue91
  t168 := Tryd.underlying94
  a168 := Tryd.isAgg94
  z168 := Tryd.sizeOf94
  v168 := Tryd.zeroValue94
  t171 := Tryd.underlying100
  a171 := Tryd.isAgg100
  z171 := Tryd.sizeOf100
  v171 := Tryd.zeroValue100
  t173 := Tryd.underlying104
  a173 := Tryd.isAgg104
  z173 := Tryd.sizeOf104
  v173 := Tryd.zeroValue104
  t175 := Tryd.underlying109
  a175 := Tryd.isAgg109
  z175 := Tryd.sizeOf109
  v175 := Tryd.zeroValue109
  t210 := Tryd.underlying113
  a210 := Tryd.isAgg113
  z210 := Tryd.sizeOf113
  v210 := Tryd.zeroValue113
  t212 := Tryd.underlying115
  a212 := Tryd.isAgg115
  z212 := Tryd.sizeOf115
  v212 := Tryd.zeroValue115
  t213 := Tryd.underlying116
  a213 := Tryd.isAgg116
  z213 := Tryd.sizeOf116
  t232 := Tryd.underlying129
  a232 := Tryd.isAgg129
  z232 := Tryd.sizeOf129
  v232 := Tryd.zeroValue129
  t233 := Tryd.underlying130
  a233 := Tryd.isAgg130
  z233 := Tryd.sizeOf130
  v233 := Tryd.zeroValue130
  g15 := by kernel_rfl
  g16 := by kernel_rfl
  g17 := by kernel_rfl
  g18 := by kernel_rfl
  g19 := by kernel_rfl
  t80 := Tryd.underlying131
  a80 := Tryd.isAgg131
  z80 := Tryd.sizeOf131
  v80 := Tryd.zeroValue131
  i0 := by kernel_rfl
  i2 := by kernel_rfl
  i3 := by kernel_rfl
  i4 := by kernel_rfl
  i5 := by kernel_rfl
  i9 := by kernel_rfl
  i20 := by kernel_rfl
  i21 := by kernel_rfl
  i37 := by kernel_rfl
  i46 := by kernel_rfl
  i51 := by kernel_rfl
  i53 := by kernel_rfl
  i75 := by kernel_rfl
  i76 := by kernel_rfl
  i80 := by kernel_rfl
  i85 := by kernel_rfl
  i127 := by kernel_rfl
  i143 := by kernel_rfl
  i145 := by kernel_rfl
  i167 := by kernel_rfl
  i168 := by kernel_rfl
  i171 := by kernel_rfl
  i173 := by kernel_rfl
  i175 := by kernel_rfl
  i210 := by kernel_rfl
  i212 := by kernel_rfl
  i232 := by kernel_rfl
  i233 := by kernel_rfl
  m15 := by kernel_rfl
  m16 := by kernel_rfl
  m17 := by kernel_rfl
  m18 := by kernel_rfl
  m19 := by kernel_rfl
  c0 := by kernel_rfl
  c2 := by kernel_rfl
  c3 := by kernel_rfl
  c4 := by kernel_rfl
  c5 := by kernel_rfl
  c9 := by kernel_rfl
  c20 := by kernel_rfl
  c21 := by kernel_rfl
  c37 := by kernel_rfl
  c46 := by kernel_rfl
  c51 := by kernel_rfl
  c53 := by kernel_rfl
  c75 := by kernel_rfl
  c76 := by kernel_rfl
  c80 := by kernel_rfl
  c85 := by kernel_rfl
  c127 := by kernel_rfl
  c143 := by kernel_rfl
  c145 := by kernel_rfl
  c167 := by kernel_rfl
  c168 := by kernel_rfl
  c171 := by kernel_rfl
  c173 := by kernel_rfl
  c175 := by kernel_rfl
  c210 := by kernel_rfl
  c212 := by kernel_rfl
  c213 := by kernel_rfl
  c232 := by kernel_rfl
  c233 := by kernel_rfl }
def Tryd.lays145_ren : Go.Shelf.Ren := ⟨fun | 145 => 24 | 220 => 47 | 219 => 62 | 217 => 72 | 225 => 73 | 224 => 74 | 267 => 75 | 266 => 88 | 314 => 89 | n => n, fun | 9 => 9 | 4 => 4 | 59 => 45 | 3 => 3 | 5 => 5 | 46 => 90 | 146 => 107 | 51 => 106 | n => n, fun | 1 => 0 | n => n⟩
theorem Tryd.lays145 : Go.Proofs.Lays.n145 Tryd.prog Tryd.lays145_ren := {
  mixed := by kernel_rfl
  f145 := Tryd.func24.trans (congrArg some (by kernel_rfl))
  f217 := Tryd.func72.trans (congrArg some (by kernel_rfl))
  f219 := Tryd.func62.trans (congrArg some (by kernel_rfl))
  f220 := Tryd.func47.trans (congrArg some (by kernel_rfl))
  f224 := Tryd.func74.trans (congrArg some (by kernel_rfl))
  f225 := Tryd.func73.trans (congrArg some (by kernel_rfl))
  f266 := Tryd.func88.trans (congrArg some (by kernel_rfl))
  f267 := Tryd.func75.trans (congrArg some (by kernel_rfl))
  f314 := Tryd.func89.trans (congrArg some (by kernel_rfl))
  t3 := Tryd.underlying3
  a3 := Tryd.isAgg3
  z3 := Tryd.sizeOf3
  v3 := Tryd.zeroValue3
  t4 := Tryd.underlying4
  a4 := Tryd.isAgg4
  z4 := Tryd.sizeOf4
  v4 := Tryd.zeroValue4
  t5 := Tryd.underlying5
  a5 := Tryd.isAgg5
  z5 := Tryd.sizeOf5
  v5 := Tryd.zeroValue5
  t9 := Tryd.underlying9
  a9 := Tryd.isAgg9
  z9 := Tryd.sizeOf9
  v9 := Tryd.zeroValue9
  t46 := Tryd.underlying90
  a46 := Tryd.isAgg90
  z46 := Tryd.sizeOf90
  v46 := Tryd.zeroValue90
  t51 := Tryd.underlying106
  a51 := Tryd.isAgg106
  z51 := Tryd.sizeOf106
  v51 := Tryd.zeroValue106
  t59 := Tryd.underlying45
  a59 := Tryd.isAgg45
  z59 := Tryd.sizeOf45
  v59 := Tryd.zeroValue45
  t146 := Tryd.underlying107
  a146 := Tryd.isAgg107
  z146 := Tryd.sizeOf107
  v146 := Tryd.zeroValue107
  g1 := by kernel_rfl }
def Tryd.lays146_ren : Go.Shelf.Ren := ⟨fun | 146 => 35 | 221 => 55 | 268 => 67 | 138 => 68 | 143 => 69 | 195 => 81 | 197 => 82 | 218 => 83 | 219 => 62 | 260 => 93 | 217 => 72 | 225 => 73 | 224 => 74 | 267 => 75 | 266 => 88 | 314 => 89 | n => n, fun | 9 => 9 | 31 => 40 | 3 => 3 | 4 => 4 | 0 => 0 | 105 => 98 | 21 => 21 | 5 => 5 | 46 => 90 | 119 => 124 | 139 => 127 | 138 => 126 | 146 => 107 | 51 => 106 | n => n, fun | 1 => 0 | 3 => 4 | 4 => 5 | n => n⟩
theorem Tryd.lays146 : Go.Proofs.Lays.n146 Tryd.prog Tryd.lays146_ren := {
  mixed := by kernel_rfl
  f138 := Tryd.func68.trans (congrArg some (by kernel_rfl))
  f143 := Tryd.func69.trans (congrArg some (by kernel_rfl))
  f146 := Tryd.func35.trans (congrArg some (by kernel_rfl))
  f195 := Tryd.func81.trans (congrArg some (by kernel_rfl))
  f197 := Tryd.func82.trans (congrArg some (by kernel_rfl))
  f217 := Tryd.func72.trans (congrArg some (by kernel_rfl))
  f218 := Tryd.func83.trans (congrArg some (by kernel_rfl))
  f219 := Tryd.func62.trans (congrArg some (by kernel_rfl))
  f221 := Tryd.func55.trans (congrArg some (by kernel_rfl))
  f224 := Tryd.func74.trans (congrArg some (by kernel_rfl))
  f225 := Tryd.func73.trans (congrArg some (by kernel_rfl))
  f260 := Tryd.func93.trans (congrArg some (by kernel_rfl))
  f266 := Tryd.func88.trans (congrArg some (by kernel_rfl))
  f267 := Tryd.func75.trans (congrArg some (by kernel_rfl))
  f268 := Tryd.func67.trans (congrArg some (by kernel_rfl))
  f314 := Tryd.func89.trans (congrArg some (by kernel_rfl))
  t0 := Tryd.underlying0
  a0 := Tryd.isAgg0
  z0 := Tryd.sizeOf0
  v0 := Tryd.zeroValue0
  t3 := Tryd.underlying3
  a3 := Tryd.isAgg3
  z3 := Tryd.sizeOf3
  v3 := Tryd.zeroValue3
  t4 := Tryd.underlying4
  a4 := Tryd.isAgg4
  z4 := Tryd.sizeOf4
  v4 := Tryd.zeroValue4
  t5 := Tryd.underlying5
  a5 := Tryd.isAgg5
  z5 := Tryd.sizeOf5
  v5 := Tryd.zeroValue5
  t9 := Tryd.underlying9
  a9 := Tryd.isAgg9
  z9 := Tryd.sizeOf9
  v9 := Tryd.zeroValue9
  t21 := Tryd.underlying21
  a21 := Tryd.isAgg21
  z21 := Tryd.sizeOf21
  v21 := Tryd.zeroValue21
  t31 := Tryd.underlying40
  a31 := Tryd.isAgg40
  z31 := Tryd.sizeOf40
  v31 := Tryd.zeroValue40
  t46 := Tryd.underlying90
  a46 := Tryd.isAgg90
  z46 := Tryd.sizeOf90
  v46 := Tryd.zeroValue90
  t51 := Tryd.underlying106
  a51 := Tryd.isAgg106
  z51 := Tryd.sizeOf106
  v51 := Tryd.zeroValue106
  t105 := Tryd.underlying98
  a105 := Tryd.isAgg98
  z105 := Tryd.sizeOf98
  v105 := Tryd.zeroValue98
  t119 := Tryd.underlying124
  a119 := Tryd.isAgg124
  z119 := Tryd.sizeOf124
  t138 := Tryd.underlying126
  a138 := Tryd.isAgg126
  z138 := Tryd.sizeOf126
  v138 := Tryd.zeroValue126
  t139 := Tryd.underlying127
  a139 := Tryd.isAgg127
  z139 := Tryd.sizeOf127
  v139 := Tryd.zeroValue127
  t146 := Tryd.underlying107
  a146 := Tryd.isAgg107
  z146 := Tryd.sizeOf107
  v146 := Tryd.zeroValue107
  g1 := by kernel_rfl
  g3 := by kernel_rfl
  g4 := by kernel_rfl }
end Go.Proofs
namespace Go.Vm
open Go.RowKit Go.Proofs Go.Shelf
/-- the laid tables and variables stand as they were -/
class GlTab [Gl] : Prop where
  tab : ∀ w : World, (∀ b, b < Gl.G → w.heap[b]? = Gl.g b) → Lib.TabIs Tryd.prog w "internal/strconv.uint64pow10" .u64 Lib.pow10Tab
  ml : ∀ w : World, (∀ b, b < Gl.G → w.heap[b]? = Gl.g b) → ∃ m, w.cell? ⟨0, 0, none⟩ = some (.int .i64 m)
  es : ∀ w : World, (∀ b, b < Gl.G → w.heap[b]? = Gl.g b) → ∃ ev, w.cell? ⟨1, 0, none⟩ = some ev ∧ (ev = .nilIface ∨ ∃ te pe, ev = .iface te pe)
  er : ∀ w : World, (∀ b, b < Gl.G → w.heap[b]? = Gl.g b) → ∃ ev, w.cell? ⟨2, 0, none⟩ = some ev ∧ (ev = .nilIface ∨ ∃ te pe, ev = .iface te pe)
theorem below_bytes (w : World) (e : TypeId) (s : ByteArray) : Below w.heap.size w (Lib.bytesWorld w e s) := by
  refine ⟨rfl, rfl, rfl, ?_, fun j hj => Lib.bytesWorld_at_old w e s j hj⟩
  simp [Lib.bytesWorld, World.freeze, World.alloc, World.drew, -World.alloc_eq, -World.drew_eq]
theorem sound_Itoa [Gl] [GlTab] {enc : Int → List X} (henc : ∀ a, enc a = [.d (.int .i64 a)]) {C : Int → Option XOut}
    (hC : ∀ a out, C a = some out → (-9223372036854775808 ≤ a ∧ a ≤ 9223372036854775807) ∧ out = .ret (.d (sD (Lib.itoa a))) []) : Sound Tryd.prog 39 (lay enc C) := by
  have h := sound_shelf (P := Tryd.prog) (f := 39) (enc := enc) (C := fun a => if -9223372036854775808 ≤ a ∧ a ≤ 9223372036854775807 then some (.d (sD (Lib.itoa a))) else none)
    (fun a x hx => by rw [henc] at hx; simp only [List.mem_singleton] at hx; exact ⟨_, hx⟩) (callFunc_run Tryd.func39 (by kernel_rfl) (by kernel_rfl)) (by
    intro a x S w args hx hb hG
    split at hx
    case isFalse => cases hx
    rename_i ha
    injection hx with hx
    subst hx
    obtain ⟨bs, hb⟩ := hb
    rw [henc] at hb
    obtain ⟨v, us, _, _, e1, _, ⟨_, hv⟩, e2, _⟩ := hb
    simp only [RD] at hv
    subst hv; subst e2
    obtain rfl : args = #[.int .i64 a] := by cases args; simp_all
    refine (Any.strconv_Itoa Go.Proofs.Tryd.laysM171 a ha.1 ha.2 w (GlTab.tab w hG)).mono ?_
    rintro e w' ⟨he, k, os, rfl⟩
    exact made_str he (Lib.below_grow _ _ (Nat.le_refl _) _ _))
  intro S w args xs bs hx hb out ho
  refine h S w args xs bs hx hb out ?_
  obtain ⟨a, rfl, ho2⟩ := lay_some ho
  obtain ⟨ha, rfl⟩ := hC _ _ ho2
  have inj : ∀ x y, enc x = enc y → x = y := by
    intro x y e
    rw [henc, henc] at e
    simpa using e
  rw [lay_eq inj a, if_pos ha]; rfl
/-- a number out of a text, or an error -/
def atoiR (l : List UInt8) : Alt Int Int := match Lib.atoiAll l with
  | .ok v => .a v
  | .range => .b (Lib.atoiSat l)
  | _ => .b 0
theorem sound_Atoi [Gl] [GlTab] {enc : List UInt8 → List X} (henc : ∀ a, enc a = [.d (sD a)]) {C : List UInt8 → Option XOut}
    (hC : ∀ a out, C a = some out → a.length ≤ 281474976710656 ∧ (atoiR a).on (fun r => some (XOut.ret (.tup [.d (.int .i64 r), .d .nili]) [])) (fun r => some (.ret (.tup [.d (.int .i64 r), .d (.iface 94 .opq)]) [])) = some out) : Sound Tryd.prog 48 (lay enc C) := by
  have h := sound_shelf (P := Tryd.prog) (f := 48) (enc := enc) (C := fun a => if a.length ≤ 281474976710656 then (atoiR a).on (fun r => some (.tup [.d (.int .i64 r), .d .nili])) (fun r => some (.tup [.d (.int .i64 r), .d (.iface 94 .opq)])) else none)
    (fun a x hx => by rw [henc] at hx; simp only [List.mem_singleton] at hx; exact ⟨_, hx⟩) (callFunc_run Tryd.func48 (by kernel_rfl) (by kernel_rfl)) (by
    intro l x S w args hx hb hG
    split at hx
    case isFalse => cases hx
    rename_i ha
    obtain ⟨bs, hb⟩ := hb
    rw [henc] at hb
    obtain ⟨v, us, _, _, e1, _, ⟨_, hv⟩, e2, _⟩ := hb
    simp only [sD, RD] at hv
    subst hv; subst e2
    obtain rfl : args = #[.string ⟨l.toArray⟩] := by cases args; simp_all
    have hbw : ∀ w' : World, (w' = w ∨ ∃ q t, w' = Lib.bytesWorld w q t) → Below w.heap.size w w' := by
      rintro w' (rfl | ⟨q, t, rfl⟩)
      · exact Below.refl _ _
      · exact below_bytes w q t
    have hpar : ∀ (v : Value) (y : D) (r : Int), ParOK [] (.tup [.d (.int .i64 r), .d y]) v := by
      intro v y r
      simp only [ParOK]
      intro vs hv
      cases hvs : vs.toList with
      | nil => simp only [ParOKs]
      | cons a r =>
        cases r with
        | nil => simp only [ParOKs, ParOK, and_self]
        | cons b r => cases r <;> simp only [ParOKs, ParOK, and_self]
    have e0 : (⟨l.toArray⟩ : ByteArray).data.toList = l := rfl
    have e1 : (⟨l.toArray⟩ : ByteArray).size = l.length := rfl
    cases hr : Lib.atoiAll l
    · rename_i v
      simp only [atoiR, hr, Alt.on, Option.some.injEq] at hx
      subst hx
      refine (Any.strconv_Atoi_ok Go.Proofs.Tryd.laysC172 ⟨l.toArray⟩ (by rw [e1]; omega) v (by rw [e0]; exact hr) w).mono ?_
      rintro e w' ⟨he, hw⟩
      refine ⟨⟨_, [], S, he, ⟨_, rfl, _, _, [], [], rfl, rfl, ⟨rfl, by simp only [RD]⟩, _, _, [], [], rfl, rfl, ⟨rfl, by simp only [RD]⟩, rfl, rfl⟩, List.nodup_nil, fun b hb => (by cases hb), fun _ _ => rfl, hpar _ _ _⟩, hbw w' ?_⟩
      rcases hw with hw | ⟨t, hw⟩
      · exact .inl hw
      · exact .inr ⟨_, t, hw⟩
    · simp only [atoiR, hr, Alt.on, Option.some.injEq] at hx
      subst hx
      obtain ⟨ev, h1, h2⟩ := GlTab.es w hG
      refine (Any.strconv_Atoi_syntax Go.Proofs.Tryd.laysC172 ⟨l.toArray⟩ (by rw [e1]; omega) (by rw [e0]; exact hr) ev w h1 h2).mono ?_
      rintro e w' ⟨N, he, _, _, hB⟩
      exact ⟨⟨_, [], S, he, ⟨_, rfl, _, _, [], [], rfl, rfl, ⟨rfl, by simp only [RD]⟩, _, _, [], [], rfl, rfl, ⟨rfl, by simp only [RD]; exact ⟨_, rfl, rfl⟩⟩, rfl, rfl⟩, List.nodup_nil, fun b hb => (by cases hb), fun _ _ => rfl, hpar _ _ _⟩, hB⟩
    · simp only [atoiR, hr, Alt.on, Option.some.injEq] at hx
      subst hx
      obtain ⟨ev, h1, h2⟩ := GlTab.er w hG
      refine (Any.strconv_Atoi_range Go.Proofs.Tryd.laysC172 ⟨l.toArray⟩ (by rw [e1]; omega) (by rw [e0]; exact hr) ev w h1 h2).mono ?_
      rintro e w' ⟨N, he, _, _, hB⟩
      exact ⟨⟨_, [], S, he, ⟨_, rfl, _, _, [], [], rfl, rfl, ⟨rfl, by simp only [RD]⟩, _, _, [], [], rfl, rfl, ⟨rfl, by simp only [RD]; exact ⟨_, rfl, rfl⟩⟩, rfl, rfl⟩, List.nodup_nil, fun b hb => (by cases hb), fun _ _ => rfl, hpar _ _ _⟩, hB⟩)
  intro S w args xs bs hx hb out ho
  refine h S w args xs bs hx hb out ?_
  obtain ⟨a, rfl, ho2⟩ := lay_some ho
  obtain ⟨ha, ho3⟩ := hC _ _ ho2
  have inj : ∀ x y, enc x = enc y → x = y := by
    intro x y e
    rw [henc, henc] at e
    simp only [List.cons.injEq, X.d.injEq, sD_inj, and_true] at e
    exact e
  rw [lay_eq inj a, if_pos ha, ← ho3]
  cases atoiR a <;> rfl
/-- a text cut at the first separator -/
theorem sound_Cut [Gl] [GlTab] {enc : List UInt8 × List UInt8 → List X} (henc : ∀ a, enc a = [.d (sD a.1), .d (sD a.2)]) {C : List UInt8 × List UInt8 → Option XOut}
    (hC : ∀ a out, C a = some out → a.1.length < 4294967281 ∧ out = .ret (.tup [.d (sD (Lib.cut a.1 a.2).1), .d (sD (Lib.cut a.1 a.2).2.1), .d (.bool (Lib.cut a.1 a.2).2.2)]) []) : Sound Tryd.prog 24 (lay enc C) := by
  have h := sound_shelf (P := Tryd.prog) (f := 24) (enc := enc) (C := fun a => if a.1.length < 4294967281 then some (.tup [.d (sD (Lib.cut a.1 a.2).1), .d (sD (Lib.cut a.1 a.2).2.1), .d (.bool (Lib.cut a.1 a.2).2.2)]) else none)
    (fun a x hx => by rw [henc] at hx; simp only [List.mem_cons, List.not_mem_nil, or_false] at hx; rcases hx with hx | hx <;> exact ⟨_, hx⟩) (callFunc_run Tryd.func24 (by kernel_rfl) (by kernel_rfl)) (by
    intro a x S w args hx hb hG
    split at hx
    case isFalse => cases hx
    rename_i ha
    injection hx with hx
    subst hx
    obtain ⟨l, sep⟩ := a
    obtain ⟨bs, hb⟩ := hb
    rw [henc] at hb
    obtain ⟨v, us, _, _, e1, _, ⟨_, hv⟩, v2, us2, _, _, e2, _, ⟨_, hv2⟩, e3, _⟩ := hb
    simp only [sD, RD] at hv hv2
    subst hv; subst hv2; subst e3; subst e2
    obtain rfl : args = #[.string ⟨l.toArray⟩, .string ⟨sep.toArray⟩] := by cases args; simp_all
    obtain ⟨m, hm⟩ := GlTab.ml w hG
    refine (Any.strings_Cut Go.Proofs.Tryd.lays145 ⟨l.toArray⟩ ⟨sep.toArray⟩ m w (by simpa [ByteArray.size] using ha) hm).mono ?_
    rintro e w' ⟨he, n, rfl⟩
    refine ⟨⟨_, [], S, he, ⟨_, rfl, _, _, [], [], rfl, rfl, ⟨rfl, by simp only [sD, RD]⟩, _, _, [], [], rfl, rfl, ⟨rfl, by simp only [sD, RD]⟩, _, _, [], [], rfl, rfl, ⟨rfl, by simp only [RD]⟩, rfl, rfl⟩, List.nodup_nil, fun b hb => (by cases hb), fun _ _ => rfl, ?_⟩, ⟨rfl, rfl, rfl, Nat.le_refl _, fun _ _ => rfl⟩⟩
    simp only [ParOK]
    intro vs hv
    injection hv with hv
    subst hv
    simp only [ParOKs, ParOK, and_self])
  intro S w args xs bs hx hb out ho
  refine h S w args xs bs hx hb out ?_
  obtain ⟨a, rfl, ho2⟩ := lay_some ho
  obtain ⟨ha, rfl⟩ := hC _ _ ho2
  have inj : ∀ x y, enc x = enc y → x = y := by
    intro x y e
    rw [henc, henc] at e
    simp only [List.cons.injEq, X.d.injEq, sD_inj, and_true] at e
    exact Prod.ext e.1 e.2
  rw [lay_eq inj a, if_pos ha]; rfl
theorem strs_new {S : Nat → Nat} {w : World} {b : Nat} : ∀ {l : List (List UInt8)} {o : Nat}, o + l.length ≤ S b → (∀ (j : Nat) (x : List UInt8), l[j]? = some x → w.cell? ⟨b, o + j, none⟩ = some (.string ⟨x.toArray⟩)) → RDat S w (cellsT cS l) b o
  | [], o, hs, h => by simp only [cellsT, List.flatMap_nil, RDat]
  | y :: l, o, hs, h => by
    have e : cellsT cS (y :: l) = sD y :: cellsT cS l := rfl
    rw [e]
    simp only [RDat]
    rw [List.length_cons] at hs
    refine ⟨by omega, ⟨_, h 0 y rfl, by simp only [sD, RD]⟩, strs_new (by omega) fun j x hj => ?_⟩
    rw [show o + 1 + j = o + (j + 1) by omega]
    exact h (j + 1) x hj
/-- a text split at a separator -/
theorem sound_Split [Gl] [GlTab] {enc : List UInt8 × List UInt8 → List X} (henc : ∀ a, enc a = [.d (sD a.1), .d (sD a.2)]) {C : List UInt8 × List UInt8 → Option XOut}
    (hC : ∀ a out, C a = some out → (a.1.length < 4294967281 ∧ 1 ≤ a.2.length) ∧ out = .ret (.d (lstT cS (Lib.split a.1 a.2))) []) : Sound Tryd.prog 35 (lay enc C) := by
  have h := sound_shelf (P := Tryd.prog) (f := 35) (enc := enc) (C := fun a => if a.1.length < 4294967281 ∧ 1 ≤ a.2.length then some (.d (lstT cS (Lib.split a.1 a.2))) else none)
    (fun a x hx => by rw [henc] at hx; simp only [List.mem_cons, List.not_mem_nil, or_false] at hx; rcases hx with hx | hx <;> exact ⟨_, hx⟩) (callFunc_run Tryd.func35 (by kernel_rfl) (by kernel_rfl)) (by
    intro a x S w args hx hb hG
    split at hx
    case isFalse => cases hx
    rename_i ha
    injection hx with hx
    subst hx
    obtain ⟨l, sep⟩ := a
    obtain ⟨bs, hb⟩ := hb
    rw [henc] at hb
    obtain ⟨v, us, _, _, e1, _, ⟨_, hv⟩, v2, us2, _, _, e2, _, ⟨_, hv2⟩, e3, _⟩ := hb
    simp only [sD, RD] at hv hv2
    subst hv; subst hv2; subst e3; subst e2
    obtain rfl : args = #[.string ⟨l.toArray⟩, .string ⟨sep.toArray⟩] := by cases args; simp_all
    obtain ⟨m, hm⟩ := GlTab.ml w hG
    have h1 : 1 ≤ (⟨sep.toArray⟩ : ByteArray).size := by simpa [ByteArray.size] using ha.2
    refine (Any.strings_Split Go.Proofs.Tryd.lays146 (by kernel_rfl) ⟨l.toArray⟩ ⟨sep.toArray⟩ m w (by simpa [ByteArray.size] using ha.1) hm h1).mono ?_
    rintro e w' ⟨he, rfl⟩
    have el : (Lib.splitB ⟨sep.toArray⟩ 0 (Lib.countB ⟨l.toArray⟩ ⟨sep.toArray⟩) ⟨l.toArray⟩).map (·.data.toList) = Lib.split l sep := (Lib.splitB_data ⟨sep.toArray⟩ 0 _ ⟨l.toArray⟩).trans rfl
    have en := Lib.splitB_all ⟨sep.toArray⟩ h1 0 _ ⟨l.toArray⟩ rfl
    have en' : (Lib.split l sep).length = Lib.countB ⟨l.toArray⟩ ⟨sep.toArray⟩ + 1 := by rw [← el, List.length_map, en]
    have hcell : ∀ (j : Nat) (x : List UInt8), (Lib.split l sep)[j]? = some x →
        (w.alloc (.cells ((Lib.splitB ⟨sep.toArray⟩ 0 (Lib.countB ⟨l.toArray⟩ ⟨sep.toArray⟩) ⟨l.toArray⟩).map Value.string).toArray 9)).cell? ⟨w.heap.size, j, none⟩ = some (.string ⟨x.toArray⟩) := by
      intro j x hj
      rw [← el, List.getElem?_map] at hj
      obtain ⟨y, hy, rfl⟩ := Option.map_eq_some_iff.1 hj
      have hh : (w.alloc (.cells ((Lib.splitB ⟨sep.toArray⟩ 0 (Lib.countB ⟨l.toArray⟩ ⟨sep.toArray⟩) ⟨l.toArray⟩).map Value.string).toArray 9)).heap[w.heap.size]? = some (.cells ((Lib.splitB ⟨sep.toArray⟩ 0 (Lib.countB ⟨l.toArray⟩ ⟨sep.toArray⟩) ⟨l.toArray⟩).map Value.string).toArray 9 (0, 0)) := by
        show (w.heap.push _)[w.heap.size]? = _
        simp
      simp only [World.cell?, hh]
      simp [hy]
    refine ⟨⟨_, [], fun b => if b = w.heap.size then (Lib.split l sep).length else S b, he, ⟨rfl, ?_⟩, List.nodup_nil, fun b hb => (by cases hb), fun b hb => if_neg (by omega), ?_⟩, (Below.refl _ w).alloc (Nat.le_refl _) _⟩
    · simp only [lstT, RD]
      refine ⟨some ⟨w.heap.size, 0, none⟩, Lib.countB ⟨l.toArray⟩ ⟨sep.toArray⟩ + 1, by rw [en'], Nat.le_of_eq en', (fun h => nomatch h), fun p hp => ?_⟩
      injection hp with hp
      subst hp
      refine ⟨.inl rfl, strs_new (by simp) fun j x hj => ?_⟩
      rw [Nat.zero_add]
      exact hcell j x hj
    · simp only [ParOK])
  intro S w args xs bs hx hb out ho
  refine h S w args xs bs hx hb out ?_
  obtain ⟨a, rfl, ho2⟩ := lay_some ho
  obtain ⟨ha, rfl⟩ := hC _ _ ho2
  have inj : ∀ x y, enc x = enc y → x = y := by
    intro x y e
    rw [henc, henc] at e
    simp only [List.cons.injEq, X.d.injEq, sD_inj, and_true] at e
    exact Prod.ext e.1 e.2
  rw [lay_eq inj a, if_pos ha]; rfl
end Go.Vm
