/- The library's functions strconv.Itoa, strconv.Atoi, strings.Split, strings.Join over this program, as contracts of the abstract machine. The layings were printed by the kit's lay-shelf.mjs and lay-plain.mjs. -/
import Derived.Test.YtafjdofgafppgaaDoorVmBldA
import Derived.Test.YtafjdofgafppgaaDoorVmLayer
import Derived.Test.YtafjdofgafppgaaDoorVmKind
import Derived.Test.YtafjdofgafppgaaDoorProg
import Derived.Shelf.Strconv.Itoa3
import Derived.Shelf.Strconv.AtoiAll
import Derived.Shelf.Strings.Split
import Derived.Shelf.Strings.OnBuilder
import Derived.KernelRfl
import Derived.Lib.AppendIntMem
set_option linter.all false
set_option maxRecDepth 100000
namespace Go.Proofs
open Go.Shelf
def Tryd.lays156_ren : Go.Shelf.Ren := ⟨fun | 156 => 45 | 165 => 55 | 166 => 44 | 169 => 33 | 240 => 54 | 241 => 70 | 276 => 69 | 277 => 84 | n => n, fun | 31 => 38 | 9 => 9 | 3 => 3 | 4 => 4 | 0 => 0 | 20 => 20 | 72 => 56 | 76 => 68 | 70 => 54 | 37 => 22 | 75 => 67 | 127 => 76 | 164 => 98 | 5 => 5 | 80 => 61 | n => n, fun | n => n⟩
theorem Tryd.lays156 : Go.Proofs.Lays.n156 Tryd.prog Tryd.lays156_ren := {
  mixed := by kernel_rfl
  f156 := Tryd.func45.trans (congrArg some (by kernel_rfl))
  f165 := Tryd.func55.trans (congrArg some (by kernel_rfl))
  f166 := Tryd.func44.trans (congrArg some (by kernel_rfl))
  f169 := Tryd.func33.trans (congrArg some (by kernel_rfl))
  f240 := Tryd.func54.trans (congrArg some (by kernel_rfl))
  f241 := Tryd.func70.trans (congrArg some (by kernel_rfl))
  f276 := Tryd.func69.trans (congrArg some (by kernel_rfl))
  f277 := Tryd.func84.trans (congrArg some (by kernel_rfl))
  t0 := Tryd.underlying0
  a0 := Tryd.isAgg0
  z0 := Tryd.sizeOf0
  v0 := Tryd.zeroValue0
  t3 := Tryd.underlying3
  a3 := Tryd.isAgg3
  z3 := Tryd.sizeOf3
  v3 := Tryd.zeroValue3
  t4 := Tryd.underlying4
  a4 := Tryd.isAgg4
  z4 := Tryd.sizeOf4
  v4 := Tryd.zeroValue4
  t9 := Tryd.underlying9
  a9 := Tryd.isAgg9
  z9 := Tryd.sizeOf9
  v9 := Tryd.zeroValue9
  t20 := Tryd.underlying20
  a20 := Tryd.isAgg20
  z20 := Tryd.sizeOf20
  v20 := Tryd.zeroValue20
  t31 := Tryd.underlying38
  a31 := Tryd.isAgg38
  z31 := Tryd.sizeOf38
  v31 := Tryd.zeroValue38
  t37 := Tryd.underlying22
  a37 := Tryd.isAgg22
  z37 := Tryd.sizeOf22
  v37 := Tryd.zeroValue22
  t70 := Tryd.underlying54
  a70 := Tryd.isAgg54
  z70 := Tryd.sizeOf54
  v70 := Tryd.zeroValue54
  t72 := Tryd.underlying56
  a72 := Tryd.isAgg56
  z72 := Tryd.sizeOf56
  v72 := Tryd.zeroValue56
  t75 := Tryd.underlying67
  a75 := Tryd.isAgg67
  z75 := Tryd.sizeOf67
  v75 := Tryd.zeroValue67
  t76 := Tryd.underlying68
  a76 := Tryd.isAgg68
  z76 := Tryd.sizeOf68
  v76 := Tryd.zeroValue68
  t127 := Tryd.underlying76
  a127 := Tryd.isAgg76
  z127 := Tryd.sizeOf76
  v127 := Tryd.zeroValue76
  t164 := Tryd.underlying98
  a164 := Tryd.isAgg98
  z164 := Tryd.sizeOf98
  v164 := Tryd.zeroValue98 }
def Tryd.laysM171_ren : Go.Shelf.Ren := ⟨fun | 171 => 25 | 243 => 40 | 246 => 51 | 283 => 60 | 284 => 61 | 285 => 62 | 286 => 63 | 129 => 77 | 317 => 76 | 318 => 78 | 319 => 79 | 320 => 80 | 337 => 87 | 338 => 88 | n => n, fun | 3 => 3 | 9 => 9 | 2 => 2 | 4 => 4 | 171 => 86 | 0 => 0 | 53 => 87 | 37 => 22 | 5 => 5 | 173 => 90 | 212 => 102 | 51 => 103 | 20 => 20 | 213 => 104 | 46 => 101 | 232 => 125 | 233 => 126 | n => n, fun | 17 => 1 | 18 => 6 | 19 => 7 | n => n⟩
theorem Tryd.laysM171 : Go.Proofs.LaysM.n171 Tryd.prog Tryd.laysM171_ren := {
  mixed := by kernel_rfl
  f129 := Tryd.func77.trans (congrArg some (by kernel_rfl))
  f171 := Tryd.func25.trans (congrArg some (by kernel_rfl))
  f243 := Tryd.func40.trans (congrArg some (by kernel_rfl))
  f246 := Tryd.func51.trans (congrArg some (by kernel_rfl))
  f283 := Tryd.func60.trans (congrArg some (by kernel_rfl))
  f284 := Tryd.func61.trans (congrArg some (by kernel_rfl))
  f285 := Tryd.func62.trans (congrArg some (by kernel_rfl))
  f286 := Tryd.func63.trans (congrArg some (by kernel_rfl))
  f317 := Tryd.func76.trans (congrArg some (by kernel_rfl))
  f318 := Tryd.func78.trans (congrArg some (by kernel_rfl))
  f319 := Tryd.func79.trans (congrArg some (by kernel_rfl))
  f320 := Tryd.func80.trans (congrArg some (by kernel_rfl))
  f337 := Tryd.func87.trans (congrArg some (by kernel_rfl))
  f338 := Tryd.func88.trans (congrArg some (by kernel_rfl))
  t0 := Tryd.underlying0
  a0 := Tryd.isAgg0
  z0 := Tryd.sizeOf0
  v0 := Tryd.zeroValue0
  t2 := Tryd.underlying2
  a2 := Tryd.isAgg2
  z2 := Tryd.sizeOf2
  v2 := Tryd.zeroValue2
  t3 := Tryd.underlying3
  a3 := Tryd.isAgg3
  z3 := Tryd.sizeOf3
  v3 := Tryd.zeroValue3
  t4 := Tryd.underlying4
  a4 := Tryd.isAgg4
  z4 := Tryd.sizeOf4
  v4 := Tryd.zeroValue4
  t5 := Tryd.underlying5
  a5 := Tryd.isAgg5
  z5 := Tryd.sizeOf5
  v5 := Tryd.zeroValue5
  t9 := Tryd.underlying9
  a9 := Tryd.isAgg9
  z9 := Tryd.sizeOf9
  v9 := Tryd.zeroValue9
  t20 := Tryd.underlying20
  a20 := Tryd.isAgg20
  z20 := Tryd.sizeOf20
  v20 := Tryd.zeroValue20
  t37 := Tryd.underlying22
  a37 := Tryd.isAgg22
  z37 := Tryd.sizeOf22
  v37 := Tryd.zeroValue22
  t46 := Tryd.underlying101
  a46 := Tryd.isAgg101
  z46 := Tryd.sizeOf101
  v46 := Tryd.zeroValue101
  t51 := Tryd.underlying103
  a51 := Tryd.isAgg103
  z51 := Tryd.sizeOf103
  v51 := Tryd.zeroValue103
  t53 := Tryd.underlying87
  a53 := Tryd.isAgg87
  z53 := Tryd.sizeOf87
  v53 := Tryd.zeroValue87
  t171 := Tryd.underlying86
  a171 := Tryd.isAgg86
  z171 := Tryd.sizeOf86
  v171 := Tryd.zeroValue86
  t173 := Tryd.underlying90
  a173 := Tryd.isAgg90
  z173 := Tryd.sizeOf90
  v173 := Tryd.zeroValue90
  t212 := Tryd.underlying102
  a212 := Tryd.isAgg102
  z212 := Tryd.sizeOf102
  v212 := Tryd.zeroValue102
  t213 := Tryd.underlying104
  a213 := Tryd.isAgg104
  z213 := Tryd.sizeOf104
  t232 := Tryd.underlying125
  a232 := Tryd.isAgg125
  z232 := Tryd.sizeOf125
  v232 := Tryd.zeroValue125
  t233 := Tryd.underlying126
  a233 := Tryd.isAgg126
  z233 := Tryd.sizeOf126
  v233 := Tryd.zeroValue126
  g17 := by kernel_rfl
  g18 := by kernel_rfl
  g19 := by kernel_rfl
  i0 := by kernel_rfl
  i2 := by kernel_rfl
  i3 := by kernel_rfl
  i4 := by kernel_rfl
  i5 := by kernel_rfl
  i9 := by kernel_rfl
  i20 := by kernel_rfl
  i37 := by kernel_rfl
  i46 := by kernel_rfl
  i51 := by kernel_rfl
  i53 := by kernel_rfl
  i171 := by kernel_rfl
  i173 := by kernel_rfl
  i212 := by kernel_rfl
  i232 := by kernel_rfl
  i233 := by kernel_rfl
  m17 := by kernel_rfl
  m18 := by kernel_rfl
  m19 := by kernel_rfl }
def Tryd.laysC172_ren : Go.Shelf.Ren := ⟨fun | 172 => 41 | 244 => 52 | 245 => 53 | 247 => 64 | 279 => 65 | 280 => 66 | 281 => 67 | 282 => 68 | 287 => 81 | 316 => 82 | 171 => 25 | 205 => 83 | 321 => 89 | 322 => 90 | 243 => 40 | 246 => 51 | 283 => 60 | 284 => 61 | 285 => 62 | 286 => 63 | 129 => 77 | 317 => 76 | 318 => 78 | 319 => 79 | 320 => 80 | 337 => 87 | 338 => 88 | n => n, fun | 9 => 9 | 3 => 3 | 75 => 67 | 76 => 68 | 4 => 4 | 5 => 5 | 167 => 92 | 37 => 22 | 0 => 0 | 85 => 93 | 2 => 2 | 168 => 95 | 53 => 87 | 175 => 107 | 46 => 101 | 210 => 111 | 127 => 76 | 145 => 124 | 143 => 122 | 21 => 21 | 171 => 86 | 173 => 90 | 212 => 102 | 51 => 103 | 20 => 20 | 213 => 104 | 232 => 125 | 233 => 126 | 80 => 61 | n => n, fun | 15 => 2 | 16 => 3 | 17 => 1 | 18 => 6 | 19 => 7 | n => n⟩
theorem Tryd.laysC172 : Go.Proofs.LaysC.n172 Tryd.prog Tryd.laysC172_ren := {
  mixed := by kernel_rfl
  f129 := Tryd.func77.trans (congrArg some (by kernel_rfl))
  f171 := Tryd.func25.trans (congrArg some (by kernel_rfl))
  f172 := Tryd.func41.trans (congrArg some (by kernel_rfl))
  f205 := Tryd.func83.trans (congrArg some (by kernel_rfl))
  f243 := Tryd.func40.trans (congrArg some (by kernel_rfl))
  f244 := Tryd.func52.trans (congrArg some (by kernel_rfl))
  f245 := Tryd.func53.trans (congrArg some (by kernel_rfl))
  f246 := Tryd.func51.trans (congrArg some (by kernel_rfl))
  f247 := Tryd.func64.trans (congrArg some (by kernel_rfl))
  f279 := Tryd.func65.trans (congrArg some (by kernel_rfl))
  f280 := Tryd.func66.trans (congrArg some (by kernel_rfl))
  f281 := Tryd.func67.trans (congrArg some (by kernel_rfl))
  f282 := Tryd.func68.trans (congrArg some (by kernel_rfl))
  f283 := Tryd.func60.trans (congrArg some (by kernel_rfl))
  f284 := Tryd.func61.trans (congrArg some (by kernel_rfl))
  f285 := Tryd.func62.trans (congrArg some (by kernel_rfl))
  f286 := Tryd.func63.trans (congrArg some (by kernel_rfl))
  f287 := Tryd.func81.trans (congrArg some (by kernel_rfl))
  f316 := Tryd.func82.trans (congrArg some (by kernel_rfl))
  f317 := Tryd.func76.trans (congrArg some (by kernel_rfl))
  f318 := Tryd.func78.trans (congrArg some (by kernel_rfl))
  f319 := Tryd.func79.trans (congrArg some (by kernel_rfl))
  f320 := Tryd.func80.trans (congrArg some (by kernel_rfl))
  f321 := Tryd.func89.trans (congrArg some (by kernel_rfl))
  f322 := Tryd.func90.trans (congrArg some (by kernel_rfl))
  f337 := Tryd.func87.trans (congrArg some (by kernel_rfl))
  f338 := Tryd.func88.trans (congrArg some (by kernel_rfl))
  t0 := Tryd.underlying0
  a0 := Tryd.isAgg0
  z0 := Tryd.sizeOf0
  v0 := Tryd.zeroValue0
  t2 := Tryd.underlying2
  a2 := Tryd.isAgg2
  z2 := Tryd.sizeOf2
  v2 := Tryd.zeroValue2
  t3 := Tryd.underlying3
  a3 := Tryd.isAgg3
  z3 := Tryd.sizeOf3
  v3 := Tryd.zeroValue3
  t4 := Tryd.underlying4
  a4 := Tryd.isAgg4
  z4 := Tryd.sizeOf4
  v4 := Tryd.zeroValue4
  t5 := Tryd.underlying5
  a5 := Tryd.isAgg5
  z5 := Tryd.sizeOf5
  v5 := Tryd.zeroValue5
  t9 := Tryd.underlying9
  a9 := Tryd.isAgg9
  z9 := Tryd.sizeOf9
  v9 := Tryd.zeroValue9
  t20 := Tryd.underlying20
  a20 := Tryd.isAgg20
  z20 := Tryd.sizeOf20
  v20 := Tryd.zeroValue20
  t21 := Tryd.underlying21
  a21 := Tryd.isAgg21
  z21 := Tryd.sizeOf21
  v21 := Tryd.zeroValue21
  t37 := Tryd.underlying22
  a37 := Tryd.isAgg22
  z37 := Tryd.sizeOf22
  v37 := Tryd.zeroValue22
  t46 := Tryd.underlying101
  a46 := Tryd.isAgg101
  z46 := Tryd.sizeOf101
  v46 := Tryd.zeroValue101
  t51 := Tryd.underlying103
  a51 := Tryd.isAgg103
  z51 := Tryd.sizeOf103
  v51 := Tryd.zeroValue103
  t53 := Tryd.underlying87
  a53 := Tryd.isAgg87
  z53 := Tryd.sizeOf87
  v53 := Tryd.zeroValue87
  t75 := Tryd.underlying67
  a75 := Tryd.isAgg67
  z75 := Tryd.sizeOf67
  v75 := Tryd.zeroValue67
  t76 := Tryd.underlying68
  a76 := Tryd.isAgg68
  z76 := Tryd.sizeOf68
  v76 := Tryd.zeroValue68
  t85 := Tryd.underlying93
  a85 := Tryd.isAgg93
  z85 := Tryd.sizeOf93
  v85 := Tryd.zeroValue93
  t127 := Tryd.underlying76
  a127 := Tryd.isAgg76
  z127 := Tryd.sizeOf76
  v127 := Tryd.zeroValue76
  t143 := Tryd.underlying122
  a143 := Tryd.isAgg122
  z143 := Tryd.sizeOf122
  v143 := Tryd.zeroValue122
  t145 := Tryd.underlying124
  a145 := Tryd.isAgg124
  z145 := Tryd.sizeOf124
  v145 := Tryd.zeroValue124
  t167 := Tryd.underlying92
  a167 := Tryd.isAgg92
  z167 := Tryd.sizeOf92
  v167 := Tryd.zeroValue92
  t168 := Tryd.underlying95
  a168 := Tryd.isAgg95
  z168 := Tryd.sizeOf95
  v168 := Tryd.zeroValue95
  t171 := Tryd.underlying86
  a171 := Tryd.isAgg86
  z171 := Tryd.sizeOf86
  v171 := Tryd.zeroValue86
  t173 := Tryd.underlying90
  a173 := Tryd.isAgg90
  z173 := Tryd.sizeOf90
  v173 := Tryd.zeroValue90
  t175 := Tryd.underlying107
  a175 := Tryd.isAgg107
  z175 := Tryd.sizeOf107
  v175 := Tryd.zeroValue107
  t210 := Tryd.underlying111
  a210 := Tryd.isAgg111
  z210 := Tryd.sizeOf111
  v210 := Tryd.zeroValue111
  t212 := Tryd.underlying102
  a212 := Tryd.isAgg102
  z212 := Tryd.sizeOf102
  v212 := Tryd.zeroValue102
  t213 := Tryd.underlying104
  a213 := Tryd.isAgg104
  z213 := Tryd.sizeOf104
  t232 := Tryd.underlying125
  a232 := Tryd.isAgg125
  z232 := Tryd.sizeOf125
  v232 := Tryd.zeroValue125
  t233 := Tryd.underlying126
  a233 := Tryd.isAgg126
  z233 := Tryd.sizeOf126
  v233 := Tryd.zeroValue126
  g15 := by kernel_rfl
  g16 := by kernel_rfl
  g17 := by kernel_rfl
  g18 := by kernel_rfl
  g19 := by kernel_rfl
  t80 := Tryd.underlying61
  a80 := Tryd.isAgg61
  z80 := Tryd.sizeOf61
  v80 := Tryd.zeroValue61
  i0 := by kernel_rfl
  i2 := by kernel_rfl
  i3 := by kernel_rfl
  i4 := by kernel_rfl
  i5 := by kernel_rfl
  i9 := by kernel_rfl
  i20 := by kernel_rfl
  i21 := by kernel_rfl
  i37 := by kernel_rfl
  i46 := by kernel_rfl
  i51 := by kernel_rfl
  i53 := by kernel_rfl
  i75 := by kernel_rfl
  i76 := by kernel_rfl
  i80 := by kernel_rfl
  i85 := by kernel_rfl
  i127 := by kernel_rfl
  i143 := by kernel_rfl
  i145 := by kernel_rfl
  i167 := by kernel_rfl
  i168 := by kernel_rfl
  i171 := by kernel_rfl
  i173 := by kernel_rfl
  i175 := by kernel_rfl
  i210 := by kernel_rfl
  i212 := by kernel_rfl
  i232 := by kernel_rfl
  i233 := by kernel_rfl
  m15 := by kernel_rfl
  m16 := by kernel_rfl
  m17 := by kernel_rfl
  m18 := by kernel_rfl
  m19 := by kernel_rfl
  c0 := by kernel_rfl
  c2 := by kernel_rfl
  c3 := by kernel_rfl
  c4 := by kernel_rfl
  c5 := by kernel_rfl
  c9 := by kernel_rfl
  c20 := by kernel_rfl
  c21 := by kernel_rfl
  c37 := by kernel_rfl
  c46 := by kernel_rfl
  c51 := by kernel_rfl
  c53 := by kernel_rfl
  c75 := by kernel_rfl
  c76 := by kernel_rfl
  c80 := by kernel_rfl
  c85 := by kernel_rfl
  c127 := by kernel_rfl
  c143 := by kernel_rfl
  c145 := by kernel_rfl
  c167 := by kernel_rfl
  c168 := by kernel_rfl
  c171 := by kernel_rfl
  c173 := by kernel_rfl
  c175 := by kernel_rfl
  c210 := by kernel_rfl
  c212 := by kernel_rfl
  c213 := by kernel_rfl
  c232 := by kernel_rfl
  c233 := by kernel_rfl }
def Tryd.lays146_ren : Go.Shelf.Ren := ⟨fun | 146 => 21 | 221 => 35 | 268 => 47 | 138 => 48 | 143 => 49 | 195 => 56 | 197 => 57 | 218 => 58 | 219 => 59 | 260 => 71 | 217 => 72 | 225 => 73 | 224 => 74 | 267 => 75 | 266 => 85 | 314 => 86 | n => n, fun | 9 => 9 | 31 => 38 | 3 => 3 | 4 => 4 | 0 => 0 | 105 => 83 | 21 => 21 | 5 => 5 | 46 => 101 | 119 => 114 | 139 => 117 | 138 => 116 | 146 => 118 | 51 => 103 | n => n, fun | 1 => 0 | 3 => 4 | 4 => 5 | n => n⟩
theorem Tryd.lays146 : Go.Proofs.Lays.n146 Tryd.prog Tryd.lays146_ren := {
  mixed := by kernel_rfl
  f138 := Tryd.func48.trans (congrArg some (by kernel_rfl))
  f143 := Tryd.func49.trans (congrArg some (by kernel_rfl))
  f146 := Tryd.func21.trans (congrArg some (by kernel_rfl))
  f195 := Tryd.func56.trans (congrArg some (by kernel_rfl))
  f197 := Tryd.func57.trans (congrArg some (by kernel_rfl))
  f217 := Tryd.func72.trans (congrArg some (by kernel_rfl))
  f218 := Tryd.func58.trans (congrArg some (by kernel_rfl))
  f219 := Tryd.func59.trans (congrArg some (by kernel_rfl))
  f221 := Tryd.func35.trans (congrArg some (by kernel_rfl))
  f224 := Tryd.func74.trans (congrArg some (by kernel_rfl))
  f225 := Tryd.func73.trans (congrArg some (by kernel_rfl))
  f260 := Tryd.func71.trans (congrArg some (by kernel_rfl))
  f266 := Tryd.func85.trans (congrArg some (by kernel_rfl))
  f267 := Tryd.func75.trans (congrArg some (by kernel_rfl))
  f268 := Tryd.func47.trans (congrArg some (by kernel_rfl))
  f314 := Tryd.func86.trans (congrArg some (by kernel_rfl))
  t0 := Tryd.underlying0
  a0 := Tryd.isAgg0
  z0 := Tryd.sizeOf0
  v0 := Tryd.zeroValue0
  t3 := Tryd.underlying3
  a3 := Tryd.isAgg3
  z3 := Tryd.sizeOf3
  v3 := Tryd.zeroValue3
  t4 := Tryd.underlying4
  a4 := Tryd.isAgg4
  z4 := Tryd.sizeOf4
  v4 := Tryd.zeroValue4
  t5 := Tryd.underlying5
  a5 := Tryd.isAgg5
  z5 := Tryd.sizeOf5
  v5 := Tryd.zeroValue5
  t9 := Tryd.underlying9
  a9 := Tryd.isAgg9
  z9 := Tryd.sizeOf9
  v9 := Tryd.zeroValue9
  t21 := Tryd.underlying21
  a21 := Tryd.isAgg21
  z21 := Tryd.sizeOf21
  v21 := Tryd.zeroValue21
  t31 := Tryd.underlying38
  a31 := Tryd.isAgg38
  z31 := Tryd.sizeOf38
  v31 := Tryd.zeroValue38
  t46 := Tryd.underlying101
  a46 := Tryd.isAgg101
  z46 := Tryd.sizeOf101
  v46 := Tryd.zeroValue101
  t51 := Tryd.underlying103
  a51 := Tryd.isAgg103
  z51 := Tryd.sizeOf103
  v51 := Tryd.zeroValue103
  t105 := Tryd.underlying83
  a105 := Tryd.isAgg83
  z105 := Tryd.sizeOf83
  v105 := Tryd.zeroValue83
  t119 := Tryd.underlying114
  a119 := Tryd.isAgg114
  z119 := Tryd.sizeOf114
  t138 := Tryd.underlying116
  a138 := Tryd.isAgg116
  z138 := Tryd.sizeOf116
  v138 := Tryd.zeroValue116
  t139 := Tryd.underlying117
  a139 := Tryd.isAgg117
  z139 := Tryd.sizeOf117
  v139 := Tryd.zeroValue117
  t146 := Tryd.underlying118
  a146 := Tryd.isAgg118
  z146 := Tryd.sizeOf118
  v146 := Tryd.zeroValue118
  g1 := by kernel_rfl
  g3 := by kernel_rfl
  g4 := by kernel_rfl }
end Go.Proofs
namespace Go.Vm
open Go.RowKit Go.Proofs Go.Shelf
/-- the laid tables and variables stand as they were -/
class GlTab [Gl] : Prop where
  tab : ∀ w : World, (∀ b, b < Gl.G → w.heap[b]? = Gl.g b) → Lib.TabIs Tryd.prog w "internal/strconv.uint64pow10" .u64 Lib.pow10Tab
  ml : ∀ w : World, (∀ b, b < Gl.G → w.heap[b]? = Gl.g b) → ∃ m, w.cell? ⟨0, 0, none⟩ = some (.int .i64 m)
  es : ∀ w : World, (∀ b, b < Gl.G → w.heap[b]? = Gl.g b) → ∃ ev, w.cell? ⟨2, 0, none⟩ = some ev ∧ (ev = .nilIface ∨ ∃ te pe, ev = .iface te pe)
  er : ∀ w : World, (∀ b, b < Gl.G → w.heap[b]? = Gl.g b) → ∃ ev, w.cell? ⟨3, 0, none⟩ = some ev ∧ (ev = .nilIface ∨ ∃ te pe, ev = .iface te pe)
theorem below_bytes (w : World) (e : TypeId) (s : ByteArray) : Below w.heap.size w (Lib.bytesWorld w e s) := by
  refine ⟨rfl, rfl, rfl, ?_, fun j hj => Lib.bytesWorld_at_old w e s j hj⟩
  simp [Lib.bytesWorld, World.freeze, World.alloc, World.drew, -World.alloc_eq, -World.drew_eq]
theorem sound_Itoa [Gl] [GlTab] {enc : Int → List X} (henc : ∀ a, enc a = [.d (.int .i64 a)]) {C : Int → Option XOut}
    (hC : ∀ a out, C a = some out → (-9223372036854775808 ≤ a ∧ a ≤ 9223372036854775807) ∧ out = .ret (.d (sD (Lib.itoa a))) []) : Sound Tryd.prog 25 (lay enc C) := by
  have h := sound_shelf (P := Tryd.prog) (f := 25) (enc := enc) (C := fun a => if -9223372036854775808 ≤ a ∧ a ≤ 9223372036854775807 then some (.d (sD (Lib.itoa a))) else none)
    (fun a x hx => by rw [henc] at hx; simp only [List.mem_singleton] at hx; exact ⟨_, hx⟩) (callFunc_run Tryd.func25 (by kernel_rfl) (by kernel_rfl)) (by
    intro a x S w args hx hb hG
    split at hx
    case isFalse => cases hx
    rename_i ha
    injection hx with hx
    subst hx
    obtain ⟨bs, hb⟩ := hb
    rw [henc] at hb
    obtain ⟨v, us, _, _, e1, _, ⟨_, hv⟩, e2, _⟩ := hb
    simp only [RD] at hv
    subst hv; subst e2
    obtain rfl : args = #[.int .i64 a] := by cases args; simp_all
    refine (Any.strconv_Itoa Go.Proofs.Tryd.laysM171 a ha.1 ha.2 w (GlTab.tab w hG)).mono ?_
    rintro e w' ⟨he, k, os, rfl⟩
    exact made_str he (Lib.below_grow _ _ (Nat.le_refl _) _ _))
  intro S w args xs bs hx hb out ho
  refine h S w args xs bs hx hb out ?_
  obtain ⟨a, rfl, ho2⟩ := lay_some ho
  obtain ⟨ha, rfl⟩ := hC _ _ ho2
  have inj : ∀ x y, enc x = enc y → x = y := by
    intro x y e
    rw [henc, henc] at e
    simpa using e
  rw [lay_eq inj a, if_pos ha]; rfl
/-- a number out of a text, or an error -/
def atoiR (l : List UInt8) : Alt Int Int := match Lib.atoiAll l with
  | .ok v => .a v
  | .range => .b (Lib.atoiSat l)
  | _ => .b 0
theorem sound_Atoi [Gl] [GlTab] {enc : List UInt8 → List X} (henc : ∀ a, enc a = [.d (sD a)]) {C : List UInt8 → Option XOut}
    (hC : ∀ a out, C a = some out → a.length ≤ 281474976710656 ∧ (atoiR a).on (fun r => some (XOut.ret (.tup [.d (.int .i64 r), .d .nili]) [])) (fun r => some (.ret (.tup [.d (.int .i64 r), .d (.iface 95 .opq)]) [])) = some out) : Sound Tryd.prog 41 (lay enc C) := by
  have h := sound_shelf (P := Tryd.prog) (f := 41) (enc := enc) (C := fun a => if a.length ≤ 281474976710656 then (atoiR a).on (fun r => some (.tup [.d (.int .i64 r), .d .nili])) (fun r => some (.tup [.d (.int .i64 r), .d (.iface 95 .opq)])) else none)
    (fun a x hx => by rw [henc] at hx; simp only [List.mem_singleton] at hx; exact ⟨_, hx⟩) (callFunc_run Tryd.func41 (by kernel_rfl) (by kernel_rfl)) (by
    intro l x S w args hx hb hG
    split at hx
    case isFalse => cases hx
    rename_i ha
    obtain ⟨bs, hb⟩ := hb
    rw [henc] at hb
    obtain ⟨v, us, _, _, e1, _, ⟨_, hv⟩, e2, _⟩ := hb
    simp only [sD, RD] at hv
    subst hv; subst e2
    obtain rfl : args = #[.string ⟨l.toArray⟩] := by cases args; simp_all
    have hbw : ∀ w' : World, (w' = w ∨ ∃ q t, w' = Lib.bytesWorld w q t) → Below w.heap.size w w' := by
      rintro w' (rfl | ⟨q, t, rfl⟩)
      · exact Below.refl _ _
      · exact below_bytes w q t
    have hpar : ∀ (v : Value) (y : D) (r : Int), ParOK [] (.tup [.d (.int .i64 r), .d y]) v := by
      intro v y r
      simp only [ParOK]
      intro vs hv
      cases hvs : vs.toList with
      | nil => simp only [ParOKs]
      | cons a r =>
        cases r with
        | nil => simp only [ParOKs, ParOK, and_self]
        | cons b r => cases r <;> simp only [ParOKs, ParOK, and_self]
    have e0 : (⟨l.toArray⟩ : ByteArray).data.toList = l := rfl
    have e1 : (⟨l.toArray⟩ : ByteArray).size = l.length := rfl
    cases hr : Lib.atoiAll l
    · rename_i v
      simp only [atoiR, hr, Alt.on, Option.some.injEq] at hx
      subst hx
      refine (Any.strconv_Atoi_ok Go.Proofs.Tryd.laysC172 ⟨l.toArray⟩ (by rw [e1]; omega) v (by rw [e0]; exact hr) w).mono ?_
      rintro e w' ⟨he, hw⟩
      refine ⟨⟨_, [], S, he, ⟨_, rfl, _, _, [], [], rfl, rfl, ⟨rfl, by simp only [RD]⟩, _, _, [], [], rfl, rfl, ⟨rfl, by simp only [RD]⟩, rfl, rfl⟩, List.nodup_nil, fun b hb => (by cases hb), fun _ _ => rfl, hpar _ _ _⟩, hbw w' ?_⟩
      rcases hw with hw | ⟨t, hw⟩
      · exact .inl hw
      · exact .inr ⟨_, t, hw⟩
    · simp only [atoiR, hr, Alt.on, Option.some.injEq] at hx
      subst hx
      obtain ⟨ev, h1, h2⟩ := GlTab.es w hG
      refine (Any.strconv_Atoi_syntax Go.Proofs.Tryd.laysC172 ⟨l.toArray⟩ (by rw [e1]; omega) (by rw [e0]; exact hr) ev w h1 h2).mono ?_
      rintro e w' ⟨N, he, _, _, hB⟩
      exact ⟨⟨_, [], S, he, ⟨_, rfl, _, _, [], [], rfl, rfl, ⟨rfl, by simp only [RD]⟩, _, _, [], [], rfl, rfl, ⟨rfl, by simp only [RD]; exact ⟨_, rfl, rfl⟩⟩, rfl, rfl⟩, List.nodup_nil, fun b hb => (by cases hb), fun _ _ => rfl, hpar _ _ _⟩, hB⟩
    · simp only [atoiR, hr, Alt.on, Option.some.injEq] at hx
      subst hx
      obtain ⟨ev, h1, h2⟩ := GlTab.er w hG
      refine (Any.strconv_Atoi_range Go.Proofs.Tryd.laysC172 ⟨l.toArray⟩ (by rw [e1]; omega) (by rw [e0]; exact hr) ev w h1 h2).mono ?_
      rintro e w' ⟨N, he, _, _, hB⟩
      exact ⟨⟨_, [], S, he, ⟨_, rfl, _, _, [], [], rfl, rfl, ⟨rfl, by simp only [RD]⟩, _, _, [], [], rfl, rfl, ⟨rfl, by simp only [RD]; exact ⟨_, rfl, rfl⟩⟩, rfl, rfl⟩, List.nodup_nil, fun b hb => (by cases hb), fun _ _ => rfl, hpar _ _ _⟩, hB⟩)
  intro S w args xs bs hx hb out ho
  refine h S w args xs bs hx hb out ?_
  obtain ⟨a, rfl, ho2⟩ := lay_some ho
  obtain ⟨ha, ho3⟩ := hC _ _ ho2
  have inj : ∀ x y, enc x = enc y → x = y := by
    intro x y e
    rw [henc, henc] at e
    simp only [List.cons.injEq, X.d.injEq, sD_inj, and_true] at e
    exact e
  rw [lay_eq inj a, if_pos ha, ← ho3]
  cases atoiR a <;> rfl
theorem strs_new {S : Nat → Nat} {w : World} {b : Nat} : ∀ {l : List (List UInt8)} {o : Nat}, o + l.length ≤ S b → (∀ (j : Nat) (x : List UInt8), l[j]? = some x → w.cell? ⟨b, o + j, none⟩ = some (.string ⟨x.toArray⟩)) → RDat S w (cellsT cS l) b o
  | [], o, hs, h => by simp only [cellsT, List.flatMap_nil, RDat]
  | y :: l, o, hs, h => by
    have e : cellsT cS (y :: l) = sD y :: cellsT cS l := rfl
    rw [e]
    simp only [RDat]
    rw [List.length_cons] at hs
    refine ⟨by omega, ⟨_, h 0 y rfl, by simp only [sD, RD]⟩, strs_new (by omega) fun j x hj => ?_⟩
    rw [show o + 1 + j = o + (j + 1) by omega]
    exact h (j + 1) x hj
/-- a text split at a separator -/
theorem sound_Split [Gl] [GlTab] {enc : List UInt8 × List UInt8 → List X} (henc : ∀ a, enc a = [.d (sD a.1), .d (sD a.2)]) {C : List UInt8 × List UInt8 → Option XOut}
    (hC : ∀ a out, C a = some out → (a.1.length < 4294967281 ∧ 1 ≤ a.2.length) ∧ out = .ret (.d (lstT cS (Lib.split a.1 a.2))) []) : Sound Tryd.prog 21 (lay enc C) := by
  have h := sound_shelf (P := Tryd.prog) (f := 21) (enc := enc) (C := fun a => if a.1.length < 4294967281 ∧ 1 ≤ a.2.length then some (.d (lstT cS (Lib.split a.1 a.2))) else none)
    (fun a x hx => by rw [henc] at hx; simp only [List.mem_cons, List.not_mem_nil, or_false] at hx; rcases hx with hx | hx <;> exact ⟨_, hx⟩) (callFunc_run Tryd.func21 (by kernel_rfl) (by kernel_rfl)) (by
    intro a x S w args hx hb hG
    split at hx
    case isFalse => cases hx
    rename_i ha
    injection hx with hx
    subst hx
    obtain ⟨l, sep⟩ := a
    obtain ⟨bs, hb⟩ := hb
    rw [henc] at hb
    obtain ⟨v, us, _, _, e1, _, ⟨_, hv⟩, v2, us2, _, _, e2, _, ⟨_, hv2⟩, e3, _⟩ := hb
    simp only [sD, RD] at hv hv2
    subst hv; subst hv2; subst e3; subst e2
    obtain rfl : args = #[.string ⟨l.toArray⟩, .string ⟨sep.toArray⟩] := by cases args; simp_all
    obtain ⟨m, hm⟩ := GlTab.ml w hG
    have h1 : 1 ≤ (⟨sep.toArray⟩ : ByteArray).size := by simpa [ByteArray.size] using ha.2
    refine (Any.strings_Split Go.Proofs.Tryd.lays146 (by kernel_rfl) ⟨l.toArray⟩ ⟨sep.toArray⟩ m w (by simpa [ByteArray.size] using ha.1) hm h1).mono ?_
    rintro e w' ⟨he, rfl⟩
    have el : (Lib.splitB ⟨sep.toArray⟩ 0 (Lib.countB ⟨l.toArray⟩ ⟨sep.toArray⟩) ⟨l.toArray⟩).map (·.data.toList) = Lib.split l sep := (Lib.splitB_data ⟨sep.toArray⟩ 0 _ ⟨l.toArray⟩).trans rfl
    have en := Lib.splitB_all ⟨sep.toArray⟩ h1 0 _ ⟨l.toArray⟩ rfl
    have en' : (Lib.split l sep).length = Lib.countB ⟨l.toArray⟩ ⟨sep.toArray⟩ + 1 := by rw [← el, List.length_map, en]
    have hcell : ∀ (j : Nat) (x : List UInt8), (Lib.split l sep)[j]? = some x →
        (w.alloc (.cells ((Lib.splitB ⟨sep.toArray⟩ 0 (Lib.countB ⟨l.toArray⟩ ⟨sep.toArray⟩) ⟨l.toArray⟩).map Value.string).toArray 9)).cell? ⟨w.heap.size, j, none⟩ = some (.string ⟨x.toArray⟩) := by
      intro j x hj
      rw [← el, List.getElem?_map] at hj
      obtain ⟨y, hy, rfl⟩ := Option.map_eq_some_iff.1 hj
      have hh : (w.alloc (.cells ((Lib.splitB ⟨sep.toArray⟩ 0 (Lib.countB ⟨l.toArray⟩ ⟨sep.toArray⟩) ⟨l.toArray⟩).map Value.string).toArray 9)).heap[w.heap.size]? = some (.cells ((Lib.splitB ⟨sep.toArray⟩ 0 (Lib.countB ⟨l.toArray⟩ ⟨sep.toArray⟩) ⟨l.toArray⟩).map Value.string).toArray 9 (0, 0)) := by
        show (w.heap.push _)[w.heap.size]? = _
        simp
      simp only [World.cell?, hh]
      simp [hy]
    refine ⟨⟨_, [], fun b => if b = w.heap.size then (Lib.split l sep).length else S b, he, ⟨rfl, ?_⟩, List.nodup_nil, fun b hb => (by cases hb), fun b hb => if_neg (by omega), ?_⟩, (Below.refl _ w).alloc (Nat.le_refl _) _⟩
    · simp only [lstT, RD]
      refine ⟨some ⟨w.heap.size, 0, none⟩, Lib.countB ⟨l.toArray⟩ ⟨sep.toArray⟩ + 1, by rw [en'], Nat.le_of_eq en', (fun h => nomatch h), fun p hp => ?_⟩
      injection hp with hp
      subst hp
      refine ⟨.inl rfl, strs_new (by simp) fun j x hj => ?_⟩
      rw [Nat.zero_add]
      exact hcell j x hj
    · simp only [ParOK])
  intro S w args xs bs hx hb out ho
  refine h S w args xs bs hx hb out ?_
  obtain ⟨a, rfl, ho2⟩ := lay_some ho
  obtain ⟨ha, rfl⟩ := hC _ _ ho2
  have inj : ∀ x y, enc x = enc y → x = y := by
    intro x y e
    rw [henc, henc] at e
    simp only [List.cons.injEq, X.d.injEq, sD_inj, and_true] at e
    exact Prod.ext e.1 e.2
  rw [lay_eq inj a, if_pos ha]; rfl
theorem joi_extra : Builder.Extra Tryd.prog Go.Proofs.Tryd.lays156_ren := {
  sizeBuilder := by kernel_rfl
  liesBuilder := by kernel_rfl
  t5 := Tryd.underlying5
  a5 := Tryd.isAgg5
  z5 := Tryd.sizeOf5
  v5 := Tryd.zeroValue5
  infoByte := by kernel_rfl
  cellsByte := by kernel_rfl
  sizeByte := by kernel_rfl
  neB5 := by decide }
theorem strs_cells {S : Nat → Nat} {w : World} {b : Nat} : ∀ {l : List (List UInt8)} {o : Nat}, RDat S w (cellsT cS l) b o → ∀ (j : Nat) (x : ByteArray), (l.map fun y => (⟨y.toArray⟩ : ByteArray))[j]? = some x → w.cell? ⟨b, o + j, none⟩ = some (.string x)
  | [], o, _, j, x, h => by simp at h
  | y :: l, o, h, j, x, hj => by
    have e : cellsT cS (y :: l) = sD y :: cellsT cS l := rfl
    rw [e] at h
    simp only [RDat] at h
    obtain ⟨_, ⟨v, h1, h2⟩, h3⟩ := h
    cases j with
    | zero =>
      simp only [List.map_cons, List.getElem?_cons_zero, Option.some.injEq] at hj
      subst hj
      simp only [sD, RD] at h2
      subst h2
      simpa using h1
    | succ j =>
      have := strs_cells h3 j x (by simpa using hj)
      rw [show o + (j + 1) = o + 1 + j by omega]; exact this
theorem sound_Join [Gl] {enc : List (List UInt8) × List UInt8 → List X} (henc : ∀ a, enc a = [.d (lstT cS a.1), .d (sD a.2)]) {C : List (List UInt8) × List UInt8 → Option XOut}
    (hC : ∀ a out, C a = some out → (a.1.length ≤ 140737488355328 ∧ (Lib.join a.1 a.2).length ≤ 140737488355328) ∧ out = .ret (.d (sD (Lib.join a.1 a.2))) []) : Sound Tryd.prog 45 (lay enc C) := by
  have h := sound_shelf (P := Tryd.prog) (f := 45) (enc := enc) (C := fun a => if a.1.length ≤ 140737488355328 ∧ (Lib.join a.1 a.2).length ≤ 140737488355328 then some (.d (sD (Lib.join a.1 a.2))) else none)
    (fun a x hx => by rw [henc] at hx; simp only [List.mem_cons, List.not_mem_nil, or_false] at hx; rcases hx with hx | hx <;> exact ⟨_, hx⟩) (callFunc_run Tryd.func45 (by kernel_rfl) (by kernel_rfl)) (by
    intro a x S w args hx hb hG
    split at hx
    case isFalse => cases hx
    rename_i ha
    injection hx with hx
    subst hx
    obtain ⟨l, sep⟩ := a
    obtain ⟨bs, hb⟩ := hb
    rw [henc] at hb
    obtain ⟨v, us, _, _, e1, _, ⟨_, hv⟩, v2, us2, _, _, e2, _, ⟨_, hv2⟩, e3, _⟩ := hb
    simp only [lstT, RD] at hv
    simp only [sD, RD] at hv2
    obtain ⟨a, cap, rfl, hnc, hnil, hsome⟩ := hv
    subst hv2; subst e3; subst e2
    obtain rfl : args = #[.slice a l.length cap, .string ⟨sep.toArray⟩] := by cases args; simp_all
    cases l with
    | nil =>
      refine (Any.strings_Join_none Go.Proofs.Tryd.lays156 joi_extra a cap ⟨sep.toArray⟩ w).mono ?_
      rintro e w' ⟨he, rfl⟩
      exact made_str he (Below.refl _ _)
    | cons y r =>
      cases a with
      | none => have := (hnil rfl).1; simp at this
      | some p =>
        obtain ⟨h1, h2⟩ := hsome p rfl
        have hsp : p.spot = none := by
          rcases h1 with h1 | ⟨h1, _⟩
          · exact h1
          · simp only [List.length_cons] at hnc; omega
        obtain ⟨bk, o, spot⟩ := p
        simp only at hsp
        subst hsp
        have hc := strs_cells h2
        have hlt : bk < w.heap.size := by
          have h0 := hc 0 ⟨y.toArray⟩ rfl
          rcases Nat.lt_or_ge bk w.heap.size with h' | h'
          · exact h'
          · simp [World.cell?, Array.getElem?_eq_none h'] at h0
        have e4 : ((y :: r).map fun y => (⟨y.toArray⟩ : ByteArray)).map (·.data.toList) = y :: r := by
          rw [List.map_map]
          exact (List.map_congr_left (fun z _ => rfl)).trans (List.map_id _)
        have q := Any.strings_Join Go.Proofs.Tryd.lays156 joi_extra bk o cap ((y :: r).map fun y => (⟨y.toArray⟩ : ByteArray)) ⟨sep.toArray⟩ w hc hlt (by rw [List.length_map]; exact ha.1) (by rw [List.length_map]; exact hnc) (by rw [e4]; exact ha.2)
        rw [e4, List.length_map] at q
        refine q.mono ?_
        rintro e w' ⟨he, hB⟩
        exact made_str he hB)
  intro S w args xs bs hx hb out ho
  refine h S w args xs bs hx hb out ?_
  obtain ⟨a, rfl, ho2⟩ := lay_some ho
  obtain ⟨ha, rfl⟩ := hC _ _ ho2
  have inj : ∀ x y, enc x = enc y → x = y := by
    intro x y e
    rw [henc, henc] at e
    simp only [List.cons.injEq, X.d.injEq, sD_inj, lstT_inj, and_true] at e
    exact Prod.ext e.1 e.2
  rw [lay_eq inj a, if_pos ha]; rfl
end Go.Vm
