/- The library's functions strconv.Itoa, strconv.Atoi, strings.Cut, strings.Split over this program, as contracts of the abstract machine. The layings were printed by the kit's lay-shelf.mjs and lay-plain.mjs. -/
import Derived.Test.YtpjfklhaogdfeaaDoorVmShelf
import Derived.Test.YtpjfklhaogdfeaaDoorVmLayer
import Derived.Test.YtpjfklhaogdfeaaDoorVmKind
import Derived.Test.YtpjfklhaogdfeaaDoorProg
import Derived.Shelf.Strconv.Itoa3
import Derived.Shelf.Strconv.AtoiAll
import Derived.Shelf.Strings.Cut
import Derived.Shelf.Strings.Split
import Derived.KernelRfl
import Derived.Lib.AppendIntMem
set_option linter.all false
set_option maxRecDepth 100000
namespace Go.Proofs
open Go.Shelf
def Tryd.laysM171_ren:Go.Shelf.Ren:=⟨fun | 171=>30 | 243=>45 | 246=>55 | 283=>59 | 284=>60 | 285=>61 | 286=>62 | 129=>66 | 317=>65 | 318=>67 | 319=>68 | 320=>69 | 337=>70 | 338=>71 | n=>n,fun | 3=>3 | 9=>9 | 2=>2 | 4=>4 | 171=>91 | 0=>0 | 53=>84 | 37=>73 | 5=>5 | 173=>94 | 212=>102 | 51=>69 | 20=>20 | 213=>103 | 46=>67 | 232=>107 | 233=>108 | n=>n,fun | 17=>5 | 18=>6 | 19=>7 | n=>n⟩
theorem Tryd.laysM171:Go.Proofs.LaysM.n171 Tryd.prog Tryd.laysM171_ren:={
 mixed:=by kernel_rfl
 f129:=Tryd.func66.trans (congrArg some (by kernel_rfl))
 f171:=Tryd.func30.trans (congrArg some (by kernel_rfl))
 f243:=Tryd.func45.trans (congrArg some (by kernel_rfl))
 f246:=Tryd.func55.trans (congrArg some (by kernel_rfl))
 f283:=Tryd.func59.trans (congrArg some (by kernel_rfl))
 f284:=Tryd.func60.trans (congrArg some (by kernel_rfl))
 f285:=Tryd.func61.trans (congrArg some (by kernel_rfl))
 f286:=Tryd.func62.trans (congrArg some (by kernel_rfl))
 f317:=Tryd.func65.trans (congrArg some (by kernel_rfl))
 f318:=Tryd.func67.trans (congrArg some (by kernel_rfl))
 f319:=Tryd.func68.trans (congrArg some (by kernel_rfl))
 f320:=Tryd.func69.trans (congrArg some (by kernel_rfl))
 f337:=Tryd.func70.trans (congrArg some (by kernel_rfl))
 f338:=Tryd.func71.trans (congrArg some (by kernel_rfl))
 t0:=Tryd.underlying0
 a0:=Tryd.isAgg0
 z0:=Tryd.sizeOf0
 v0:=Tryd.zeroValue0
 t2:=Tryd.underlying2
 a2:=Tryd.isAgg2
 z2:=Tryd.sizeOf2
 v2:=Tryd.zeroValue2
 t3:=Tryd.underlying3
 a3:=Tryd.isAgg3
 z3:=Tryd.sizeOf3
 v3:=Tryd.zeroValue3
 t4:=Tryd.underlying4
 a4:=Tryd.isAgg4
 z4:=Tryd.sizeOf4
 v4:=Tryd.zeroValue4
 t5:=Tryd.underlying5
 a5:=Tryd.isAgg5
 z5:=Tryd.sizeOf5
 v5:=Tryd.zeroValue5
 t9:=Tryd.underlying9
 a9:=Tryd.isAgg9
 z9:=Tryd.sizeOf9
 v9:=Tryd.zeroValue9
 t20:=Tryd.underlying20
 a20:=Tryd.isAgg20
 z20:=Tryd.sizeOf20
 v20:=Tryd.zeroValue20
 t37:=Tryd.underlying73
 a37:=Tryd.isAgg73
 z37:=Tryd.sizeOf73
 v37:=Tryd.zeroValue73
 t46:=Tryd.underlying67
 a46:=Tryd.isAgg67
 z46:=Tryd.sizeOf67
 v46:=Tryd.zeroValue67
 t51:=Tryd.underlying69
 a51:=Tryd.isAgg69
 z51:=Tryd.sizeOf69
 v51:=Tryd.zeroValue69
 t53:=Tryd.underlying84
 a53:=Tryd.isAgg84
 z53:=Tryd.sizeOf84
 v53:=Tryd.zeroValue84
 t171:=Tryd.underlying91
 a171:=Tryd.isAgg91
 z171:=Tryd.sizeOf91
 v171:=Tryd.zeroValue91
 t173:=Tryd.underlying94
 a173:=Tryd.isAgg94
 z173:=Tryd.sizeOf94
 v173:=Tryd.zeroValue94
 t212:=Tryd.underlying102
 a212:=Tryd.isAgg102
 z212:=Tryd.sizeOf102
 v212:=Tryd.zeroValue102
 t213:=Tryd.underlying103
 a213:=Tryd.isAgg103
 z213:=Tryd.sizeOf103
 t232:=Tryd.underlying107
 a232:=Tryd.isAgg107
 z232:=Tryd.sizeOf107
 v232:=Tryd.zeroValue107
 t233:=Tryd.underlying108
 a233:=Tryd.isAgg108
 z233:=Tryd.sizeOf108
 v233:=Tryd.zeroValue108
 g17:=by kernel_rfl
 g18:=by kernel_rfl
 g19:=by kernel_rfl
 i0:=by kernel_rfl
 i2:=by kernel_rfl
 i3:=by kernel_rfl
 i4:=by kernel_rfl
 i5:=by kernel_rfl
 i9:=by kernel_rfl
 i20:=by kernel_rfl
 i37:=by kernel_rfl
 i46:=by kernel_rfl
 i51:=by kernel_rfl
 i53:=by kernel_rfl
 i171:=by kernel_rfl
 i173:=by kernel_rfl
 i212:=by kernel_rfl
 i232:=by kernel_rfl
 i233:=by kernel_rfl
 m17:=by kernel_rfl
 m18:=by kernel_rfl
 m19:=by kernel_rfl }
def Tryd.laysC172_ren:Go.Shelf.Ren:=⟨fun | 172=>29 | 244=>43 | 245=>44 | 247=>50 | 279=>51 | 280=>52 | 281=>53 | 282=>54 | 287=>56 | 316=>57 | 171=>30 | 205=>58 | 321=>63 | 322=>64 | 243=>45 | 246=>55 | 283=>59 | 284=>60 | 285=>61 | 286=>62 | 129=>66 | 317=>65 | 318=>67 | 319=>68 | 320=>69 | 337=>70 | 338=>71 | n=>n,fun | 9=>9 | 3=>3 | 75=>52 | 76=>53 | 4=>4 | 5=>5 | 167=>72 | 37=>73 | 0=>0 | 85=>74 | 2=>2 | 168=>76 | 53=>84 | 175=>85 | 46=>67 | 210=>89 | 127=>97 | 145=>100 | 143=>98 | 21=>21 | 171=>91 | 173=>94 | 212=>102 | 51=>69 | 20=>20 | 213=>103 | 232=>107 | 233=>108 | 80=>109 | n=>n,fun | 15=>3 | 16=>4 | 17=>5 | 18=>6 | 19=>7 | n=>n⟩
theorem Tryd.laysC172:Go.Proofs.LaysC.n172 Tryd.prog Tryd.laysC172_ren:={
 mixed:=by kernel_rfl
 f129:=Tryd.func66.trans (congrArg some (by kernel_rfl))
 f171:=Tryd.func30.trans (congrArg some (by kernel_rfl))
 f172:=Tryd.func29.trans (congrArg some (by kernel_rfl))
 f205:=Tryd.func58.trans (congrArg some (by kernel_rfl))
 f243:=Tryd.func45.trans (congrArg some (by kernel_rfl))
 f244:=Tryd.func43.trans (congrArg some (by kernel_rfl))
 f245:=Tryd.func44.trans (congrArg some (by kernel_rfl))
 f246:=Tryd.func55.trans (congrArg some (by kernel_rfl))
 f247:=Tryd.func50.trans (congrArg some (by kernel_rfl))
 f279:=Tryd.func51.trans (congrArg some (by kernel_rfl))
 f280:=Tryd.func52.trans (congrArg some (by kernel_rfl))
 f281:=Tryd.func53.trans (congrArg some (by kernel_rfl))
 f282:=Tryd.func54.trans (congrArg some (by kernel_rfl))
 f283:=Tryd.func59.trans (congrArg some (by kernel_rfl))
 f284:=Tryd.func60.trans (congrArg some (by kernel_rfl))
 f285:=Tryd.func61.trans (congrArg some (by kernel_rfl))
 f286:=Tryd.func62.trans (congrArg some (by kernel_rfl))
 f287:=Tryd.func56.trans (congrArg some (by kernel_rfl))
 f316:=Tryd.func57.trans (congrArg some (by kernel_rfl))
 f317:=Tryd.func65.trans (congrArg some (by kernel_rfl))
 f318:=Tryd.func67.trans (congrArg some (by kernel_rfl))
 f319:=Tryd.func68.trans (congrArg some (by kernel_rfl))
 f320:=Tryd.func69.trans (congrArg some (by kernel_rfl))
 f321:=Tryd.func63.trans (congrArg some (by kernel_rfl))
 f322:=Tryd.func64.trans (congrArg some (by kernel_rfl))
 f337:=Tryd.func70.trans (congrArg some (by kernel_rfl))
 f338:=Tryd.func71.trans (congrArg some (by kernel_rfl))
 t0:=Tryd.underlying0
 a0:=Tryd.isAgg0
 z0:=Tryd.sizeOf0
 v0:=Tryd.zeroValue0
 t2:=Tryd.underlying2
 a2:=Tryd.isAgg2
 z2:=Tryd.sizeOf2
 v2:=Tryd.zeroValue2
 t3:=Tryd.underlying3
 a3:=Tryd.isAgg3
 z3:=Tryd.sizeOf3
 v3:=Tryd.zeroValue3
 t4:=Tryd.underlying4
 a4:=Tryd.isAgg4
 z4:=Tryd.sizeOf4
 v4:=Tryd.zeroValue4
 t5:=Tryd.underlying5
 a5:=Tryd.isAgg5
 z5:=Tryd.sizeOf5
 v5:=Tryd.zeroValue5
 t9:=Tryd.underlying9
 a9:=Tryd.isAgg9
 z9:=Tryd.sizeOf9
 v9:=Tryd.zeroValue9
 t20:=Tryd.underlying20
 a20:=Tryd.isAgg20
 z20:=Tryd.sizeOf20
 v20:=Tryd.zeroValue20
 t21:=Tryd.underlying21
 a21:=Tryd.isAgg21
 z21:=Tryd.sizeOf21
 v21:=Tryd.zeroValue21
 t37:=Tryd.underlying73
 a37:=Tryd.isAgg73
 z37:=Tryd.sizeOf73
 v37:=Tryd.zeroValue73
 t46:=Tryd.underlying67
 a46:=Tryd.isAgg67
 z46:=Tryd.sizeOf67
 v46:=Tryd.zeroValue67
 t51:=Tryd.underlying69
 a51:=Tryd.isAgg69
 z51:=Tryd.sizeOf69
 v51:=Tryd.zeroValue69
 t53:=Tryd.underlying84
 a53:=Tryd.isAgg84
 z53:=Tryd.sizeOf84
 v53:=Tryd.zeroValue84
 t75:=Tryd.underlying52
 a75:=Tryd.isAgg52
 z75:=Tryd.sizeOf52
 v75:=Tryd.zeroValue52
 t76:=Tryd.underlying53
 a76:=Tryd.isAgg53
 z76:=Tryd.sizeOf53
 v76:=Tryd.zeroValue53
 t85:=Tryd.underlying74
 a85:=Tryd.isAgg74
 z85:=Tryd.sizeOf74
 v85:=Tryd.zeroValue74
 t127:=Tryd.underlying97
 a127:=Tryd.isAgg97
 z127:=Tryd.sizeOf97
 v127:=Tryd.zeroValue97
 t143:=Tryd.underlying98
 a143:=Tryd.isAgg98
 z143:=Tryd.sizeOf98
 v143:=Tryd.zeroValue98
 t145:=Tryd.underlying100
 a145:=Tryd.isAgg100
 z145:=Tryd.sizeOf100
 v145:=Tryd.zeroValue100
 t167:=Tryd.underlying72
 a167:=Tryd.isAgg72
 z167:=Tryd.sizeOf72
 v167:=Tryd.zeroValue72
 t168:=Tryd.underlying76
 a168:=Tryd.isAgg76
 z168:=Tryd.sizeOf76
 v168:=Tryd.zeroValue76
 t171:=Tryd.underlying91
 a171:=Tryd.isAgg91
 z171:=Tryd.sizeOf91
 v171:=Tryd.zeroValue91
 t173:=Tryd.underlying94
 a173:=Tryd.isAgg94
 z173:=Tryd.sizeOf94
 v173:=Tryd.zeroValue94
 t175:=Tryd.underlying85
 a175:=Tryd.isAgg85
 z175:=Tryd.sizeOf85
 v175:=Tryd.zeroValue85
 t210:=Tryd.underlying89
 a210:=Tryd.isAgg89
 z210:=Tryd.sizeOf89
 v210:=Tryd.zeroValue89
 t212:=Tryd.underlying102
 a212:=Tryd.isAgg102
 z212:=Tryd.sizeOf102
 v212:=Tryd.zeroValue102
 t213:=Tryd.underlying103
 a213:=Tryd.isAgg103
 z213:=Tryd.sizeOf103
 t232:=Tryd.underlying107
 a232:=Tryd.isAgg107
 z232:=Tryd.sizeOf107
 v232:=Tryd.zeroValue107
 t233:=Tryd.underlying108
 a233:=Tryd.isAgg108
 z233:=Tryd.sizeOf108
 v233:=Tryd.zeroValue108
 g15:=by kernel_rfl
 g16:=by kernel_rfl
 g17:=by kernel_rfl
 g18:=by kernel_rfl
 g19:=by kernel_rfl
 t80:=Tryd.underlying109
 a80:=Tryd.isAgg109
 z80:=Tryd.sizeOf109
 v80:=Tryd.zeroValue109
 i0:=by kernel_rfl
 i2:=by kernel_rfl
 i3:=by kernel_rfl
 i4:=by kernel_rfl
 i5:=by kernel_rfl
 i9:=by kernel_rfl
 i20:=by kernel_rfl
 i21:=by kernel_rfl
 i37:=by kernel_rfl
 i46:=by kernel_rfl
 i51:=by kernel_rfl
 i53:=by kernel_rfl
 i75:=by kernel_rfl
 i76:=by kernel_rfl
 i80:=by kernel_rfl
 i85:=by kernel_rfl
 i127:=by kernel_rfl
 i143:=by kernel_rfl
 i145:=by kernel_rfl
 i167:=by kernel_rfl
 i168:=by kernel_rfl
 i171:=by kernel_rfl
 i173:=by kernel_rfl
 i175:=by kernel_rfl
 i210:=by kernel_rfl
 i212:=by kernel_rfl
 i232:=by kernel_rfl
 i233:=by kernel_rfl
 m15:=by kernel_rfl
 m16:=by kernel_rfl
 m17:=by kernel_rfl
 m18:=by kernel_rfl
 m19:=by kernel_rfl
 c0:=by kernel_rfl
 c2:=by kernel_rfl
 c3:=by kernel_rfl
 c4:=by kernel_rfl
 c5:=by kernel_rfl
 c9:=by kernel_rfl
 c20:=by kernel_rfl
 c21:=by kernel_rfl
 c37:=by kernel_rfl
 c46:=by kernel_rfl
 c51:=by kernel_rfl
 c53:=by kernel_rfl
 c75:=by kernel_rfl
 c76:=by kernel_rfl
 c80:=by kernel_rfl
 c85:=by kernel_rfl
 c127:=by kernel_rfl
 c143:=by kernel_rfl
 c145:=by kernel_rfl
 c167:=by kernel_rfl
 c168:=by kernel_rfl
 c171:=by kernel_rfl
 c173:=by kernel_rfl
 c175:=by kernel_rfl
 c210:=by kernel_rfl
 c212:=by kernel_rfl
 c213:=by kernel_rfl
 c232:=by kernel_rfl
 c233:=by kernel_rfl }
def Tryd.lays145_ren:Go.Shelf.Ren:=⟨fun | 145=>12 | 220=>19 | 219=>28 | 217=>39 | 225=>40 | 224=>41 | 267=>42 | 266=>48 | 314=>49 | n=>n,fun | 9=>9 | 4=>4 | 59=>38 | 3=>3 | 5=>5 | 46=>67 | 146=>70 | 51=>69 | n=>n,fun | 1=>0 | n=>n⟩
theorem Tryd.lays145:Go.Proofs.Lays.n145 Tryd.prog Tryd.lays145_ren:={
 mixed:=by kernel_rfl
 f145:=Tryd.func12.trans (congrArg some (by kernel_rfl))
 f217:=Tryd.func39.trans (congrArg some (by kernel_rfl))
 f219:=Tryd.func28.trans (congrArg some (by kernel_rfl))
 f220:=Tryd.func19.trans (congrArg some (by kernel_rfl))
 f224:=Tryd.func41.trans (congrArg some (by kernel_rfl))
 f225:=Tryd.func40.trans (congrArg some (by kernel_rfl))
 f266:=Tryd.func48.trans (congrArg some (by kernel_rfl))
 f267:=Tryd.func42.trans (congrArg some (by kernel_rfl))
 f314:=Tryd.func49.trans (congrArg some (by kernel_rfl))
 t3:=Tryd.underlying3
 a3:=Tryd.isAgg3
 z3:=Tryd.sizeOf3
 v3:=Tryd.zeroValue3
 t4:=Tryd.underlying4
 a4:=Tryd.isAgg4
 z4:=Tryd.sizeOf4
 v4:=Tryd.zeroValue4
 t5:=Tryd.underlying5
 a5:=Tryd.isAgg5
 z5:=Tryd.sizeOf5
 v5:=Tryd.zeroValue5
 t9:=Tryd.underlying9
 a9:=Tryd.isAgg9
 z9:=Tryd.sizeOf9
 v9:=Tryd.zeroValue9
 t46:=Tryd.underlying67
 a46:=Tryd.isAgg67
 z46:=Tryd.sizeOf67
 v46:=Tryd.zeroValue67
 t51:=Tryd.underlying69
 a51:=Tryd.isAgg69
 z51:=Tryd.sizeOf69
 v51:=Tryd.zeroValue69
 t59:=Tryd.underlying38
 a59:=Tryd.isAgg38
 z59:=Tryd.sizeOf38
 v59:=Tryd.zeroValue38
 t146:=Tryd.underlying70
 a146:=Tryd.isAgg70
 z146:=Tryd.sizeOf70
 v146:=Tryd.zeroValue70
 g1:=by kernel_rfl }
def Tryd.lays146_ren:Go.Shelf.Ren:=⟨fun | 146=>11 | 221=>18 | 268=>25 | 138=>26 | 143=>27 | 195=>36 | 197=>37 | 218=>38 | 219=>28 | 260=>47 | 217=>39 | 225=>40 | 224=>41 | 267=>42 | 266=>48 | 314=>49 | n=>n,fun | 9=>9 | 31=>28 | 3=>3 | 4=>4 | 0=>0 | 105=>63 | 21=>21 | 5=>5 | 46=>67 | 119=>80 | 139=>83 | 138=>82 | 146=>70 | 51=>69 | n=>n,fun | 1=>0 | 3=>1 | 4=>2 | n=>n⟩
theorem Tryd.lays146:Go.Proofs.Lays.n146 Tryd.prog Tryd.lays146_ren:={
 mixed:=by kernel_rfl
 f138:=Tryd.func26.trans (congrArg some (by kernel_rfl))
 f143:=Tryd.func27.trans (congrArg some (by kernel_rfl))
 f146:=Tryd.func11.trans (congrArg some (by kernel_rfl))
 f195:=Tryd.func36.trans (congrArg some (by kernel_rfl))
 f197:=Tryd.func37.trans (congrArg some (by kernel_rfl))
 f217:=Tryd.func39.trans (congrArg some (by kernel_rfl))
 f218:=Tryd.func38.trans (congrArg some (by kernel_rfl))
 f219:=Tryd.func28.trans (congrArg some (by kernel_rfl))
 f221:=Tryd.func18.trans (congrArg some (by kernel_rfl))
 f224:=Tryd.func41.trans (congrArg some (by kernel_rfl))
 f225:=Tryd.func40.trans (congrArg some (by kernel_rfl))
 f260:=Tryd.func47.trans (congrArg some (by kernel_rfl))
 f266:=Tryd.func48.trans (congrArg some (by kernel_rfl))
 f267:=Tryd.func42.trans (congrArg some (by kernel_rfl))
 f268:=Tryd.func25.trans (congrArg some (by kernel_rfl))
 f314:=Tryd.func49.trans (congrArg some (by kernel_rfl))
 t0:=Tryd.underlying0
 a0:=Tryd.isAgg0
 z0:=Tryd.sizeOf0
 v0:=Tryd.zeroValue0
 t3:=Tryd.underlying3
 a3:=Tryd.isAgg3
 z3:=Tryd.sizeOf3
 v3:=Tryd.zeroValue3
 t4:=Tryd.underlying4
 a4:=Tryd.isAgg4
 z4:=Tryd.sizeOf4
 v4:=Tryd.zeroValue4
 t5:=Tryd.underlying5
 a5:=Tryd.isAgg5
 z5:=Tryd.sizeOf5
 v5:=Tryd.zeroValue5
 t9:=Tryd.underlying9
 a9:=Tryd.isAgg9
 z9:=Tryd.sizeOf9
 v9:=Tryd.zeroValue9
 t21:=Tryd.underlying21
 a21:=Tryd.isAgg21
 z21:=Tryd.sizeOf21
 v21:=Tryd.zeroValue21
 t31:=Tryd.underlying28
 a31:=Tryd.isAgg28
 z31:=Tryd.sizeOf28
 v31:=Tryd.zeroValue28
 t46:=Tryd.underlying67
 a46:=Tryd.isAgg67
 z46:=Tryd.sizeOf67
 v46:=Tryd.zeroValue67
 t51:=Tryd.underlying69
 a51:=Tryd.isAgg69
 z51:=Tryd.sizeOf69
 v51:=Tryd.zeroValue69
 t105:=Tryd.underlying63
 a105:=Tryd.isAgg63
 z105:=Tryd.sizeOf63
 v105:=Tryd.zeroValue63
 t119:=Tryd.underlying80
 a119:=Tryd.isAgg80
 z119:=Tryd.sizeOf80
 t138:=Tryd.underlying82
 a138:=Tryd.isAgg82
 z138:=Tryd.sizeOf82
 v138:=Tryd.zeroValue82
 t139:=Tryd.underlying83
 a139:=Tryd.isAgg83
 z139:=Tryd.sizeOf83
 v139:=Tryd.zeroValue83
 t146:=Tryd.underlying70
 a146:=Tryd.isAgg70
 z146:=Tryd.sizeOf70
 v146:=Tryd.zeroValue70
 g1:=by kernel_rfl
 g3:=by kernel_rfl
 g4:=by kernel_rfl }
end Go.Proofs
namespace Go.Vm
open Go.RowKit Go.Proofs Go.Shelf
class GlTab [Gl]:Prop where
 tab:∀ w:World,(∀ b,b < Gl.G→w.heap[b]? =Gl.g b)→Lib.TabIs Tryd.prog w "internal/strconv.uint64pow10" .u64 Lib.pow10Tab
 ml:∀ w:World,(∀ b,b < Gl.G→w.heap[b]? =Gl.g b)→∃ m,w.cell? ⟨0,0,none⟩=some (.int .i64 m)
 es:∀ w:World,(∀ b,b < Gl.G→w.heap[b]? =Gl.g b)→∃ ev,w.cell? ⟨3,0,none⟩=some ev∧(ev= .nilIface ∨ ∃ te pe,ev= .iface te pe)
 er:∀ w:World,(∀ b,b < Gl.G→w.heap[b]? =Gl.g b)→∃ ev,w.cell? ⟨4,0,none⟩=some ev∧(ev= .nilIface ∨ ∃ te pe,ev= .iface te pe)
theorem cw (w:World) (e:TypeId) (s:ByteArray):Below w.heap.size w (Lib.bytesWorld w e s):=by
 refine ⟨rfl,rfl,rfl,?_,fun j hj=>Lib.bytesWorld_at_old w e s j hj⟩
 simp [Lib.bytesWorld,World.freeze,World.alloc,World.drew,-World.alloc_eq,-World.drew_eq]
theorem bN [Gl] [GlTab] {enc:Int→List X} (henc:∀ a,enc a=[.d (.int .i64 a)]) {C:Int→Option XOut}
  (hC:∀ a out,C a=some out→(-9223372036854775808 ≤ a∧a ≤ 9223372036854775807)∧out= .ret (.d (sD (Lib.itoa a))) []):Sound Tryd.prog 30 (lay enc C):=by
 have h:=qM (P:=Tryd.prog) (f:=30) (enc:=enc) (C:=fun a=>if -9223372036854775808 ≤ a∧a ≤ 9223372036854775807 then some (.d (sD (Lib.itoa a))) else none)
  (fun a x hx=>by rw [henc] at hx; simp only [List.mem_singleton] at hx; exact ⟨_,hx⟩) (xP Tryd.func30 (by kernel_rfl) (by kernel_rfl)) (by
  intro a x S w args hx hb hG
  split at hx
  case isFalse=>cases hx
  rename_i ha
  injection hx with hx
  subst hx
  obtain ⟨bs,hb⟩:=hb
  rw [henc] at hb
  obtain ⟨v,us,_,_,e1,_,⟨_,hv⟩,e2,_⟩:=hb
  simp only [RD] at hv
  subst hv; subst e2
  obtain rfl:args=#[.int .i64 a]:=by cases args; simp_all
  refine (Any.strconv_Itoa Go.Proofs.Tryd.laysM171 a ha.1 ha.2 w (GlTab.tab w hG)).mono ?_
  rintro e w' ⟨he,k,os,rfl⟩
  exact WZ he (Lib.below_grow _ _ (Nat.le_refl _) _ _))
 intro S w args xs bs hx hb out ho
 refine h S w args xs bs hx hb out ?_
 obtain ⟨a,rfl,ho2⟩:=wY ho
 obtain ⟨ha,rfl⟩:=hC _ _ ho2
 have inj:∀ x y,enc x=enc y→x=y:=by
  intro x y e
  rw [henc,henc] at e
  simpa using e
 rw [z7 inj a,if_pos ha]; rfl
def tq (l:List UInt8):Alt Int Int:=match Lib.atoiAll l with
 | .ok v=> .a v
 | .range=> .b (Lib.atoiSat l)
 | _=> .b 0
theorem aF [Gl] [GlTab] {enc:List UInt8→List X} (henc:∀ a,enc a=[.d (sD a)]) {C:List UInt8→Option XOut}
  (hC:∀ a out,C a=some out→a.length ≤ 281474976710656∧(tq a).on (fun r=>some (XOut.ret (.tup [.d (.int .i64 r),.d .nili]) [])) (fun r=>some (.ret (.tup [.d (.int .i64 r),.d (.iface 76 .opq)]) []))=some out):Sound Tryd.prog 29 (lay enc C):=by
 have h:=qM (P:=Tryd.prog) (f:=29) (enc:=enc) (C:=fun a=>if a.length ≤ 281474976710656 then (tq a).on (fun r=>some (.tup [.d (.int .i64 r),.d .nili])) (fun r=>some (.tup [.d (.int .i64 r),.d (.iface 76 .opq)])) else none)
  (fun a x hx=>by rw [henc] at hx; simp only [List.mem_singleton] at hx; exact ⟨_,hx⟩) (xP Tryd.func29 (by kernel_rfl) (by kernel_rfl)) (by
  intro l x S w args hx hb hG
  split at hx
  case isFalse=>cases hx
  rename_i ha
  obtain ⟨bs,hb⟩:=hb
  rw [henc] at hb
  obtain ⟨v,us,_,_,e1,_,⟨_,hv⟩,e2,_⟩:=hb
  simp only [sD,RD] at hv
  subst hv; subst e2
  obtain rfl:args=#[.string ⟨l.toArray⟩]:=by cases args; simp_all
  have hbw:∀ w':World,(w'=w ∨ ∃ q t,w'=Lib.bytesWorld w q t)→Below w.heap.size w w':=by
   rintro w' (rfl | ⟨q,t,rfl⟩)
   ·exact Below.refl _ _
   ·exact cw w q t
  have hpar:∀ (v:Value) (y:D) (r:Int),ParOK [] (.tup [.d (.int .i64 r),.d y]) v:=by
   intro v y r
   simp only [ParOK]
   intro vs hv
   cases hvs:vs.toList with
   | nil=>simp only [ParOKs]
   | cons a r=>
     cases r with
     | nil=>simp only [ParOKs,ParOK,and_self]
     | cons b r=>cases r <;> simp only [ParOKs,ParOK,and_self]
  have e0:(⟨l.toArray⟩:ByteArray).data.toList=l:=rfl
  have e1:(⟨l.toArray⟩:ByteArray).size=l.length:=rfl
  cases hr:Lib.atoiAll l
  ·rename_i v
   simp only [tq,hr,Alt.on,Option.some.injEq] at hx
   subst hx
   refine (Any.strconv_Atoi_ok Go.Proofs.Tryd.laysC172 ⟨l.toArray⟩ (by rw [e1]; omega) v (by rw [e0]; exact hr) w).mono ?_
   rintro e w' ⟨he,hw⟩
   refine ⟨⟨_,[],S,he,⟨_,rfl,_,_,[],[],rfl,rfl,⟨rfl,by simp only [RD]⟩,_,_,[],[],rfl,rfl,⟨rfl,by simp only [RD]⟩,rfl,rfl⟩,List.nodup_nil,fun b hb=>(by cases hb),fun _ _=>rfl,hpar _ _ _⟩,hbw w' ?_⟩
   rcases hw with hw | ⟨t,hw⟩
   ·exact .inl hw
   ·exact .inr ⟨_,t,hw⟩
  ·simp only [tq,hr,Alt.on,Option.some.injEq] at hx
   subst hx
   obtain ⟨ev,h1,h2⟩:=GlTab.es w hG
   refine (Any.strconv_Atoi_syntax Go.Proofs.Tryd.laysC172 ⟨l.toArray⟩ (by rw [e1]; omega) (by rw [e0]; exact hr) ev w h1 h2).mono ?_
   rintro e w' ⟨N,he,_,_,hB⟩
   exact ⟨⟨_,[],S,he,⟨_,rfl,_,_,[],[],rfl,rfl,⟨rfl,by simp only [RD]⟩,_,_,[],[],rfl,rfl,⟨rfl,by simp only [RD]; exact ⟨_,rfl,rfl⟩⟩,rfl,rfl⟩,List.nodup_nil,fun b hb=>(by cases hb),fun _ _=>rfl,hpar _ _ _⟩,hB⟩
  ·simp only [tq,hr,Alt.on,Option.some.injEq] at hx
   subst hx
   obtain ⟨ev,h1,h2⟩:=GlTab.er w hG
   refine (Any.strconv_Atoi_range Go.Proofs.Tryd.laysC172 ⟨l.toArray⟩ (by rw [e1]; omega) (by rw [e0]; exact hr) ev w h1 h2).mono ?_
   rintro e w' ⟨N,he,_,_,hB⟩
   exact ⟨⟨_,[],S,he,⟨_,rfl,_,_,[],[],rfl,rfl,⟨rfl,by simp only [RD]⟩,_,_,[],[],rfl,rfl,⟨rfl,by simp only [RD]; exact ⟨_,rfl,rfl⟩⟩,rfl,rfl⟩,List.nodup_nil,fun b hb=>(by cases hb),fun _ _=>rfl,hpar _ _ _⟩,hB⟩)
 intro S w args xs bs hx hb out ho
 refine h S w args xs bs hx hb out ?_
 obtain ⟨a,rfl,ho2⟩:=wY ho
 obtain ⟨ha,ho3⟩:=hC _ _ ho2
 have inj:∀ x y,enc x=enc y→x=y:=by
  intro x y e
  rw [henc,henc] at e
  simp only [List.cons.injEq,X.d.injEq,ya,and_true] at e
  exact e
 rw [z7 inj a,if_pos ha,← ho3]
 cases tq a <;> rfl
theorem Xv [Gl] [GlTab] {enc:List UInt8×List UInt8→List X} (henc:∀ a,enc a=[.d (sD a.1),.d (sD a.2)]) {C:List UInt8×List UInt8→Option XOut}
  (hC:∀ a out,C a=some out→a.1.length < 4294967281∧out= .ret (.tup [.d (sD (Lib.cut a.1 a.2).1),.d (sD (Lib.cut a.1 a.2).2.1),.d (.bool (Lib.cut a.1 a.2).2.2)]) []):Sound Tryd.prog 12 (lay enc C):=by
 have h:=qM (P:=Tryd.prog) (f:=12) (enc:=enc) (C:=fun a=>if a.1.length < 4294967281 then some (.tup [.d (sD (Lib.cut a.1 a.2).1),.d (sD (Lib.cut a.1 a.2).2.1),.d (.bool (Lib.cut a.1 a.2).2.2)]) else none)
  (fun a x hx=>by rw [henc] at hx; simp only [List.mem_cons,List.not_mem_nil,or_false] at hx; rcases hx with hx | hx <;> exact ⟨_,hx⟩) (xP Tryd.func12 (by kernel_rfl) (by kernel_rfl)) (by
  intro a x S w args hx hb hG
  split at hx
  case isFalse=>cases hx
  rename_i ha
  injection hx with hx
  subst hx
  obtain ⟨l,sep⟩:=a
  obtain ⟨bs,hb⟩:=hb
  rw [henc] at hb
  obtain ⟨v,us,_,_,e1,_,⟨_,hv⟩,v2,us2,_,_,e2,_,⟨_,hv2⟩,e3,_⟩:=hb
  simp only [sD,RD] at hv hv2
  subst hv; subst hv2; subst e3; subst e2
  obtain rfl:args=#[.string ⟨l.toArray⟩,.string ⟨sep.toArray⟩]:=by cases args; simp_all
  obtain ⟨m,hm⟩:=GlTab.ml w hG
  refine (Any.strings_Cut Go.Proofs.Tryd.lays145 ⟨l.toArray⟩ ⟨sep.toArray⟩ m w (by simpa [ByteArray.size] using ha) hm).mono ?_
  rintro e w' ⟨he,n,rfl⟩
  refine ⟨⟨_,[],S,he,⟨_,rfl,_,_,[],[],rfl,rfl,⟨rfl,by simp only [sD,RD]⟩,_,_,[],[],rfl,rfl,⟨rfl,by simp only [sD,RD]⟩,_,_,[],[],rfl,rfl,⟨rfl,by simp only [RD]⟩,rfl,rfl⟩,List.nodup_nil,fun b hb=>(by cases hb),fun _ _=>rfl,?_⟩,⟨rfl,rfl,rfl,Nat.le_refl _,fun _ _=>rfl⟩⟩
  simp only [ParOK]
  intro vs hv
  injection hv with hv
  subst hv
  simp only [ParOKs,ParOK,and_self])
 intro S w args xs bs hx hb out ho
 refine h S w args xs bs hx hb out ?_
 obtain ⟨a,rfl,ho2⟩:=wY ho
 obtain ⟨ha,rfl⟩:=hC _ _ ho2
 have inj:∀ x y,enc x=enc y→x=y:=by
  intro x y e
  rw [henc,henc] at e
  simp only [List.cons.injEq,X.d.injEq,ya,and_true] at e
  exact Prod.ext e.1 e.2
 rw [z7 inj a,if_pos ha]; rfl
theorem dO {S:Nat→Nat} {w:World} {b:Nat}:∀ {l:List (List UInt8)} {o:Nat},o+l.length ≤ S b→(∀ (j:Nat) (x:List UInt8),l[j]? =some x→w.cell? ⟨b,o+j,none⟩=some (.string ⟨x.toArray⟩))→RDat S w (zf cS l) b o
 | [],o,hs,h=>by simp only [zf,List.flatMap_nil,RDat]
 | y :: l,o,hs,h=>by
   have e:zf cS (y :: l)=sD y :: zf cS l:=rfl
   rw [e]
   simp only [RDat]
   rw [List.length_cons] at hs
   refine ⟨by omega,⟨_,h 0 y rfl,by simp only [sD,RD]⟩,dO (by omega) fun j x hj=>?_⟩
   rw [show o+1+j=o+(j+1) by omega]
   exact h (j+1) x hj
theorem cU [Gl] [GlTab] {enc:List UInt8×List UInt8→List X} (henc:∀ a,enc a=[.d (sD a.1),.d (sD a.2)]) {C:List UInt8×List UInt8→Option XOut}
  (hC:∀ a out,C a=some out→(a.1.length < 4294967281∧1 ≤ a.2.length)∧out= .ret (.d (zb cS (Lib.split a.1 a.2))) []):Sound Tryd.prog 11 (lay enc C):=by
 have h:=qM (P:=Tryd.prog) (f:=11) (enc:=enc) (C:=fun a=>if a.1.length < 4294967281∧1 ≤ a.2.length then some (.d (zb cS (Lib.split a.1 a.2))) else none)
  (fun a x hx=>by rw [henc] at hx; simp only [List.mem_cons,List.not_mem_nil,or_false] at hx; rcases hx with hx | hx <;> exact ⟨_,hx⟩) (xP Tryd.func11 (by kernel_rfl) (by kernel_rfl)) (by
  intro a x S w args hx hb hG
  split at hx
  case isFalse=>cases hx
  rename_i ha
  injection hx with hx
  subst hx
  obtain ⟨l,sep⟩:=a
  obtain ⟨bs,hb⟩:=hb
  rw [henc] at hb
  obtain ⟨v,us,_,_,e1,_,⟨_,hv⟩,v2,us2,_,_,e2,_,⟨_,hv2⟩,e3,_⟩:=hb
  simp only [sD,RD] at hv hv2
  subst hv; subst hv2; subst e3; subst e2
  obtain rfl:args=#[.string ⟨l.toArray⟩,.string ⟨sep.toArray⟩]:=by cases args; simp_all
  obtain ⟨m,hm⟩:=GlTab.ml w hG
  have h1:1 ≤ (⟨sep.toArray⟩:ByteArray).size:=by simpa [ByteArray.size] using ha.2
  refine (Any.strings_Split Go.Proofs.Tryd.lays146 (by kernel_rfl) ⟨l.toArray⟩ ⟨sep.toArray⟩ m w (by simpa [ByteArray.size] using ha.1) hm h1).mono ?_
  rintro e w' ⟨he,rfl⟩
  have el:(Lib.splitB ⟨sep.toArray⟩ 0 (Lib.countB ⟨l.toArray⟩ ⟨sep.toArray⟩) ⟨l.toArray⟩).map (·.data.toList)=Lib.split l sep:=(Lib.splitB_data ⟨sep.toArray⟩ 0 _ ⟨l.toArray⟩).trans rfl
  have en:=Lib.splitB_all ⟨sep.toArray⟩ h1 0 _ ⟨l.toArray⟩ rfl
  have en':(Lib.split l sep).length=Lib.countB ⟨l.toArray⟩ ⟨sep.toArray⟩+1:=by rw [← el,List.length_map,en]
  have hcell:∀ (j:Nat) (x:List UInt8),(Lib.split l sep)[j]? =some x→
    (w.alloc (.cells ((Lib.splitB ⟨sep.toArray⟩ 0 (Lib.countB ⟨l.toArray⟩ ⟨sep.toArray⟩) ⟨l.toArray⟩).map Value.string).toArray 9)).cell? ⟨w.heap.size,j,none⟩=some (.string ⟨x.toArray⟩):=by
   intro j x hj
   rw [← el,List.getElem?_map] at hj
   obtain ⟨y,hy,rfl⟩:=Option.map_eq_some_iff.1 hj
   have hh:(w.alloc (.cells ((Lib.splitB ⟨sep.toArray⟩ 0 (Lib.countB ⟨l.toArray⟩ ⟨sep.toArray⟩) ⟨l.toArray⟩).map Value.string).toArray 9)).heap[w.heap.size]? =some (.cells ((Lib.splitB ⟨sep.toArray⟩ 0 (Lib.countB ⟨l.toArray⟩ ⟨sep.toArray⟩) ⟨l.toArray⟩).map Value.string).toArray 9 (0,0)):=by
    show (w.heap.push _)[w.heap.size]? =_
    simp
   simp only [World.cell?,hh]
   simp [hy]
  refine ⟨⟨_,[],fun b=>if b=w.heap.size then (Lib.split l sep).length else S b,he,⟨rfl,?_⟩,List.nodup_nil,fun b hb=>(by cases hb),fun b hb=>if_neg (by omega),?_⟩,(Below.refl _ w).alloc (Nat.le_refl _) _⟩
  ·simp only [zb,RD]
   refine ⟨some ⟨w.heap.size,0,none⟩,Lib.countB ⟨l.toArray⟩ ⟨sep.toArray⟩+1,by rw [en'],Nat.le_of_eq en',(fun h=>nomatch h),fun p hp=>?_⟩
   injection hp with hp
   subst hp
   refine ⟨.inl rfl,dO (by simp) fun j x hj=>?_⟩
   rw [Nat.zero_add]
   exact hcell j x hj
  ·simp only [ParOK])
 intro S w args xs bs hx hb out ho
 refine h S w args xs bs hx hb out ?_
 obtain ⟨a,rfl,ho2⟩:=wY ho
 obtain ⟨ha,rfl⟩:=hC _ _ ho2
 have inj:∀ x y,enc x=enc y→x=y:=by
  intro x y e
  rw [henc,henc] at e
  simp only [List.cons.injEq,X.d.injEq,ya,and_true] at e
  exact Prod.ext e.1 e.2
 rw [z7 inj a,if_pos ha]; rfl
end Go.Vm
