/- The library's functions sort.SliceStable over this program, as contracts of the abstract machine. The layings were printed by the kit's lay-shelf.mjs and lay-plain.mjs. -/
import Derived.Test.YtpjfklhaogdfeaaVmShelf
import Derived.Test.YtpjfklhaogdfeaaVmLayer
import Derived.Test.YtpjfklhaogdfeaaVmKind
import Derived.Test.YtpjfklhaogdfeaaProg
import Derived.Shelf.GgSortMore.Stable
import Derived.KernelRfl
import Derived.Lib.AppendIntMem
set_option linter.all false
set_option maxRecDepth 100000
namespace Go.Proofs
open Go.Shelf
def Try.laysGt8_ren:Go.Shelf.Ren:=⟨fun | 8=>91 | 13=>133 | 14=>134 | 16=>136 | 15=>135 | 29=>167 | 30=>168 | 42=>195 | 49=>216 | n=>n,fun | 20=>20 | 26=>129 | 36=>198 | 0=>0 | 38=>200 | 42=>204 | 3=>3 | 4=>4 | 47=>240 | 17=>17 | 33=>195 | 34=>196 | 89=>290 | 12=>12 | 56=>146 | 82=>284 | 5=>5 | 83=>285 | 84=>286 | 85=>207 | 86=>287 | 87=>288 | n=>n,fun | n=>n⟩
theorem Try.laysGt8:Go.Proofs.LaysGt.n8 Try.prog Try.laysGt8_ren:={
 mixed:=by kernel_rfl
 f8:=Try.func91.trans (congrArg some (by kernel_rfl))
 f13:=Try.func133.trans (congrArg some (by kernel_rfl))
 f14:=Try.func134.trans (congrArg some (by kernel_rfl))
 f15:=Try.func135.trans (congrArg some (by kernel_rfl))
 f16:=Try.func136.trans (congrArg some (by kernel_rfl))
 f29:=Try.func167.trans (congrArg some (by kernel_rfl))
 f30:=Try.func168.trans (congrArg some (by kernel_rfl))
 f42:=Try.func195.trans (congrArg some (by kernel_rfl))
 f49:=Try.func216.trans (congrArg some (by kernel_rfl))
 t0:=Try.underlying0
 a0:=Try.isAgg0
 z0:=Try.sizeOf0
 v0:=Try.zeroValue0
 i0:=by kernel_rfl
 t3:=Try.underlying3
 a3:=Try.isAgg3
 z3:=Try.sizeOf3
 v3:=Try.zeroValue3
 i3:=by kernel_rfl
 t4:=Try.underlying4
 a4:=Try.isAgg4
 z4:=Try.sizeOf4
 v4:=Try.zeroValue4
 i4:=by kernel_rfl
 t5:=Try.underlying5
 a5:=Try.isAgg5
 z5:=Try.sizeOf5
 v5:=Try.zeroValue5
 i5:=by kernel_rfl
 t12:=Try.underlying12
 a12:=Try.isAgg12
 z12:=Try.sizeOf12
 v12:=Try.zeroValue12
 i12:=by kernel_rfl
 t17:=Try.underlying17
 a17:=Try.isAgg17
 z17:=Try.sizeOf17
 v17:=Try.zeroValue17
 i17:=by kernel_rfl
 t20:=Try.underlying20
 a20:=Try.isAgg20
 z20:=Try.sizeOf20
 v20:=Try.zeroValue20
 i20:=by kernel_rfl
 t26:=Try.underlying129
 a26:=Try.isAgg129
 z26:=Try.sizeOf129
 v26:=Try.zeroValue129
 i26:=by kernel_rfl
 t33:=Try.underlying195
 a33:=Try.isAgg195
 z33:=Try.sizeOf195
 v33:=Try.zeroValue195
 i33:=by kernel_rfl
 t34:=Try.underlying196
 a34:=Try.isAgg196
 z34:=Try.sizeOf196
 v34:=Try.zeroValue196
 i34:=by kernel_rfl
 t36:=Try.underlying198
 a36:=Try.isAgg198
 z36:=Try.sizeOf198
 v36:=Try.zeroValue198
 i36:=by kernel_rfl
 t38:=Try.underlying200
 a38:=Try.isAgg200
 z38:=Try.sizeOf200
 v38:=Try.zeroValue200
 i38:=by kernel_rfl
 t42:=Try.underlying204
 a42:=Try.isAgg204
 z42:=Try.sizeOf204
 v42:=Try.zeroValue204
 i42:=by kernel_rfl
 t47:=Try.underlying240
 a47:=Try.isAgg240
 z47:=Try.sizeOf240
 v47:=Try.zeroValue240
 i47:=by kernel_rfl
 t56:=Try.underlying146
 a56:=Try.isAgg146
 z56:=Try.sizeOf146
 v56:=Try.zeroValue146
 i56:=by kernel_rfl
 t82:=Try.underlying284
 a82:=Try.isAgg284
 z82:=Try.sizeOf284
 v82:=Try.zeroValue284
 i82:=by kernel_rfl
 t83:=Try.underlying285
 a83:=Try.isAgg285
 z83:=Try.sizeOf285
 v83:=Try.zeroValue285
 i83:=by kernel_rfl
 t84:=Try.underlying286
 a84:=Try.isAgg286
 z84:=Try.sizeOf286
 v84:=Try.zeroValue286
 i84:=by kernel_rfl
 t85:=Try.underlying207
 a85:=Try.isAgg207
 z85:=Try.sizeOf207
 v85:=Try.zeroValue207
 i85:=by kernel_rfl
 t86:=Try.underlying287
 a86:=Try.isAgg287
 z86:=Try.sizeOf287
 v86:=Try.zeroValue287
 i86:=by kernel_rfl
 t87:=Try.underlying288
 a87:=Try.isAgg288
 z87:=Try.sizeOf288
 v87:=Try.zeroValue288
 i87:=by kernel_rfl
 t89:=Try.underlying290
 a89:=Try.isAgg290
 z89:=Try.sizeOf290
 v89:=Try.zeroValue290
 i89:=by kernel_rfl }
end Go.Proofs
namespace Go.Vm
open Go.RowKit Go.Proofs Go.Shelf
end Go.Vm
