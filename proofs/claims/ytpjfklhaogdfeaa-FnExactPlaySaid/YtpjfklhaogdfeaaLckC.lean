/- The numbers under which this dump holds the library's lock, and that it holds it. -/
import Derived.Test.YtpjfklhaogdfeaaProg
import Derived.Conc.MuLib
import Derived.KernelRfl
set_option linter.all false
set_option maxRecDepth 100000
namespace Go.Proofs
abbrev Tryd.muLink:Go.Conc.Locks.MuLink:={ lock:=104,unlock:=105,ilock:=138,iunlock:=139,lockSlow:=174,unlockSlow:=177,disable:=170,enable:=172,acquire:=173,relMerge:=175,cas32:=171,add32:=176,tMutex:=150,tIMutex:=148,tPMutex:=205,tPIMutex:=231,tPI32:=233,tUP:=195,tNoCopy:=145,tU32:=146 }
theorem Tryd.muLib:Go.Conc.Locks.MuLib Try.prog Tryd.muLink:=
 ⟨Try.func104,Try.func105,Try.func138,Try.func139,Try.func170,Try.func172,Try.func173,Try.func175,Try.func171,Try.func176,Try.underlying148,Try.runUnderlying148,Try.sizeOf148,Try.isAgg148,Try.zeroValue148,Try.underlying150,Try.runUnderlying150,Try.sizeOf150,Try.isAgg150,Try.zeroValue150,Try.underlying205,Try.runUnderlying205,Try.sizeOf205,Try.isAgg205,Try.zeroValue205,Try.underlying231,Try.runUnderlying231,Try.sizeOf231,Try.isAgg231,Try.zeroValue231,Try.underlying233,Try.runUnderlying233,Try.sizeOf233,Try.isAgg233,Try.zeroValue233,Try.underlying195,Try.runUnderlying195,Try.sizeOf195,Try.isAgg195,Try.zeroValue195,Try.underlying145,Try.runUnderlying145,Try.sizeOf145,Try.isAgg145,Try.zeroValue145,Try.underlying21,Try.runUnderlying21,Try.sizeOf21,Try.isAgg21,Try.zeroValue21,(by kernel_rfl)⟩
end Go.Proofs
