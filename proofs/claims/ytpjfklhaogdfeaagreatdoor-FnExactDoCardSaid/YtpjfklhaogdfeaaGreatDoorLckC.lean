/- The numbers under which this dump holds the library's lock, and that it holds it. -/
import Derived.Test.YtpjfklhaogdfeaaGreatDoorProg
import Derived.Conc.MuLib
import Derived.KernelRfl
set_option linter.all false
set_option maxRecDepth 100000
namespace Go.Proofs
abbrev Tryd.muLink:Go.Conc.Locks.MuLink:={ lock:=41,unlock:=42,ilock:=58,iunlock:=59,lockSlow:=68,unlockSlow:=71,disable:=64,enable:=66,acquire:=67,relMerge:=69,cas32:=65,add32:=70,tMutex:=74,tIMutex:=72,tPMutex:=121,tPIMutex:=125,tPI32:=127,tUP:=83,tNoCopy:=69,tU32:=70 }
theorem Tryd.muLib:Go.Conc.Locks.MuLib Tryz.prog Tryd.muLink:=
 ⟨Tryz.func41,Tryz.func42,Tryz.func58,Tryz.func59,Tryz.func64,Tryz.func66,Tryz.func67,Tryz.func69,Tryz.func65,Tryz.func70,Tryz.underlying72,Tryz.runUnderlying72,Tryz.sizeOf72,Tryz.isAgg72,Tryz.zeroValue72,Tryz.underlying74,Tryz.runUnderlying74,Tryz.sizeOf74,Tryz.isAgg74,Tryz.zeroValue74,Tryz.underlying121,Tryz.runUnderlying121,Tryz.sizeOf121,Tryz.isAgg121,Tryz.zeroValue121,Tryz.underlying125,Tryz.runUnderlying125,Tryz.sizeOf125,Tryz.isAgg125,Tryz.zeroValue125,Tryz.underlying127,Tryz.runUnderlying127,Tryz.sizeOf127,Tryz.isAgg127,Tryz.zeroValue127,Tryz.underlying83,Tryz.runUnderlying83,Tryz.sizeOf83,Tryz.isAgg83,Tryz.zeroValue83,Tryz.underlying69,Tryz.runUnderlying69,Tryz.sizeOf69,Tryz.isAgg69,Tryz.zeroValue69,Tryz.underlying21,Tryz.runUnderlying21,Tryz.sizeOf21,Tryz.isAgg21,Tryz.zeroValue21,(by kernel_rfl)⟩
end Go.Proofs
