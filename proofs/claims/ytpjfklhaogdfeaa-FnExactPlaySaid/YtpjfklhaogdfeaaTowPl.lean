/- The contracts of the functions under laws_FnExactPlay, one upon the other. Printed by a program of this session. -/
import Derived.Test.YtpjfklhaogdfeaaFPl
import Derived.Test.YtpjfklhaogdfeaaPPlY
import Derived.Test.YtpjfklhaogdfeaaVmLayer
import Derived.Test.YtpjfklhaogdfeaaVmShr
import Derived.Test.YtpjfklhaogdfeaaProg
set_option linter.all false
set_option maxRecDepth 100000
namespace Go.Proofs.Ytpjfklhaogdfeaa.TowPl
open Go.Vm
instance gl:Gl:=⟨0,fun _=>none⟩
theorem mixed:Try.prog.follows .mixedOrders=true:=by kernel_rfl
noncomputable def G0:Ctx:=Γ0 zi
theorem so0:SoundAll Try.prog G0:=Γ0_sound _ _
noncomputable def sO (zf:List UInt8) (zg:List UInt8) (a1:Int):Option (Int):=yA (rT zf zg a1) (yV zf zg a1)
def sL (a:(List UInt8)×(List UInt8)×Int):List X:=[.agg [.d (sD a.1),.d (sD a.2.1)],.d (.int .i64 a.2.2)]
noncomputable def jg:List X→Option XOut:=lay sL fun a=>((sO a.1 a.2.1 a.2.2)).bind fun r=>some (.ret (.d (.int .i64 r)) [])
theorem gY (zf:List UInt8) (zg:List UInt8) (a1:Int):jg [.agg [.d (sD zf),.d (sD zg)],.d (.int .i64 a1)]=((sO zf zg a1)).bind fun r=>some (.ret (.d (.int .i64 r)) []):=yk (enc:=sL) (by
 intro a b h
 simp only [sL,List.cons.injEq,X.d.injEq,X.res.injEq,RK.bld.injEq,X.agg.injEq,X.box.injEq,D.int.injEq,D.bool.injEq,D.fn.injEq,yo,zU,zT,and_true,true_and,and_assoc] at h
 simp only [Prod.ext_iff]; exact h) (zf,zg,a1)
noncomputable def G1:Ctx:=G0.with 94 jg
theorem so1:SoundAll Try.prog G1:=by
 refine yQ (cuts:=[]) (k:=2) (cd:=c_laws_szFile) (rs:=sw) (enc:=sL) mixed so0 Try.func94 (by kernel_rfl) (by kernel_rfl) (by kernel_rfl) (by kernel_rfl) (by kernel_rfl) (by kernel_rfl) (wk:=fun y=>nocap y) Same.nocap ?_
 intro a out ho
 obtain ⟨r,h1,h2⟩:=Option.bind_eq_some_iff.mp ho
 obtain ⟨hp,rfl⟩:=zy h1
 obtain ⟨N,hN⟩:=bF a.1 a.2.1 a.2.2 hp
 refine ⟨N,?_⟩
 refine ((yf (fun y=>some (nocap y)) 2 c_laws_szFile sw (sL a) ⟨rfl,rfl,rfl⟩).trans (bG ⟨G0,[],[],[],N,sw,none,fun _ _=>none,fun y=>some (nocap y)⟩ ⟨rfl,rfl,rfl,rfl,rfl,fun _=>rfl,fun _=>rfl⟩ a.1 a.2.1 a.2.2)).trans ?_
 show (sV N a.1 a.2.1 a.2.2).bind _=_
 rw [hN]; exact h2
noncomputable def tP (a0:List TFile) (a1:Int):Option (Int):=yA (t8 a0 a1) (wR a0 a1)
def tN (a:(List TFile)×Int):List X:=[.d (zb cFile a.1),.d (.int .i64 a.2)]
noncomputable def kf:List X→Option XOut:=lay tN fun a=>((tP a.1 a.2)).bind fun r=>some (.ret (.d (.int .i64 r)) [])
theorem iW (a0:List TFile) (a1:Int):kf [.d (zb cFile a0),.d (.int .i64 a1)]=((tP a0 a1)).bind fun r=>some (.ret (.d (.int .i64 r)) []):=yk (enc:=tN) (by
 intro a b h
 simp only [tN,List.cons.injEq,X.d.injEq,X.res.injEq,RK.bld.injEq,X.agg.injEq,X.box.injEq,D.int.injEq,D.bool.injEq,D.fn.injEq,yo,zU,zT,and_true,true_and,and_assoc] at h
 simp only [Prod.ext_iff]; exact h) (a0,a1)
noncomputable def G2:Ctx:=G1.with 52 kf
theorem so2:SoundAll Try.prog G2:=by
 refine yQ (cuts:=[]) (k:=2) (cd:=c_laws_szFileS) (rs:=wW) (enc:=tN) mixed so1 Try.func52 (by kernel_rfl) (by kernel_rfl) (by kernel_rfl) (by kernel_rfl) (by kernel_rfl) (by kernel_rfl) (wk:=fun y=>nocap y) Same.nocap ?_
 intro a out ho
 obtain ⟨r,h1,h2⟩:=Option.bind_eq_some_iff.mp ho
 obtain ⟨hp,rfl⟩:=zy h1
 obtain ⟨N,hN⟩:=dx sO (fun _ _ _ h=>zz h) a.1 a.2 hp
 refine ⟨N,?_⟩
 refine ((yf (fun y=>some (nocap y)) 2 c_laws_szFileS wW (tN a) ⟨rfl,rfl,rfl⟩).trans (dy ⟨G1,[],[],[],N,wW,none,fun _ _=>none,fun y=>some (nocap y)⟩ ⟨rfl,rfl,rfl,rfl,rfl,fun _=>rfl,fun _=>rfl⟩ sO ⟨rfl,(fun zf zg a1=>(show G1 94 _=_ from rfl).trans (gY zf zg a1))⟩ a.1 a.2)).trans ?_
 show (tv sO N a.1 a.2).bind _=_
 rw [hN]; exact h2
noncomputable def sU (a0_Files:List TFile) (a1:Int):Option (Int):=yA (p5 a0_Files a1) (vG a0_Files a1)
def sW (a:(List TFile)×Int):List X:=[.agg [.d (zb cFile a.1)],.d (.int .i64 a.2)]
noncomputable def kY:List X→Option XOut:=lay sW fun a=>((sU a.1 a.2)).bind fun r=>some (.ret (.d (.int .i64 r)) [])
theorem g9 (a0_Files:List TFile) (a1:Int):kY [.agg [.d (zb cFile a0_Files)],.d (.int .i64 a1)]=((sU a0_Files a1)).bind fun r=>some (.ret (.d (.int .i64 r)) []):=yk (enc:=sW) (by
 intro a b h
 simp only [sW,List.cons.injEq,X.d.injEq,X.res.injEq,RK.bld.injEq,X.agg.injEq,X.box.injEq,D.int.injEq,D.bool.injEq,D.fn.injEq,yo,zU,zT,and_true,true_and,and_assoc] at h
 simp only [Prod.ext_iff]; exact h) (a0_Files,a1)
noncomputable def G3:Ctx:=G2.with 13 kY
theorem so3:SoundAll Try.prog G3:=by
 refine yQ (cuts:=[]) (k:=2) (cd:=c_laws_szDisk) (rs:=ry) (enc:=sW) mixed so2 Try.func13 (by kernel_rfl) (by kernel_rfl) (by kernel_rfl) (by kernel_rfl) (by kernel_rfl) (by kernel_rfl) (wk:=fun y=>nocap y) Same.nocap ?_
 intro a out ho
 obtain ⟨r,h1,h2⟩:=Option.bind_eq_some_iff.mp ho
 obtain ⟨hp,rfl⟩:=zy h1
 obtain ⟨N,hN⟩:=bv tP (fun _ _ h=>zz h) a.1 a.2 hp
 refine ⟨N,?_⟩
 refine ((yf (fun y=>some (nocap y)) 2 c_laws_szDisk ry (sW a) ⟨rfl,rfl,rfl⟩).trans (bd ⟨G2,[],[],[],N,ry,none,fun _ _=>none,fun y=>some (nocap y)⟩ ⟨rfl,rfl,rfl,rfl,rfl,fun _=>rfl,fun _=>rfl⟩ tP ⟨rfl,(fun a0 a1=>(show G2 52 _=_ from rfl).trans (iW a0 a1))⟩ a.1 a.2)).trans ?_
 show (sJ tP N a.1 a.2).bind _=_
 rw [hN]; exact h2
noncomputable def qB (zl:Int) (zf:List UInt8) (zx:List UInt8) (zg:List UInt8) (a1:Int):Option (Int):=yA (qH zl zf zx zg a1) (xa zl zf zx zg a1)
def qz (a:Int×(List UInt8)×(List UInt8)×(List UInt8)×Int):List X:=[.agg [.d (.int .i64 a.1),.d (sD a.2.1),.d (sD a.2.2.1),.d (sD a.2.2.2.1)],.d (.int .i64 a.2.2.2.2)]
noncomputable def jR:List X→Option XOut:=lay qz fun a=>((qB a.1 a.2.1 a.2.2.1 a.2.2.2.1 a.2.2.2.2)).bind fun r=>some (.ret (.d (.int .i64 r)) [])
theorem eW (zl:Int) (zf:List UInt8) (zx:List UInt8) (zg:List UInt8) (a1:Int):jR [.agg [.d (.int .i64 zl),.d (sD zf),.d (sD zx),.d (sD zg)],.d (.int .i64 a1)]=((qB zl zf zx zg a1)).bind fun r=>some (.ret (.d (.int .i64 r)) []):=yk (enc:=qz) (by
 intro a b h
 simp only [qz,List.cons.injEq,X.d.injEq,X.res.injEq,RK.bld.injEq,X.agg.injEq,X.box.injEq,D.int.injEq,D.bool.injEq,D.fn.injEq,yo,zU,zT,and_true,true_and,and_assoc] at h
 simp only [Prod.ext_iff]; exact h) (zl,zf,zx,zg,a1)
noncomputable def G4:Ctx:=G3.with 53 jR
theorem so4:SoundAll Try.prog G4:=by
 refine yQ (cuts:=[]) (k:=2) (cd:=c_laws_szAct) (rs:=qk) (enc:=qz) mixed so3 Try.func53 (by kernel_rfl) (by kernel_rfl) (by kernel_rfl) (by kernel_rfl) (by kernel_rfl) (by kernel_rfl) (wk:=fun y=>nocap y) Same.nocap ?_
 intro a out ho
 obtain ⟨r,h1,h2⟩:=Option.bind_eq_some_iff.mp ho
 obtain ⟨hp,rfl⟩:=zy h1
 obtain ⟨N,hN⟩:=ZR a.1 a.2.1 a.2.2.1 a.2.2.2.1 a.2.2.2.2 hp
 refine ⟨N,?_⟩
 refine ((yf (fun y=>some (nocap y)) 2 c_laws_szAct qk (qz a) ⟨rfl,rfl,rfl⟩).trans (aY ⟨G3,[],[],[],N,qk,none,fun _ _=>none,fun y=>some (nocap y)⟩ ⟨rfl,rfl,rfl,rfl,rfl,fun _=>rfl,fun _=>rfl⟩ a.1 a.2.1 a.2.2.1 a.2.2.2.1 a.2.2.2.2)).trans ?_
 show (qd N a.1 a.2.1 a.2.2.1 a.2.2.2.1 a.2.2.2.2).bind _=_
 rw [hN]; exact h2
noncomputable def s8 (a0:List TAct) (a1:Int):Option (Int):=yA (om a0 a1) (uw a0 a1)
def su (a:(List TAct)×Int):List X:=[.d (zb cAct a.1),.d (.int .i64 a.2)]
noncomputable def jl:List X→Option XOut:=lay su fun a=>((s8 a.1 a.2)).bind fun r=>some (.ret (.d (.int .i64 r)) [])
theorem gR (a0:List TAct) (a1:Int):jl [.d (zb cAct a0),.d (.int .i64 a1)]=((s8 a0 a1)).bind fun r=>some (.ret (.d (.int .i64 r)) []):=yk (enc:=su) (by
 intro a b h
 simp only [su,List.cons.injEq,X.d.injEq,X.res.injEq,RK.bld.injEq,X.agg.injEq,X.box.injEq,D.int.injEq,D.bool.injEq,D.fn.injEq,yo,zU,zT,and_true,true_and,and_assoc] at h
 simp only [Prod.ext_iff]; exact h) (a0,a1)
noncomputable def G5:Ctx:=G4.with 14 jl
theorem so5:SoundAll Try.prog G5:=by
 refine yQ (cuts:=[]) (k:=2) (cd:=c_laws_szActS) (rs:=vB) (enc:=su) mixed so4 Try.func14 (by kernel_rfl) (by kernel_rfl) (by kernel_rfl) (by kernel_rfl) (by kernel_rfl) (by kernel_rfl) (wk:=fun y=>nocap y) Same.nocap ?_
 intro a out ho
 obtain ⟨r,h1,h2⟩:=Option.bind_eq_some_iff.mp ho
 obtain ⟨hp,rfl⟩:=zy h1
 obtain ⟨N,hN⟩:=bl qB (fun _ _ _ _ _ h=>zz h) a.1 a.2 hp
 refine ⟨N,?_⟩
 refine ((yf (fun y=>some (nocap y)) 2 c_laws_szActS vB (su a) ⟨rfl,rfl,rfl⟩).trans (bu ⟨G4,[],[],[],N,vB,none,fun _ _=>none,fun y=>some (nocap y)⟩ ⟨rfl,rfl,rfl,rfl,rfl,fun _=>rfl,fun _=>rfl⟩ qB ⟨rfl,(fun zl zf zx zg a1=>(show G4 53 _=_ from rfl).trans (eW zl zf zx zg a1))⟩ a.1 a.2)).trans ?_
 show (rl qB N a.1 a.2).bind _=_
 rw [hN]; exact h2
noncomputable def rb (zf:List UInt8) (zg:List UInt8):Option (List UInt8×List UInt8):=yA (rW zf zg) (sE zf zg)
def sI (a:(List UInt8)×(List UInt8)):List X:=[.agg [.d (sD a.1),.d (sD a.2)]]
noncomputable def je:List X→Option XOut:=lay sI fun a=>((rb a.1 a.2)).bind fun r=>some (.ret (.agg [.d (sD r.1),.d (sD r.2)]) [])
theorem gG (zf:List UInt8) (zg:List UInt8):je [.agg [.d (sD zf),.d (sD zg)]]=((rb zf zg)).bind fun r=>some (.ret (.agg [.d (sD r.1),.d (sD r.2)]) []):=yk (enc:=sI) (by
 intro a b h
 simp only [sI,List.cons.injEq,X.d.injEq,X.res.injEq,RK.bld.injEq,X.agg.injEq,X.box.injEq,D.int.injEq,D.bool.injEq,D.fn.injEq,yo,zU,zT,and_true,true_and,and_assoc] at h
 simp only [Prod.ext_iff]; exact h) (zf,zg)
noncomputable def G6:Ctx:=G5.with 100 je
theorem so6:SoundAll Try.prog G6:=by
 refine yQ (cuts:=[]) (k:=1) (cd:=c_laws_toFile) (rs:=rf) (enc:=sI) mixed so5 Try.func100 (by kernel_rfl) (by kernel_rfl) (by kernel_rfl) (by kernel_rfl) (by kernel_rfl) (by kernel_rfl) (wk:=fun y=>nocap y) Same.nocap ?_
 intro a out ho
 obtain ⟨r,h1,h2⟩:=Option.bind_eq_some_iff.mp ho
 obtain ⟨hp,rfl⟩:=zy h1
 obtain ⟨N,hN⟩:=be a.1 a.2 hp
 refine ⟨N,?_⟩
 refine ((yf (fun y=>some (nocap y)) 1 c_laws_toFile rf (sI a) ⟨rfl,rfl,rfl⟩).trans (bw ⟨G5,[],[],[],N,rf,none,fun _ _=>none,fun y=>some (nocap y)⟩ ⟨rfl,rfl,rfl,rfl,rfl,fun _=>rfl,fun _=>rfl⟩ a.1 a.2)).trans ?_
 show (pF N a.1 a.2).bind _=_
 rw [hN]; exact h2
noncomputable def tE (a0:List TFile):Option (List TFile):=yA (pQ a0) (qJ a0)
def tR (a:(List TFile)):List X:=[.d (zb cFile a)]
noncomputable def kb:List X→Option XOut:=lay tR fun a=>((tE a)).bind fun r=>some (.ret (ye (cFile) 136 none false r) [])
theorem iR (a0:List TFile):kb [.d (zb cFile a0)]=((tE a0)).bind fun r=>some (.ret (ye (cFile) 136 none false r) []):=yk (enc:=tR) (by
 intro a b h
 simp only [tR,List.cons.injEq,X.d.injEq,X.res.injEq,RK.bld.injEq,X.agg.injEq,X.box.injEq,D.int.injEq,D.bool.injEq,D.fn.injEq,yo,zU,zT,and_true,true_and,and_assoc] at h
 exact h) a0
noncomputable def G7:Ctx:=G6.with 57 kb
theorem so7:SoundAll Try.prog G7:=by
 refine yQ (cuts:=[]) (k:=1) (cd:=c_laws_toFileS) (rs:=wU) (enc:=tR) mixed so6 Try.func57 (by kernel_rfl) (by kernel_rfl) (by kernel_rfl) (by kernel_rfl) (by kernel_rfl) (by kernel_rfl) (wk:=fun y=>nocap y) Same.nocap ?_
 intro a out ho
 obtain ⟨r,h1,h2⟩:=Option.bind_eq_some_iff.mp ho
 obtain ⟨hp,rfl⟩:=zy h1
 obtain ⟨N,hN⟩:=dr rb (fun _ _ h=>zz h) a hp
 refine ⟨N,?_⟩
 refine ((yf (fun y=>some (nocap y)) 1 c_laws_toFileS wU (tR a) ⟨rfl,rfl,rfl⟩).trans (e9 ⟨G6,[],[],[],N,wU,none,fun _ _=>none,fun y=>some (nocap y)⟩ ⟨rfl,rfl,rfl,rfl,rfl,fun _=>rfl,fun _=>rfl⟩ rb ⟨rfl,(fun zf zg=>(show G6 100 _=_ from rfl).trans (gG zf zg))⟩ a)).trans ?_
 show (tz rb N a).bind _=_
 rw [hN]; exact h2
noncomputable def sA (a0_Files:List TFile):Option (List TFile):=yA (oA a0_Files) (pE a0_Files)
def rp (a:(List TFile)):List X:=[.agg [.d (zb cFile a)]]
noncomputable def jk:List X→Option XOut:=lay rp fun a=>((sA a)).bind fun r=>some (.ret (.agg [ye (cFile) 136 none false r]) [])
theorem gF (a0_Files:List TFile):jk [.agg [.d (zb cFile a0_Files)]]=((sA a0_Files)).bind fun r=>some (.ret (.agg [ye (cFile) 136 none false r]) []):=yk (enc:=rp) (by
 intro a b h
 simp only [rp,List.cons.injEq,X.d.injEq,X.res.injEq,RK.bld.injEq,X.agg.injEq,X.box.injEq,D.int.injEq,D.bool.injEq,D.fn.injEq,yo,zU,zT,and_true,true_and,and_assoc] at h
 exact h) a0_Files
noncomputable def G8:Ctx:=G7.with 16 jk
theorem so8:SoundAll Try.prog G8:=by
 refine yQ (cuts:=[]) (k:=1) (cd:=c_laws_toDisk) (rs:=sS) (enc:=rp) mixed so7 Try.func16 (by kernel_rfl) (by kernel_rfl) (by kernel_rfl) (by kernel_rfl) (by kernel_rfl) (by kernel_rfl) (wk:=fun y=>nocap y) Same.nocap ?_
 intro a out ho
 obtain ⟨r,h1,h2⟩:=Option.bind_eq_some_iff.mp ho
 obtain ⟨hp,rfl⟩:=zy h1
 obtain ⟨N,hN⟩:=bg tE (fun _ h=>zz h) a hp
 refine ⟨N,?_⟩
 refine ((yf (fun y=>some (nocap y)) 1 c_laws_toDisk sS (rp a) ⟨rfl,rfl,rfl⟩).trans (cX ⟨G7,[],[],[],N,sS,none,fun _ _=>none,fun y=>some (nocap y)⟩ ⟨rfl,rfl,rfl,rfl,rfl,fun _=>rfl,fun _=>rfl⟩ tE ⟨rfl,(fun a0=>(show G7 57 _=_ from rfl).trans (iR a0))⟩ a)).trans ?_
 show (sy tE N a).bind _=_
 rw [hN]; exact h2
noncomputable def qy (zl:Int) (zf:List UInt8) (zx:List UInt8) (zg:List UInt8):Option (Int×List UInt8×List UInt8×List UInt8):=yA (qG zl zf zx zg) (rY zl zf zx zg)
def qg (a:Int×(List UInt8)×(List UInt8)×(List UInt8)):List X:=[.agg [.d (.int .i64 a.1),.d (sD a.2.1),.d (sD a.2.2.1),.d (sD a.2.2.2)]]
noncomputable def jZ:List X→Option XOut:=lay qg fun a=>((qy a.1 a.2.1 a.2.2.1 a.2.2.2)).bind fun r=>some (.ret (.agg [.d (.int .i64 r.1),.d (sD r.2.1),.d (sD r.2.2.1),.d (sD r.2.2.2)]) [])
theorem eM (zl:Int) (zf:List UInt8) (zx:List UInt8) (zg:List UInt8):jZ [.agg [.d (.int .i64 zl),.d (sD zf),.d (sD zx),.d (sD zg)]]=((qy zl zf zx zg)).bind fun r=>some (.ret (.agg [.d (.int .i64 r.1),.d (sD r.2.1),.d (sD r.2.2.1),.d (sD r.2.2.2)]) []):=yk (enc:=qg) (by
 intro a b h
 simp only [qg,List.cons.injEq,X.d.injEq,X.res.injEq,RK.bld.injEq,X.agg.injEq,X.box.injEq,D.int.injEq,D.bool.injEq,D.fn.injEq,yo,zU,zT,and_true,true_and,and_assoc] at h
 simp only [Prod.ext_iff]; exact h) (zl,zf,zx,zg)
noncomputable def G9:Ctx:=G8.with 58 jZ
theorem so9:SoundAll Try.prog G9:=by
 refine yQ (cuts:=[]) (k:=1) (cd:=c_laws_toAct) (rs:=qF) (enc:=qg) mixed so8 Try.func58 (by kernel_rfl) (by kernel_rfl) (by kernel_rfl) (by kernel_rfl) (by kernel_rfl) (by kernel_rfl) (wk:=fun y=>nocap y) Same.nocap ?_
 intro a out ho
 obtain ⟨r,h1,h2⟩:=Option.bind_eq_some_iff.mp ho
 obtain ⟨hp,rfl⟩:=zy h1
 obtain ⟨N,hN⟩:=aO a.1 a.2.1 a.2.2.1 a.2.2.2 hp
 refine ⟨N,?_⟩
 refine ((yf (fun y=>some (nocap y)) 1 c_laws_toAct qF (qg a) ⟨rfl,rfl,rfl⟩).trans (Zl ⟨G8,[],[],[],N,qF,none,fun _ _=>none,fun y=>some (nocap y)⟩ ⟨rfl,rfl,rfl,rfl,rfl,fun _=>rfl,fun _=>rfl⟩ a.1 a.2.1 a.2.2.1 a.2.2.2)).trans ?_
 show (oz N a.1 a.2.1 a.2.2.1 a.2.2.2).bind _=_
 rw [hN]; exact h2
noncomputable def sK (a0:List TAct):Option (List TAct):=yA (oD a0) (sR a0)
def sZ (a:(List TAct)):List X:=[.d (zb cAct a)]
noncomputable def jp:List X→Option XOut:=lay sZ fun a=>((sK a)).bind fun r=>some (.ret (ye (cAct) 78 none false r) [])
theorem ft (a0:List TAct):jp [.d (zb cAct a0)]=((sK a0)).bind fun r=>some (.ret (ye (cAct) 78 none false r) []):=yk (enc:=sZ) (by
 intro a b h
 simp only [sZ,List.cons.injEq,X.d.injEq,X.res.injEq,RK.bld.injEq,X.agg.injEq,X.box.injEq,D.int.injEq,D.bool.injEq,D.fn.injEq,yo,zU,zT,and_true,true_and,and_assoc] at h
 exact h) a0
noncomputable def G10:Ctx:=G9.with 17 jp
theorem Hw:SoundAll Try.prog G10:=by
 refine yQ (cuts:=[]) (k:=1) (cd:=c_laws_toActS) (rs:=vz) (enc:=sZ) mixed so9 Try.func17 (by kernel_rfl) (by kernel_rfl) (by kernel_rfl) (by kernel_rfl) (by kernel_rfl) (by kernel_rfl) (wk:=fun y=>nocap y) Same.nocap ?_
 intro a out ho
 obtain ⟨r,h1,h2⟩:=Option.bind_eq_some_iff.mp ho
 obtain ⟨hp,rfl⟩:=zy h1
 obtain ⟨N,hN⟩:=bc qy (fun _ _ _ _ h=>zz h) a hp
 refine ⟨N,?_⟩
 refine ((yf (fun y=>some (nocap y)) 1 c_laws_toActS vz (sZ a) ⟨rfl,rfl,rfl⟩).trans (bN ⟨G9,[],[],[],N,vz,none,fun _ _=>none,fun y=>some (nocap y)⟩ ⟨rfl,rfl,rfl,rfl,rfl,fun _=>rfl,fun _=>rfl⟩ qy ⟨rfl,(fun zl zf zx zg=>(show G9 58 _=_ from rfl).trans (eM zl zf zx zg))⟩ a)).trans ?_
 show (ra qy N a).bind _=_
 rw [hN]; exact h2
noncomputable def oN (a0_Files:List TFile):Option (List TFile):=yA (rP a0_Files) (jb a0_Files)
noncomputable def rj (a0_Files:List TFile):Option (List TFile):=yA (rP a0_Files) (ux a0_Files)
def xV (a:(List TFile)):List X:=[.agg [.d (zb cFile a)]]
theorem mX:∀ a b,xV a=xV b→a=b:=by
 intro a b h
 simp only [xV,List.cons.injEq,X.d.injEq,X.res.injEq,RK.bld.injEq,X.agg.injEq,X.box.injEq,D.int.injEq,D.bool.injEq,D.fn.injEq,yo,zU,zT,and_true,true_and,and_assoc] at h
 exact h
noncomputable def oL:List X→Option XOut:=lay xV fun a=>((oN a)).bind fun r=>some (.ret (.agg [ye (cFile) 136 none false r]) [])
theorem iT (a0_Files:List TFile):oL [.agg [.d (zb cFile a0_Files)]]=((oN a0_Files)).bind fun r=>some (.ret (.agg [ye (cFile) 136 none false r]) []):=yk (enc:=xV) mX a0_Files
noncomputable def ji:List X→Option XOut:=lay xV fun a=>((rj a)).bind fun r=>some (.ret (.agg [.d (zb (cFile) r)]) [])
theorem fC (a0_Files:List TFile):ji [.agg [.d (zb cFile a0_Files)]]=((rj a0_Files)).bind fun r=>some (.ret (.agg [.d (zb (cFile) r)]) []):=yk (enc:=xV) mX a0_Files
noncomputable def Gs10:Ctx:=G10.with 54 oL
theorem ss10:SoundAll Try.prog Gs10:=by
 refine yQ (cuts:=[]) (k:=1) (cd:=c_spec_l7Copy) (rs:=rt) (enc:=xV) mixed Hw Try.func54 (by kernel_rfl) (by kernel_rfl) (by kernel_rfl) (by kernel_rfl) (by kernel_rfl) (by kernel_rfl) (wk:=fun y=>nocap y) Same.nocap ?_
 intro a out ho
 obtain ⟨r,h1,h2⟩:=Option.bind_eq_some_iff.mp ho
 obtain ⟨hp,rfl⟩:=zy h1
 obtain ⟨N,hN⟩:=cT a hp
 refine ⟨N,?_⟩
 refine ((yf (fun y=>some (nocap y)) 1 c_spec_l7Copy rt (xV a) ⟨rfl,rfl,rfl⟩).trans (bt ⟨G10,[],[],[],N,rt,none,fun _ _=>none,fun y=>some (nocap y)⟩ ⟨rfl,rfl,rfl,rfl,rfl,fun _=>rfl,fun _=>rfl⟩ a)).trans ?_
 show (rn N a).bind _=_
 rw [hN]; exact h2
noncomputable def G11:Ctx:=Gs10.with 54 ji
theorem Ht:SoundAll Try.prog G11:=ss10.with (Sound.shr (F:=oL) (by have h:=ss10 54; exact h) (fun xs out ho=>by
 obtain ⟨a,rfl,ho2⟩:=qt ho
 obtain ⟨r,h1,h2⟩:=Option.bind_eq_some_iff.mp ho2
 obtain ⟨hp,rfl⟩:=zy h1
 refine ⟨_,(iT a).trans (by rw [show oN a=some (jb a) from zz hp]; rfl),?_,?_⟩
 ·rfl
 ·exact (Option.some.inj h2).symm))
noncomputable def tD (a0:Int):Option (Bool):=yA (sf a0) (vZ a0)
def tO (a:Int):List X:=[.d (.int .u8 a)]
noncomputable def l4:List X→Option XOut:=lay tO fun a=>((tD a)).bind fun r=>some (.ret (.d (.bool r)) [])
theorem iO (a0:Int):l4 [.d (.int .u8 a0)]=((tD a0)).bind fun r=>some (.ret (.d (.bool r)) []):=yk (enc:=tO) (by
 intro a b h
 simp only [tO,List.cons.injEq,X.d.injEq,X.res.injEq,RK.bld.injEq,X.agg.injEq,X.box.injEq,D.int.injEq,D.bool.injEq,D.fn.injEq,yo,zU,zT,and_true,true_and,and_assoc] at h
 exact h) a0
noncomputable def G12:Ctx:=G11.with 112 l4
theorem ID:SoundAll Try.prog G12:=by
 refine yQ (cuts:=[]) (k:=1) (cd:=c_spec_l3Digit) (rs:=tQ) (enc:=tO) mixed Ht Try.func112 (by kernel_rfl) (by kernel_rfl) (by kernel_rfl) (by kernel_rfl) (by kernel_rfl) (by kernel_rfl) (wk:=fun y=>nocap y) Same.nocap ?_
 intro a out ho
 obtain ⟨r,h1,h2⟩:=Option.bind_eq_some_iff.mp ho
 obtain ⟨hp,rfl⟩:=zy h1
 obtain ⟨N,hN⟩:=dV a hp
 refine ⟨N,?_⟩
 refine ((yf (fun y=>some (nocap y)) 1 c_spec_l3Digit tQ (tO a) ⟨rfl,rfl,rfl⟩).trans (dO ⟨G11,[],[],[],N,tQ,none,fun _ _=>none,fun y=>some (nocap y)⟩ ⟨rfl,rfl,rfl,rfl,rfl,fun _=>rfl,fun _=>rfl⟩ a)).trans ?_
 show (tI N a).bind _=_
 rw [hN]; exact h2
noncomputable def uL (a0:Int):Option (Bool):=yA (ti a0) (vo a0)
def uW (a:Int):List X:=[.d (.int .u8 a)]
noncomputable def ll:List X→Option XOut:=lay uW fun a=>((uL a)).bind fun r=>some (.ret (.d (.bool r)) [])
theorem jB (a0:Int):ll [.d (.int .u8 a0)]=((uL a0)).bind fun r=>some (.ret (.d (.bool r)) []):=yk (enc:=uW) (by
 intro a b h
 simp only [uW,List.cons.injEq,X.d.injEq,X.res.injEq,RK.bld.injEq,X.agg.injEq,X.box.injEq,D.int.injEq,D.bool.injEq,D.fn.injEq,yo,zU,zT,and_true,true_and,and_assoc] at h
 exact h) a0
noncomputable def G13:Ctx:=G12.with 115 ll
theorem I6:SoundAll Try.prog G13:=by
 refine yQ (cuts:=[]) (k:=1) (cd:=c_spec_l3Letter) (rs:=uV) (enc:=uW) mixed ID Try.func115 (by kernel_rfl) (by kernel_rfl) (by kernel_rfl) (by kernel_rfl) (by kernel_rfl) (by kernel_rfl) (wk:=fun y=>nocap y) Same.nocap ?_
 intro a out ho
 obtain ⟨r,h1,h2⟩:=Option.bind_eq_some_iff.mp ho
 obtain ⟨hp,rfl⟩:=zy h1
 obtain ⟨N,hN⟩:=ea a hp
 refine ⟨N,?_⟩
 refine ((yf (fun y=>some (nocap y)) 1 c_spec_l3Letter uV (uW a) ⟨rfl,rfl,rfl⟩).trans (fZ ⟨G12,[],[],[],N,uV,none,fun _ _=>none,fun y=>some (nocap y)⟩ ⟨rfl,rfl,rfl,rfl,rfl,fun _=>rfl,fun _=>rfl⟩ a)).trans ?_
 show (u3 N a).bind _=_
 rw [hN]; exact h2
noncomputable def xP (a0:List UInt8):Option (Bool):=yA (vK a0) (vm a0)
def uG (a:(List UInt8)):List X:=[.d (sD a)]
noncomputable def lf:List X→Option XOut:=lay uG fun a=>((xP a)).bind fun r=>some (.ret (.d (.bool r)) [])
theorem nk (a0:List UInt8):lf [.d (sD a0)]=((xP a0)).bind fun r=>some (.ret (.d (.bool r)) []):=yk (enc:=uG) (by
 intro a b h
 simp only [uG,List.cons.injEq,X.d.injEq,X.res.injEq,RK.bld.injEq,X.agg.injEq,X.box.injEq,D.int.injEq,D.bool.injEq,D.fn.injEq,yo,zU,zT,and_true,true_and,and_assoc] at h
 exact h) a0
noncomputable def G14:Ctx:=G13.with 95 lf
theorem IV:SoundAll Try.prog G14:=by
 refine yQ (cuts:=[]) (k:=1) (cd:=c_spec_l7NameOk) (rs:=wD) (enc:=uG) mixed I6 Try.func95 (by kernel_rfl) (by kernel_rfl) (by kernel_rfl) (by kernel_rfl) (by kernel_rfl) (by kernel_rfl) (wk:=fun y=>nocap y) Same.nocap ?_
 intro a out ho
 obtain ⟨r,h1,h2⟩:=Option.bind_eq_some_iff.mp ho
 obtain ⟨hp,rfl⟩:=zy h1
 obtain ⟨N,hN⟩:=fU tD (fun _ h=>zz h) uL (fun _ h=>zz h) a hp
 refine ⟨N,?_⟩
 refine ((yf (fun y=>some (nocap y)) 1 c_spec_l7NameOk wD (uG a) ⟨rfl,rfl,rfl⟩).trans (ek ⟨G13,[],[],[],N,wD,none,fun _ _=>none,fun y=>some (nocap y)⟩ ⟨rfl,rfl,rfl,rfl,rfl,fun _=>rfl,fun _=>rfl⟩ tD ⟨rfl,(fun a0=>(show G13 112 _=_ from rfl).trans (iO a0))⟩ uL ⟨rfl,(fun a0=>(show G13 115 _=_ from rfl).trans (jB a0))⟩ a)).trans ?_
 show (rQ tD uL N a).bind _=_
 rw [hN]; exact h2
noncomputable def s9 (a0_Files:List TFile):Option (Bool):=yA (oa a0_Files) (sx a0_Files)
def rg (a:(List TFile)):List X:=[.agg [.d (zb cFile a)]]
noncomputable def ja:List X→Option XOut:=lay rg fun a=>((s9 a)).bind fun r=>some (.ret (.d (.bool r)) [])
theorem gU (a0_Files:List TFile):ja [.agg [.d (zb cFile a0_Files)]]=((s9 a0_Files)).bind fun r=>some (.ret (.d (.bool r)) []):=yk (enc:=rg) (by
 intro a b h
 simp only [rg,List.cons.injEq,X.d.injEq,X.res.injEq,RK.bld.injEq,X.agg.injEq,X.box.injEq,D.int.injEq,D.bool.injEq,D.fn.injEq,yo,zU,zT,and_true,true_and,and_assoc] at h
 exact h) a0_Files
noncomputable def G15:Ctx:=G14.with 55 ja
theorem I0:SoundAll Try.prog G15:=by
 refine yQ (cuts:=[]) (k:=1) (cd:=c_spec_DiskOk) (rs:=vA) (enc:=rg) mixed IV Try.func55 (by kernel_rfl) (by kernel_rfl) (by kernel_rfl) (by kernel_rfl) (by kernel_rfl) (by kernel_rfl) (wk:=fun y=>nocap y) Same.nocap ?_
 intro a out ho
 obtain ⟨r,h1,h2⟩:=Option.bind_eq_some_iff.mp ho
 obtain ⟨hp,rfl⟩:=zy h1
 obtain ⟨N,hN⟩:=bk xP (fun _ h=>zz h) a hp
 refine ⟨N,?_⟩
 refine ((yf (fun y=>some (nocap y)) 1 c_spec_DiskOk vA (rg a) ⟨rfl,rfl,rfl⟩).trans (cU ⟨G14,[],[],[],N,vA,none,fun _ _=>none,fun y=>some (nocap y)⟩ ⟨rfl,rfl,rfl,rfl,rfl,fun _=>rfl,fun _=>rfl⟩ xP ⟨rfl,(fun a0=>(show G14 95 _=_ from rfl).trans (nk a0))⟩ a)).trans ?_
 show (sT xP N a).bind _=_
 rw [hN]; exact h2
noncomputable def tH (zl:Int) (zf:List UInt8) (zx:List UInt8) (zg:List UInt8):Option (Bool):=yA (pS zl zf zx zg) (tL zl zf zx zg)
def tM (a:Int×(List UInt8)×(List UInt8)×(List UInt8)):List X:=[.agg [.d (.int .i64 a.1),.d (sD a.2.1),.d (sD a.2.2.1),.d (sD a.2.2.2)]]
noncomputable def lS:List X→Option XOut:=lay tM fun a=>((tH a.1 a.2.1 a.2.2.1 a.2.2.2)).bind fun r=>some (.ret (.d (.bool r)) [])
theorem hJ (zl:Int) (zf:List UInt8) (zx:List UInt8) (zg:List UInt8):lS [.agg [.d (.int .i64 zl),.d (sD zf),.d (sD zx),.d (sD zg)]]=((tH zl zf zx zg)).bind fun r=>some (.ret (.d (.bool r)) []):=yk (enc:=tM) (by
 intro a b h
 simp only [tM,List.cons.injEq,X.d.injEq,X.res.injEq,RK.bld.injEq,X.agg.injEq,X.box.injEq,D.int.injEq,D.bool.injEq,D.fn.injEq,yo,zU,zT,and_true,true_and,and_assoc] at h
 simp only [Prod.ext_iff]; exact h) (zl,zf,zx,zg)
noncomputable def G16:Ctx:=G15.with 96 lS
theorem Hm:SoundAll Try.prog G16:=by
 refine yQ (cuts:=[]) (k:=1) (cd:=c_spec_l7ActOk) (rs:=tK) (enc:=tM) mixed I0 Try.func96 (by kernel_rfl) (by kernel_rfl) (by kernel_rfl) (by kernel_rfl) (by kernel_rfl) (by kernel_rfl) (wk:=fun y=>nocap y) Same.nocap ?_
 intro a out ho
 obtain ⟨r,h1,h2⟩:=Option.bind_eq_some_iff.mp ho
 obtain ⟨hp,rfl⟩:=zy h1
 obtain ⟨N,hN⟩:=dF xP (fun _ h=>zz h) a.1 a.2.1 a.2.2.1 a.2.2.2 hp
 refine ⟨N,?_⟩
 refine ((yf (fun y=>some (nocap y)) 1 c_spec_l7ActOk tK (tM a) ⟨rfl,rfl,rfl⟩).trans (d4 ⟨G15,[],[],[],N,tK,none,fun _ _=>none,fun y=>some (nocap y)⟩ ⟨rfl,rfl,rfl,rfl,rfl,fun _=>rfl,fun _=>rfl⟩ xP ⟨rfl,(fun a0=>(show G15 95 _=_ from rfl).trans (nk a0))⟩ a.1 a.2.1 a.2.2.1 a.2.2.2)).trans ?_
 show (tT xP N a.1 a.2.1 a.2.2.1 a.2.2.2).bind _=_
 rw [hN]; exact h2
noncomputable def pk (a0_Files:List TFile) (a1:List UInt8):Option (Int):=yA (nK a0_Files a1) (o8 a0_Files a1)
def pj (a:(List TFile)×(List UInt8)):List X:=[.agg [.d (zb cFile a.1)],.d (sD a.2)]
noncomputable def gy:List X→Option XOut:=lay pj fun a=>((pk a.1 a.2)).bind fun r=>some (.ret (.d (.int .i64 r)) [])
theorem de (a0_Files:List TFile) (a1:List UInt8):gy [.agg [.d (zb cFile a0_Files)],.d (sD a1)]=((pk a0_Files a1)).bind fun r=>some (.ret (.d (.int .i64 r)) []):=yk (enc:=pj) (by
 intro a b h
 simp only [pj,List.cons.injEq,X.d.injEq,X.res.injEq,RK.bld.injEq,X.agg.injEq,X.box.injEq,D.int.injEq,D.bool.injEq,D.fn.injEq,yo,zU,zT,and_true,true_and,and_assoc] at h
 simp only [Prod.ext_iff]; exact h) (a0_Files,a1)
noncomputable def G17:Ctx:=G16.with 97 gy
theorem Hl:SoundAll Try.prog G17:=by
 refine yQ (cuts:=[]) (k:=2) (cd:=c_spec_l7At) (rs:=te) (enc:=pj) mixed Hm Try.func97 (by kernel_rfl) (by kernel_rfl) (by kernel_rfl) (by kernel_rfl) (by kernel_rfl) (by kernel_rfl) (wk:=fun y=>nocap y) Same.nocap ?_
 intro a out ho
 obtain ⟨r,h1,h2⟩:=Option.bind_eq_some_iff.mp ho
 obtain ⟨hp,rfl⟩:=zy h1
 obtain ⟨N,hN⟩:=Z8 a.1 a.2 hp
 refine ⟨N,?_⟩
 refine ((yf (fun y=>some (nocap y)) 2 c_spec_l7At te (pj a) ⟨rfl,rfl,rfl⟩).trans (Yi ⟨G16,[],[],[],N,te,none,fun _ _=>none,fun y=>some (nocap y)⟩ ⟨rfl,rfl,rfl,rfl,rfl,fun _=>rfl,fun _=>rfl⟩ a.1 a.2)).trans ?_
 show (oW N a.1 a.2).bind _=_
 rw [hN]; exact h2
noncomputable def rA (a0_Files:List TFile) (zq:List UInt8) (zr:List UInt8):Option (List TFile):=yA (od a0_Files zq zr) (pH a0_Files zq zr)
def ro (a:(List TFile)×(List UInt8)×(List UInt8)):List X:=[.agg [.d (zb cFile a.1)],.agg [.d (sD a.2.1),.d (sD a.2.2)]]
noncomputable def jn:List X→Option XOut:=lay ro fun a=>((rA a.1 a.2.1 a.2.2)).bind fun r=>some (.ret (.agg [ye (cFile) 136 none false r]) [])
theorem gW (a0_Files:List TFile) (zq:List UInt8) (zr:List UInt8):jn [.agg [.d (zb cFile a0_Files)],.agg [.d (sD zq),.d (sD zr)]]=((rA a0_Files zq zr)).bind fun r=>some (.ret (.agg [ye (cFile) 136 none false r]) []):=yk (enc:=ro) (by
 intro a b h
 simp only [ro,List.cons.injEq,X.d.injEq,X.res.injEq,RK.bld.injEq,X.agg.injEq,X.box.injEq,D.int.injEq,D.bool.injEq,D.fn.injEq,yo,zU,zT,and_true,true_and,and_assoc] at h
 simp only [Prod.ext_iff]; exact h) (a0_Files,zq,zr)
noncomputable def G18:Ctx:=G17.with 98 jn
theorem I3:SoundAll Try.prog G18:=by
 refine yQ (cuts:=[]) (k:=2) (cd:=c_spec_l7With) (rs:=xW) (enc:=ro) mixed Hl Try.func98 (by kernel_rfl) (by kernel_rfl) (by kernel_rfl) (by kernel_rfl) (by kernel_rfl) (by kernel_rfl) (wk:=fun y=>nocap y) Same.nocap ?_
 intro a out ho
 obtain ⟨r,h1,h2⟩:=Option.bind_eq_some_iff.mp ho
 obtain ⟨hp,rfl⟩:=zy h1
 obtain ⟨N,hN⟩:=bC a.1 a.2.1 a.2.2 hp
 refine ⟨N,?_⟩
 refine ((yf (fun y=>some (nocap y)) 2 c_spec_l7With xW (ro a) ⟨rfl,rfl,rfl⟩).trans (bn ⟨G17,[],[],[],N,xW,none,fun _ _=>none,fun y=>some (nocap y)⟩ ⟨rfl,rfl,rfl,rfl,rfl,fun _=>rfl,fun _=>rfl⟩ a.1 a.2.1 a.2.2)).trans ?_
 show (px N a.1 a.2.1 a.2.2).bind _=_
 rw [hN]; exact h2
noncomputable def ug (a0_Files:List TFile) (a1:List UInt8):Option (List TFile):=yA (qq a0_Files a1) (sn a0_Files a1)
def um (a:(List TFile)×(List UInt8)):List X:=[.agg [.d (zb cFile a.1)],.d (sD a.2)]
noncomputable def mB:List X→Option XOut:=lay um fun a=>((ug a.1 a.2)).bind fun r=>some (.ret (.agg [ye (cFile) 136 none false r]) [])
theorem ju (a0_Files:List TFile) (a1:List UInt8):mB [.agg [.d (zb cFile a0_Files)],.d (sD a1)]=((ug a0_Files a1)).bind fun r=>some (.ret (.agg [ye (cFile) 136 none false r]) []):=yk (enc:=um) (by
 intro a b h
 simp only [um,List.cons.injEq,X.d.injEq,X.res.injEq,RK.bld.injEq,X.agg.injEq,X.box.injEq,D.int.injEq,D.bool.injEq,D.fn.injEq,yo,zU,zT,and_true,true_and,and_assoc] at h
 simp only [Prod.ext_iff]; exact h) (a0_Files,a1)
noncomputable def G19:Ctx:=G18.with 99 mB
theorem Hr:SoundAll Try.prog G19:=by
 refine yQ (cuts:=[]) (k:=2) (cd:=c_spec_l7Without) (rs:=wd) (enc:=um) mixed I3 Try.func99 (by kernel_rfl) (by kernel_rfl) (by kernel_rfl) (by kernel_rfl) (by kernel_rfl) (by kernel_rfl) (wk:=fun y=>nocap y) Same.nocap ?_
 intro a out ho
 obtain ⟨r,h1,h2⟩:=Option.bind_eq_some_iff.mp ho
 obtain ⟨hp,rfl⟩:=zy h1
 obtain ⟨N,hN⟩:=fy a.1 a.2 hp
 refine ⟨N,?_⟩
 refine ((yf (fun y=>some (nocap y)) 2 c_spec_l7Without wd (um a) ⟨rfl,rfl,rfl⟩).trans (fw ⟨G18,[],[],[],N,wd,none,fun _ _=>none,fun y=>some (nocap y)⟩ ⟨rfl,rfl,rfl,rfl,rfl,fun _=>rfl,fun _=>rfl⟩ a.1 a.2)).trans ?_
 show (sc N a.1 a.2).bind _=_
 rw [hN]; exact h2
noncomputable def ol (a0_Files:List TFile) (zW:Int) (zq:List UInt8) (yM:List UInt8) (zr:List UInt8):Option (Alt (List TFile×Int) (List TFile×Int)):=yA (rr a0_Files zW zq yM zr) (vX a0_Files zW zq yM zr)
noncomputable def pt (a0_Files:List TFile) (zW:Int) (zq:List UInt8) (yM:List UInt8) (zr:List UInt8):Option (List TFile×Int):=yA (rr a0_Files zW zq yM zr) (vV a0_Files zW zq yM zr)
def w7 (a:(List TFile)×Int×(List UInt8)×(List UInt8)×(List UInt8)):List X:=[.agg [.d (zb cFile a.1)],.agg [.d (.int .i64 a.2.1),.d (sD a.2.2.1),.d (sD a.2.2.2.1),.d (sD a.2.2.2.2)]]
theorem jh:∀ a b,w7 a=w7 b→a=b:=by
 intro a b h
 simp only [w7,List.cons.injEq,X.d.injEq,X.res.injEq,RK.bld.injEq,X.agg.injEq,X.box.injEq,D.int.injEq,D.bool.injEq,D.fn.injEq,yo,zU,zT,and_true,true_and,and_assoc] at h
 simp only [Prod.ext_iff]; exact h
noncomputable def mA:List X→Option XOut:=lay w7 fun a=>((ol a.1 a.2.1 a.2.2.1 a.2.2.2.1 a.2.2.2.2)).bind fun r=>r.on (fun r=>some (.ret (.tup [.agg [.d (zb (cFile) r.1)],.d (.int .i64 r.2)]) [])) (fun r=>some (.ret (.tup [.agg [ye (cFile) 136 none false r.1],.d (.int .i64 r.2)]) []))
theorem mR (a0_Files:List TFile) (zW:Int) (zq:List UInt8) (yM:List UInt8) (zr:List UInt8):mA [.agg [.d (zb cFile a0_Files)],.agg [.d (.int .i64 zW),.d (sD zq),.d (sD yM),.d (sD zr)]]=((ol a0_Files zW zq yM zr)).bind fun r=>r.on (fun r=>some (.ret (.tup [.agg [.d (zb (cFile) r.1)],.d (.int .i64 r.2)]) [])) (fun r=>some (.ret (.tup [.agg [ye (cFile) 136 none false r.1],.d (.int .i64 r.2)]) [])):=yk (enc:=w7) jh (a0_Files,zW,zq,yM,zr)
noncomputable def gh:List X→Option XOut:=lay w7 fun a=>((pt a.1 a.2.1 a.2.2.1 a.2.2.2.1 a.2.2.2.2)).bind fun r=>some (.ret (.tup [.agg [.d (zb (cFile) r.1)],.d (.int .i64 r.2)]) [])
theorem dZ (a0_Files:List TFile) (zW:Int) (zq:List UInt8) (yM:List UInt8) (zr:List UInt8):gh [.agg [.d (zb cFile a0_Files)],.agg [.d (.int .i64 zW),.d (sD zq),.d (sD yM),.d (sD zr)]]=((pt a0_Files zW zq yM zr)).bind fun r=>some (.ret (.tup [.agg [.d (zb (cFile) r.1)],.d (.int .i64 r.2)]) []):=yk (enc:=w7) jh (a0_Files,zW,zq,yM,zr)
noncomputable def Gs19:Ctx:=G19.with 56 mA
theorem ss19:SoundAll Try.prog Gs19:=by
 refine yQ (cuts:=[]) (k:=2) (cd:=c_spec_l7Do) (rs:=pv) (enc:=w7) mixed Hr Try.func56 (by kernel_rfl) (by kernel_rfl) (by kernel_rfl) (by kernel_rfl) (by kernel_rfl) (by kernel_rfl) (wk:=fun y=>nocap y) Same.nocap ?_
 intro a out ho
 obtain ⟨r,h1,h2⟩:=Option.bind_eq_some_iff.mp ho
 obtain ⟨hp,rfl⟩:=zy h1
 obtain ⟨N,hN⟩:=Yw tH (fun _ _ _ _ h=>zz h) pk (fun _ _ h=>zz h) rA (fun _ _ _ h=>zz h) ug (fun _ _ h=>zz h) a.1 a.2.1 a.2.2.1 a.2.2.2.1 a.2.2.2.2 hp
 refine ⟨N,?_⟩
 refine ((yf (fun y=>some (nocap y)) 2 c_spec_l7Do pv (w7 a) ⟨rfl,rfl,rfl⟩).trans (YJ ⟨G19,[],[],[],N,pv,none,fun _ _=>none,fun y=>some (nocap y)⟩ ⟨rfl,rfl,rfl,rfl,rfl,fun _=>rfl,fun _=>rfl⟩ tH ⟨rfl,(fun zl zf zx zg=>(show G19 96 _=_ from rfl).trans (hJ zl zf zx zg))⟩ pk ⟨rfl,(fun a0_Files a1=>(show G19 97 _=_ from rfl).trans (de a0_Files a1))⟩ rA ⟨rfl,(fun a0_Files zq zr=>(show G19 98 _=_ from rfl).trans (gW a0_Files zq zr))⟩ ug ⟨rfl,(fun a0_Files a1=>(show G19 99 _=_ from rfl).trans (ju a0_Files a1))⟩ a.1 a.2.1 a.2.2.1 a.2.2.2.1 a.2.2.2.2)).trans ?_
 show (pn tH pk rA ug N a.1 a.2.1 a.2.2.1 a.2.2.2.1 a.2.2.2.2).bind _=_
 rw [hN]; exact h2
noncomputable def G20:Ctx:=Gs19.with 56 gh
theorem IF:SoundAll Try.prog G20:=ss19.with (Sound.shr (F:=mA) (by have h:=ss19 56; exact h) (fun xs out ho=>by
 obtain ⟨a,rfl,ho2⟩:=qt ho
 obtain ⟨r,h1,h2⟩:=Option.bind_eq_some_iff.mp ho2
 obtain ⟨hp,rfl⟩:=zy h1
 unfold vV at h2
 cases hq:vX a.1 a.2.1 a.2.2.1 a.2.2.2.1 a.2.2.2.2 with
 | a q=>
   rw [hq] at h2
   refine ⟨_,(mR a.1 a.2.1 a.2.2.1 a.2.2.2.1 a.2.2.2.2).trans (by rw [show ol a.1 a.2.1 a.2.2.1 a.2.2.2.1 a.2.2.2.2=some (vX a.1 a.2.1 a.2.2.1 a.2.2.2.1 a.2.2.2.2) from zz hp,hq]; rfl),?_,?_⟩
   ·rfl
   ·exact (Option.some.inj h2).symm
 | b q=>
   rw [hq] at h2
   refine ⟨_,(mR a.1 a.2.1 a.2.2.1 a.2.2.2.1 a.2.2.2.2).trans (by rw [show ol a.1 a.2.1 a.2.2.1 a.2.2.2.1 a.2.2.2.2=some (vX a.1 a.2.1 a.2.2.1 a.2.2.2.1 a.2.2.2.2) from zz hp,hq]; rfl),?_,?_⟩
   ·rfl
   ·exact (Option.some.inj h2).symm))
noncomputable def pm (a0_Files:List TFile) (a1:List TAct) (a2:Int):Option (List TFile×Int):=yA (uv a0_Files a1 a2) (rF a0_Files a1 a2)
def pu (a:(List TFile)×(List TAct)×Int):List X:=[.agg [.d (zb cFile a.1)],.d (zb cAct a.2.1),.d (.int .i64 a.2.2)]
noncomputable def gp:List X→Option XOut:=lay pu fun a=>((pm a.1 a.2.1 a.2.2)).bind fun r=>some (.ret (.tup [.agg [.d (zb (cFile) r.1)],.d (.int .i64 r.2)]) [])
theorem dY (a0_Files:List TFile) (a1:List TAct) (a2:Int):gp [.agg [.d (zb cFile a0_Files)],.d (zb cAct a1),.d (.int .i64 a2)]=((pm a0_Files a1 a2)).bind fun r=>some (.ret (.tup [.agg [.d (zb (cFile) r.1)],.d (.int .i64 r.2)]) []):=yk (enc:=pu) (by
 intro a b h
 simp only [pu,List.cons.injEq,X.d.injEq,X.res.injEq,RK.bld.injEq,X.agg.injEq,X.box.injEq,D.int.injEq,D.bool.injEq,D.fn.injEq,yo,zU,zT,and_true,true_and,and_assoc] at h
 simp only [Prod.ext_iff]; exact h) (a0_Files,a1,a2)
noncomputable def G21:Ctx:=G20.with 15 gp
theorem Hk:SoundAll Try.prog G21:=by
 refine yQ (cuts:=[]) (k:=3) (cd:=c_spec_Play) (rs:=tg) (enc:=pu) mixed IF Try.func15 (by kernel_rfl) (by kernel_rfl) (by kernel_rfl) (by kernel_rfl) (by kernel_rfl) (by kernel_rfl) (wk:=fun y=>nocap y) Same.nocap ?_
 intro a out ho
 obtain ⟨r,h1,h2⟩:=Option.bind_eq_some_iff.mp ho
 obtain ⟨hp,rfl⟩:=zy h1
 obtain ⟨N,hN⟩:=YC rj (fun _ h=>zz h) s9 (fun _ h=>zz h) pt (fun _ _ _ _ _ h=>zz h) a.1 a.2.1 a.2.2 hp
 refine ⟨N,?_⟩
 refine ((yf (fun y=>some (nocap y)) 3 c_spec_Play tg (pu a) ⟨rfl,rfl,rfl⟩).trans (Yz ⟨G20,[],[],[],N,tg,none,fun _ _=>none,fun y=>some (nocap y)⟩ ⟨rfl,rfl,rfl,rfl,rfl,fun _=>rfl,fun _=>rfl⟩ rj ⟨rfl,(fun a0_Files=>(show G20 54 _=_ from rfl).trans (fC a0_Files))⟩ s9 ⟨rfl,(fun a0_Files=>(show G20 55 _=_ from rfl).trans (gU a0_Files))⟩ pt ⟨rfl,(fun a0_Files zW zq yM zr=>(show G20 56 _=_ from rfl).trans (dZ a0_Files zW zq yM zr))⟩ a.1 a.2.1 a.2.2)).trans ?_
 show (pg rj s9 pt N a.1 a.2.1 a.2.2).bind _=_
 rw [hN]; exact h2
noncomputable def tx (a0:Int):Option (Bool):=yA (tU a0) (v6 a0)
def tA (a:Int):List X:=[.d (.int .u8 a)]
noncomputable def lW:List X→Option XOut:=lay tA fun a=>((tx a)).bind fun r=>some (.ret (.d (.bool r)) [])
theorem iV (a0:Int):lW [.d (.int .u8 a0)]=((tx a0)).bind fun r=>some (.ret (.d (.bool r)) []):=yk (enc:=tA) (by
 intro a b h
 simp only [tA,List.cons.injEq,X.d.injEq,X.res.injEq,RK.bld.injEq,X.agg.injEq,X.box.injEq,D.int.injEq,D.bool.injEq,D.fn.injEq,yo,zU,zT,and_true,true_and,and_assoc] at h
 exact h) a0
noncomputable def G22:Ctx:=G21.with 122 lW
theorem Ix:SoundAll Try.prog G22:=by
 refine yQ (cuts:=[]) (k:=1) (cd:=c_impl_isDigit) (rs:=tS) (enc:=tA) mixed Hk Try.func122 (by kernel_rfl) (by kernel_rfl) (by kernel_rfl) (by kernel_rfl) (by kernel_rfl) (by kernel_rfl) (wk:=fun y=>nocap y) Same.nocap ?_
 intro a out ho
 obtain ⟨r,h1,h2⟩:=Option.bind_eq_some_iff.mp ho
 obtain ⟨hp,rfl⟩:=zy h1
 obtain ⟨N,hN⟩:=dl a hp
 refine ⟨N,?_⟩
 refine ((yf (fun y=>some (nocap y)) 1 c_impl_isDigit tS (tA a) ⟨rfl,rfl,rfl⟩).trans (db ⟨G21,[],[],[],N,tS,none,fun _ _=>none,fun y=>some (nocap y)⟩ ⟨rfl,rfl,rfl,rfl,rfl,fun _=>rfl,fun _=>rfl⟩ a)).trans ?_
 show (tG N a).bind _=_
 rw [hN]; exact h2
noncomputable def uM (a0:Int):Option (Bool):=yA (tp a0) (vl a0)
def uE (a:Int):List X:=[.d (.int .u8 a)]
noncomputable def mU:List X→Option XOut:=lay uE fun a=>((uM a)).bind fun r=>some (.ret (.d (.bool r)) [])
theorem j8 (a0:Int):mU [.d (.int .u8 a0)]=((uM a0)).bind fun r=>some (.ret (.d (.bool r)) []):=yk (enc:=uE) (by
 intro a b h
 simp only [uE,List.cons.injEq,X.d.injEq,X.res.injEq,RK.bld.injEq,X.agg.injEq,X.box.injEq,D.int.injEq,D.bool.injEq,D.fn.injEq,yo,zU,zT,and_true,true_and,and_assoc] at h
 exact h) a0
noncomputable def G23:Ctx:=G22.with 123 mU
theorem IZ:SoundAll Try.prog G23:=by
 refine yQ (cuts:=[]) (k:=1) (cd:=c_impl_isLetter) (rs:=uT) (enc:=uE) mixed Ix Try.func123 (by kernel_rfl) (by kernel_rfl) (by kernel_rfl) (by kernel_rfl) (by kernel_rfl) (by kernel_rfl) (wk:=fun y=>nocap y) Same.nocap ?_
 intro a out ho
 obtain ⟨r,h1,h2⟩:=Option.bind_eq_some_iff.mp ho
 obtain ⟨hp,rfl⟩:=zy h1
 obtain ⟨N,hN⟩:=fQ a hp
 refine ⟨N,?_⟩
 refine ((yf (fun y=>some (nocap y)) 1 c_impl_isLetter uT (uE a) ⟨rfl,rfl,rfl⟩).trans (ey ⟨G22,[],[],[],N,uT,none,fun _ _=>none,fun y=>some (nocap y)⟩ ⟨rfl,rfl,rfl,rfl,rfl,fun _=>rfl,fun _=>rfl⟩ a)).trans ?_
 show (uO N a).bind _=_
 rw [hN]; exact h2
noncomputable def xp (a0:List UInt8):Option (Bool):=yA (wN a0) (xN a0)
def vH (a:(List UInt8)):List X:=[.d (sD a)]
noncomputable def nL:List X→Option XOut:=lay vH fun a=>((xp a)).bind fun r=>some (.ret (.d (.bool r)) [])
theorem oy (a0:List UInt8):nL [.d (sD a0)]=((xp a0)).bind fun r=>some (.ret (.d (.bool r)) []):=yk (enc:=vH) (by
 intro a b h
 simp only [vH,List.cons.injEq,X.d.injEq,X.res.injEq,RK.bld.injEq,X.agg.injEq,X.box.injEq,D.int.injEq,D.bool.injEq,D.fn.injEq,yo,zU,zT,and_true,true_and,and_assoc] at h
 exact h) a0
noncomputable def G24:Ctx:=G23.with 101 nL
theorem Hj:SoundAll Try.prog G24:=by
 refine yQ (cuts:=[]) (k:=1) (cd:=c_impl_fileNameOk) (rs:=xL) (enc:=vH) mixed IZ Try.func101 (by kernel_rfl) (by kernel_rfl) (by kernel_rfl) (by kernel_rfl) (by kernel_rfl) (by kernel_rfl) (wk:=fun y=>nocap y) Same.nocap ?_
 intro a out ho
 obtain ⟨r,h1,h2⟩:=Option.bind_eq_some_iff.mp ho
 obtain ⟨hp,rfl⟩:=zy h1
 obtain ⟨N,hN⟩:=iX tx (fun _ h=>zz h) uM (fun _ h=>zz h) a hp
 refine ⟨N,?_⟩
 refine ((yf (fun y=>some (nocap y)) 1 c_impl_fileNameOk xL (vH a) ⟨rfl,rfl,rfl⟩).trans (iM ⟨G23,[],[],[],N,xL,none,fun _ _=>none,fun y=>some (nocap y)⟩ ⟨rfl,rfl,rfl,rfl,rfl,fun _=>rfl,fun _=>rfl⟩ tx ⟨rfl,(fun a0=>(show G23 122 _=_ from rfl).trans (iV a0))⟩ uM ⟨rfl,(fun a0=>(show G23 123 _=_ from rfl).trans (j8 a0))⟩ a)).trans ?_
 show (vI tx uM N a).bind _=_
 rw [hN]; exact h2
noncomputable def nG (a0_Files:List TFile):Option (Bool):=yA (lb a0_Files) (pI a0_Files)
def sX (a:(List TFile)):List X:=[.agg [.d (zb cFile a)]]
noncomputable def nA:List X→Option XOut:=lay sX fun a=>((nG a)).bind fun r=>some (.ret (.d (.bool r)) [])
theorem fc (a0_Files:List TFile):nA [.agg [.d (zb cFile a0_Files)]]=((nG a0_Files)).bind fun r=>some (.ret (.d (.bool r)) []):=yk (enc:=sX) (by
 intro a b h
 simp only [sX,List.cons.injEq,X.d.injEq,X.res.injEq,RK.bld.injEq,X.agg.injEq,X.box.injEq,D.int.injEq,D.bool.injEq,D.fn.injEq,yo,zU,zT,and_true,true_and,and_assoc] at h
 exact h) a0_Files
noncomputable def G25:Ctx:=G24.with 59 nA
theorem Hn:SoundAll Try.prog G25:=by
 refine yQ (cuts:=[]) (k:=1) (cd:=c_impl_DiskOk) (rs:=vE) (enc:=sX) mixed Hj Try.func59 (by kernel_rfl) (by kernel_rfl) (by kernel_rfl) (by kernel_rfl) (by kernel_rfl) (by kernel_rfl) (wk:=fun y=>nocap y) Same.nocap ?_
 intro a out ho
 obtain ⟨r,h1,h2⟩:=Option.bind_eq_some_iff.mp ho
 obtain ⟨hp,rfl⟩:=zy h1
 obtain ⟨N,hN⟩:=bO xp (fun _ h=>zz h) a hp
 refine ⟨N,?_⟩
 refine ((yf (fun y=>some (nocap y)) 1 c_impl_DiskOk vE (sX a) ⟨rfl,rfl,rfl⟩).trans (bI ⟨G24,[],[],[],N,vE,none,fun _ _=>none,fun y=>some (nocap y)⟩ ⟨rfl,rfl,rfl,rfl,rfl,fun _=>rfl,fun _=>rfl⟩ xp ⟨rfl,(fun a0=>(show G24 101 _=_ from rfl).trans (oy a0))⟩ a)).trans ?_
 show (sv xp N a).bind _=_
 rw [hN]; exact h2
noncomputable def yG (a0:List TFile):Option (List TFile):=yA (xe a0) (yF a0)
def xr (l:List TFile):List X:=[.d (zb cFile l)]
noncomputable def wZ:List X→Option XOut:=lay xr fun a=>((yG a)).bind fun r=>some (.ret (ye (cFile) 136 none false r) [])
theorem sh (a0:List TFile):wZ [.d (zb cFile a0)]=((yG a0)).bind fun r=>some (.ret (ye (cFile) 136 none false r) []):=yk (enc:=xr) (by
 intro a b h
 simp only [xr,List.cons.injEq,X.d.injEq,X.res.injEq,RK.bld.injEq,X.agg.injEq,X.box.injEq,D.int.injEq,D.bool.injEq,D.fn.injEq,yo,zU,zT,and_true,true_and,and_assoc] at h
 exact h) a0
noncomputable def G26:Ctx:=G25.with 102 wZ
theorem IA:SoundAll Try.prog G26:=by
 refine Lw (cuts:=[]) (cd:=c_slices_Clone___impl_File_impl_File_) (rs:=zJ) mixed Hn Try.func102 (by kernel_rfl) (by kernel_rfl) (by kernel_rfl) (by kernel_rfl) (by kernel_rfl) (by kernel_rfl) cFile (wk:=fun y=>nocap (oS (.own 136 2) y)) (Same.comp Same.nocap (Same.own (.own 136 2))) ?_ ?_
 ·intro l out ho
  obtain ⟨r,h1,h2⟩:=Option.bind_eq_some_iff.mp ho
  obtain ⟨hp,rfl⟩:=zy h1
  obtain ⟨N,hN⟩:=(wY l hp).1
  refine ⟨N,?_⟩
  refine ((yf (fun y=>some (nocap (oS (.own 136 2) y))) 1 c_slices_Clone___impl_File_impl_File_ zJ [.d (kj cFile l)] ⟨rfl,rfl,rfl⟩).trans (rx ⟨G25,[],[],[],N,zJ,none,fun _ _=>none,fun y=>some (nocap (oS (.own 136 2) y))⟩ ⟨rfl,rfl,rfl,rfl,rfl,fun _=>rfl,fun _=>rfl⟩ l)).trans ?_
  show (yB N l).bind _=_
  rw [hN]; exact h2
 ·intro out ho
  obtain ⟨r,h1,h2⟩:=Option.bind_eq_some_iff.mp ho
  obtain ⟨hp,rfl⟩:=zy h1
  obtain ⟨N,hN⟩:=(wY [] hp).2
  refine ⟨N,?_⟩
  refine ((yf (fun y=>some (nocap (oS (.own 136 2) y))) 1 c_slices_Clone___impl_File_impl_File_ zJ [.nil] ⟨rfl,rfl,rfl⟩).trans (rz ⟨G25,[],[],[],N,zJ,none,fun _ _=>none,fun y=>some (nocap (oS (.own 136 2) y))⟩ ⟨rfl,rfl,rfl,rfl,rfl,fun _=>rfl,fun _=>rfl⟩)).trans ?_
  show (yU N).bind _=_
  rw [hN]; exact h2
noncomputable def nD (a0_Files:List TFile):Option (List TFile):=yA (mP a0_Files) (nF a0_Files)
def sF (a:(List TFile)):List X:=[.agg [.d (zb cFile a)]]
noncomputable def nz:List X→Option XOut:=lay sF fun a=>((nD a)).bind fun r=>some (.ret (.agg [ye (cFile) 136 none false r]) [])
theorem ff (a0_Files:List TFile):nz [.agg [.d (zb cFile a0_Files)]]=((nD a0_Files)).bind fun r=>some (.ret (.agg [ye (cFile) 136 none false r]) []):=yk (enc:=sF) (by
 intro a b h
 simp only [sF,List.cons.injEq,X.d.injEq,X.res.injEq,RK.bld.injEq,X.agg.injEq,X.box.injEq,D.int.injEq,D.bool.injEq,D.fn.injEq,yo,zU,zT,and_true,true_and,and_assoc] at h
 exact h) a0_Files
noncomputable def G27:Ctx:=G26.with 60 nz
theorem Ho:SoundAll Try.prog G27:=by
 refine yQ (cuts:=[]) (k:=1) (cd:=c_impl_copied) (rs:=sQ) (enc:=sF) mixed IA Try.func60 (by kernel_rfl) (by kernel_rfl) (by kernel_rfl) (by kernel_rfl) (by kernel_rfl) (by kernel_rfl) (wk:=fun y=>nocap y) Same.nocap ?_
 intro a out ho
 obtain ⟨r,h1,h2⟩:=Option.bind_eq_some_iff.mp ho
 obtain ⟨hp,rfl⟩:=zy h1
 obtain ⟨N,hN⟩:=bM yG (fun _ h=>zz h) a hp
 refine ⟨N,?_⟩
 refine ((yf (fun y=>some (nocap y)) 1 c_impl_copied sQ (sF a) ⟨rfl,rfl,rfl⟩).trans (bK ⟨G26,[],[],[],N,sQ,none,fun _ _=>none,fun y=>some (nocap y)⟩ ⟨rfl,rfl,rfl,rfl,rfl,fun _=>rfl,fun _=>rfl⟩ yG ⟨rfl,(fun a0=>(show G26 102 _=_ from rfl).trans (sh a0))⟩ a)).trans ?_
 show (sr yG N a).bind _=_
 rw [hN]; exact h2
noncomputable def mM (zl:Int) (zf:List UInt8) (zx:List UInt8) (zg:List UInt8):Option (Bool):=yA (lG zl zf zx zg) (ot zl zf zx zg)
def r9 (a:Int×(List UInt8)×(List UInt8)×(List UInt8)):List X:=[.agg [.d (.int .i64 a.1),.d (sD a.2.1),.d (sD a.2.2.1),.d (sD a.2.2.2)]]
noncomputable def mK:List X→Option XOut:=lay r9 fun a=>((mM a.1 a.2.1 a.2.2.1 a.2.2.2)).bind fun r=>some (.ret (.d (.bool r)) [])
theorem eV (zl:Int) (zf:List UInt8) (zx:List UInt8) (zg:List UInt8):mK [.agg [.d (.int .i64 zl),.d (sD zf),.d (sD zx),.d (sD zg)]]=((mM zl zf zx zg)).bind fun r=>some (.ret (.d (.bool r)) []):=yk (enc:=r9) (by
 intro a b h
 simp only [r9,List.cons.injEq,X.d.injEq,X.res.injEq,RK.bld.injEq,X.agg.injEq,X.box.injEq,D.int.injEq,D.bool.injEq,D.fn.injEq,yo,zU,zT,and_true,true_and,and_assoc] at h
 simp only [Prod.ext_iff]; exact h) (zl,zf,zx,zg)
noncomputable def G28:Ctx:=G27.with 106 mK
theorem so28:SoundAll Try.prog G28:=by
 refine yQ (cuts:=[]) (k:=1) (cd:=c_impl_actOk) (rs:=qj) (enc:=r9) mixed Ho Try.func106 (by kernel_rfl) (by kernel_rfl) (by kernel_rfl) (by kernel_rfl) (by kernel_rfl) (by kernel_rfl) (wk:=fun y=>nocap y) Same.nocap ?_
 intro a out ho
 obtain ⟨r,h1,h2⟩:=Option.bind_eq_some_iff.mp ho
 obtain ⟨hp,rfl⟩:=zy h1
 obtain ⟨N,hN⟩:=aC xp (fun _ h=>zz h) a.1 a.2.1 a.2.2.1 a.2.2.2 hp
 refine ⟨N,?_⟩
 refine ((yf (fun y=>some (nocap y)) 1 c_impl_actOk qj (r9 a) ⟨rfl,rfl,rfl⟩).trans (ar ⟨G27,[],[],[],N,qj,none,fun _ _=>none,fun y=>some (nocap y)⟩ ⟨rfl,rfl,rfl,rfl,rfl,fun _=>rfl,fun _=>rfl⟩ xp ⟨rfl,(fun a0=>(show G27 101 _=_ from rfl).trans (oy a0))⟩ a.1 a.2.1 a.2.2.1 a.2.2.2)).trans ?_
 show (qv xp N a.1 a.2.1 a.2.2.1 a.2.2.2).bind _=_
 rw [hN]; exact h2
noncomputable def pq (a0_Files:List TFile) (a1:List TAct) (a2:Int):Option (List TFile×Int):=yA (sY a0_Files a1 a2) (oT a0_Files a1 a2)
def oY (a:(List TFile)×(List TAct)×Int):List X:=[.agg [.d (zb cFile a.1)],.d (zb cAct a.2.1),.d (.int .i64 a.2.2)]
noncomputable def gc:List X→Option XOut:=lay oY fun a=>((pq a.1 a.2.1 a.2.2)).bind fun r=>some (.ret (.tup [.agg [ye (cFile) 136 none false r.1],.d (.int .i64 r.2)]) [])
theorem cf (a0_Files:List TFile) (a1:List TAct) (a2:Int):gc [.agg [.d (zb cFile a0_Files)],.d (zb cAct a1),.d (.int .i64 a2)]=((pq a0_Files a1 a2)).bind fun r=>some (.ret (.tup [.agg [ye (cFile) 136 none false r.1],.d (.int .i64 r.2)]) []):=yk (enc:=oY) (by
 intro a b h
 simp only [oY,List.cons.injEq,X.d.injEq,X.res.injEq,RK.bld.injEq,X.agg.injEq,X.box.injEq,D.int.injEq,D.bool.injEq,D.fn.injEq,yo,zU,zT,and_true,true_and,and_assoc] at h
 simp only [Prod.ext_iff]; exact h) (a0_Files,a1,a2)
noncomputable def G29:Ctx:=G28.with 18 gc
theorem Hf:SoundAll Try.prog G29:=so28.with (XT (Cd:=nA) (Cc:=nz) (Ca:=mK) (by have h:=so28 59; exact h) (by have h:=so28 60; exact h) (by have h:=so28 106; exact h) (D:=qC) (A:=rC) (pre:=sY)
 (fun fs acts most h=>⟨h.2.1,h.2.2.1,h.2.2.2⟩) (fun fs h=>⟨(oB h).2.1,(show ((fs.map pr).map (·.1)).Nodup→(fs.map (·.Name)).Nodup by rw [List.map_map]; exact id) (ZD (oB h).1)⟩)
 (fun fs acts most h=>(fc fs).trans (by rw [show nG fs=some (pI fs) from zz ⟨h.1,Pe h.2.1⟩]; rfl))
 (fun fs acts most h=>(ff fs).trans (by rw [show nD fs=some (nF fs) from zz h.1]; rfl))
 (fun k n t d h=>(eV k n t d).trans (by rw [show mM k n t d=some (ot k n t d) from zz ⟨by rw [uH]; omega,by rw [uH]; omega⟩]; rfl))
 (F:=oT) (fun fs acts most xs n h=>by obtain ⟨e1,e2⟩:=XJ h; exact ⟨e1,congrArg Int.ofNat e2⟩) (enc:=oY) (fun _=>rfl) (fun a out ho=>by
 obtain ⟨r,h1,h2⟩:=Option.bind_eq_some_iff.mp ho
 obtain ⟨hp,rfl⟩:=zy h1
 exact ⟨hp,(Option.some.inj h2).symm⟩))
noncomputable def sP (zf:List UInt8) (zg:List UInt8) (zq:List UInt8) (zr:List UInt8):Option (Bool):=yA (rN zf zg zq zr) (uy zf zg zq zr)
def sH (a:(List UInt8)×(List UInt8)×(List UInt8)×(List UInt8)):List X:=[.agg [.d (sD a.1),.d (sD a.2.1)],.agg [.d (sD a.2.2.1),.d (sD a.2.2.2)]]
noncomputable def jm:List X→Option XOut:=lay sH fun a=>((sP a.1 a.2.1 a.2.2.1 a.2.2.2)).bind fun r=>some (.ret (.d (.bool r)) [])
theorem fp (zf:List UInt8) (zg:List UInt8) (zq:List UInt8) (zr:List UInt8):jm [.agg [.d (sD zf),.d (sD zg)],.agg [.d (sD zq),.d (sD zr)]]=((sP zf zg zq zr)).bind fun r=>some (.ret (.d (.bool r)) []):=yk (enc:=sH) (by
 intro a b h
 simp only [sH,List.cons.injEq,X.d.injEq,X.res.injEq,RK.bld.injEq,X.agg.injEq,X.box.injEq,D.int.injEq,D.bool.injEq,D.fn.injEq,yo,zU,zT,and_true,true_and,and_assoc] at h
 simp only [Prod.ext_iff]; exact h) (zf,zg,zq,zr)
noncomputable def G30:Ctx:=G29.with 111 jm
theorem Hh:SoundAll Try.prog G30:=by
 refine yQ (cuts:=[]) (k:=2) (cd:=c_laws_eqFile) (rs:=ri) (enc:=sH) mixed Hf Try.func111 (by kernel_rfl) (by kernel_rfl) (by kernel_rfl) (by kernel_rfl) (by kernel_rfl) (by kernel_rfl) (wk:=fun y=>nocap y) Same.nocap ?_
 intro a out ho
 obtain ⟨r,h1,h2⟩:=Option.bind_eq_some_iff.mp ho
 obtain ⟨hp,rfl⟩:=zy h1
 obtain ⟨N,hN⟩:=bx a.1 a.2.1 a.2.2.1 a.2.2.2 hp
 refine ⟨N,?_⟩
 refine ((yf (fun y=>some (nocap y)) 2 c_laws_eqFile ri (sH a) ⟨rfl,rfl,rfl⟩).trans (bb ⟨G29,[],[],[],N,ri,none,fun _ _=>none,fun y=>some (nocap y)⟩ ⟨rfl,rfl,rfl,rfl,rfl,fun _=>rfl,fun _=>rfl⟩ a.1 a.2.1 a.2.2.1 a.2.2.2)).trans ?_
 show (s5 N a.1 a.2.1 a.2.2.1 a.2.2.2).bind _=_
 rw [hN]; exact h2
noncomputable def tw (a0:List TFile) (a1:List TFile):Option (Bool):=yA (tV a0 a1) (qU a0 a1)
def tt (a:(List TFile)×(List TFile)):List X:=[.d (zb cFile a.1),.d (zb cFile a.2)]
noncomputable def lV:List X→Option XOut:=lay tt fun a=>((tw a.1 a.2)).bind fun r=>some (.ret (.d (.bool r)) [])
theorem iY (a0:List TFile) (a1:List TFile):lV [.d (zb cFile a0),.d (zb cFile a1)]=((tw a0 a1)).bind fun r=>some (.ret (.d (.bool r)) []):=yk (enc:=tt) (by
 intro a b h
 simp only [tt,List.cons.injEq,X.d.injEq,X.res.injEq,RK.bld.injEq,X.agg.injEq,X.box.injEq,D.int.injEq,D.bool.injEq,D.fn.injEq,yo,zU,zT,and_true,true_and,and_assoc] at h
 simp only [Prod.ext_iff]; exact h) (a0,a1)
noncomputable def G31:Ctx:=G30.with 64 lV
theorem IP:SoundAll Try.prog G31:=by
 refine yQ (cuts:=[]) (k:=2) (cd:=c_laws_eqFileS) (rs:=wS) (enc:=tt) mixed Hh Try.func64 (by kernel_rfl) (by kernel_rfl) (by kernel_rfl) (by kernel_rfl) (by kernel_rfl) (by kernel_rfl) (wk:=fun y=>nocap y) Same.nocap ?_
 intro a out ho
 obtain ⟨r,h1,h2⟩:=Option.bind_eq_some_iff.mp ho
 obtain ⟨hp,rfl⟩:=zy h1
 obtain ⟨N,hN⟩:=d7 sP (fun _ _ _ _ h=>zz h) a.1 a.2 hp
 refine ⟨N,?_⟩
 refine ((yf (fun y=>some (nocap y)) 2 c_laws_eqFileS wS (tt a) ⟨rfl,rfl,rfl⟩).trans (di ⟨G30,[],[],[],N,wS,none,fun _ _=>none,fun y=>some (nocap y)⟩ ⟨rfl,rfl,rfl,rfl,rfl,fun _=>rfl,fun _=>rfl⟩ sP ⟨rfl,(fun zf zg zq zr=>(show G30 111 _=_ from rfl).trans (fp zf zg zq zr))⟩ a.1 a.2)).trans ?_
 show (tF sP N a.1 a.2).bind _=_
 rw [hN]; exact h2
noncomputable def rq (a0_Files:List TFile) (xO:List TFile):Option (Bool):=yA (uB a0_Files xO) (pM a0_Files xO)
def rh (a:(List TFile)×(List TFile)):List X:=[.agg [.d (zb cFile a.1)],.agg [.d (zb cFile a.2)]]
noncomputable def k7:List X→Option XOut:=lay rh fun a=>((rq a.1 a.2)).bind fun r=>some (.ret (.d (.bool r)) [])
theorem gJ (a0_Files:List TFile) (xO:List TFile):k7 [.agg [.d (zb cFile a0_Files)],.agg [.d (zb cFile xO)]]=((rq a0_Files xO)).bind fun r=>some (.ret (.d (.bool r)) []):=yk (enc:=rh) (by
 intro a b h
 simp only [rh,List.cons.injEq,X.d.injEq,X.res.injEq,RK.bld.injEq,X.agg.injEq,X.box.injEq,D.int.injEq,D.bool.injEq,D.fn.injEq,yo,zU,zT,and_true,true_and,and_assoc] at h
 simp only [Prod.ext_iff]; exact h) (a0_Files,xO)
noncomputable def G32:Ctx:=G31.with 19 k7
theorem I9:SoundAll Try.prog G32:=by
 refine yQ (cuts:=[]) (k:=2) (cd:=c_laws_eqDisk) (rs:=s7) (enc:=rh) mixed IP Try.func19 (by kernel_rfl) (by kernel_rfl) (by kernel_rfl) (by kernel_rfl) (by kernel_rfl) (by kernel_rfl) (wk:=fun y=>nocap y) Same.nocap ?_
 intro a out ho
 obtain ⟨r,h1,h2⟩:=Option.bind_eq_some_iff.mp ho
 obtain ⟨hp,rfl⟩:=zy h1
 obtain ⟨N,hN⟩:=bD tw (fun _ _ h=>zz h) a.1 a.2 hp
 refine ⟨N,?_⟩
 refine ((yf (fun y=>some (nocap y)) 2 c_laws_eqDisk s7 (rh a) ⟨rfl,rfl,rfl⟩).trans (cY ⟨G31,[],[],[],N,s7,none,fun _ _=>none,fun y=>some (nocap y)⟩ ⟨rfl,rfl,rfl,rfl,rfl,fun _=>rfl,fun _=>rfl⟩ tw ⟨rfl,(fun a0 a1=>(show G31 64 _=_ from rfl).trans (iY a0 a1))⟩ a.1 a.2)).trans ?_
 show (sM tw N a.1 a.2).bind _=_
 rw [hN]; exact h2
noncomputable def qe (zl:Int) (zf:List UInt8) (zx:List UInt8) (zg:List UInt8) (zW:Int) (zq:List UInt8) (yM:List UInt8) (zr:List UInt8):Option (Bool):=yA (qN zl zf zx zg zW zq yM zr) (tB zl zf zx zg zW zq yM zr)
def qx (a:Int×(List UInt8)×(List UInt8)×(List UInt8)×Int×(List UInt8)×(List UInt8)×(List UInt8)):List X:=[.agg [.d (.int .i64 a.1),.d (sD a.2.1),.d (sD a.2.2.1),.d (sD a.2.2.2.1)],.agg [.d (.int .i64 a.2.2.2.2.1),.d (sD a.2.2.2.2.2.1),.d (sD a.2.2.2.2.2.2.1),.d (sD a.2.2.2.2.2.2.2)]]
noncomputable def ig:List X→Option XOut:=lay qx fun a=>((qe a.1 a.2.1 a.2.2.1 a.2.2.2.1 a.2.2.2.2.1 a.2.2.2.2.2.1 a.2.2.2.2.2.2.1 a.2.2.2.2.2.2.2)).bind fun r=>some (.ret (.d (.bool r)) [])
theorem eE (zl:Int) (zf:List UInt8) (zx:List UInt8) (zg:List UInt8) (zW:Int) (zq:List UInt8) (yM:List UInt8) (zr:List UInt8):ig [.agg [.d (.int .i64 zl),.d (sD zf),.d (sD zx),.d (sD zg)],.agg [.d (.int .i64 zW),.d (sD zq),.d (sD yM),.d (sD zr)]]=((qe zl zf zx zg zW zq yM zr)).bind fun r=>some (.ret (.d (.bool r)) []):=yk (enc:=qx) (by
 intro a b h
 simp only [qx,List.cons.injEq,X.d.injEq,X.res.injEq,RK.bld.injEq,X.agg.injEq,X.box.injEq,D.int.injEq,D.bool.injEq,D.fn.injEq,yo,zU,zT,and_true,true_and,and_assoc] at h
 simp only [Prod.ext_iff]; exact h) (zl,zf,zx,zg,zW,zq,yM,zr)
noncomputable def G33:Ctx:=G32.with 65 ig
theorem IL:SoundAll Try.prog G33:=by
 refine yQ (cuts:=[]) (k:=2) (cd:=c_laws_eqAct) (rs:=qw) (enc:=qx) mixed I9 Try.func65 (by kernel_rfl) (by kernel_rfl) (by kernel_rfl) (by kernel_rfl) (by kernel_rfl) (by kernel_rfl) (wk:=fun y=>nocap y) Same.nocap ?_
 intro a out ho
 obtain ⟨r,h1,h2⟩:=Option.bind_eq_some_iff.mp ho
 obtain ⟨hp,rfl⟩:=zy h1
 obtain ⟨N,hN⟩:=bX a.1 a.2.1 a.2.2.1 a.2.2.2.1 a.2.2.2.2.1 a.2.2.2.2.2.1 a.2.2.2.2.2.2.1 a.2.2.2.2.2.2.2 hp
 refine ⟨N,?_⟩
 refine ((yf (fun y=>some (nocap y)) 2 c_laws_eqAct qw (qx a) ⟨rfl,rfl,rfl⟩).trans (ax ⟨G32,[],[],[],N,qw,none,fun _ _=>none,fun y=>some (nocap y)⟩ ⟨rfl,rfl,rfl,rfl,rfl,fun _=>rfl,fun _=>rfl⟩ a.1 a.2.1 a.2.2.1 a.2.2.2.1 a.2.2.2.2.1 a.2.2.2.2.2.1 a.2.2.2.2.2.2.1 a.2.2.2.2.2.2.2)).trans ?_
 show (qa N a.1 a.2.1 a.2.2.1 a.2.2.2.1 a.2.2.2.2.1 a.2.2.2.2.2.1 a.2.2.2.2.2.2.1 a.2.2.2.2.2.2.2).bind _=_
 rw [hN]; exact h2
noncomputable def sN (a0:List TAct) (a1:List TAct):Option (Bool):=yA (rO a0 a1) (sB a0 a1)
def s4 (a:(List TAct)×(List TAct)):List X:=[.d (zb cAct a.1),.d (zb cAct a.2)]
noncomputable def jd:List X→Option XOut:=lay s4 fun a=>((sN a.1 a.2)).bind fun r=>some (.ret (.d (.bool r)) [])
theorem gV (a0:List TAct) (a1:List TAct):jd [.d (zb cAct a0),.d (zb cAct a1)]=((sN a0 a1)).bind fun r=>some (.ret (.d (.bool r)) []):=yk (enc:=s4) (by
 intro a b h
 simp only [s4,List.cons.injEq,X.d.injEq,X.res.injEq,RK.bld.injEq,X.agg.injEq,X.box.injEq,D.int.injEq,D.bool.injEq,D.fn.injEq,yo,zU,zT,and_true,true_and,and_assoc] at h
 simp only [Prod.ext_iff]; exact h) (a0,a1)
noncomputable def G34:Ctx:=G33.with 20 jd
theorem IM:SoundAll Try.prog G34:=by
 refine yQ (cuts:=[]) (k:=2) (cd:=c_laws_eqActS) (rs:=vv) (enc:=s4) mixed IL Try.func20 (by kernel_rfl) (by kernel_rfl) (by kernel_rfl) (by kernel_rfl) (by kernel_rfl) (by kernel_rfl) (wk:=fun y=>nocap y) Same.nocap ?_
 intro a out ho
 obtain ⟨r,h1,h2⟩:=Option.bind_eq_some_iff.mp ho
 obtain ⟨hp,rfl⟩:=zy h1
 obtain ⟨N,hN⟩:=bp qe (fun _ _ _ _ _ _ _ _ h=>zz h) a.1 a.2 hp
 refine ⟨N,?_⟩
 refine ((yf (fun y=>some (nocap y)) 2 c_laws_eqActS vv (s4 a) ⟨rfl,rfl,rfl⟩).trans (bA ⟨G33,[],[],[],N,vv,none,fun _ _=>none,fun y=>some (nocap y)⟩ ⟨rfl,rfl,rfl,rfl,rfl,fun _=>rfl,fun _=>rfl⟩ qe ⟨rfl,(fun zl zf zx zg zW zq yM zr=>(show G33 65 _=_ from rfl).trans (eE zl zf zx zg zW zq yM zr))⟩ a.1 a.2)).trans ?_
 show (re qe N a.1 a.2).bind _=_
 rw [hN]; exact h2
noncomputable def yZ (a0:Int):Option (List UInt8):=yA (yj a0) (zR a0)
def uZ (a:Int):List X:=[.d (.int .i64 a)]
noncomputable def lp:List X→Option XOut:=lay uZ fun a=>((yZ a)).bind fun r=>some (.ret (.d (sD r)) [])
theorem qA (a0:Int):lp [.d (.int .i64 a0)]=((yZ a0)).bind fun r=>some (.ret (.d (sD r)) []):=yk (enc:=uZ) (by
 intro a b h
 simp only [uZ,List.cons.injEq,X.d.injEq,X.res.injEq,RK.bld.injEq,X.agg.injEq,X.box.injEq,D.int.injEq,D.bool.injEq,D.fn.injEq,yo,zU,zT,and_true,true_and,and_assoc] at h
 exact h) a0
noncomputable def G35:Ctx:=G34.with 67 lp
theorem IS:SoundAll Try.prog G35:=by
 refine yQ (cuts:=[]) (k:=1) (cd:=c_laws_markText) (rs:=wz) (enc:=uZ) mixed IM Try.func67 (by kernel_rfl) (by kernel_rfl) (by kernel_rfl) (by kernel_rfl) (by kernel_rfl) (by kernel_rfl) (wk:=fun y=>nocap y) Same.nocap ?_
 intro a out ho
 obtain ⟨r,h1,h2⟩:=Option.bind_eq_some_iff.mp ho
 obtain ⟨hp,rfl⟩:=zy h1
 obtain ⟨N,hN⟩:=fL a hp
 refine ⟨N,?_⟩
 refine ((yf (fun y=>some (nocap y)) 1 c_laws_markText wz (uZ a) ⟨rfl,rfl,rfl⟩).trans (eb ⟨G34,[],[],[],N,wz,none,fun _ _=>none,fun y=>some (nocap y)⟩ ⟨rfl,rfl,rfl,rfl,rfl,fun _=>rfl,fun _=>rfl⟩ a)).trans ?_
 show (u2 N a).bind _=_
 rw [hN]; exact h2
noncomputable def uc (a0:List TFile) (a1:Int):Option (Int×List TFile):=yA (u0 a0 a1) (xz a0 a1)
def ua (a:(List TFile)×Int):List X:=[ye cFile 136 none false a.1,.d (.int .i64 a.2)]
noncomputable def ml:List X→Option XOut:=lay ua fun a=>((uc a.1 a.2)).bind fun r=>some (.ret (.d (.int .i64 r.1)) [[zb (cFile) r.2]])
theorem jt (a0:List TFile) (a1:Int):ml [ye cFile 136 none false a0,.d (.int .i64 a1)]=((uc a0 a1)).bind fun r=>some (.ret (.d (.int .i64 r.1)) [[zb (cFile) r.2]]):=yk (enc:=ua) (by
 intro a b h
 simp only [ua,List.cons.injEq,X.d.injEq,X.res.injEq,RK.bld.injEq,X.agg.injEq,X.box.injEq,D.int.injEq,D.bool.injEq,D.fn.injEq,yo,zU,zT,and_true,true_and,and_assoc] at h
 simp only [Prod.ext_iff]; exact h) (a0,a1)
noncomputable def G36:Ctx:=G35.with 66 ml true
theorem IG:SoundAll Try.prog G36:=by
 refine yQ (cuts:=[]) (k:=2) (cd:=c_laws_markFileS) (rs:=wc) (enc:=ua) mixed IS Try.func66 (by kernel_rfl) (by kernel_rfl) (by kernel_rfl) (by kernel_rfl) (by kernel_rfl) (by kernel_rfl) (wk:=fun y=>nocap y) Same.nocap ?_
 intro a out ho
 obtain ⟨r,h1,h2⟩:=Option.bind_eq_some_iff.mp ho
 obtain ⟨hp,rfl⟩:=zy h1
 obtain ⟨N,hN⟩:=fg yZ (fun _ h=>zz h) a.1 a.2 hp
 refine ⟨N,?_⟩
 refine ((yf (fun y=>some (nocap y)) 2 c_laws_markFileS wc (ua a) ⟨rfl,rfl,rfl⟩).trans (gN ⟨G35,[0],[0],[(0,.row 136 2)],N,wc,none,fun _ _=>none,fun y=>some (nocap y)⟩ ⟨rfl,rfl,rfl,rfl,rfl,fun _=>rfl,fun _=>rfl⟩ yZ ⟨rfl,(fun a0=>(show G35 67 _=_ from rfl).trans (qA a0))⟩ a.1 a.2)).trans ?_
 show (uj yZ N a.1 a.2).bind _=_
 rw [hN]; exact h2
noncomputable def uR (a0_Files:List TFile) (a1:Int):Option (Int×List TFile):=yA (pf a0_Files a1) (yC a0_Files a1)
def uJ (a:(List TFile)×Int):List X:=[.agg [ye cFile 136 none false a.1],.d (.int .i64 a.2)]
noncomputable def mQ:List X→Option XOut:=lay uJ fun a=>((uR a.1 a.2)).bind fun r=>some (.ret (.d (.int .i64 r.1)) [[zb (cFile) r.2]])
theorem jL (a0_Files:List TFile) (a1:Int):mQ [.agg [ye cFile 136 none false a0_Files],.d (.int .i64 a1)]=((uR a0_Files a1)).bind fun r=>some (.ret (.d (.int .i64 r.1)) [[zb (cFile) r.2]]):=yk (enc:=uJ) (by
 intro a b h
 simp only [uJ,List.cons.injEq,X.d.injEq,X.res.injEq,RK.bld.injEq,X.agg.injEq,X.box.injEq,D.int.injEq,D.bool.injEq,D.fn.injEq,yo,zU,zT,and_true,true_and,and_assoc] at h
 simp only [Prod.ext_iff]; exact h) (a0_Files,a1)
noncomputable def G37:Ctx:=G36.with 21 mQ true
theorem Iz:SoundAll Try.prog G37:=by
 refine yQ (cuts:=[]) (k:=2) (cd:=c_laws_markDisk) (rs:=u6) (enc:=uJ) mixed IG Try.func21 (by kernel_rfl) (by kernel_rfl) (by kernel_rfl) (by kernel_rfl) (by kernel_rfl) (by kernel_rfl) (wk:=fun y=>nocap y) Same.nocap ?_
 intro a out ho
 obtain ⟨r,h1,h2⟩:=Option.bind_eq_some_iff.mp ho
 obtain ⟨hp,rfl⟩:=zy h1
 obtain ⟨N,hN⟩:=eT uc (fun _ _ h=>zz h) a.1 a.2 hp
 refine ⟨N,?_⟩
 refine ((yf (fun y=>some (nocap y)) 2 c_laws_markDisk u6 (uJ a) ⟨rfl,rfl,rfl⟩).trans (eR ⟨G36,[0],[0],[(0,.row 136 2)],N,u6,none,fun _ _=>none,fun y=>some (nocap y)⟩ ⟨rfl,rfl,rfl,rfl,rfl,fun _=>rfl,fun _=>rfl⟩ uc ⟨rfl,(fun a0 a1=>(show G36 66 _=_ from rfl).trans (jt a0 a1))⟩ a.1 a.2)).trans ?_
 show (uC uc N a.1 a.2).bind _=_
 rw [hN]; exact h2
noncomputable def uX (a0:List TAct) (a1:Int):Option (Int×List TAct):=yA (pd a0 a1) (vt a0 a1)
def uN (a:(List TAct)×Int):List X:=[ye cAct 78 none false a.1,.d (.int .i64 a.2)]
noncomputable def m4:List X→Option XOut:=lay uN fun a=>((uX a.1 a.2)).bind fun r=>some (.ret (.d (.int .i64 r.1)) [[zb (cAct) r.2]])
theorem jA (a0:List TAct) (a1:Int):m4 [ye cAct 78 none false a0,.d (.int .i64 a1)]=((uX a0 a1)).bind fun r=>some (.ret (.d (.int .i64 r.1)) [[zb (cAct) r.2]]):=yk (enc:=uN) (by
 intro a b h
 simp only [uN,List.cons.injEq,X.d.injEq,X.res.injEq,RK.bld.injEq,X.agg.injEq,X.box.injEq,D.int.injEq,D.bool.injEq,D.fn.injEq,yo,zU,zT,and_true,true_and,and_assoc] at h
 simp only [Prod.ext_iff]; exact h) (a0,a1)
noncomputable def G38:Ctx:=G37.with 22 m4 true
theorem HA:SoundAll Try.prog G38:=by
 refine yQ (cuts:=[]) (k:=2) (cd:=c_laws_markActS) (rs:=wF) (enc:=uN) mixed Iz Try.func22 (by kernel_rfl) (by kernel_rfl) (by kernel_rfl) (by kernel_rfl) (by kernel_rfl) (by kernel_rfl) (wk:=fun y=>nocap y) Same.nocap ?_
 intro a out ho
 obtain ⟨r,h1,h2⟩:=Option.bind_eq_some_iff.mp ho
 obtain ⟨hp,rfl⟩:=zy h1
 obtain ⟨N,hN⟩:=eN yZ (fun _ h=>zz h) a.1 a.2 hp
 refine ⟨N,?_⟩
 refine ((yf (fun y=>some (nocap y)) 2 c_laws_markActS wF (uN a) ⟨rfl,rfl,rfl⟩).trans (eS ⟨G37,[0],[0],[(0,.row 78 4)],N,wF,none,fun _ _=>none,fun y=>some (nocap y)⟩ ⟨rfl,rfl,rfl,rfl,rfl,fun _=>rfl,fun _=>rfl⟩ yZ ⟨rfl,(fun a0=>(show G37 67 _=_ from rfl).trans (qA a0))⟩ a.1 a.2)).trans ?_
 show (uF yZ N a.1 a.2).bind _=_
 rw [hN]; exact h2
noncomputable def uh (a0:List TFile) (a1:Int):Option (Int):=yA (uK a0 a1) (xx a0 a1)
def ul (a:(List TFile)×Int):List X:=[.d (zb cFile a.1),.d (.int .i64 a.2)]
noncomputable def mz:List X→Option XOut:=lay ul fun a=>((uh a.1 a.2)).bind fun r=>some (.ret (.d (.int .i64 r)) [])
theorem jw (a0:List TFile) (a1:Int):mz [.d (zb cFile a0),.d (.int .i64 a1)]=((uh a0 a1)).bind fun r=>some (.ret (.d (.int .i64 r)) []):=yk (enc:=ul) (by
 intro a b h
 simp only [ul,List.cons.injEq,X.d.injEq,X.res.injEq,RK.bld.injEq,X.agg.injEq,X.box.injEq,D.int.injEq,D.bool.injEq,D.fn.injEq,yo,zU,zT,and_true,true_and,and_assoc] at h
 simp only [Prod.ext_iff]; exact h) (a0,a1)
noncomputable def G39:Ctx:=G38.with 68 mz
theorem I2:SoundAll Try.prog G39:=by
 refine yQ (cuts:=[]) (k:=2) (cd:=c_laws_heldFileS) (rs:=xY) (enc:=ul) mixed HA Try.func68 (by kernel_rfl) (by kernel_rfl) (by kernel_rfl) (by kernel_rfl) (by kernel_rfl) (by kernel_rfl) (wk:=fun y=>nocap y) Same.nocap ?_
 intro a out ho
 obtain ⟨r,h1,h2⟩:=Option.bind_eq_some_iff.mp ho
 obtain ⟨hp,rfl⟩:=zy h1
 obtain ⟨N,hN⟩:=gX yZ (fun _ h=>zz h) a.1 a.2 hp
 refine ⟨N,?_⟩
 refine ((yf (fun y=>some (nocap y)) 2 c_laws_heldFileS xY (ul a) ⟨rfl,rfl,rfl⟩).trans (fo ⟨G38,[],[],[],N,xY,none,fun _ _=>none,fun y=>some (nocap y)⟩ ⟨rfl,rfl,rfl,rfl,rfl,fun _=>rfl,fun _=>rfl⟩ yZ ⟨rfl,(fun a0=>(show G38 67 _=_ from rfl).trans (qA a0))⟩ a.1 a.2)).trans ?_
 show (uf yZ N a.1 a.2).bind _=_
 rw [hN]; exact h2
noncomputable def uP (a0_Files:List TFile) (a1:Int):Option (Int):=yA (tj a0_Files a1) (vk a0_Files a1)
def uI (a:(List TFile)×Int):List X:=[.agg [.d (zb cFile a.1)],.d (.int .i64 a.2)]
noncomputable def mT:List X→Option XOut:=lay uI fun a=>((uP a.1 a.2)).bind fun r=>some (.ret (.d (.int .i64 r)) [])
theorem jY (a0_Files:List TFile) (a1:Int):mT [.agg [.d (zb cFile a0_Files)],.d (.int .i64 a1)]=((uP a0_Files a1)).bind fun r=>some (.ret (.d (.int .i64 r)) []):=yk (enc:=uI) (by
 intro a b h
 simp only [uI,List.cons.injEq,X.d.injEq,X.res.injEq,RK.bld.injEq,X.agg.injEq,X.box.injEq,D.int.injEq,D.bool.injEq,D.fn.injEq,yo,zU,zT,and_true,true_and,and_assoc] at h
 simp only [Prod.ext_iff]; exact h) (a0_Files,a1)
noncomputable def G40:Ctx:=G39.with 23 mT
theorem I7:SoundAll Try.prog G40:=by
 refine yQ (cuts:=[]) (k:=2) (cd:=c_laws_heldDisk) (rs:=uQ) (enc:=uI) mixed I2 Try.func23 (by kernel_rfl) (by kernel_rfl) (by kernel_rfl) (by kernel_rfl) (by kernel_rfl) (by kernel_rfl) (wk:=fun y=>nocap y) Same.nocap ?_
 intro a out ho
 obtain ⟨r,h1,h2⟩:=Option.bind_eq_some_iff.mp ho
 obtain ⟨hp,rfl⟩:=zy h1
 obtain ⟨N,hN⟩:=fN uh (fun _ _ h=>zz h) a.1 a.2 hp
 refine ⟨N,?_⟩
 refine ((yf (fun y=>some (nocap y)) 2 c_laws_heldDisk uQ (uI a) ⟨rfl,rfl,rfl⟩).trans (ep ⟨G39,[],[],[],N,uQ,none,fun _ _=>none,fun y=>some (nocap y)⟩ ⟨rfl,rfl,rfl,rfl,rfl,fun _=>rfl,fun _=>rfl⟩ uh ⟨rfl,(fun a0 a1=>(show G39 68 _=_ from rfl).trans (jw a0 a1))⟩ a.1 a.2)).trans ?_
 show (u4 uh N a.1 a.2).bind _=_
 rw [hN]; exact h2
noncomputable def rZ (a0_Files:List TFile) (a1:List TAct) (a2:Int):Option (Bool):=yA (wx a0_Files a1 a2) (qm a0_Files a1 a2)
def ve (a:(List TFile)×(List TAct)×Int):List X:=[.agg [.d (zb cFile a.1)],.d (zb cAct a.2.1),.d (.int .i64 a.2.2)]
noncomputable def u5:List X→Option XOut:=lay ve fun a=>((rZ a.1 a.2.1 a.2.2)).bind fun r=>some (.ret (.d (.bool r)) [])
theorem lA (a0_Files:List TFile) (a1:List TAct) (a2:Int):u5 [.agg [.d (zb cFile a0_Files)],.d (zb cAct a1),.d (.int .i64 a2)]=((rZ a0_Files a1 a2)).bind fun r=>some (.ret (.d (.bool r)) []):=yk (enc:=ve) (by
 intro a b h
 simp only [ve,List.cons.injEq,X.d.injEq,X.res.injEq,RK.bld.injEq,X.agg.injEq,X.box.injEq,D.int.injEq,D.bool.injEq,D.fn.injEq,yo,zU,zT,and_true,true_and,and_assoc] at h
 simp only [Prod.ext_iff]; exact h) (a0_Files,a1,a2)
noncomputable def G41:Ctx:=G40.with 4 u5
theorem IX:SoundAll Try.prog G41:=by
 refine yQ (cuts:=[]) (k:=3) (cd:=c_laws_FnExactPlay) (rs:=vf) (enc:=ve) mixed I7 Try.func4 (by kernel_rfl) (by kernel_rfl) (by kernel_rfl) (by kernel_rfl) (by kernel_rfl) (by kernel_rfl) (wk:=fun y=>nocap y) Same.nocap ?_
 intro a out ho
 obtain ⟨r,h1,h2⟩:=Option.bind_eq_some_iff.mp ho
 obtain ⟨hp,rfl⟩:=zy h1
 obtain ⟨N,hN⟩:=jN sU (fun _ _ h=>zz h) s8 (fun _ _ h=>zz h) sA (fun _ h=>zz h) sK (fun _ h=>zz h) pm (fun _ _ _ h=>zz h) pq (fun _ _ _ h=>zz h) rq (fun _ _ h=>zz h) sN (fun _ _ h=>zz h) uR (fun _ _ h=>zz h) uX (fun _ _ h=>zz h) uP (fun _ _ h=>zz h) a.1 a.2.1 a.2.2 hp
 refine ⟨N,?_⟩
 refine ((yf (fun y=>some (nocap y)) 3 c_laws_FnExactPlay vf (ve a) ⟨rfl,rfl,rfl⟩).trans (jy ⟨G40,[],[],[],N,vf,none,fun _ _=>none,fun y=>some (nocap y)⟩ ⟨rfl,rfl,rfl,rfl,rfl,fun _=>rfl,fun _=>rfl⟩ sU ⟨rfl,(fun a0_Files a1=>(show G40 13 _=_ from rfl).trans (g9 a0_Files a1))⟩ s8 ⟨rfl,(fun a0 a1=>(show G40 14 _=_ from rfl).trans (gR a0 a1))⟩ sA ⟨rfl,(fun a0_Files=>(show G40 16 _=_ from rfl).trans (gF a0_Files))⟩ sK ⟨rfl,(fun a0=>(show G40 17 _=_ from rfl).trans (ft a0))⟩ pm ⟨rfl,(fun a0_Files a1 a2=>(show G40 15 _=_ from rfl).trans (dY a0_Files a1 a2))⟩ pq ⟨rfl,(fun a0_Files a1 a2=>(show G40 18 _=_ from rfl).trans (cf a0_Files a1 a2))⟩ rq ⟨rfl,(fun a0_Files xO=>(show G40 19 _=_ from rfl).trans (gJ a0_Files xO))⟩ sN ⟨rfl,(fun a0 a1=>(show G40 20 _=_ from rfl).trans (gV a0 a1))⟩ uR ⟨rfl,(fun a0_Files a1=>(show G40 21 _=_ from rfl).trans (jL a0_Files a1))⟩ uX ⟨rfl,(fun a0 a1=>(show G40 22 _=_ from rfl).trans (jA a0 a1))⟩ uP ⟨rfl,(fun a0_Files a1=>(show G40 23 _=_ from rfl).trans (jY a0_Files a1))⟩ a.1 a.2.1 a.2.2)).trans ?_
 show (vd sU s8 sA sK pm pq rq sN uR uX uP N a.1 a.2.1 a.2.2).bind _=_
 rw [hN]; exact h2
theorem law:Sound Try.prog 4 u5:=by
 have h:=IX 4
 exact h
end Go.Proofs.Ytpjfklhaogdfeaa.TowPl
