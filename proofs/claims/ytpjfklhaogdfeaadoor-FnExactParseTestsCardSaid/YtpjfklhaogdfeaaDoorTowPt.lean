/- The contracts of the functions under laws_FnExactParseTests, one upon the other. Printed by a program of this session. -/
import Derived.Test.YtpjfklhaogdfeaaDoorFPt
import Derived.Test.YtpjfklhaogdfeaaDoorPTsX
import Derived.Test.YtpjfklhaogdfeaaDoorNsP
import Derived.Test.YtpjfklhaogdfeaaDoorLayC
import Derived.Test.YtpjfklhaogdfeaaDoorVmLayer
import Derived.Test.YtpjfklhaogdfeaaDoorProg
set_option linter.all false
set_option maxRecDepth 100000
namespace Go.Proofs.YtpjfklhaogdfeaaDoor.TowPt
open Go.Vm
variable [gl:Gl] [tb:GlTab]
theorem mixed:Tryd.prog.follows .mixedOrders=true:=by kernel_rfl
noncomputable def G0:Ctx:=Γ0 zi
theorem so0:SoundAll Tryd.prog G0:=Γ0_sound _ _
noncomputable def xi (a0:List UInt8) (a1:Int):Option (List (List UInt8)):=yy (uZ a0 a1) (xS a0 a1)
def sA (a:(List UInt8)×Int):List X:=[.d (sD a.1),.d (.int .u8 a.2)]
noncomputable def lZ:List X→Option XOut:=lay sA fun a=>((xi a.1 a.2)).bind fun r=>some (.ret (zx (cS) 9 none false r) [])
theorem rZ (a0:List UInt8) (a1:Int):lZ [.d (sD a0),.d (.int .u8 a1)]=((xi a0 a1)).bind fun r=>some (.ret (zx (cS) 9 none false r) []):=z7 (enc:=sA) (by
 intro a b h
 simp only [sA,List.cons.injEq,X.d.injEq,X.res.injEq,RK.bld.injEq,X.agg.injEq,X.box.injEq,D.int.injEq,D.bool.injEq,D.fn.injEq,ya,zO,zN,and_true,true_and,and_assoc] at h
 simp only [Prod.ext_iff]; exact h) (a0,a1)
noncomputable def G1:Ctx:=G0.with 9 lZ
theorem so1:SoundAll Tryd.prog G1:=by
 refine wJ (cuts:=[]) (k:=2) (cd:=c_spec_l1Cut) (rs:=vK) (enc:=sA) mixed so0 Tryd.func9 (by kernel_rfl) (by kernel_rfl) (by kernel_rfl) (by kernel_rfl) (by kernel_rfl) (by kernel_rfl) (wk:=fun y=>nocap y) Same.nocap ?_
 intro a out ho
 obtain ⟨r,h1,h2⟩:=Option.bind_eq_some_iff.mp ho
 obtain ⟨hp,rfl⟩:=zD h1
 obtain ⟨N,hN⟩:=d6 a.1 a.2 hp
 refine ⟨N,?_⟩
 refine ((yH (fun y=>some (nocap y)) 2 c_spec_l1Cut vK (sA a) ⟨rfl,rfl,rfl⟩).trans (dF ⟨G0,[],[],[],N,vK,none,fun _ _=>none,fun y=>some (nocap y)⟩ ⟨rfl,rfl,rfl,rfl,rfl,fun _=>rfl,fun _=>rfl⟩ a.1 a.2)).trans ?_
 show (sB N a.1 a.2).bind _=_
 rw [hN]; exact h2
noncomputable def xb (a0:Int):Option (List UInt8):=yy (uV a0) (xc a0)
def xg (a:Int):List X:=[.d (.int .i64 a)]
noncomputable def lj:List X→Option XOut:=lay xg fun a=>((xb a)).bind fun r=>some (.ret (.d (sD r)) [])
theorem gf:∀ a b,xg a=xg b→a=b:=by
 intro a b h
 simp only [xg,List.cons.injEq,X.d.injEq,X.res.injEq,RK.bld.injEq,X.agg.injEq,X.box.injEq,D.int.injEq,D.bool.injEq,D.fn.injEq,ya,zO,zN,and_true,true_and,and_assoc] at h
 exact h
theorem ij (a0:Int):lj [.d (.int .i64 a0)]=((xb a0)).bind fun r=>some (.ret (.d (sD r)) []):=z7 (enc:=xg) (by
 intro a b h
 simp only [xg,List.cons.injEq,X.d.injEq,X.res.injEq,RK.bld.injEq,X.agg.injEq,X.box.injEq,D.int.injEq,D.bool.injEq,D.fn.injEq,ya,zO,zN,and_true,true_and,and_assoc] at h
 exact h) a0
noncomputable def G2:Ctx:=G1.with 46 lj
theorem so2:SoundAll Tryd.prog G2:=by
 refine Yj (mu:=fun a=>yv a) (cuts:=[]) (k:=1) (cd:=c_spec_l1Dec) (rs:=sF) (enc:=xg) mixed so1 Tryd.func46 (by kernel_rfl) (by kernel_rfl) (by kernel_rfl) (by kernel_rfl) (by kernel_rfl) (by kernel_rfl) (wk:=fun y=>nocap y) Same.nocap ?_
 intro j a out ho hj
 obtain ⟨r,h1,h2⟩:=Option.bind_eq_some_iff.mp ho
 obtain ⟨hp,rfl⟩:=zD h1
 obtain ⟨N,hN⟩:=dS (fun a0=>if yv a0 < j then xb a0 else none) j (fun _ hm h=>(if_pos hm).trans (zA h)) a hp hj
 refine ⟨N,?_⟩
 refine ((yH (fun y=>some (nocap y)) 1 c_spec_l1Dec sF (xg a) ⟨rfl,rfl,rfl⟩).trans (dr ⟨(G1.with 46 (lay xg fun a=>if yv a < j then ((xb a)).bind fun r=>some (.ret (.d (sD r)) []) else none)),[],[],[],N,sF,none,fun _ _=>none,fun y=>some (nocap y)⟩ ⟨rfl,rfl,rfl,rfl,rfl,fun _=>rfl,fun _=>rfl⟩ (fun a0=>if yv a0 < j then xb a0 else none) ⟨rfl,fun a0=>(show (G1.with 46 (lay xg fun a=>if yv a < j then ((xb a)).bind fun r=>some (.ret (.d (sD r)) []) else none)) 46 _=_ from rfl).trans ((z7 (β:=XOut) (enc:=xg) (C:=fun a=>if yv a < j then ((xb a)).bind fun r=>some (.ret (.d (sD r)) []) else none) gf a0).trans (by dsimp only; split <;> rfl))⟩ a)).trans ?_
 show (sn (fun a0=>if yv a0 < j then xb a0 else none) N a).bind _=_
 rw [hN]; exact h2
noncomputable def sL (a0:List UInt8):Option (Int×Bool):=yy (qA a0) (rR a0)
def sE (a:(List UInt8)):List X:=[.d (sD a)]
noncomputable def lJ:List X→Option XOut:=lay sE fun a=>((sL a)).bind fun r=>some (.ret (.tup [.d (.int .i64 r.1),.d (.bool r.2)]) [])
theorem jO (a0:List UInt8):lJ [.d (sD a0)]=((sL a0)).bind fun r=>some (.ret (.tup [.d (.int .i64 r.1),.d (.bool r.2)]) []):=z7 (enc:=sE) (by
 intro a b h
 simp only [sE,List.cons.injEq,X.d.injEq,X.res.injEq,RK.bld.injEq,X.agg.injEq,X.box.injEq,D.int.injEq,D.bool.injEq,D.fn.injEq,ya,zO,zN,and_true,true_and,and_assoc] at h
 exact h) a0
noncomputable def G3:Ctx:=G2.with 33 lJ
theorem so3:SoundAll Tryd.prog G3:=by
 refine wJ (cuts:=[]) (k:=1) (cd:=c_spec_l1Num) (rs:=vM) (enc:=sE) mixed so2 Tryd.func33 (by kernel_rfl) (by kernel_rfl) (by kernel_rfl) (by kernel_rfl) (by kernel_rfl) (by kernel_rfl) (wk:=fun y=>nocap y) Same.nocap ?_
 intro a out ho
 obtain ⟨r,h1,h2⟩:=Option.bind_eq_some_iff.mp ho
 obtain ⟨hp,rfl⟩:=zD h1
 obtain ⟨N,hN⟩:=eR xb (fun _ h=>zA h) a hp
 refine ⟨N,?_⟩
 refine ((yH (fun y=>some (nocap y)) 1 c_spec_l1Num vM (sE a) ⟨rfl,rfl,rfl⟩).trans (de ⟨G2,[],[],[],N,vM,none,fun _ _=>none,fun y=>some (nocap y)⟩ ⟨rfl,rfl,rfl,rfl,rfl,fun _=>rfl,fun _=>rfl⟩ xb ⟨rfl,(fun a0=>(show G2 46 _=_ from rfl).trans (ij a0))⟩ a)).trans ?_
 show (rY xb N a).bind _=_
 rw [hN]; exact h2
noncomputable def tI (a0:List UInt8):Option (List Int×Bool):=yy (r9 a0) (zB a0)
def tL (a:(List UInt8)):List X:=[.d (sD a)]
noncomputable def mI:List X→Option XOut:=lay tL fun a=>((tI a)).bind fun r=>some (.ret (.tup [zx (cI) 3 none false r.1,.d (.bool r.2)]) [])
theorem jo (a0:List UInt8):mI [.d (sD a0)]=((tI a0)).bind fun r=>some (.ret (.tup [zx (cI) 3 none false r.1,.d (.bool r.2)]) []):=z7 (enc:=tL) (by
 intro a b h
 simp only [tL,List.cons.injEq,X.d.injEq,X.res.injEq,RK.bld.injEq,X.agg.injEq,X.box.injEq,D.int.injEq,D.bool.injEq,D.fn.injEq,ya,zO,zN,and_true,true_and,and_assoc] at h
 exact h) a0
noncomputable def G4:Ctx:=G3.with 23 mI
theorem so4:SoundAll Tryd.prog G4:=by
 refine wJ (cuts:=[]) (k:=1) (cd:=c_spec_l1Nums) (rs:=wZ) (enc:=tL) mixed so3 Tryd.func23 (by kernel_rfl) (by kernel_rfl) (by kernel_rfl) (by kernel_rfl) (by kernel_rfl) (by kernel_rfl) (wk:=fun y=>nocap y) Same.nocap ?_
 intro a out ho
 obtain ⟨r,h1,h2⟩:=Option.bind_eq_some_iff.mp ho
 obtain ⟨hp,rfl⟩:=zD h1
 obtain ⟨N,hN⟩:=fF xi (fun _ _ h=>zA h) sL (fun _ h=>zA h) a hp
 refine ⟨N,?_⟩
 refine ((yH (fun y=>some (nocap y)) 1 c_spec_l1Nums wZ (tL a) ⟨rfl,rfl,rfl⟩).trans (fR ⟨G3,[],[],[],N,wZ,none,fun _ _=>none,fun y=>some (nocap y)⟩ ⟨rfl,rfl,rfl,rfl,rfl,fun _=>rfl,fun _=>rfl⟩ xi ⟨rfl,(fun a0 a1=>(show G3 9 _=_ from rfl).trans (rZ a0 a1))⟩ sL ⟨rfl,(fun a0=>(show G3 33 _=_ from rfl).trans (jO a0))⟩ a)).trans ?_
 show (tX xi sL N a).bind _=_
 rw [hN]; exact h2
noncomputable def xd (a0:List Int):Option (Int):=yy (vY a0) (wE a0)
def vJ (a:(List Int)):List X:=[.d (zb cI a)]
noncomputable def p7:List X→Option XOut:=lay vJ fun a=>((xd a)).bind fun r=>some (.ret (.d (.int .i64 r)) [])
theorem qn (a0:List Int):p7 [.d (zb cI a0)]=((xd a0)).bind fun r=>some (.ret (.d (.int .i64 r)) []):=z7 (enc:=vJ) (by
 intro a b h
 simp only [vJ,List.cons.injEq,X.d.injEq,X.res.injEq,RK.bld.injEq,X.agg.injEq,X.box.injEq,D.int.injEq,D.bool.injEq,D.fn.injEq,ya,zO,zN,and_true,true_and,and_assoc] at h
 exact h) a0
noncomputable def G5:Ctx:=G4.with 35 p7
theorem so5:SoundAll Tryd.prog G5:=by
 refine wJ (cuts:=[]) (k:=1) (cd:=c_spec_l1Product) (rs:=xC) (enc:=vJ) mixed so4 Tryd.func35 (by kernel_rfl) (by kernel_rfl) (by kernel_rfl) (by kernel_rfl) (by kernel_rfl) (by kernel_rfl) (wk:=fun y=>nocap y) Same.nocap ?_
 intro a out ho
 obtain ⟨r,h1,h2⟩:=Option.bind_eq_some_iff.mp ho
 obtain ⟨hp,rfl⟩:=zD h1
 obtain ⟨N,hN⟩:=jF a hp
 refine ⟨N,?_⟩
 refine ((yH (fun y=>some (nocap y)) 1 c_spec_l1Product xC (vJ a) ⟨rfl,rfl,rfl⟩).trans (jt ⟨G4,[],[],[],N,xC,none,fun _ _=>none,fun y=>some (nocap y)⟩ ⟨rfl,rfl,rfl,rfl,rfl,fun _=>rfl,fun _=>rfl⟩ a)).trans ?_
 show (tx N a).bind _=_
 rw [hN]; exact h2
noncomputable def tJ (a0:List Int):Option (Bool):=yy (qk a0) (tT a0)
def tS (a:(List Int)):List X:=[.d (zb cI a)]
noncomputable def mO:List X→Option XOut:=lay tS fun a=>((tJ a)).bind fun r=>some (.ret (.d (.bool r)) [])
theorem js (a0:List Int):mO [.d (zb cI a0)]=((tJ a0)).bind fun r=>some (.ret (.d (.bool r)) []):=z7 (enc:=tS) (by
 intro a b h
 simp only [tS,List.cons.injEq,X.d.injEq,X.res.injEq,RK.bld.injEq,X.agg.injEq,X.box.injEq,D.int.injEq,D.bool.injEq,D.fn.injEq,ya,zO,zN,and_true,true_and,and_assoc] at h
 exact h) a0
noncomputable def G6:Ctx:=G5.with 34 mO
theorem so6:SoundAll Tryd.prog G6:=by
 refine wJ (cuts:=[]) (k:=1) (cd:=c_spec_l1Fits) (rs:=wU) (enc:=tS) mixed so5 Tryd.func34 (by kernel_rfl) (by kernel_rfl) (by kernel_rfl) (by kernel_rfl) (by kernel_rfl) (by kernel_rfl) (wk:=fun y=>nocap y) Same.nocap ?_
 intro a out ho
 obtain ⟨r,h1,h2⟩:=Option.bind_eq_some_iff.mp ho
 obtain ⟨hp,rfl⟩:=zD h1
 obtain ⟨N,hN⟩:=fJ xd (fun _ h=>zA h) a hp
 refine ⟨N,?_⟩
 refine ((yH (fun y=>some (nocap y)) 1 c_spec_l1Fits wU (tS a) ⟨rfl,rfl,rfl⟩).trans (fS ⟨G5,[],[],[],N,wU,none,fun _ _=>none,fun y=>some (nocap y)⟩ ⟨rfl,rfl,rfl,rfl,rfl,fun _=>rfl,fun _=>rfl⟩ xd ⟨rfl,(fun a0=>(show G5 35 _=_ from rfl).trans (qn a0))⟩ a)).trans ?_
 show (tG xd N a).bind _=_
 rw [hN]; exact h2
noncomputable def uS (zo:List Int) (zr:List Int):Option (Bool):=yy (ry zo zr) (uC zo zr)
def uB (a:(List Int)×(List Int)):List X:=[.agg [.d (zb cI a.1),.d (zb cI a.2)]]
noncomputable def nj:List X→Option XOut:=lay uB fun a=>((uS a.1 a.2)).bind fun r=>some (.ret (.d (.bool r)) [])
theorem kT (zo:List Int) (zr:List Int):nj [.agg [.d (zb cI zo),.d (zb cI zr)]]=((uS zo zr)).bind fun r=>some (.ret (.d (.bool r)) []):=z7 (enc:=uB) (by
 intro a b h
 simp only [uB,List.cons.injEq,X.d.injEq,X.res.injEq,RK.bld.injEq,X.agg.injEq,X.box.injEq,D.int.injEq,D.bool.injEq,D.fn.injEq,ya,zO,zN,and_true,true_and,and_assoc] at h
 simp only [Prod.ext_iff]; exact h) (zo,zr)
noncomputable def G7:Ctx:=G6.with 24 nj
theorem so7:SoundAll Tryd.prog G7:=by
 refine wJ (cuts:=[]) (k:=1) (cd:=c_spec_ArrayOk) (rs:=wG) (enc:=uB) mixed so6 Tryd.func24 (by kernel_rfl) (by kernel_rfl) (by kernel_rfl) (by kernel_rfl) (by kernel_rfl) (by kernel_rfl) (wk:=fun y=>nocap y) Same.nocap ?_
 intro a out ho
 obtain ⟨r,h1,h2⟩:=Option.bind_eq_some_iff.mp ho
 obtain ⟨hp,rfl⟩:=zD h1
 obtain ⟨N,hN⟩:=hM tJ (fun _ h=>zA h) xd (fun _ h=>zA h) a.1 a.2 hp
 refine ⟨N,?_⟩
 refine ((yH (fun y=>some (nocap y)) 1 c_spec_ArrayOk wG (uB a) ⟨rfl,rfl,rfl⟩).trans (iM ⟨G6,[],[],[],N,wG,none,fun _ _=>none,fun y=>some (nocap y)⟩ ⟨rfl,rfl,rfl,rfl,rfl,fun _=>rfl,fun _=>rfl⟩ tJ ⟨rfl,(fun a0=>(show G6 34 _=_ from rfl).trans (js a0))⟩ xd ⟨rfl,(fun a0=>(show G6 35 _=_ from rfl).trans (qn a0))⟩ a.1 a.2)).trans ?_
 show (uU tJ xd N a.1 a.2).bind _=_
 rw [hN]; exact h2
noncomputable def vg (a0:List UInt8):Option (List Int×List Int×Int):=yy (wn a0) (vl a0)
def vh (a:(List UInt8)):List X:=[.d (sD a)]
noncomputable def pv:List X→Option XOut:=lay vh fun a=>((vg a)).bind fun r=>some (.ret (.tup [.agg [zx (cI) 3 none false r.1,zx (cI) 3 none false r.2.1],.d (.int .i64 r.2.2)]) [])
theorem n6 (a0:List UInt8):pv [.d (sD a0)]=((vg a0)).bind fun r=>some (.ret (.tup [.agg [zx (cI) 3 none false r.1,zx (cI) 3 none false r.2.1],.d (.int .i64 r.2.2)]) []):=z7 (enc:=vh) (by
 intro a b h
 simp only [vh,List.cons.injEq,X.d.injEq,X.res.injEq,RK.bld.injEq,X.agg.injEq,X.box.injEq,D.int.injEq,D.bool.injEq,D.fn.injEq,ya,zO,zN,and_true,true_and,and_assoc] at h
 exact h) a0
noncomputable def G8:Ctx:=G7.with 17 pv
theorem so8:SoundAll Tryd.prog G8:=by
 refine wJ (cuts:=[]) (k:=1) (cd:=c_spec_ParseArray) (rs:=vb) (enc:=vh) mixed so7 Tryd.func17 (by kernel_rfl) (by kernel_rfl) (by kernel_rfl) (by kernel_rfl) (by kernel_rfl) (by kernel_rfl) (wk:=fun y=>nocap (wK (.node [.node [.own 3 1,.own 3 1],.k]) y)) (Same.comp Same.nocap (Same.own (.node [.node [.own 3 1,.own 3 1],.k]))) ?_
 intro a out ho
 obtain ⟨r,h1,h2⟩:=Option.bind_eq_some_iff.mp ho
 obtain ⟨hp,rfl⟩:=zD h1
 obtain ⟨N,hN⟩:=kQ xi (fun _ _ h=>zA h) tI (fun _ h=>zA h) uS (fun _ _ h=>zA h) a hp
 refine ⟨N,?_⟩
 refine ((yH (fun y=>some (nocap (wK (.node [.node [.own 3 1,.own 3 1],.k]) y))) 1 c_spec_ParseArray vb (vh a) ⟨rfl,rfl,rfl⟩).trans (kx ⟨G7,[],[],[],N,vb,none,fun _ _=>none,fun y=>some (nocap (wK (.node [.node [.own 3 1,.own 3 1],.k]) y))⟩ ⟨rfl,rfl,rfl,rfl,rfl,fun _=>rfl,fun _=>rfl⟩ xi ⟨rfl,(fun a0 a1=>(show G7 9 _=_ from rfl).trans (rZ a0 a1))⟩ tI ⟨rfl,(fun a0=>(show G7 23 _=_ from rfl).trans (jo a0))⟩ uS ⟨rfl,(fun zo zr=>(show G7 24 _=_ from rfl).trans (kT zo zr))⟩ a)).trans ?_
 show (w6 xi tI uS N a).bind _=_
 rw [hN]; exact h2
noncomputable def tK (a0:List UInt8):Option (List Int×List Int×List Int×List Int×Bool):=yy (sh a0) (zJ a0)
def tA (a:(List UInt8)):List X:=[.d (sD a)]
noncomputable def mR:List X→Option XOut:=lay tA fun a=>((tK a)).bind fun r=>some (.ret (.tup [.agg [zx (cI) 3 none false r.1,zx (cI) 3 none false r.2.1,zx (cI) 3 none false r.2.2.1,zx (cI) 3 none false r.2.2.2.1],.d (.bool r.2.2.2.2)]) [])
theorem jv (a0:List UInt8):mR [.d (sD a0)]=((tK a0)).bind fun r=>some (.ret (.tup [.agg [zx (cI) 3 none false r.1,zx (cI) 3 none false r.2.1,zx (cI) 3 none false r.2.2.1,zx (cI) 3 none false r.2.2.2.1],.d (.bool r.2.2.2.2)]) []):=z7 (enc:=tA) (by
 intro a b h
 simp only [tA,List.cons.injEq,X.d.injEq,X.res.injEq,RK.bld.injEq,X.agg.injEq,X.box.injEq,D.int.injEq,D.bool.injEq,D.fn.injEq,ya,zO,zN,and_true,true_and,and_assoc] at h
 exact h) a0
noncomputable def G9:Ctx:=G8.with 10 mR
theorem so9:SoundAll Tryd.prog G9:=by
 refine wJ (cuts:=[]) (k:=1) (cd:=c_spec_l5Test) (rs:=wW) (enc:=tA) mixed so8 Tryd.func10 (by kernel_rfl) (by kernel_rfl) (by kernel_rfl) (by kernel_rfl) (by kernel_rfl) (by kernel_rfl) (wk:=fun y=>nocap (wK (.node [.node [.own 3 1,.own 3 1,.own 3 1,.own 3 1],.k]) y)) (Same.comp Same.nocap (Same.own (.node [.node [.own 3 1,.own 3 1,.own 3 1,.own 3 1],.k]))) ?_
 intro a out ho
 obtain ⟨r,h1,h2⟩:=Option.bind_eq_some_iff.mp ho
 obtain ⟨hp,rfl⟩:=zD h1
 obtain ⟨N,hN⟩:=fV vg (fun _ h=>zA h) a hp
 refine ⟨N,?_⟩
 refine ((yH (fun y=>some (nocap (wK (.node [.node [.own 3 1,.own 3 1,.own 3 1,.own 3 1],.k]) y))) 1 c_spec_l5Test wW (tA a) ⟨rfl,rfl,rfl⟩).trans (fN ⟨G8,[],[],[],N,wW,none,fun _ _=>none,fun y=>some (nocap (wK (.node [.node [.own 3 1,.own 3 1,.own 3 1,.own 3 1],.k]) y))⟩ ⟨rfl,rfl,rfl,rfl,rfl,fun _=>rfl,fun _=>rfl⟩ vg ⟨rfl,(fun a0=>(show G8 17 _=_ from rfl).trans (n6 a0))⟩ a)).trans ?_
 show (rm vg N a).bind _=_
 rw [hN]; exact h2
noncomputable def vj (a0:List UInt8):Option (List TTest×Int×Int):=yy (sc a0) (zQ a0)
def vm (a:(List UInt8)):List X:=[.d (sD a)]
noncomputable def pu:List X→Option XOut:=lay vm fun a=>((vj a)).bind fun r=>some (.ret (.tup [zx (cTest) 34 none false r.1,.d (.int .i64 r.2.1),.d (.int .i64 r.2.2)]) [])
theorem mG (a0:List UInt8):pu [.d (sD a0)]=((vj a0)).bind fun r=>some (.ret (.tup [zx (cTest) 34 none false r.1,.d (.int .i64 r.2.1),.d (.int .i64 r.2.2)]) []):=z7 (enc:=vm) (by
 intro a b h
 simp only [vm,List.cons.injEq,X.d.injEq,X.res.injEq,RK.bld.injEq,X.agg.injEq,X.box.injEq,D.int.injEq,D.bool.injEq,D.fn.injEq,ya,zO,zN,and_true,true_and,and_assoc] at h
 exact h) a0
noncomputable def G10:Ctx:=G9.with 4 pu
theorem so10:SoundAll Tryd.prog G10:=by
 refine wJ (cuts:=[]) (k:=1) (cd:=c_spec_ParseTests) (rs:=xp) (enc:=vm) mixed so9 Tryd.func4 (by kernel_rfl) (by kernel_rfl) (by kernel_rfl) (by kernel_rfl) (by kernel_rfl) (by kernel_rfl) (wk:=fun y=>nocap y) Same.nocap ?_
 intro a out ho
 obtain ⟨r,h1,h2⟩:=Option.bind_eq_some_iff.mp ho
 obtain ⟨hp,rfl⟩:=zD h1
 obtain ⟨N,hN⟩:=kN xi (fun _ _ h=>zA h) tK (fun _ h=>zA h) a hp
 refine ⟨N,?_⟩
 refine ((yH (fun y=>some (nocap y)) 1 c_spec_ParseTests xp (vm a) ⟨rfl,rfl,rfl⟩).trans (kC ⟨G9,[],[],[],N,xp,none,fun _ _=>none,fun y=>some (nocap y)⟩ ⟨rfl,rfl,rfl,rfl,rfl,fun _=>rfl,fun _=>rfl⟩ xi ⟨rfl,(fun a0 a1=>(show G9 9 _=_ from rfl).trans (rZ a0 a1))⟩ tK ⟨rfl,(fun a0=>(show G9 10 _=_ from rfl).trans (jv a0))⟩ a)).trans ?_
 show (vc xi tK N a).bind _=_
 rw [hN]; exact h2
noncomputable def tH (a0:List UInt8) (a1:List UInt8):Option (List UInt8×List UInt8×Bool):=yy (rX a0 a1) (pn a0 a1)
def rp (a:(List UInt8)×(List UInt8)):List X:=[.d (sD a.1),.d (sD a.2)]
noncomputable def mN:List X→Option XOut:=lay rp fun a=>((tH a.1 a.2)).bind fun r=>some (.ret (.tup [.d (sD r.1),.d (sD r.2.1),.d (.bool r.2.2)]) [])
theorem ju (a0:List UInt8) (a1:List UInt8):mN [.d (sD a0),.d (sD a1)]=((tH a0 a1)).bind fun r=>some (.ret (.tup [.d (sD r.1),.d (sD r.2.1),.d (.bool r.2.2)]) []):=z7 (enc:=rp) (by
 intro a b h
 simp only [rp,List.cons.injEq,X.d.injEq,X.res.injEq,RK.bld.injEq,X.agg.injEq,X.box.injEq,D.int.injEq,D.bool.injEq,D.fn.injEq,ya,zO,zN,and_true,true_and,and_assoc] at h
 simp only [Prod.ext_iff]; exact h) (a0,a1)
noncomputable def G11:Ctx:=G10.with 12 mN
theorem so11:SoundAll Tryd.prog G11:=so10.with (Xv (enc:=rp) (fun _=>rfl) (fun a out ho=>by
 obtain ⟨r,h1,h2⟩:=Option.bind_eq_some_iff.mp ho
 obtain ⟨hp,rfl⟩:=zD h1
 exact ⟨fI hp,(Option.some.inj h2).symm⟩))
noncomputable def uf (a0:List UInt8) (a1:List UInt8):Option (List (List UInt8)):=yy (rb a0 a1) (qf a0 a1)
def si (a:(List UInt8)×(List UInt8)):List X:=[.d (sD a.1),.d (sD a.2)]
noncomputable def oG:List X→Option XOut:=lay si fun a=>((uf a.1 a.2)).bind fun r=>some (.ret (.d (zb cS r)) [])
theorem lX (a0:List UInt8) (a1:List UInt8):oG [.d (sD a0),.d (sD a1)]=((uf a0 a1)).bind fun r=>some (.ret (.d (zb cS r)) []):=z7 (enc:=si) (by
 intro a b h
 simp only [si,List.cons.injEq,X.d.injEq,X.res.injEq,RK.bld.injEq,X.agg.injEq,X.box.injEq,D.int.injEq,D.bool.injEq,D.fn.injEq,ya,zO,zN,and_true,true_and,and_assoc] at h
 simp only [Prod.ext_iff]; exact h) (a0,a1)
noncomputable def G12:Ctx:=G11.with 11 oG
theorem so12:SoundAll Tryd.prog G12:=so11.with (cU (enc:=si) (fun _=>rfl) (fun a out ho=>by
 obtain ⟨r,h1,h2⟩:=Option.bind_eq_some_iff.mp ho
 obtain ⟨hp,rfl⟩:=zD h1
 exact ⟨j4 hp,(Option.some.inj h2).symm⟩))
noncomputable def uM (a0:List UInt8):Option (Alt Int Int):=yy (rH a0) (qB a0)
def sT (a:(List UInt8)):List X:=[.d (sD a)]
noncomputable def nm:List X→Option XOut:=lay sT fun a=>((uM a)).bind fun r=>r.on (fun r=>some (.ret (.tup [.d (.int .i64 r),.d .nili]) [])) (fun r=>some (.ret (.tup [.d (.int .i64 r),.d (.iface 76 .opq)]) []))
theorem kE (a0:List UInt8):nm [.d (sD a0)]=((uM a0)).bind fun r=>r.on (fun r=>some (.ret (.tup [.d (.int .i64 r),.d .nili]) [])) (fun r=>some (.ret (.tup [.d (.int .i64 r),.d (.iface 76 .opq)]) [])):=z7 (enc:=sT) (by
 intro a b h
 simp only [sT,List.cons.injEq,X.d.injEq,X.res.injEq,RK.bld.injEq,X.agg.injEq,X.box.injEq,D.int.injEq,D.bool.injEq,D.fn.injEq,ya,zO,zN,and_true,true_and,and_assoc] at h
 exact h) a0
noncomputable def G13:Ctx:=G12.with 29 nm
theorem so13:SoundAll Tryd.prog G13:=so12.with (aF (enc:=sT) (fun _=>rfl) (fun a out ho=>by
 obtain ⟨r,h1,h2⟩:=Option.bind_eq_some_iff.mp ho
 obtain ⟨hp,rfl⟩:=zD h1
 exact ⟨gK hp,h2⟩))
noncomputable def uN (a0:Int):Option (List UInt8):=yy (rx a0) (qD a0)
def sQ (a:Int):List X:=[.d (.int .i64 a)]
noncomputable def nw:List X→Option XOut:=lay sQ fun a=>((uN a)).bind fun r=>some (.ret (.d (sD r)) [])
theorem kD (a0:Int):nw [.d (.int .i64 a0)]=((uN a0)).bind fun r=>some (.ret (.d (sD r)) []):=z7 (enc:=sQ) (by
 intro a b h
 simp only [sQ,List.cons.injEq,X.d.injEq,X.res.injEq,RK.bld.injEq,X.agg.injEq,X.box.injEq,D.int.injEq,D.bool.injEq,D.fn.injEq,ya,zO,zN,and_true,true_and,and_assoc] at h
 exact h) a0
noncomputable def G14:Ctx:=G13.with 30 nw
theorem Ln:SoundAll Tryd.prog G14:=so13.with (bN (enc:=sQ) (fun _=>rfl) (fun a out ho=>by
 obtain ⟨r,h1,h2⟩:=Option.bind_eq_some_iff.mp ho
 obtain ⟨hp,rfl⟩:=zD h1
 exact ⟨gv hp,(Option.some.inj h2).symm⟩))
noncomputable def uK (a0:List UInt8):Option (List Int×Bool):=yy (rA a0) (zy a0)
def uR (a:(List UInt8)):List X:=[.d (sD a)]
noncomputable def nE:List X→Option XOut:=lay uR fun a=>((uK a)).bind fun r=>some (.ret (.tup [zx (cI) 3 none false r.1,.d (.bool r.2)]) [])
theorem kG (a0:List UInt8):nE [.d (sD a0)]=((uK a0)).bind fun r=>some (.ret (.tup [zx (cI) 3 none false r.1,.d (.bool r.2)]) []):=z7 (enc:=uR) (by
 intro a b h
 simp only [uR,List.cons.injEq,X.d.injEq,X.res.injEq,RK.bld.injEq,X.agg.injEq,X.box.injEq,D.int.injEq,D.bool.injEq,D.fn.injEq,ya,zO,zN,and_true,true_and,and_assoc] at h
 exact h) a0
noncomputable def G15:Ctx:=G14.with 20 nE
theorem MI:SoundAll Tryd.prog G15:=by
 refine wJ (cuts:=[]) (k:=1) (cd:=c_impl_numbers) (rs:=wC) (enc:=uR) mixed Ln Tryd.func20 (by kernel_rfl) (by kernel_rfl) (by kernel_rfl) (by kernel_rfl) (by kernel_rfl) (by kernel_rfl) (wk:=fun y=>nocap (wK (.node [.own 3 1,.k]) y)) (Same.comp Same.nocap (Same.own (.node [.own 3 1,.k]))) ?_
 intro a out ho
 obtain ⟨r,h1,h2⟩:=Option.bind_eq_some_iff.mp ho
 obtain ⟨hp,rfl⟩:=zD h1
 obtain ⟨N,hN⟩:=hJ uf (fun _ _ h=>zA h) uM (fun _ h=>zA h) uN (fun _ h=>zA h) a hp
 refine ⟨N,?_⟩
 refine ((yH (fun y=>some (nocap (wK (.node [.own 3 1,.k]) y))) 1 c_impl_numbers wC (uR a) ⟨rfl,rfl,rfl⟩).trans (iN ⟨G14,[],[],[],N,wC,none,fun _ _=>none,fun y=>some (nocap (wK (.node [.own 3 1,.k]) y))⟩ ⟨rfl,rfl,rfl,rfl,rfl,fun _=>rfl,fun _=>rfl⟩ uf ⟨rfl,(fun a0 a1=>(show G14 11 _=_ from rfl).trans (lX a0 a1))⟩ uM ⟨rfl,(fun a0=>(show G14 29 _=_ from rfl).trans (kE a0))⟩ uN ⟨rfl,(fun a0=>(show G14 30 _=_ from rfl).trans (kD a0))⟩ a)).trans ?_
 show (uP uf uM uN N a).bind _=_
 rw [hN]; exact h2
noncomputable def uO (a0:List Int):Option (Int×Bool):=yy (rr a0) (wA a0)
def uY (a:(List Int)):List X:=[.d (zb cI a)]
noncomputable def nQ:List X→Option XOut:=lay uY fun a=>((uO a)).bind fun r=>some (.ret (.tup [.d (.int .i64 r.1),.d (.bool r.2)]) [])
theorem kJ (a0:List Int):nQ [.d (zb cI a0)]=((uO a0)).bind fun r=>some (.ret (.tup [.d (.int .i64 r.1),.d (.bool r.2)]) []):=z7 (enc:=uY) (by
 intro a b h
 simp only [uY,List.cons.injEq,X.d.injEq,X.res.injEq,RK.bld.injEq,X.agg.injEq,X.box.injEq,D.int.injEq,D.bool.injEq,D.fn.injEq,ya,zO,zN,and_true,true_and,and_assoc] at h
 exact h) a0
noncomputable def G16:Ctx:=G15.with 31 nQ
theorem M4:SoundAll Tryd.prog G16:=by
 refine wJ (cuts:=[]) (k:=1) (cd:=c_impl_cellsOf) (rs:=wB) (enc:=uY) mixed MI Tryd.func31 (by kernel_rfl) (by kernel_rfl) (by kernel_rfl) (by kernel_rfl) (by kernel_rfl) (by kernel_rfl) (wk:=fun y=>nocap y) Same.nocap ?_
 intro a out ho
 obtain ⟨r,h1,h2⟩:=Option.bind_eq_some_iff.mp ho
 obtain ⟨hp,rfl⟩:=zD h1
 obtain ⟨N,hN⟩:=gg a hp
 refine ⟨N,?_⟩
 refine ((yH (fun y=>some (nocap y)) 1 c_impl_cellsOf wB (uY a) ⟨rfl,rfl,rfl⟩).trans (iV ⟨G15,[],[],[],N,wB,none,fun _ _=>none,fun y=>some (nocap y)⟩ ⟨rfl,rfl,rfl,rfl,rfl,fun _=>rfl,fun _=>rfl⟩ a)).trans ?_
 show (uI N a).bind _=_
 rw [hN]; exact h2
noncomputable def uF (zo:List Int) (zr:List Int):Option (Bool):=yy (rz zo zr) (uT zo zr)
def uD (a:(List Int)×(List Int)):List X:=[.agg [.d (zb cI a.1),.d (zb cI a.2)]]
noncomputable def nA:List X→Option XOut:=lay uD fun a=>((uF a.1 a.2)).bind fun r=>some (.ret (.d (.bool r)) [])
theorem kF (zo:List Int) (zr:List Int):nA [.agg [.d (zb cI zo),.d (zb cI zr)]]=((uF zo zr)).bind fun r=>some (.ret (.d (.bool r)) []):=z7 (enc:=uD) (by
 intro a b h
 simp only [uD,List.cons.injEq,X.d.injEq,X.res.injEq,RK.bld.injEq,X.agg.injEq,X.box.injEq,D.int.injEq,D.bool.injEq,D.fn.injEq,ya,zO,zN,and_true,true_and,and_assoc] at h
 simp only [Prod.ext_iff]; exact h) (zo,zr)
noncomputable def G17:Ctx:=G16.with 21 nA
theorem MF:SoundAll Tryd.prog G17:=by
 refine wJ (cuts:=[]) (k:=1) (cd:=c_impl_ArrayOk) (rs:=wy) (enc:=uD) mixed M4 Tryd.func21 (by kernel_rfl) (by kernel_rfl) (by kernel_rfl) (by kernel_rfl) (by kernel_rfl) (by kernel_rfl) (wk:=fun y=>nocap y) Same.nocap ?_
 intro a out ho
 obtain ⟨r,h1,h2⟩:=Option.bind_eq_some_iff.mp ho
 obtain ⟨hp,rfl⟩:=zD h1
 obtain ⟨N,hN⟩:=gM uO (fun _ h=>zA h) a.1 a.2 hp
 refine ⟨N,?_⟩
 refine ((yH (fun y=>some (nocap y)) 1 c_impl_ArrayOk wy (uD a) ⟨rfl,rfl,rfl⟩).trans (gh ⟨G16,[],[],[],N,wy,none,fun _ _=>none,fun y=>some (nocap y)⟩ ⟨rfl,rfl,rfl,rfl,rfl,fun _=>rfl,fun _=>rfl⟩ uO ⟨rfl,(fun a0=>(show G16 31 _=_ from rfl).trans (kJ a0))⟩ a.1 a.2)).trans ?_
 show (uE uO N a.1 a.2).bind _=_
 rw [hN]; exact h2
noncomputable def s6 (a0:List UInt8):Option (List Int×List Int×Int):=yy (qm a0) (yx a0)
def w8 (a:(List UInt8)):List X:=[.d (sD a)]
noncomputable def s8:List X→Option XOut:=lay w8 fun a=>((s6 a)).bind fun r=>some (.ret (.tup [.agg [zx (cI) 3 none false r.1,zx (cI) 3 none false r.2.1],.d (.int .i64 r.2.2)]) [])
theorem ma (a0:List UInt8):s8 [.d (sD a0)]=((s6 a0)).bind fun r=>some (.ret (.tup [.agg [zx (cI) 3 none false r.1,zx (cI) 3 none false r.2.1],.d (.int .i64 r.2.2)]) []):=z7 (enc:=w8) (by
 intro a b h
 simp only [w8,List.cons.injEq,X.d.injEq,X.res.injEq,RK.bld.injEq,X.agg.injEq,X.box.injEq,D.int.injEq,D.bool.injEq,D.fn.injEq,ya,zO,zN,and_true,true_and,and_assoc] at h
 exact h) a0
noncomputable def G18:Ctx:=G17.with 13 s8
theorem so18:SoundAll Tryd.prog G18:=by
 refine wJ (cuts:=[]) (k:=1) (cd:=c_impl_ParseArray) (rs:=vp) (enc:=w8) mixed MF Tryd.func13 (by kernel_rfl) (by kernel_rfl) (by kernel_rfl) (by kernel_rfl) (by kernel_rfl) (by kernel_rfl) (wk:=fun y=>nocap (wK (.node [.node [.own 3 1,.own 3 1],.k]) y)) (Same.comp Same.nocap (Same.own (.node [.node [.own 3 1,.own 3 1],.k]))) ?_
 intro a out ho
 obtain ⟨r,h1,h2⟩:=Option.bind_eq_some_iff.mp ho
 obtain ⟨hp,rfl⟩:=zD h1
 obtain ⟨N,hN⟩:=kL tH (fun _ _ h=>zA h) uK (fun _ h=>zA h) uF (fun _ _ h=>zA h) a hp
 refine ⟨N,?_⟩
 refine ((yH (fun y=>some (nocap (wK (.node [.node [.own 3 1,.own 3 1],.k]) y))) 1 c_impl_ParseArray vp (w8 a) ⟨rfl,rfl,rfl⟩).trans (ky ⟨G17,[],[],[],N,vp,none,fun _ _=>none,fun y=>some (nocap (wK (.node [.node [.own 3 1,.own 3 1],.k]) y))⟩ ⟨rfl,rfl,rfl,rfl,rfl,fun _=>rfl,fun _=>rfl⟩ tH ⟨rfl,(fun a0 a1=>(show G17 12 _=_ from rfl).trans (ju a0 a1))⟩ uK ⟨rfl,(fun a0=>(show G17 20 _=_ from rfl).trans (kG a0))⟩ uF ⟨rfl,(fun zo zr=>(show G17 21 _=_ from rfl).trans (kF zo zr))⟩ a)).trans ?_
 show (w9 tH uK uF N a).bind _=_
 rw [hN]; exact h2
noncomputable def ve (a0:List UInt8):Option (List Int×Int×Int):=yy (qp a0) (uu a0)
def ur (a:(List UInt8)):List X:=[.d (sD a)]
noncomputable def pt:List X→Option XOut:=lay ur fun a=>((ve a)).bind fun r=>some (.ret (.tup [.res (.ext 4 34 3) (zb cI r.1),.d (.int .i64 r.2.1),.d (.int .i64 r.2.2)]) [])
theorem n8 (a0:List UInt8):pt [.d (sD a0)]=((ve a0)).bind fun r=>some (.ret (.tup [.res (.ext 4 34 3) (zb cI r.1),.d (.int .i64 r.2.1),.d (.int .i64 r.2.2)]) []):=z7 (enc:=ur) (by
 intro a b h
 simp only [ur,List.cons.injEq,X.d.injEq,X.res.injEq,RK.bld.injEq,X.agg.injEq,X.box.injEq,D.int.injEq,D.bool.injEq,D.fn.injEq,ya,zO,zN,and_true,true_and,and_assoc] at h
 exact h) a0
noncomputable def G19:Ctx:=G18.with 5 pt
theorem MS:SoundAll Tryd.prog G19:=so18.with (jH (Cp:=s8) (by have h:=so18 13; exact h) (A:=yx) (fun l hl=>(ma l).trans (by rw [show s6 l=some (yx l) from zA hl]; rfl)) (enc:=ur) (fun _=>rfl) (fun a out ho=>by
 obtain ⟨r,h1,h2⟩:=Option.bind_eq_some_iff.mp ho
 obtain ⟨hp,rfl⟩:=zD h1
 exact ⟨hp,(Option.some.inj h2).symm⟩))
noncomputable def tC (a0:List Int) (a1:List Int):Option (Bool):=yy (qh a0 a1) (tM a0 a1)
def tN (a:(List Int)×(List Int)):List X:=[.d (zb cI a.1),.d (zb cI a.2)]
noncomputable def mS:List X→Option XOut:=lay tN fun a=>((tC a.1 a.2)).bind fun r=>some (.ret (.d (.bool r)) [])
theorem jq (a0:List Int) (a1:List Int):mS [.d (zb cI a0),.d (zb cI a1)]=((tC a0 a1)).bind fun r=>some (.ret (.d (.bool r)) []):=z7 (enc:=tN) (by
 intro a b h
 simp only [tN,List.cons.injEq,X.d.injEq,X.res.injEq,RK.bld.injEq,X.agg.injEq,X.box.injEq,D.int.injEq,D.bool.injEq,D.fn.injEq,ya,zO,zN,and_true,true_and,and_assoc] at h
 simp only [Prod.ext_iff]; exact h) (a0,a1)
noncomputable def G20:Ctx:=G19.with 32 mS
theorem MZ:SoundAll Tryd.prog G20:=by
 refine wJ (cuts:=[]) (k:=2) (cd:=c_laws_eqIntS) (rs:=wX) (enc:=tN) mixed MS Tryd.func32 (by kernel_rfl) (by kernel_rfl) (by kernel_rfl) (by kernel_rfl) (by kernel_rfl) (by kernel_rfl) (wk:=fun y=>nocap y) Same.nocap ?_
 intro a out ho
 obtain ⟨r,h1,h2⟩:=Option.bind_eq_some_iff.mp ho
 obtain ⟨hp,rfl⟩:=zD h1
 obtain ⟨N,hN⟩:=fM a.1 a.2 hp
 refine ⟨N,?_⟩
 refine ((yH (fun y=>some (nocap y)) 2 c_laws_eqIntS wX (tN a) ⟨rfl,rfl,rfl⟩).trans (fK ⟨G19,[],[],[],N,wX,none,fun _ _=>none,fun y=>some (nocap y)⟩ ⟨rfl,rfl,rfl,rfl,rfl,fun _=>rfl,fun _=>rfl⟩ a.1 a.2)).trans ?_
 show (tD N a.1 a.2).bind _=_
 rw [hN]; exact h2
noncomputable def u9 (zo:List Int) (zr:List Int) (xn:List Int) (wg:List Int):Option (Bool):=yy (rt zo zr xn wg) (vE zo zr xn wg)
def uX (a:(List Int)×(List Int)×(List Int)×(List Int)):List X:=[.agg [.d (zb cI a.1),.d (zb cI a.2.1)],.agg [.d (zb cI a.2.2.1),.d (zb cI a.2.2.2)]]
noncomputable def no:List X→Option XOut:=lay uX fun a=>((u9 a.1 a.2.1 a.2.2.1 a.2.2.2)).bind fun r=>some (.ret (.d (.bool r)) [])
theorem kM (zo:List Int) (zr:List Int) (xn:List Int) (wg:List Int):no [.agg [.d (zb cI zo),.d (zb cI zr)],.agg [.d (zb cI xn),.d (zb cI wg)]]=((u9 zo zr xn wg)).bind fun r=>some (.ret (.d (.bool r)) []):=z7 (enc:=uX) (by
 intro a b h
 simp only [uX,List.cons.injEq,X.d.injEq,X.res.injEq,RK.bld.injEq,X.agg.injEq,X.box.injEq,D.int.injEq,D.bool.injEq,D.fn.injEq,ya,zO,zN,and_true,true_and,and_assoc] at h
 simp only [Prod.ext_iff]; exact h) (zo,zr,xn,wg)
noncomputable def G21:Ctx:=G20.with 22 no
theorem MR:SoundAll Tryd.prog G21:=by
 refine wJ (cuts:=[]) (k:=2) (cd:=c_laws_eqArray) (rs:=uH) (enc:=uX) mixed MZ Tryd.func22 (by kernel_rfl) (by kernel_rfl) (by kernel_rfl) (by kernel_rfl) (by kernel_rfl) (by kernel_rfl) (wk:=fun y=>nocap y) Same.nocap ?_
 intro a out ho
 obtain ⟨r,h1,h2⟩:=Option.bind_eq_some_iff.mp ho
 obtain ⟨hp,rfl⟩:=zD h1
 obtain ⟨N,hN⟩:=gi tC (fun _ _ h=>zA h) a.1 a.2.1 a.2.2.1 a.2.2.2 hp
 refine ⟨N,?_⟩
 refine ((yH (fun y=>some (nocap y)) 2 c_laws_eqArray uH (uX a) ⟨rfl,rfl,rfl⟩).trans (gQ ⟨G20,[],[],[],N,uH,none,fun _ _=>none,fun y=>some (nocap y)⟩ ⟨rfl,rfl,rfl,rfl,rfl,fun _=>rfl,fun _=>rfl⟩ tC ⟨rfl,(fun a0 a1=>(show G20 32 _=_ from rfl).trans (jq a0 a1))⟩ a.1 a.2.1 a.2.2.1 a.2.2.2)).trans ?_
 show (uQ tC N a.1 a.2.1 a.2.2.1 a.2.2.2).bind _=_
 rw [hN]; exact h2
noncomputable def tO (yu:List Int) (yA:List Int) (zV:List Int) (yf:List Int) (yr:List Int) (yz:List Int) (zX:List Int) (ye:List Int):Option (Bool):=yy (sm yu yA zV yf yr yz zX ye) (wV yu yA zV yf yr yz zX ye)
def tQ (a:(List Int)×(List Int)×(List Int)×(List Int)×(List Int)×(List Int)×(List Int)×(List Int)):List X:=[.agg [.d (zb cI a.1),.d (zb cI a.2.1),.d (zb cI a.2.2.1),.d (zb cI a.2.2.2.1)],.agg [.d (zb cI a.2.2.2.2.1),.d (zb cI a.2.2.2.2.2.1),.d (zb cI a.2.2.2.2.2.2.1),.d (zb cI a.2.2.2.2.2.2.2)]]
noncomputable def mQ:List X→Option XOut:=lay tQ fun a=>((tO a.1 a.2.1 a.2.2.1 a.2.2.2.1 a.2.2.2.2.1 a.2.2.2.2.2.1 a.2.2.2.2.2.2.1 a.2.2.2.2.2.2.2)).bind fun r=>some (.ret (.d (.bool r)) [])
theorem jx (yu:List Int) (yA:List Int) (zV:List Int) (yf:List Int) (yr:List Int) (yz:List Int) (zX:List Int) (ye:List Int):mQ [.agg [.d (zb cI yu),.d (zb cI yA),.d (zb cI zV),.d (zb cI yf)],.agg [.d (zb cI yr),.d (zb cI yz),.d (zb cI zX),.d (zb cI ye)]]=((tO yu yA zV yf yr yz zX ye)).bind fun r=>some (.ret (.d (.bool r)) []):=z7 (enc:=tQ) (by
 intro a b h
 simp only [tQ,List.cons.injEq,X.d.injEq,X.res.injEq,RK.bld.injEq,X.agg.injEq,X.box.injEq,D.int.injEq,D.bool.injEq,D.fn.injEq,ya,zO,zN,and_true,true_and,and_assoc] at h
 simp only [Prod.ext_iff]; exact h) (yu,yA,zV,yf,yr,yz,zX,ye)
noncomputable def G22:Ctx:=G21.with 14 mQ
theorem MJ:SoundAll Tryd.prog G22:=by
 refine wJ (cuts:=[]) (k:=2) (cd:=c_laws_eqTest) (rs:=tF) (enc:=tQ) mixed MR Tryd.func14 (by kernel_rfl) (by kernel_rfl) (by kernel_rfl) (by kernel_rfl) (by kernel_rfl) (by kernel_rfl) (wk:=fun y=>nocap y) Same.nocap ?_
 intro a out ho
 obtain ⟨r,h1,h2⟩:=Option.bind_eq_some_iff.mp ho
 obtain ⟨hp,rfl⟩:=zD h1
 obtain ⟨N,hN⟩:=fZ u9 (fun _ _ _ _ h=>zA h) a.1 a.2.1 a.2.2.1 a.2.2.2.1 a.2.2.2.2.1 a.2.2.2.2.2.1 a.2.2.2.2.2.2.1 a.2.2.2.2.2.2.2 hp
 refine ⟨N,?_⟩
 refine ((yH (fun y=>some (nocap y)) 2 c_laws_eqTest tF (tQ a) ⟨rfl,rfl,rfl⟩).trans (fO ⟨G21,[],[],[],N,tF,none,fun _ _=>none,fun y=>some (nocap y)⟩ ⟨rfl,rfl,rfl,rfl,rfl,fun _=>rfl,fun _=>rfl⟩ u9 ⟨rfl,(fun zo zr xn wg=>(show G21 22 _=_ from rfl).trans (kM zo zr xn wg))⟩ a.1 a.2.1 a.2.2.1 a.2.2.2.1 a.2.2.2.2.1 a.2.2.2.2.2.1 a.2.2.2.2.2.2.1 a.2.2.2.2.2.2.2)).trans ?_
 show (tB u9 N a.1 a.2.1 a.2.2.1 a.2.2.2.1 a.2.2.2.2.1 a.2.2.2.2.2.1 a.2.2.2.2.2.2.1 a.2.2.2.2.2.2.2).bind _=_
 rw [hN]; exact h2
noncomputable def qE (a0:List TTest) (a1:List TTest):Option (Bool):=yy (rJ a0 a1) (wv a0 a1)
def uJ (a:(List TTest)×(List TTest)):List X:=[.d (zb cTest a.1),.d (zb cTest a.2)]
noncomputable def qq:List X→Option XOut:=lay uJ fun a=>((qE a.1 a.2)).bind fun r=>some (.ret (.d (.bool r)) [])
theorem kB (a0:List TTest) (a1:List TTest):qq [.d (zb cTest a0),.d (zb cTest a1)]=((qE a0 a1)).bind fun r=>some (.ret (.d (.bool r)) []):=z7 (enc:=uJ) (by
 intro a b h
 simp only [uJ,List.cons.injEq,X.d.injEq,X.res.injEq,RK.bld.injEq,X.agg.injEq,X.box.injEq,D.int.injEq,D.bool.injEq,D.fn.injEq,ya,zO,zN,and_true,true_and,and_assoc] at h
 simp only [Prod.ext_iff]; exact h) (a0,a1)
noncomputable def G23:Ctx:=G22.with 6 qq
theorem so23:SoundAll Tryd.prog G23:=by
 refine wJ (cuts:=[]) (k:=2) (cd:=c_laws_eqTestS) (rs:=wF) (enc:=uJ) mixed MJ Tryd.func6 (by kernel_rfl) (by kernel_rfl) (by kernel_rfl) (by kernel_rfl) (by kernel_rfl) (by kernel_rfl) (wk:=fun y=>nocap y) Same.nocap ?_
 intro a out ho
 obtain ⟨r,h1,h2⟩:=Option.bind_eq_some_iff.mp ho
 obtain ⟨hp,rfl⟩:=zD h1
 obtain ⟨N,hN⟩:=iT tO (fun _ _ _ _ _ _ _ _ h=>zA h) a.1 a.2 hp
 refine ⟨N,?_⟩
 refine ((yH (fun y=>some (nocap y)) 2 c_laws_eqTestS wF (uJ a) ⟨rfl,rfl,rfl⟩).trans (iK ⟨G22,[],[],[],N,wF,none,fun _ _=>none,fun y=>some (nocap y)⟩ ⟨rfl,rfl,rfl,rfl,rfl,fun _=>rfl,fun _=>rfl⟩ tO ⟨rfl,(fun yu yA zV yf yr yz zX ye=>(show G22 14 _=_ from rfl).trans (jx yu yA zV yf yr yz zX ye))⟩ a.1 a.2)).trans ?_
 show (tc tO N a.1 a.2).bind _=_
 rw [hN]; exact h2
noncomputable def vO (a:List Int) (b:List TTest):Option (Bool×List Int):=yy (sO a b) (wq a b)
def tp (a:(List Int)×(List TTest)):List X:=[.res (.ext 4 34 3) (zb cI a.1),.d (zb cTest a.2)]
noncomputable def oq:List X→Option XOut:=lay tp fun a=>((vO a.1 a.2)).bind fun r=>some (.ret (.d (.bool r.1)) [[zb cI r.2]])
theorem mW (a:List Int) (b:List TTest):oq [.res (.ext 4 34 3) (zb cI a),.d (zb cTest b)]=((vO a b)).bind fun r=>some (.ret (.d (.bool r.1)) [[zb cI r.2]]):=z7 (enc:=tp) (by
 intro a b h
 simp only [tp,List.cons.injEq,X.d.injEq,X.res.injEq,RK.bld.injEq,X.agg.injEq,X.box.injEq,D.int.injEq,D.bool.injEq,D.fn.injEq,ya,zO,zN,and_true,true_and,and_assoc] at h
 simp only [Prod.ext_iff]; exact h) (a,b)
noncomputable def G24:Ctx:=G23.with 6 oq
theorem MX:SoundAll Tryd.prog G24:=so23.with (iF (C:=qq) (by have h:=so23 6; exact h) (x2:=fun b=>zb cTest b) (enc:=tp) (fun _=>rfl) (fun a out ho=>by
 obtain ⟨r,h1,h2⟩:=Option.bind_eq_some_iff.mp ho
 obtain ⟨hp,rfl⟩:=zD h1
 obtain ⟨ts,e1,e2,e3⟩:=jy hp
 rw [e3] at h2
 refine ⟨ts.length,zK ts,.bool (wv ts a.2),e1,rT ts,?_,.inr ⟨_,rfl⟩,?_⟩
 ·rw [← eD]
  exact (kB ts a.2).trans (by rw [show qE ts a.2=some (wv ts a.2) from zA e2]; rfl)
 ·rw [← e1]
  exact (Option.some.inj h2).symm))
noncomputable def qj (a0:List Int) (a1:Int):Option (Int×List Int):=yy (s9 a0 a1) (vZ a0 a1)
def uh (a:(List Int)×Int):List X:=[zx cI 3 none false a.1,.d (.int .i64 a.2)]
noncomputable def qc:List X→Option XOut:=lay uh fun a=>((qj a.1 a.2)).bind fun r=>some (.ret (.d (.int .i64 r.1)) [[zb (cI) r.2]])
theorem lY (a0:List Int) (a1:Int):qc [zx cI 3 none false a0,.d (.int .i64 a1)]=((qj a0 a1)).bind fun r=>some (.ret (.d (.int .i64 r.1)) [[zb (cI) r.2]]):=z7 (enc:=uh) (by
 intro a b h
 simp only [uh,List.cons.injEq,X.d.injEq,X.res.injEq,RK.bld.injEq,X.agg.injEq,X.box.injEq,D.int.injEq,D.bool.injEq,D.fn.injEq,ya,zO,zN,and_true,true_and,and_assoc] at h
 simp only [Prod.ext_iff]; exact h) (a0,a1)
noncomputable def G25:Ctx:=G24.with 15 qc true
theorem so25:SoundAll Tryd.prog G25:=by
 refine wJ (cuts:=[]) (k:=2) (cd:=c_laws_markIntS) (rs:=xR) (enc:=uh) mixed MX Tryd.func15 (by kernel_rfl) (by kernel_rfl) (by kernel_rfl) (by kernel_rfl) (by kernel_rfl) (by kernel_rfl) (wk:=fun y=>nocap y) Same.nocap ?_
 intro a out ho
 obtain ⟨r,h1,h2⟩:=Option.bind_eq_some_iff.mp ho
 obtain ⟨hp,rfl⟩:=zD h1
 obtain ⟨N,hN⟩:=jX a.1 a.2 hp
 refine ⟨N,?_⟩
 refine ((yH (fun y=>some (nocap y)) 2 c_laws_markIntS xR (uh a) ⟨rfl,rfl,rfl⟩).trans (iE ⟨G24,[0],[0],[(0,.row 3 1)],N,xR,none,fun _ _=>none,fun y=>some (nocap y)⟩ ⟨rfl,rfl,rfl,rfl,rfl,fun _=>rfl,fun _=>rfl⟩ a.1 a.2)).trans ?_
 show (v7 N a.1 a.2).bind _=_
 rw [hN]; exact h2
noncomputable def wN (a:List Int) (k:Int):Option (Int×List Int):=yy (vv a k) (xJ a k)
def v8 (a:(List Int)×Int):List X:=[.res (.ext 4 34 3) (zb cI a.1),.d (.int .i64 a.2)]
noncomputable def pg:List X→Option XOut:=lay v8 fun a=>((wN a.1 a.2)).bind fun r=>some (.ret (.d (.int .i64 r.1)) [[zb cI r.2]])
theorem nD (a:List Int) (k:Int):pg [.res (.ext 4 34 3) (zb cI a),.d (.int .i64 k)]=((wN a k)).bind fun r=>some (.ret (.d (.int .i64 r.1)) [[zb cI r.2]]):=z7 (enc:=v8) (by
 intro a b h
 simp only [v8,List.cons.injEq,X.d.injEq,X.res.injEq,RK.bld.injEq,X.agg.injEq,X.box.injEq,D.int.injEq,D.bool.injEq,D.fn.injEq,ya,zO,zN,and_true,true_and,and_assoc] at h
 simp only [Prod.ext_iff]; exact h) (a,k)
noncomputable def G26:Ctx:=G25.with 7 pg
theorem MG:SoundAll Tryd.prog G26:=so25.with (iG (Cm:=qc) (by have h:=so25 15; exact h) (fun l k h1 h2 h3=>(lY l k).trans (by rw [show qj l k=some (vZ l k) from zA (oV h1 h2 h3).1,(oV h1 h2 h3).2]; rfl)) (enc:=v8) (fun _=>rfl) (fun a out ho=>by
 obtain ⟨r,h1,h2⟩:=Option.bind_eq_some_iff.mp ho
 obtain ⟨hp,rfl⟩:=zD h1
 obtain ⟨ls,e1,e2,e3,e4,e5,e6⟩:=l9 hp
 refine ⟨ls,e1,e2,e3,e4,e5,?_⟩
 rw [e6] at h2
 exact (Option.some.inj h2).symm))
noncomputable def v6 (a0:List Int) (a1:Int):Option (Int):=yy (uy a0 a1) (yW a0 a1)
def uj (a:(List Int)×Int):List X:=[.d (zb cI a.1),.d (.int .i64 a.2)]
noncomputable def oF:List X→Option XOut:=lay uj fun a=>((v6 a.1 a.2)).bind fun r=>some (.ret (.d (.int .i64 r)) [])
theorem li (a0:List Int) (a1:Int):oF [.d (zb cI a0),.d (.int .i64 a1)]=((v6 a0 a1)).bind fun r=>some (.ret (.d (.int .i64 r)) []):=z7 (enc:=uj) (by
 intro a b h
 simp only [uj,List.cons.injEq,X.d.injEq,X.res.injEq,RK.bld.injEq,X.agg.injEq,X.box.injEq,D.int.injEq,D.bool.injEq,D.fn.injEq,ya,zO,zN,and_true,true_and,and_assoc] at h
 simp only [Prod.ext_iff]; exact h) (a0,a1)
noncomputable def G27:Ctx:=G26.with 16 oF
theorem MH:SoundAll Tryd.prog G27:=by
 refine wJ (cuts:=[]) (k:=2) (cd:=c_laws_heldIntS) (rs:=xY) (enc:=uj) mixed MG Tryd.func16 (by kernel_rfl) (by kernel_rfl) (by kernel_rfl) (by kernel_rfl) (by kernel_rfl) (by kernel_rfl) (wk:=fun y=>nocap y) Same.nocap ?_
 intro a out ho
 obtain ⟨r,h1,h2⟩:=Option.bind_eq_some_iff.mp ho
 obtain ⟨hp,rfl⟩:=zD h1
 obtain ⟨N,hN⟩:=iq a.1 a.2 hp
 refine ⟨N,?_⟩
 refine ((yH (fun y=>some (nocap y)) 2 c_laws_heldIntS xY (uj a) ⟨rfl,rfl,rfl⟩).trans (im ⟨G26,[],[],[],N,xY,none,fun _ _=>none,fun y=>some (nocap y)⟩ ⟨rfl,rfl,rfl,rfl,rfl,fun _=>rfl,fun _=>rfl⟩ a.1 a.2)).trans ?_
 show (ug N a.1 a.2).bind _=_
 rw [hN]; exact h2
noncomputable def rD (a0:List TTest) (a1:Int):Option (Int):=yy (sy a0 a1) (ww a0 a1)
def vI (a:(List TTest)×Int):List X:=[.d (zb cTest a.1),.d (.int .i64 a.2)]
noncomputable def rC:List X→Option XOut:=lay vI fun a=>((rD a.1 a.2)).bind fun r=>some (.ret (.d (.int .i64 r)) [])
theorem mV (a0:List TTest) (a1:Int):rC [.d (zb cTest a0),.d (.int .i64 a1)]=((rD a0 a1)).bind fun r=>some (.ret (.d (.int .i64 r)) []):=z7 (enc:=vI) (by
 intro a b h
 simp only [vI,List.cons.injEq,X.d.injEq,X.res.injEq,RK.bld.injEq,X.agg.injEq,X.box.injEq,D.int.injEq,D.bool.injEq,D.fn.injEq,ya,zO,zN,and_true,true_and,and_assoc] at h
 simp only [Prod.ext_iff]; exact h) (a0,a1)
noncomputable def G28:Ctx:=G27.with 8 rC
theorem so28:SoundAll Tryd.prog G28:=by
 refine wJ (cuts:=[]) (k:=2) (cd:=c_laws_heldTestS) (rs:=xF) (enc:=vI) mixed MH Tryd.func8 (by kernel_rfl) (by kernel_rfl) (by kernel_rfl) (by kernel_rfl) (by kernel_rfl) (by kernel_rfl) (wk:=fun y=>nocap y) Same.nocap ?_
 intro a out ho
 obtain ⟨r,h1,h2⟩:=Option.bind_eq_some_iff.mp ho
 obtain ⟨hp,rfl⟩:=zD h1
 obtain ⟨N,hN⟩:=jK v6 (fun _ _ h=>zA h) a.1 a.2 hp
 refine ⟨N,?_⟩
 refine ((yH (fun y=>some (nocap y)) 2 c_laws_heldTestS xF (vI a) ⟨rfl,rfl,rfl⟩).trans (jD ⟨G27,[],[],[],N,xF,none,fun _ _=>none,fun y=>some (nocap y)⟩ ⟨rfl,rfl,rfl,rfl,rfl,fun _=>rfl,fun _=>rfl⟩ v6 ⟨rfl,(fun a0 a1=>(show G27 16 _=_ from rfl).trans (li a0 a1))⟩ a.1 a.2)).trans ?_
 show (tr v6 N a.1 a.2).bind _=_
 rw [hN]; exact h2
noncomputable def wQ (a:List Int) (k:Int):Option (Int×List Int):=yy (vA a k) (xI a k)
def ui (a:(List Int)×Int):List X:=[.res (.ext 4 34 3) (zb cI a.1),.d (.int .i64 a.2)]
noncomputable def pf:List X→Option XOut:=lay ui fun a=>((wQ a.1 a.2)).bind fun r=>some (.ret (.d (.int .i64 r.1)) [[zb cI r.2]])
theorem nk (a:List Int) (k:Int):pf [.res (.ext 4 34 3) (zb cI a),.d (.int .i64 k)]=((wQ a k)).bind fun r=>some (.ret (.d (.int .i64 r.1)) [[zb cI r.2]]):=z7 (enc:=ui) (by
 intro a b h
 simp only [ui,List.cons.injEq,X.d.injEq,X.res.injEq,RK.bld.injEq,X.agg.injEq,X.box.injEq,D.int.injEq,D.bool.injEq,D.fn.injEq,ya,zO,zN,and_true,true_and,and_assoc] at h
 simp only [Prod.ext_iff]; exact h) (a,k)
noncomputable def G29:Ctx:=G28.with 8 pf
theorem MN:SoundAll Tryd.prog G29:=so28.with (iF (C:=rC) (by have h:=so28 8; exact h) (x2:=fun k=> .int .i64 k) (enc:=ui) (fun _=>rfl) (fun a out ho=>by
 obtain ⟨r,h1,h2⟩:=Option.bind_eq_some_iff.mp ho
 obtain ⟨hp,rfl⟩:=zD h1
 obtain ⟨ts,e1,e2,e3⟩:=lN hp
 rw [e3] at h2
 refine ⟨ts.length,zK ts,.int .i64 (ww ts a.2),e1,rT ts,?_,.inl ⟨_,_,rfl⟩,?_⟩
 ·rw [← eD]
  exact (mV ts a.2).trans (by rw [show rD ts a.2=some (ww ts a.2) from zA e2]; rfl)
 ·rw [← e1]
  exact (Option.some.inj h2).symm))
noncomputable def vP (a0:List UInt8):Option (Bool):=yy (yS a0) (vL a0)
def xh (a:(List UInt8)):List X:=[.d (sD a)]
noncomputable def x9:List X→Option XOut:=lay xh fun a=>((vP a)).bind fun r=>some (.ret (.d (.bool r)) [])
theorem qZ (a0:List UInt8):x9 [.d (sD a0)]=((vP a0)).bind fun r=>some (.ret (.d (.bool r)) []):=z7 (enc:=xh) (by
 intro a b h
 simp only [xh,List.cons.injEq,X.d.injEq,X.res.injEq,RK.bld.injEq,X.agg.injEq,X.box.injEq,D.int.injEq,D.bool.injEq,D.fn.injEq,ya,zO,zN,and_true,true_and,and_assoc] at h
 exact h) a0
noncomputable def G30:Ctx:=G29.with 3 x9
theorem Lg:SoundAll Tryd.prog G30:=by
 refine wJ (cuts:=[]) (k:=1) (cd:=c_laws_FnExactParseTests) (rs:=xf) (enc:=xh) mixed MN Tryd.func3 (by kernel_rfl) (by kernel_rfl) (by kernel_rfl) (by kernel_rfl) (by kernel_rfl) (by kernel_rfl) (wk:=fun y=>nocap y) Same.nocap ?_
 intro a out ho
 obtain ⟨r,h1,h2⟩:=Option.bind_eq_some_iff.mp ho
 obtain ⟨hp,rfl⟩:=zD h1
 obtain ⟨N,hN⟩:=oA vj (fun _ h=>zA h) ve (fun _ h=>zA h) vO (fun _ _ h=>zA h) wN (fun _ _ h=>zA h) wQ (fun _ _ h=>zA h) a hp
 refine ⟨N,?_⟩
 refine ((yH (fun y=>some (nocap y)) 1 c_laws_FnExactParseTests xf (xh a) ⟨rfl,rfl,rfl⟩).trans (og ⟨G29,[],[],[],N,xf,none,fun _ _=>none,fun y=>some (nocap y)⟩ ⟨rfl,rfl,rfl,rfl,rfl,fun _=>rfl,fun _=>rfl⟩ vj ⟨rfl,(fun a0=>(show G29 4 _=_ from rfl).trans (mG a0))⟩ ve ⟨rfl,(fun a0=>(show G29 5 _=_ from rfl).trans (n8 a0))⟩ vO ⟨rfl,(fun a b=>(show G29 6 _=_ from rfl).trans (mW a b))⟩ wN ⟨rfl,(fun a k=>(show G29 7 _=_ from rfl).trans (nD a k))⟩ wQ ⟨rfl,(fun a k=>(show G29 8 _=_ from rfl).trans (nk a k))⟩ a)).trans ?_
 show (yZ vj ve vO wN wQ N a).bind _=_
 rw [hN]; exact h2
theorem law:Sound Tryd.prog 3 x9:=by
 have h:=Lg 3
 exact h
end Go.Proofs.YtpjfklhaogdfeaaDoor.TowPt
