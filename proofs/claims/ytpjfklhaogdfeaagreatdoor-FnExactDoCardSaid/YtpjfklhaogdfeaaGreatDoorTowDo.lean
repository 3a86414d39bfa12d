/- The contracts of the functions under laws_FnExactDo, one upon the other. Printed by a program of this session. -/
import Derived.Test.YtpjfklhaogdfeaaGreatDoorFDo
import Derived.Test.YtpjfklhaogdfeaaGreatDoorPDoY
import Derived.Test.YtpjfklhaogdfeaaGreatDoorVmLayer
import Derived.Test.YtpjfklhaogdfeaaGreatDoorVmShr
import Derived.Test.YtpjfklhaogdfeaaGreatDoorProg
set_option linter.all false
set_option maxRecDepth 100000
namespace Go.Proofs.YtpjfklhaogdfeaaGreatDoor.TowDo
open Go.Vm
variable [gl:Gl] [tb:GlTab]
theorem mixed:Tryz.prog.follows .mixedOrders=true:=by kernel_rfl
noncomputable def G0:Ctx:=Γ0 zi
theorem so0:SoundAll Tryz.prog G0:=Γ0_sound _ _
noncomputable def tC (zf:List UInt8) (zg:List UInt8) (a1:Int):Option (Int):=yk (sL zf zg a1) (yD zf zg a1)
def tF (a:(List UInt8)×(List UInt8)×Int):List X:=[.agg [.d (sD a.1),.d (sD a.2.1)],.d (.int .i64 a.2.2)]
noncomputable def lW:List X→Option XOut:=lay tF fun a=>((tC a.1 a.2.1 a.2.2)).bind fun r=>some (.ret (.d (.int .i64 r)) [])
theorem iB (zf:List UInt8) (zg:List UInt8) (a1:Int):lW [.agg [.d (sD zf),.d (sD zg)],.d (.int .i64 a1)]=((tC zf zg a1)).bind fun r=>some (.ret (.d (.int .i64 r)) []):=yb (enc:=tF) (by
 intro a b h
 simp only [tF,List.cons.injEq,X.d.injEq,X.res.injEq,RK.bld.injEq,X.agg.injEq,X.box.injEq,D.int.injEq,D.bool.injEq,D.fn.injEq,ye,zL,zK,and_true,true_and,and_assoc] at h
 simp only [Prod.ext_iff]; exact h) (zf,zg,a1)
noncomputable def G1:Ctx:=G0.with 27 lW
theorem so1:SoundAll Tryz.prog G1:=by
 refine yK (cuts:=[]) (k:=2) (cd:=c_laws_szFile) (rs:=tL) (enc:=tF) mixed so0 Tryz.func27 (by kernel_rfl) (by kernel_rfl) (by kernel_rfl) (by kernel_rfl) (by kernel_rfl) (by kernel_rfl) (wk:=fun y=>nocap y) Same.nocap ?_
 intro a out ho
 obtain ⟨r,h1,h2⟩:=Option.bind_eq_some_iff.mp ho
 obtain ⟨hp,rfl⟩:=zy h1
 obtain ⟨N,hN⟩:=db a.1 a.2.1 a.2.2 hp
 refine ⟨N,?_⟩
 refine ((zR (fun y=>some (nocap y)) 2 c_laws_szFile tL (tF a) ⟨rfl,rfl,rfl⟩).trans (eX ⟨G0,[],[],[],N,tL,none,fun _ _=>none,fun y=>some (nocap y)⟩ ⟨rfl,rfl,rfl,rfl,rfl,fun _=>rfl,fun _=>rfl⟩ a.1 a.2.1 a.2.2)).trans ?_
 show (tA N a.1 a.2.1 a.2.2).bind _=_
 rw [hN]; exact h2
noncomputable def uQ (a0:List TFile) (a1:Int):Option (Int):=yk (tg a0 a1) (wa a0 a1)
def uT (a:(List TFile)×Int):List X:=[.d (zh cFile a.1),.d (.int .i64 a.2)]
noncomputable def mo:List X→Option XOut:=lay uT fun a=>((uQ a.1 a.2)).bind fun r=>some (.ret (.d (.int .i64 r)) [])
theorem js (a0:List TFile) (a1:Int):mo [.d (zh cFile a0),.d (.int .i64 a1)]=((uQ a0 a1)).bind fun r=>some (.ret (.d (.int .i64 r)) []):=yb (enc:=uT) (by
 intro a b h
 simp only [uT,List.cons.injEq,X.d.injEq,X.res.injEq,RK.bld.injEq,X.agg.injEq,X.box.injEq,D.int.injEq,D.bool.injEq,D.fn.injEq,ye,zL,zK,and_true,true_and,and_assoc] at h
 simp only [Prod.ext_iff]; exact h) (a0,a1)
noncomputable def G2:Ctx:=G1.with 13 mo
theorem so2:SoundAll Tryz.prog G2:=by
 refine yK (cuts:=[]) (k:=2) (cd:=c_laws_szFileS) (rs:=wb) (enc:=uT) mixed so1 Tryz.func13 (by kernel_rfl) (by kernel_rfl) (by kernel_rfl) (by kernel_rfl) (by kernel_rfl) (by kernel_rfl) (wk:=fun y=>nocap y) Same.nocap ?_
 intro a out ho
 obtain ⟨r,h1,h2⟩:=Option.bind_eq_some_iff.mp ho
 obtain ⟨hp,rfl⟩:=zy h1
 obtain ⟨N,hN⟩:=fT tC (fun _ _ _ h=>zA h) a.1 a.2 hp
 refine ⟨N,?_⟩
 refine ((zR (fun y=>some (nocap y)) 2 c_laws_szFileS wb (uT a) ⟨rfl,rfl,rfl⟩).trans (fh ⟨G1,[],[],[],N,wb,none,fun _ _=>none,fun y=>some (nocap y)⟩ ⟨rfl,rfl,rfl,rfl,rfl,fun _=>rfl,fun _=>rfl⟩ tC ⟨rfl,(fun zf zg a1=>(show G1 27 _=_ from rfl).trans (iB zf zg a1))⟩ a.1 a.2)).trans ?_
 show (uA tC N a.1 a.2).bind _=_
 rw [hN]; exact h2
noncomputable def tv (a0_Files:List TFile) (a1:Int):Option (Int):=yk (qH a0_Files a1) (wL a0_Files a1)
def tu (a:(List TFile)×Int):List X:=[.agg [.d (zh cFile a.1)],.d (.int .i64 a.2)]
noncomputable def lV:List X→Option XOut:=lay tu fun a=>((tv a.1 a.2)).bind fun r=>some (.ret (.d (.int .i64 r)) [])
theorem im (a0_Files:List TFile) (a1:Int):lV [.agg [.d (zh cFile a0_Files)],.d (.int .i64 a1)]=((tv a0_Files a1)).bind fun r=>some (.ret (.d (.int .i64 r)) []):=yb (enc:=tu) (by
 intro a b h
 simp only [tu,List.cons.injEq,X.d.injEq,X.res.injEq,RK.bld.injEq,X.agg.injEq,X.box.injEq,D.int.injEq,D.bool.injEq,D.fn.injEq,ye,zL,zK,and_true,true_and,and_assoc] at h
 simp only [Prod.ext_iff]; exact h) (a0_Files,a1)
noncomputable def G3:Ctx:=G2.with 4 lV
theorem so3:SoundAll Tryz.prog G3:=by
 refine yK (cuts:=[]) (k:=2) (cd:=c_laws_szDisk) (rs:=sf) (enc:=tu) mixed so2 Tryz.func4 (by kernel_rfl) (by kernel_rfl) (by kernel_rfl) (by kernel_rfl) (by kernel_rfl) (by kernel_rfl) (wk:=fun y=>nocap y) Same.nocap ?_
 intro a out ho
 obtain ⟨r,h1,h2⟩:=Option.bind_eq_some_iff.mp ho
 obtain ⟨hp,rfl⟩:=zy h1
 obtain ⟨N,hN⟩:=eU uQ (fun _ _ h=>zA h) a.1 a.2 hp
 refine ⟨N,?_⟩
 refine ((zR (fun y=>some (nocap y)) 2 c_laws_szDisk sf (tu a) ⟨rfl,rfl,rfl⟩).trans (eV ⟨G2,[],[],[],N,sf,none,fun _ _=>none,fun y=>some (nocap y)⟩ ⟨rfl,rfl,rfl,rfl,rfl,fun _=>rfl,fun _=>rfl⟩ uQ ⟨rfl,(fun a0 a1=>(show G2 13 _=_ from rfl).trans (js a0 a1))⟩ a.1 a.2)).trans ?_
 show (t6 uQ N a.1 a.2).bind _=_
 rw [hN]; exact h2
noncomputable def rh (zo:Int) (zf:List UInt8) (zB:List UInt8) (zg:List UInt8) (a1:Int):Option (Int):=yk (pj zo zf zB zg a1) (wn zo zf zB zg a1)
def rg (a:Int×(List UInt8)×(List UInt8)×(List UInt8)×Int):List X:=[.agg [.d (.int .i64 a.1),.d (sD a.2.1),.d (sD a.2.2.1),.d (sD a.2.2.2.1)],.d (.int .i64 a.2.2.2.2)]
noncomputable def kl:List X→Option XOut:=lay rg fun a=>((rh a.1 a.2.1 a.2.2.1 a.2.2.2.1 a.2.2.2.2)).bind fun r=>some (.ret (.d (.int .i64 r)) [])
theorem iK (zo:Int) (zf:List UInt8) (zB:List UInt8) (zg:List UInt8) (a1:Int):kl [.agg [.d (.int .i64 zo),.d (sD zf),.d (sD zB),.d (sD zg)],.d (.int .i64 a1)]=((rh zo zf zB zg a1)).bind fun r=>some (.ret (.d (.int .i64 r)) []):=yb (enc:=rg) (by
 intro a b h
 simp only [rg,List.cons.injEq,X.d.injEq,X.res.injEq,RK.bld.injEq,X.agg.injEq,X.box.injEq,D.int.injEq,D.bool.injEq,D.fn.injEq,ye,zL,zK,and_true,true_and,and_assoc] at h
 simp only [Prod.ext_iff]; exact h) (zo,zf,zB,zg,a1)
noncomputable def G4:Ctx:=G3.with 5 kl
theorem so4:SoundAll Tryz.prog G4:=by
 refine yK (cuts:=[]) (k:=2) (cd:=c_laws_szAct) (rs:=rj) (enc:=rg) mixed so3 Tryz.func5 (by kernel_rfl) (by kernel_rfl) (by kernel_rfl) (by kernel_rfl) (by kernel_rfl) (by kernel_rfl) (wk:=fun y=>nocap y) Same.nocap ?_
 intro a out ho
 obtain ⟨r,h1,h2⟩:=Option.bind_eq_some_iff.mp ho
 obtain ⟨hp,rfl⟩:=zy h1
 obtain ⟨N,hN⟩:=cX a.1 a.2.1 a.2.2.1 a.2.2.2.1 a.2.2.2.2 hp
 refine ⟨N,?_⟩
 refine ((zR (fun y=>some (nocap y)) 2 c_laws_szAct rj (rg a) ⟨rfl,rfl,rfl⟩).trans (bx ⟨G3,[],[],[],N,rj,none,fun _ _=>none,fun y=>some (nocap y)⟩ ⟨rfl,rfl,rfl,rfl,rfl,fun _=>rfl,fun _=>rfl⟩ a.1 a.2.1 a.2.2.1 a.2.2.2.1 a.2.2.2.2)).trans ?_
 show (s7 N a.1 a.2.1 a.2.2.1 a.2.2.2.1 a.2.2.2.2).bind _=_
 rw [hN]; exact h2
noncomputable def tw (zf:List UInt8) (zg:List UInt8):Option (List UInt8×List UInt8):=yk (sM zf zg) (tx zf zg)
def si (a:(List UInt8)×(List UInt8)):List X:=[.agg [.d (sD a.1),.d (sD a.2)]]
noncomputable def l4:List X→Option XOut:=lay si fun a=>((tw a.1 a.2)).bind fun r=>some (.ret (.agg [.d (sD r.1),.d (sD r.2)]) [])
theorem jZ (zf:List UInt8) (zg:List UInt8):l4 [.agg [.d (sD zf),.d (sD zg)]]=((tw zf zg)).bind fun r=>some (.ret (.agg [.d (sD r.1),.d (sD r.2)]) []):=yb (enc:=si) (by
 intro a b h
 simp only [si,List.cons.injEq,X.d.injEq,X.res.injEq,RK.bld.injEq,X.agg.injEq,X.box.injEq,D.int.injEq,D.bool.injEq,D.fn.injEq,ye,zL,zK,and_true,true_and,and_assoc] at h
 simp only [Prod.ext_iff]; exact h) (zf,zg)
noncomputable def G5:Ctx:=G4.with 33 l4
theorem so5:SoundAll Tryz.prog G5:=by
 refine yK (cuts:=[]) (k:=1) (cd:=c_laws_toFile) (rs:=tq) (enc:=si) mixed so4 Tryz.func33 (by kernel_rfl) (by kernel_rfl) (by kernel_rfl) (by kernel_rfl) (by kernel_rfl) (by kernel_rfl) (wk:=fun y=>nocap y) Same.nocap ?_
 intro a out ho
 obtain ⟨r,h1,h2⟩:=Option.bind_eq_some_iff.mp ho
 obtain ⟨hp,rfl⟩:=zy h1
 obtain ⟨N,hN⟩:=dx a.1 a.2 hp
 refine ⟨N,?_⟩
 refine ((zR (fun y=>some (nocap y)) 1 c_laws_toFile tq (si a) ⟨rfl,rfl,rfl⟩).trans (e9 ⟨G4,[],[],[],N,tq,none,fun _ _=>none,fun y=>some (nocap y)⟩ ⟨rfl,rfl,rfl,rfl,rfl,fun _=>rfl,fun _=>rfl⟩ a.1 a.2)).trans ?_
 show (rV N a.1 a.2).bind _=_
 rw [hN]; exact h2
noncomputable def uW (a0:List TFile):Option (List TFile):=yk (qk a0) (rx a0)
def uR (a:(List TFile)):List X:=[.d (zh cFile a)]
noncomputable def ml:List X→Option XOut:=lay uR fun a=>((uW a)).bind fun r=>some (.ret (zP (cFile) 59 none false r) [])
theorem jD (a0:List TFile):ml [.d (zh cFile a0)]=((uW a0)).bind fun r=>some (.ret (zP (cFile) 59 none false r) []):=yb (enc:=uR) (by
 intro a b h
 simp only [uR,List.cons.injEq,X.d.injEq,X.res.injEq,RK.bld.injEq,X.agg.injEq,X.box.injEq,D.int.injEq,D.bool.injEq,D.fn.injEq,ye,zL,zK,and_true,true_and,and_assoc] at h
 exact h) a0
noncomputable def G6:Ctx:=G5.with 17 ml
theorem so6:SoundAll Tryz.prog G6:=by
 refine yK (cuts:=[]) (k:=1) (cd:=c_laws_toFileS) (rs:=wd) (enc:=uR) mixed so5 Tryz.func17 (by kernel_rfl) (by kernel_rfl) (by kernel_rfl) (by kernel_rfl) (by kernel_rfl) (by kernel_rfl) (wk:=fun y=>nocap y) Same.nocap ?_
 intro a out ho
 obtain ⟨r,h1,h2⟩:=Option.bind_eq_some_iff.mp ho
 obtain ⟨hp,rfl⟩:=zy h1
 obtain ⟨N,hN⟩:=fO tw (fun _ _ h=>zA h) a hp
 refine ⟨N,?_⟩
 refine ((zR (fun y=>some (nocap y)) 1 c_laws_toFileS wd (uR a) ⟨rfl,rfl,rfl⟩).trans (g8 ⟨G5,[],[],[],N,wd,none,fun _ _=>none,fun y=>some (nocap y)⟩ ⟨rfl,rfl,rfl,rfl,rfl,fun _=>rfl,fun _=>rfl⟩ tw ⟨rfl,(fun zf zg=>(show G5 33 _=_ from rfl).trans (jZ zf zg))⟩ a)).trans ?_
 show (uS tw N a).bind _=_
 rw [hN]; exact h2
noncomputable def t8 (a0_Files:List TFile):Option (List TFile):=yk (qy a0_Files) (rX a0_Files)
def sg (a:(List TFile)):List X:=[.agg [.d (zh cFile a)]]
noncomputable def lN:List X→Option XOut:=lay sg fun a=>((t8 a)).bind fun r=>some (.ret (.agg [zP (cFile) 59 none false r]) [])
theorem iz (a0_Files:List TFile):lN [.agg [.d (zh cFile a0_Files)]]=((t8 a0_Files)).bind fun r=>some (.ret (.agg [zP (cFile) 59 none false r]) []):=yb (enc:=sg) (by
 intro a b h
 simp only [sg,List.cons.injEq,X.d.injEq,X.res.injEq,RK.bld.injEq,X.agg.injEq,X.box.injEq,D.int.injEq,D.bool.injEq,D.fn.injEq,ye,zL,zK,and_true,true_and,and_assoc] at h
 exact h) a0_Files
noncomputable def G7:Ctx:=G6.with 7 lN
theorem so7:SoundAll Tryz.prog G7:=by
 refine yK (cuts:=[]) (k:=1) (cd:=c_laws_toDisk) (rs:=tT) (enc:=sg) mixed so6 Tryz.func7 (by kernel_rfl) (by kernel_rfl) (by kernel_rfl) (by kernel_rfl) (by kernel_rfl) (by kernel_rfl) (wk:=fun y=>nocap y) Same.nocap ?_
 intro a out ho
 obtain ⟨r,h1,h2⟩:=Option.bind_eq_some_iff.mp ho
 obtain ⟨hp,rfl⟩:=zy h1
 obtain ⟨N,hN⟩:=dm uW (fun _ h=>zA h) a hp
 refine ⟨N,?_⟩
 refine ((zR (fun y=>some (nocap y)) 1 c_laws_toDisk tT (sg a) ⟨rfl,rfl,rfl⟩).trans (dc ⟨G6,[],[],[],N,tT,none,fun _ _=>none,fun y=>some (nocap y)⟩ ⟨rfl,rfl,rfl,rfl,rfl,fun _=>rfl,fun _=>rfl⟩ uW ⟨rfl,(fun a0=>(show G6 17 _=_ from rfl).trans (jD a0))⟩ a)).trans ?_
 show (tG uW N a).bind _=_
 rw [hN]; exact h2
noncomputable def ri (zo:Int) (zf:List UInt8) (zB:List UInt8) (zg:List UInt8):Option (Int×List UInt8×List UInt8×List UInt8):=yk (qW zo zf zB zg) (qG zo zf zB zg)
def rf (a:Int×(List UInt8)×(List UInt8)×(List UInt8)):List X:=[.agg [.d (.int .i64 a.1),.d (sD a.2.1),.d (sD a.2.2.1),.d (sD a.2.2.2)]]
noncomputable def kG:List X→Option XOut:=lay rf fun a=>((ri a.1 a.2.1 a.2.2.1 a.2.2.2)).bind fun r=>some (.ret (.agg [.d (.int .i64 r.1),.d (sD r.2.1),.d (sD r.2.2.1),.d (sD r.2.2.2)]) [])
theorem gv (zo:Int) (zf:List UInt8) (zB:List UInt8) (zg:List UInt8):kG [.agg [.d (.int .i64 zo),.d (sD zf),.d (sD zB),.d (sD zg)]]=((ri zo zf zB zg)).bind fun r=>some (.ret (.agg [.d (.int .i64 r.1),.d (sD r.2.1),.d (sD r.2.2.1),.d (sD r.2.2.2)]) []):=yb (enc:=rf) (by
 intro a b h
 simp only [rf,List.cons.injEq,X.d.injEq,X.res.injEq,RK.bld.injEq,X.agg.injEq,X.box.injEq,D.int.injEq,D.bool.injEq,D.fn.injEq,ye,zL,zK,and_true,true_and,and_assoc] at h
 simp only [Prod.ext_iff]; exact h) (zo,zf,zB,zg)
noncomputable def G8:Ctx:=G7.with 8 kG
theorem so8:SoundAll Tryz.prog G8:=by
 refine yK (cuts:=[]) (k:=1) (cd:=c_laws_toAct) (rs:=sU) (enc:=rf) mixed so7 Tryz.func8 (by kernel_rfl) (by kernel_rfl) (by kernel_rfl) (by kernel_rfl) (by kernel_rfl) (by kernel_rfl) (wk:=fun y=>nocap y) Same.nocap ?_
 intro a out ho
 obtain ⟨r,h1,h2⟩:=Option.bind_eq_some_iff.mp ho
 obtain ⟨hp,rfl⟩:=zy h1
 obtain ⟨N,hN⟩:=ct a.1 a.2.1 a.2.2.1 a.2.2.2 hp
 refine ⟨N,?_⟩
 refine ((zR (fun y=>some (nocap y)) 1 c_laws_toAct sU (rf a) ⟨rfl,rfl,rfl⟩).trans (bn ⟨G7,[],[],[],N,sU,none,fun _ _=>none,fun y=>some (nocap y)⟩ ⟨rfl,rfl,rfl,rfl,rfl,fun _=>rfl,fun _=>rfl⟩ a.1 a.2.1 a.2.2.1 a.2.2.2)).trans ?_
 show (qz N a.1 a.2.1 a.2.2.1 a.2.2.2).bind _=_
 rw [hN]; exact h2
noncomputable def uL (a0:Int):Option (Bool):=yk (u2 a0) (va a0)
def uX (a:Int):List X:=[.d (.int .u8 a)]
noncomputable def mJ:List X→Option XOut:=lay uX fun a=>((uL a)).bind fun r=>some (.ret (.d (.bool r)) [])
theorem jA (a0:Int):mJ [.d (.int .u8 a0)]=((uL a0)).bind fun r=>some (.ret (.d (.bool r)) []):=yb (enc:=uX) (by
 intro a b h
 simp only [uX,List.cons.injEq,X.d.injEq,X.res.injEq,RK.bld.injEq,X.agg.injEq,X.box.injEq,D.int.injEq,D.bool.injEq,D.fn.injEq,ye,zL,zK,and_true,true_and,and_assoc] at h
 exact h) a0
noncomputable def G9:Ctx:=G8.with 50 mJ
theorem so9:SoundAll Tryz.prog G9:=by
 refine yK (cuts:=[]) (k:=1) (cd:=c_spec_l3Digit) (rs:=uI) (enc:=uX) mixed so8 Tryz.func50 (by kernel_rfl) (by kernel_rfl) (by kernel_rfl) (by kernel_rfl) (by kernel_rfl) (by kernel_rfl) (wk:=fun y=>nocap y) Same.nocap ?_
 intro a out ho
 obtain ⟨r,h1,h2⟩:=Option.bind_eq_some_iff.mp ho
 obtain ⟨hp,rfl⟩:=zy h1
 obtain ⟨N,hN⟩:=fM a hp
 refine ⟨N,?_⟩
 refine ((zR (fun y=>some (nocap y)) 1 c_spec_l3Digit uI (uX a) ⟨rfl,rfl,rfl⟩).trans (fE ⟨G8,[],[],[],N,uI,none,fun _ _=>none,fun y=>some (nocap y)⟩ ⟨rfl,rfl,rfl,rfl,rfl,fun _=>rfl,fun _=>rfl⟩ a)).trans ?_
 show (uG N a).bind _=_
 rw [hN]; exact h2
noncomputable def vW (a0:Int):Option (Bool):=yk (uw a0) (wA a0)
def vZ (a:Int):List X:=[.d (.int .u8 a)]
noncomputable def nV:List X→Option XOut:=lay vZ fun a=>((vW a)).bind fun r=>some (.ret (.d (.bool r)) [])
theorem kY (a0:Int):nV [.d (.int .u8 a0)]=((vW a0)).bind fun r=>some (.ret (.d (.bool r)) []):=yb (enc:=vZ) (by
 intro a b h
 simp only [vZ,List.cons.injEq,X.d.injEq,X.res.injEq,RK.bld.injEq,X.agg.injEq,X.box.injEq,D.int.injEq,D.bool.injEq,D.fn.injEq,ye,zL,zK,and_true,true_and,and_assoc] at h
 exact h) a0
noncomputable def G10:Ctx:=G9.with 51 nV
theorem JR:SoundAll Tryz.prog G10:=by
 refine yK (cuts:=[]) (k:=1) (cd:=c_spec_l3Letter) (rs:=vO) (enc:=vZ) mixed so9 Tryz.func51 (by kernel_rfl) (by kernel_rfl) (by kernel_rfl) (by kernel_rfl) (by kernel_rfl) (by kernel_rfl) (wk:=fun y=>nocap y) Same.nocap ?_
 intro a out ho
 obtain ⟨r,h1,h2⟩:=Option.bind_eq_some_iff.mp ho
 obtain ⟨hp,rfl⟩:=zy h1
 obtain ⟨N,hN⟩:=gg a hp
 refine ⟨N,?_⟩
 refine ((zR (fun y=>some (nocap y)) 1 c_spec_l3Letter vO (vZ a) ⟨rfl,rfl,rfl⟩).trans (iY ⟨G9,[],[],[],N,vO,none,fun _ _=>none,fun y=>some (nocap y)⟩ ⟨rfl,rfl,rfl,rfl,rfl,fun _=>rfl,fun _=>rfl⟩ a)).trans ?_
 show (vQ N a).bind _=_
 rw [hN]; exact h2
noncomputable def xp (a0:List UInt8):Option (Bool):=yk (wP a0) (wC a0)
def vT (a:(List UInt8)):List X:=[.d (sD a)]
noncomputable def nB:List X→Option XOut:=lay vT fun a=>((xp a)).bind fun r=>some (.ret (.d (.bool r)) [])
theorem pH (a0:List UInt8):nB [.d (sD a0)]=((xp a0)).bind fun r=>some (.ret (.d (.bool r)) []):=yb (enc:=vT) (by
 intro a b h
 simp only [vT,List.cons.injEq,X.d.injEq,X.res.injEq,RK.bld.injEq,X.agg.injEq,X.box.injEq,D.int.injEq,D.bool.injEq,D.fn.injEq,ye,zL,zK,and_true,true_and,and_assoc] at h
 exact h) a0
noncomputable def G11:Ctx:=G10.with 28 nB
theorem Jq:SoundAll Tryz.prog G11:=by
 refine yK (cuts:=[]) (k:=1) (cd:=c_spec_l7NameOk) (rs:=xP) (enc:=vT) mixed JR Tryz.func28 (by kernel_rfl) (by kernel_rfl) (by kernel_rfl) (by kernel_rfl) (by kernel_rfl) (by kernel_rfl) (wk:=fun y=>nocap y) Same.nocap ?_
 intro a out ho
 obtain ⟨r,h1,h2⟩:=Option.bind_eq_some_iff.mp ho
 obtain ⟨hp,rfl⟩:=zy h1
 obtain ⟨N,hN⟩:=hX uL (fun _ h=>zA h) vW (fun _ h=>zA h) a hp
 refine ⟨N,?_⟩
 refine ((zR (fun y=>some (nocap y)) 1 c_spec_l7NameOk xP (vT a) ⟨rfl,rfl,rfl⟩).trans (gU ⟨G10,[],[],[],N,xP,none,fun _ _=>none,fun y=>some (nocap y)⟩ ⟨rfl,rfl,rfl,rfl,rfl,fun _=>rfl,fun _=>rfl⟩ uL ⟨rfl,(fun a0=>(show G10 50 _=_ from rfl).trans (jA a0))⟩ vW ⟨rfl,(fun a0=>(show G10 51 _=_ from rfl).trans (kY a0))⟩ a)).trans ?_
 show (sE uL vW N a).bind _=_
 rw [hN]; exact h2
noncomputable def t7 (a0_Files:List TFile):Option (Bool):=yk (qU a0_Files) (tI a0_Files)
def tM (a:(List TFile)):List X:=[.agg [.d (zh cFile a)]]
noncomputable def lS:List X→Option XOut:=lay tM fun a=>((t7 a)).bind fun r=>some (.ret (.d (.bool r)) [])
theorem jY (a0_Files:List TFile):lS [.agg [.d (zh cFile a0_Files)]]=((t7 a0_Files)).bind fun r=>some (.ret (.d (.bool r)) []):=yb (enc:=tM) (by
 intro a b h
 simp only [tM,List.cons.injEq,X.d.injEq,X.res.injEq,RK.bld.injEq,X.agg.injEq,X.box.injEq,D.int.injEq,D.bool.injEq,D.fn.injEq,ye,zL,zK,and_true,true_and,and_assoc] at h
 exact h) a0_Files
noncomputable def G12:Ctx:=G11.with 14 lS
theorem Jp:SoundAll Tryz.prog G12:=by
 refine yK (cuts:=[]) (k:=1) (cd:=c_spec_DiskOk) (rs:=wH) (enc:=tM) mixed Jq Tryz.func14 (by kernel_rfl) (by kernel_rfl) (by kernel_rfl) (by kernel_rfl) (by kernel_rfl) (by kernel_rfl) (wk:=fun y=>nocap y) Same.nocap ?_
 intro a out ho
 obtain ⟨r,h1,h2⟩:=Option.bind_eq_some_iff.mp ho
 obtain ⟨hp,rfl⟩:=zy h1
 obtain ⟨N,hN⟩:=eZ xp (fun _ h=>zA h) a hp
 refine ⟨N,?_⟩
 refine ((zR (fun y=>some (nocap y)) 1 c_spec_DiskOk wH (tM a) ⟨rfl,rfl,rfl⟩).trans (dI ⟨G11,[],[],[],N,wH,none,fun _ _=>none,fun y=>some (nocap y)⟩ ⟨rfl,rfl,rfl,rfl,rfl,fun _=>rfl,fun _=>rfl⟩ xp ⟨rfl,(fun a0=>(show G11 28 _=_ from rfl).trans (pH a0))⟩ a)).trans ?_
 show (se xp N a).bind _=_
 rw [hN]; exact h2
noncomputable def qY (a0_Files:List TFile):Option (List TFile):=yk (sJ a0_Files) (lX a0_Files)
noncomputable def tK (a0_Files:List TFile):Option (List TFile):=yk (sJ a0_Files) (vD a0_Files)
def xy (a:(List TFile)):List X:=[.agg [.d (zh cFile a)]]
theorem nT:∀ a b,xy a=xy b→a=b:=by
 intro a b h
 simp only [xy,List.cons.injEq,X.d.injEq,X.res.injEq,RK.bld.injEq,X.agg.injEq,X.box.injEq,D.int.injEq,D.bool.injEq,D.fn.injEq,ye,zL,zK,and_true,true_and,and_assoc] at h
 exact h
noncomputable def qZ:List X→Option XOut:=lay xy fun a=>((qY a)).bind fun r=>some (.ret (.agg [zP (cFile) 59 none false r]) [])
theorem ju (a0_Files:List TFile):qZ [.agg [.d (zh cFile a0_Files)]]=((qY a0_Files)).bind fun r=>some (.ret (.agg [zP (cFile) 59 none false r]) []):=yb (enc:=xy) nT a0_Files
noncomputable def lT:List X→Option XOut:=lay xy fun a=>((tK a)).bind fun r=>some (.ret (.agg [.d (zh (cFile) r)]) [])
theorem j9 (a0_Files:List TFile):lT [.agg [.d (zh cFile a0_Files)]]=((tK a0_Files)).bind fun r=>some (.ret (.agg [.d (zh (cFile) r)]) []):=yb (enc:=xy) nT a0_Files
noncomputable def Gs12:Ctx:=G12.with 15 qZ
theorem ss12:SoundAll Tryz.prog Gs12:=by
 refine yK (cuts:=[]) (k:=1) (cd:=c_spec_l7Copy) (rs:=tB) (enc:=xy) mixed Jp Tryz.func15 (by kernel_rfl) (by kernel_rfl) (by kernel_rfl) (by kernel_rfl) (by kernel_rfl) (by kernel_rfl) (wk:=fun y=>nocap y) Same.nocap ?_
 intro a out ho
 obtain ⟨r,h1,h2⟩:=Option.bind_eq_some_iff.mp ho
 obtain ⟨hp,rfl⟩:=zy h1
 obtain ⟨N,hN⟩:=dF a hp
 refine ⟨N,?_⟩
 refine ((zR (fun y=>some (nocap y)) 1 c_spec_l7Copy tB (xy a) ⟨rfl,rfl,rfl⟩).trans (dw ⟨G12,[],[],[],N,tB,none,fun _ _=>none,fun y=>some (nocap y)⟩ ⟨rfl,rfl,rfl,rfl,rfl,fun _=>rfl,fun _=>rfl⟩ a)).trans ?_
 show (sb N a).bind _=_
 rw [hN]; exact h2
noncomputable def G13:Ctx:=Gs12.with 15 lT
theorem Jl:SoundAll Tryz.prog G13:=ss12.with (Sound.shr (F:=qZ) (by have h:=ss12 15; exact h) (fun xs out ho=>by
 obtain ⟨a,rfl,ho2⟩:=sV ho
 obtain ⟨r,h1,h2⟩:=Option.bind_eq_some_iff.mp ho2
 obtain ⟨hp,rfl⟩:=zy h1
 refine ⟨_,(ju a).trans (by rw [show qY a=some (lX a) from zA hp]; rfl),?_,?_⟩
 ·rfl
 ·exact (Option.some.inj h2).symm))
noncomputable def uC (zo:Int) (zf:List UInt8) (zB:List UInt8) (zg:List UInt8):Option (Bool):=yk (qn zo zf zB zg) (uU zo zf zB zg)
def uP (a:Int×(List UInt8)×(List UInt8)×(List UInt8)):List X:=[.agg [.d (.int .i64 a.1),.d (sD a.2.1),.d (sD a.2.2.1),.d (sD a.2.2.2)]]
noncomputable def mQ:List X→Option XOut:=lay uP fun a=>((uC a.1 a.2.1 a.2.2.1 a.2.2.2)).bind fun r=>some (.ret (.d (.bool r)) [])
theorem jy (zo:Int) (zf:List UInt8) (zB:List UInt8) (zg:List UInt8):mQ [.agg [.d (.int .i64 zo),.d (sD zf),.d (sD zB),.d (sD zg)]]=((uC zo zf zB zg)).bind fun r=>some (.ret (.d (.bool r)) []):=yb (enc:=uP) (by
 intro a b h
 simp only [uP,List.cons.injEq,X.d.injEq,X.res.injEq,RK.bld.injEq,X.agg.injEq,X.box.injEq,D.int.injEq,D.bool.injEq,D.fn.injEq,ye,zL,zK,and_true,true_and,and_assoc] at h
 simp only [Prod.ext_iff]; exact h) (zo,zf,zB,zg)
noncomputable def G14:Ctx:=G13.with 29 mQ
theorem JA:SoundAll Tryz.prog G14:=by
 refine yK (cuts:=[]) (k:=1) (cd:=c_spec_l7ActOk) (rs:=uD) (enc:=uP) mixed Jl Tryz.func29 (by kernel_rfl) (by kernel_rfl) (by kernel_rfl) (by kernel_rfl) (by kernel_rfl) (by kernel_rfl) (wk:=fun y=>nocap y) Same.nocap ?_
 intro a out ho
 obtain ⟨r,h1,h2⟩:=Option.bind_eq_some_iff.mp ho
 obtain ⟨hp,rfl⟩:=zy h1
 obtain ⟨N,hN⟩:=fX xp (fun _ h=>zA h) a.1 a.2.1 a.2.2.1 a.2.2.2 hp
 refine ⟨N,?_⟩
 refine ((zR (fun y=>some (nocap y)) 1 c_spec_l7ActOk uD (uP a) ⟨rfl,rfl,rfl⟩).trans (fk ⟨G13,[],[],[],N,uD,none,fun _ _=>none,fun y=>some (nocap y)⟩ ⟨rfl,rfl,rfl,rfl,rfl,fun _=>rfl,fun _=>rfl⟩ xp ⟨rfl,(fun a0=>(show G13 28 _=_ from rfl).trans (pH a0))⟩ a.1 a.2.1 a.2.2.1 a.2.2.2)).trans ?_
 show (uJ xp N a.1 a.2.1 a.2.2.1 a.2.2.2).bind _=_
 rw [hN]; exact h2
noncomputable def rP (a0_Files:List TFile) (a1:List UInt8):Option (Int):=yk (oa a0_Files a1) (pq a0_Files a1)
def rJ (a:(List TFile)×(List UInt8)):List X:=[.agg [.d (zh cFile a.1)],.d (sD a.2)]
noncomputable def jM:List X→Option XOut:=lay rJ fun a=>((rP a.1 a.2)).bind fun r=>some (.ret (.d (.int .i64 r)) [])
theorem fc (a0_Files:List TFile) (a1:List UInt8):jM [.agg [.d (zh cFile a0_Files)],.d (sD a1)]=((rP a0_Files a1)).bind fun r=>some (.ret (.d (.int .i64 r)) []):=yb (enc:=rJ) (by
 intro a b h
 simp only [rJ,List.cons.injEq,X.d.injEq,X.res.injEq,RK.bld.injEq,X.agg.injEq,X.box.injEq,D.int.injEq,D.bool.injEq,D.fn.injEq,ye,zL,zK,and_true,true_and,and_assoc] at h
 simp only [Prod.ext_iff]; exact h) (a0_Files,a1)
noncomputable def G15:Ctx:=G14.with 30 jM
theorem J1:SoundAll Tryz.prog G15:=by
 refine yK (cuts:=[]) (k:=2) (cd:=c_spec_l7At) (rs:=ul) (enc:=rJ) mixed JA Tryz.func30 (by kernel_rfl) (by kernel_rfl) (by kernel_rfl) (by kernel_rfl) (by kernel_rfl) (by kernel_rfl) (wk:=fun y=>nocap y) Same.nocap ?_
 intro a out ho
 obtain ⟨r,h1,h2⟩:=Option.bind_eq_some_iff.mp ho
 obtain ⟨hp,rfl⟩:=zy h1
 obtain ⟨N,hN⟩:=aq a.1 a.2 hp
 refine ⟨N,?_⟩
 refine ((zR (fun y=>some (nocap y)) 2 c_spec_l7At ul (rJ a) ⟨rfl,rfl,rfl⟩).trans (au ⟨G14,[],[],[],N,ul,none,fun _ _=>none,fun y=>some (nocap y)⟩ ⟨rfl,rfl,rfl,rfl,rfl,fun _=>rfl,fun _=>rfl⟩ a.1 a.2)).trans ?_
 show (pv N a.1 a.2).bind _=_
 rw [hN]; exact h2
noncomputable def su (a0_Files:List TFile) (a1_Name:List UInt8) (a1_Data:List UInt8):Option (List TFile):=yk (qP a0_Files a1_Name a1_Data) (qa a0_Files a1_Name a1_Data)
def tR (a:(List TFile)×(List UInt8)×(List UInt8)):List X:=[.agg [.d (zh cFile a.1)],.agg [.d (sD a.2.1),.d (sD a.2.2)]]
noncomputable def lY:List X→Option XOut:=lay tR fun a=>((su a.1 a.2.1 a.2.2)).bind fun r=>some (.ret (.agg [zP (cFile) 59 none false r]) [])
theorem il (a0_Files:List TFile) (a1_Name:List UInt8) (a1_Data:List UInt8):lY [.agg [.d (zh cFile a0_Files)],.agg [.d (sD a1_Name),.d (sD a1_Data)]]=((su a0_Files a1_Name a1_Data)).bind fun r=>some (.ret (.agg [zP (cFile) 59 none false r]) []):=yb (enc:=tR) (by
 intro a b h
 simp only [tR,List.cons.injEq,X.d.injEq,X.res.injEq,RK.bld.injEq,X.agg.injEq,X.box.injEq,D.int.injEq,D.bool.injEq,D.fn.injEq,ye,zL,zK,and_true,true_and,and_assoc] at h
 simp only [Prod.ext_iff]; exact h) (a0_Files,a1_Name,a1_Data)
noncomputable def G16:Ctx:=G15.with 31 lY
theorem JF:SoundAll Tryz.prog G16:=by
 refine yK (cuts:=[]) (k:=2) (cd:=c_spec_l7With) (rs:=xz) (enc:=tR) mixed J1 Tryz.func31 (by kernel_rfl) (by kernel_rfl) (by kernel_rfl) (by kernel_rfl) (by kernel_rfl) (by kernel_rfl) (wk:=fun y=>nocap y) Same.nocap ?_
 intro a out ho
 obtain ⟨r,h1,h2⟩:=Option.bind_eq_some_iff.mp ho
 obtain ⟨hp,rfl⟩:=zy h1
 obtain ⟨N,hN⟩:=dp a.1 a.2.1 a.2.2 hp
 refine ⟨N,?_⟩
 refine ((zR (fun y=>some (nocap y)) 2 c_spec_l7With xz (tR a) ⟨rfl,rfl,rfl⟩).trans (dk ⟨G15,[],[],[],N,xz,none,fun _ _=>none,fun y=>some (nocap y)⟩ ⟨rfl,rfl,rfl,rfl,rfl,fun _=>rfl,fun _=>rfl⟩ a.1 a.2.1 a.2.2)).trans ?_
 show (qe N a.1 a.2.1 a.2.2).bind _=_
 rw [hN]; exact h2
noncomputable def vr (a0_Files:List TFile) (a1:List UInt8):Option (List TFile):=yk (rb a0_Files a1) (th a0_Files a1)
def vl (a:(List TFile)×(List UInt8)):List X:=[.agg [.d (zh cFile a.1)],.d (sD a.2)]
noncomputable def no:List X→Option XOut:=lay vl fun a=>((vr a.1 a.2)).bind fun r=>some (.ret (.agg [zP (cFile) 59 none false r]) [])
theorem kg (a0_Files:List TFile) (a1:List UInt8):no [.agg [.d (zh cFile a0_Files)],.d (sD a1)]=((vr a0_Files a1)).bind fun r=>some (.ret (.agg [zP (cFile) 59 none false r]) []):=yb (enc:=vl) (by
 intro a b h
 simp only [vl,List.cons.injEq,X.d.injEq,X.res.injEq,RK.bld.injEq,X.agg.injEq,X.box.injEq,D.int.injEq,D.bool.injEq,D.fn.injEq,ye,zL,zK,and_true,true_and,and_assoc] at h
 simp only [Prod.ext_iff]; exact h) (a0_Files,a1)
noncomputable def G17:Ctx:=G16.with 32 no
theorem Jd:SoundAll Tryz.prog G17:=by
 refine yK (cuts:=[]) (k:=2) (cd:=c_spec_l7Without) (rs:=xD) (enc:=vl) mixed JF Tryz.func32 (by kernel_rfl) (by kernel_rfl) (by kernel_rfl) (by kernel_rfl) (by kernel_rfl) (by kernel_rfl) (wk:=fun y=>nocap y) Same.nocap ?_
 intro a out ho
 obtain ⟨r,h1,h2⟩:=Option.bind_eq_some_iff.mp ho
 obtain ⟨hp,rfl⟩:=zy h1
 obtain ⟨N,hN⟩:=j1 a.1 a.2 hp
 refine ⟨N,?_⟩
 refine ((zR (fun y=>some (nocap y)) 2 c_spec_l7Without xD (vl a) ⟨rfl,rfl,rfl⟩).trans (it ⟨G16,[],[],[],N,xD,none,fun _ _=>none,fun y=>some (nocap y)⟩ ⟨rfl,rfl,rfl,rfl,rfl,fun _=>rfl,fun _=>rfl⟩ a.1 a.2)).trans ?_
 show (tm N a.1 a.2).bind _=_
 rw [hN]; exact h2
noncomputable def qC (a0_Files:List TFile) (zk:Int) (a1_Name:List UInt8) (a1_To:List UInt8) (a1_Data:List UInt8):Option (Alt (List TFile×Int) (List TFile×Int)):=yk (qc a0_Files zk a1_Name a1_To a1_Data) (wZ a0_Files zk a1_Name a1_To a1_Data)
noncomputable def rO (a0_Files:List TFile) (zk:Int) (a1_Name:List UInt8) (a1_To:List UInt8) (a1_Data:List UInt8):Option (List TFile×Int):=yk (qc a0_Files zk a1_Name a1_To a1_Data) (sA a0_Files zk a1_Name a1_To a1_Data)
def wm (a:(List TFile)×Int×(List UInt8)×(List UInt8)×(List UInt8)):List X:=[.agg [.d (zh cFile a.1)],.agg [.d (.int .i64 a.2.1),.d (sD a.2.2.1),.d (sD a.2.2.2.1),.d (sD a.2.2.2.2)]]
theorem lU:∀ a b,wm a=wm b→a=b:=by
 intro a b h
 simp only [wm,List.cons.injEq,X.d.injEq,X.res.injEq,RK.bld.injEq,X.agg.injEq,X.box.injEq,D.int.injEq,D.bool.injEq,D.fn.injEq,ye,zL,zK,and_true,true_and,and_assoc] at h
 simp only [Prod.ext_iff]; exact h
noncomputable def o6:List X→Option XOut:=lay wm fun a=>((qC a.1 a.2.1 a.2.2.1 a.2.2.2.1 a.2.2.2.2)).bind fun r=>r.on (fun r=>some (.ret (.tup [.agg [.d (zh (cFile) r.1)],.d (.int .i64 r.2)]) [])) (fun r=>some (.ret (.tup [.agg [zP (cFile) 59 none false r.1],.d (.int .i64 r.2)]) []))
theorem nG (a0_Files:List TFile) (zk:Int) (a1_Name:List UInt8) (a1_To:List UInt8) (a1_Data:List UInt8):o6 [.agg [.d (zh cFile a0_Files)],.agg [.d (.int .i64 zk),.d (sD a1_Name),.d (sD a1_To),.d (sD a1_Data)]]=((qC a0_Files zk a1_Name a1_To a1_Data)).bind fun r=>r.on (fun r=>some (.ret (.tup [.agg [.d (zh (cFile) r.1)],.d (.int .i64 r.2)]) [])) (fun r=>some (.ret (.tup [.agg [zP (cFile) 59 none false r.1],.d (.int .i64 r.2)]) [])):=yb (enc:=wm) lU (a0_Files,zk,a1_Name,a1_To,a1_Data)
noncomputable def jN:List X→Option XOut:=lay wm fun a=>((rO a.1 a.2.1 a.2.2.1 a.2.2.2.1 a.2.2.2.2)).bind fun r=>some (.ret (.tup [.agg [.d (zh (cFile) r.1)],.d (.int .i64 r.2)]) [])
theorem gZ (a0_Files:List TFile) (zk:Int) (a1_Name:List UInt8) (a1_To:List UInt8) (a1_Data:List UInt8):jN [.agg [.d (zh cFile a0_Files)],.agg [.d (.int .i64 zk),.d (sD a1_Name),.d (sD a1_To),.d (sD a1_Data)]]=((rO a0_Files zk a1_Name a1_To a1_Data)).bind fun r=>some (.ret (.tup [.agg [.d (zh (cFile) r.1)],.d (.int .i64 r.2)]) []):=yb (enc:=wm) lU (a0_Files,zk,a1_Name,a1_To,a1_Data)
noncomputable def Gs17:Ctx:=G17.with 16 o6
theorem ss17:SoundAll Tryz.prog Gs17:=by
 refine yK (cuts:=[]) (k:=2) (cd:=c_spec_l7Do) (rs:=rM) (enc:=wm) mixed Jd Tryz.func16 (by kernel_rfl) (by kernel_rfl) (by kernel_rfl) (by kernel_rfl) (by kernel_rfl) (by kernel_rfl) (wk:=fun y=>nocap y) Same.nocap ?_
 intro a out ho
 obtain ⟨r,h1,h2⟩:=Option.bind_eq_some_iff.mp ho
 obtain ⟨hp,rfl⟩:=zy h1
 obtain ⟨N,hN⟩:=aV uC (fun _ _ _ _ h=>zA h) rP (fun _ _ h=>zA h) su (fun _ _ _ h=>zA h) vr (fun _ _ h=>zA h) a.1 a.2.1 a.2.2.1 a.2.2.2.1 a.2.2.2.2 hp
 refine ⟨N,?_⟩
 refine ((zR (fun y=>some (nocap y)) 2 c_spec_l7Do rM (wm a) ⟨rfl,rfl,rfl⟩).trans (aO ⟨G17,[],[],[],N,rM,none,fun _ _=>none,fun y=>some (nocap y)⟩ ⟨rfl,rfl,rfl,rfl,rfl,fun _=>rfl,fun _=>rfl⟩ uC ⟨rfl,(fun zo zf zB zg=>(show G17 29 _=_ from rfl).trans (jy zo zf zB zg))⟩ rP ⟨rfl,(fun a0_Files a1=>(show G17 30 _=_ from rfl).trans (fc a0_Files a1))⟩ su ⟨rfl,(fun a0_Files a1_Name a1_Data=>(show G17 31 _=_ from rfl).trans (il a0_Files a1_Name a1_Data))⟩ vr ⟨rfl,(fun a0_Files a1=>(show G17 32 _=_ from rfl).trans (kg a0_Files a1))⟩ a.1 a.2.1 a.2.2.1 a.2.2.2.1 a.2.2.2.2)).trans ?_
 show (rK uC rP su vr N a.1 a.2.1 a.2.2.1 a.2.2.2.1 a.2.2.2.2).bind _=_
 rw [hN]; exact h2
noncomputable def G18:Ctx:=Gs17.with 16 jN
theorem JX:SoundAll Tryz.prog G18:=ss17.with (Sound.shr (F:=o6) (by have h:=ss17 16; exact h) (fun xs out ho=>by
 obtain ⟨a,rfl,ho2⟩:=sV ho
 obtain ⟨r,h1,h2⟩:=Option.bind_eq_some_iff.mp ho2
 obtain ⟨hp,rfl⟩:=zy h1
 unfold sA at h2
 cases hq:wZ a.1 a.2.1 a.2.2.1 a.2.2.2.1 a.2.2.2.2 with
 | a q=>
   rw [hq] at h2
   refine ⟨_,(nG a.1 a.2.1 a.2.2.1 a.2.2.2.1 a.2.2.2.2).trans (by rw [show qC a.1 a.2.1 a.2.2.1 a.2.2.2.1 a.2.2.2.2=some (wZ a.1 a.2.1 a.2.2.1 a.2.2.2.1 a.2.2.2.2) from zA hp,hq]; rfl),?_,?_⟩
   ·rfl
   ·exact (Option.some.inj h2).symm
 | b q=>
   rw [hq] at h2
   refine ⟨_,(nG a.1 a.2.1 a.2.2.1 a.2.2.2.1 a.2.2.2.2).trans (by rw [show qC a.1 a.2.1 a.2.2.1 a.2.2.2.1 a.2.2.2.2=some (wZ a.1 a.2.1 a.2.2.1 a.2.2.2.1 a.2.2.2.2) from zA hp,hq]; rfl),?_,?_⟩
   ·rfl
   ·exact (Option.some.inj h2).symm))
noncomputable def pO (a0_Files:List TFile) (zk:Int) (a1_Name:List UInt8) (a1_To:List UInt8) (a1_Data:List UInt8):Option (List TFile×Int):=yk (sw a0_Files zk a1_Name a1_To a1_Data) (pD a0_Files zk a1_Name a1_To a1_Data)
def pI (a:(List TFile)×Int×(List UInt8)×(List UInt8)×(List UInt8)):List X:=[.agg [.d (zh cFile a.1)],.agg [.d (.int .i64 a.2.1),.d (sD a.2.2.1),.d (sD a.2.2.2.1),.d (sD a.2.2.2.2)]]
noncomputable def ey:List X→Option XOut:=lay pI fun a=>((pO a.1 a.2.1 a.2.2.1 a.2.2.2.1 a.2.2.2.2)).bind fun r=>some (.ret (.tup [.agg [.d (zh (cFile) r.1)],.d (.int .i64 r.2)]) [])
theorem cC (a0_Files:List TFile) (zk:Int) (a1_Name:List UInt8) (a1_To:List UInt8) (a1_Data:List UInt8):ey [.agg [.d (zh cFile a0_Files)],.agg [.d (.int .i64 zk),.d (sD a1_Name),.d (sD a1_To),.d (sD a1_Data)]]=((pO a0_Files zk a1_Name a1_To a1_Data)).bind fun r=>some (.ret (.tup [.agg [.d (zh (cFile) r.1)],.d (.int .i64 r.2)]) []):=yb (enc:=pI) (by
 intro a b h
 simp only [pI,List.cons.injEq,X.d.injEq,X.res.injEq,RK.bld.injEq,X.agg.injEq,X.box.injEq,D.int.injEq,D.bool.injEq,D.fn.injEq,ye,zL,zK,and_true,true_and,and_assoc] at h
 simp only [Prod.ext_iff]; exact h) (a0_Files,zk,a1_Name,a1_To,a1_Data)
noncomputable def G19:Ctx:=G18.with 6 ey
theorem J2:SoundAll Tryz.prog G19:=by
 refine yK (cuts:=[]) (k:=2) (cd:=c_spec_Do) (rs:=pE) (enc:=pI) mixed JX Tryz.func6 (by kernel_rfl) (by kernel_rfl) (by kernel_rfl) (by kernel_rfl) (by kernel_rfl) (by kernel_rfl) (wk:=fun y=>nocap y) Same.nocap ?_
 intro a out ho
 obtain ⟨r,h1,h2⟩:=Option.bind_eq_some_iff.mp ho
 obtain ⟨hp,rfl⟩:=zy h1
 obtain ⟨N,hN⟩:=Vw t7 (fun _ h=>zA h) tK (fun _ h=>zA h) rO (fun _ _ _ _ _ h=>zA h) a.1 a.2.1 a.2.2.1 a.2.2.2.1 a.2.2.2.2 hp
 refine ⟨N,?_⟩
 refine ((zR (fun y=>some (nocap y)) 2 c_spec_Do pE (pI a) ⟨rfl,rfl,rfl⟩).trans (WL ⟨G18,[],[],[],N,pE,none,fun _ _=>none,fun y=>some (nocap y)⟩ ⟨rfl,rfl,rfl,rfl,rfl,fun _=>rfl,fun _=>rfl⟩ t7 ⟨rfl,(fun a0_Files=>(show G18 14 _=_ from rfl).trans (jY a0_Files))⟩ tK ⟨rfl,(fun a0_Files=>(show G18 15 _=_ from rfl).trans (j9 a0_Files))⟩ rO ⟨rfl,(fun a0_Files zk a1_Name a1_To a1_Data=>(show G18 16 _=_ from rfl).trans (gZ a0_Files zk a1_Name a1_To a1_Data))⟩ a.1 a.2.1 a.2.2.1 a.2.2.2.1 a.2.2.2.2)).trans ?_
 show (pM t7 tK rO N a.1 a.2.1 a.2.2.1 a.2.2.2.1 a.2.2.2.2).bind _=_
 rw [hN]; exact h2
noncomputable def uz (a0:Int):Option (Bool):=yk (tj a0) (ve a0)
def uK (a:Int):List X:=[.d (.int .u8 a)]
noncomputable def mY:List X→Option XOut:=lay uK fun a=>((uz a)).bind fun r=>some (.ret (.d (.bool r)) [])
theorem jt (a0:Int):mY [.d (.int .u8 a0)]=((uz a0)).bind fun r=>some (.ret (.d (.bool r)) []):=yb (enc:=uK) (by
 intro a b h
 simp only [uK,List.cons.injEq,X.d.injEq,X.res.injEq,RK.bld.injEq,X.agg.injEq,X.box.injEq,D.int.injEq,D.bool.injEq,D.fn.injEq,ye,zL,zK,and_true,true_and,and_assoc] at h
 exact h) a0
noncomputable def G20:Ctx:=G19.with 52 mY
theorem Ju:SoundAll Tryz.prog G20:=by
 refine yK (cuts:=[]) (k:=1) (cd:=c_impl_isDigit) (rs:=uV) (enc:=uK) mixed J2 Tryz.func52 (by kernel_rfl) (by kernel_rfl) (by kernel_rfl) (by kernel_rfl) (by kernel_rfl) (by kernel_rfl) (wk:=fun y=>nocap y) Same.nocap ?_
 intro a out ho
 obtain ⟨r,h1,h2⟩:=Option.bind_eq_some_iff.mp ho
 obtain ⟨hp,rfl⟩:=zy h1
 obtain ⟨N,hN⟩:=eb a hp
 refine ⟨N,?_⟩
 refine ((zR (fun y=>some (nocap y)) 1 c_impl_isDigit uV (uK a) ⟨rfl,rfl,rfl⟩).trans (fL ⟨G19,[],[],[],N,uV,none,fun _ _=>none,fun y=>some (nocap y)⟩ ⟨rfl,rfl,rfl,rfl,rfl,fun _=>rfl,fun _=>rfl⟩ a)).trans ?_
 show (uE N a).bind _=_
 rw [hN]; exact h2
noncomputable def vV (a0:Int):Option (Bool):=yk (uu a0) (wy a0)
def vR (a:Int):List X:=[.d (.int .u8 a)]
noncomputable def nF:List X→Option XOut:=lay vR fun a=>((vV a)).bind fun r=>some (.ret (.d (.bool r)) [])
theorem kx (a0:Int):nF [.d (.int .u8 a0)]=((vV a0)).bind fun r=>some (.ret (.d (.bool r)) []):=yb (enc:=vR) (by
 intro a b h
 simp only [vR,List.cons.injEq,X.d.injEq,X.res.injEq,RK.bld.injEq,X.agg.injEq,X.box.injEq,D.int.injEq,D.bool.injEq,D.fn.injEq,ye,zL,zK,and_true,true_and,and_assoc] at h
 exact h) a0
noncomputable def G21:Ctx:=G20.with 53 nF
theorem JJ:SoundAll Tryz.prog G21:=by
 refine yK (cuts:=[]) (k:=1) (cd:=c_impl_isLetter) (rs:=ua) (enc:=vR) mixed Ju Tryz.func53 (by kernel_rfl) (by kernel_rfl) (by kernel_rfl) (by kernel_rfl) (by kernel_rfl) (by kernel_rfl) (wk:=fun y=>nocap y) Same.nocap ?_
 intro a out ho
 obtain ⟨r,h1,h2⟩:=Option.bind_eq_some_iff.mp ho
 obtain ⟨hp,rfl⟩:=zy h1
 obtain ⟨N,hN⟩:=gr a hp
 refine ⟨N,?_⟩
 refine ((zR (fun y=>some (nocap y)) 1 c_impl_isLetter ua (vR a) ⟨rfl,rfl,rfl⟩).trans (gM ⟨G20,[],[],[],N,ua,none,fun _ _=>none,fun y=>some (nocap y)⟩ ⟨rfl,rfl,rfl,rfl,rfl,fun _=>rfl,fun _=>rfl⟩ a)).trans ?_
 show (vN N a).bind _=_
 rw [hN]; exact h2
noncomputable def yV (a0:List UInt8):Option (Bool):=yk (x8 a0) (xj a0)
def wS (a:(List UInt8)):List X:=[.d (sD a)]
noncomputable def oh:List X→Option XOut:=lay wS fun a=>((yV a)).bind fun r=>some (.ret (.d (.bool r)) [])
theorem qL (a0:List UInt8):oh [.d (sD a0)]=((yV a0)).bind fun r=>some (.ret (.d (.bool r)) []):=yb (enc:=wS) (by
 intro a b h
 simp only [wS,List.cons.injEq,X.d.injEq,X.res.injEq,RK.bld.injEq,X.agg.injEq,X.box.injEq,D.int.injEq,D.bool.injEq,D.fn.injEq,ye,zL,zK,and_true,true_and,and_assoc] at h
 exact h) a0
noncomputable def G22:Ctx:=G21.with 34 oh
theorem J4:SoundAll Tryz.prog G22:=by
 refine yK (cuts:=[]) (k:=1) (cd:=c_impl_fileNameOk) (rs:=xi) (enc:=wS) mixed JJ Tryz.func34 (by kernel_rfl) (by kernel_rfl) (by kernel_rfl) (by kernel_rfl) (by kernel_rfl) (by kernel_rfl) (wk:=fun y=>nocap y) Same.nocap ?_
 intro a out ho
 obtain ⟨r,h1,h2⟩:=Option.bind_eq_some_iff.mp ho
 obtain ⟨hp,rfl⟩:=zy h1
 obtain ⟨N,hN⟩:=jE uz (fun _ h=>zA h) vV (fun _ h=>zA h) a hp
 refine ⟨N,?_⟩
 refine ((zR (fun y=>some (nocap y)) 1 c_impl_fileNameOk xi (wS a) ⟨rfl,rfl,rfl⟩).trans (jv ⟨G21,[],[],[],N,xi,none,fun _ _=>none,fun y=>some (nocap y)⟩ ⟨rfl,rfl,rfl,rfl,rfl,fun _=>rfl,fun _=>rfl⟩ uz ⟨rfl,(fun a0=>(show G21 52 _=_ from rfl).trans (jt a0))⟩ vV ⟨rfl,(fun a0=>(show G21 53 _=_ from rfl).trans (kx a0))⟩ a)).trans ?_
 show (wM uz vV N a).bind _=_
 rw [hN]; exact h2
noncomputable def p8 (a0_Files:List TFile):Option (Bool):=yk (nO a0_Files) (rY a0_Files)
def tQ (a:(List TFile)):List X:=[.agg [.d (zh cFile a)]]
noncomputable def pV:List X→Option XOut:=lay tQ fun a=>((p8 a)).bind fun r=>some (.ret (.d (.bool r)) [])
theorem ii (a0_Files:List TFile):pV [.agg [.d (zh cFile a0_Files)]]=((p8 a0_Files)).bind fun r=>some (.ret (.d (.bool r)) []):=yb (enc:=tQ) (by
 intro a b h
 simp only [tQ,List.cons.injEq,X.d.injEq,X.res.injEq,RK.bld.injEq,X.agg.injEq,X.box.injEq,D.int.injEq,D.bool.injEq,D.fn.injEq,ye,zL,zK,and_true,true_and,and_assoc] at h
 exact h) a0_Files
noncomputable def G23:Ctx:=G22.with 18 pV
theorem Jg:SoundAll Tryz.prog G23:=by
 refine yK (cuts:=[]) (k:=1) (cd:=c_impl_DiskOk) (rs:=wK) (enc:=tQ) mixed J4 Tryz.func18 (by kernel_rfl) (by kernel_rfl) (by kernel_rfl) (by kernel_rfl) (by kernel_rfl) (by kernel_rfl) (wk:=fun y=>nocap y) Same.nocap ?_
 intro a out ho
 obtain ⟨r,h1,h2⟩:=Option.bind_eq_some_iff.mp ho
 obtain ⟨hp,rfl⟩:=zy h1
 obtain ⟨N,hN⟩:=dL yV (fun _ h=>zA h) a hp
 refine ⟨N,?_⟩
 refine ((zR (fun y=>some (nocap y)) 1 c_impl_DiskOk wK (tQ a) ⟨rfl,rfl,rfl⟩).trans (dh ⟨G22,[],[],[],N,wK,none,fun _ _=>none,fun y=>some (nocap y)⟩ ⟨rfl,rfl,rfl,rfl,rfl,fun _=>rfl,fun _=>rfl⟩ yV ⟨rfl,(fun a0=>(show G22 34 _=_ from rfl).trans (qL a0))⟩ a)).trans ?_
 show (tZ yV N a).bind _=_
 rw [hN]; exact h2
noncomputable def yg (a0:List TFile):Option (List TFile):=yk (yO a0) (yf a0)
def yX (l:List TFile):List X:=[.d (zh cFile l)]
noncomputable def wi:List X→Option XOut:=lay yX fun a=>((yg a)).bind fun r=>some (.ret (zP (cFile) 59 none false r) [])
theorem tl (a0:List TFile):wi [.d (zh cFile a0)]=((yg a0)).bind fun r=>some (.ret (zP (cFile) 59 none false r) []):=yb (enc:=yX) (by
 intro a b h
 simp only [yX,List.cons.injEq,X.d.injEq,X.res.injEq,RK.bld.injEq,X.agg.injEq,X.box.injEq,D.int.injEq,D.bool.injEq,D.fn.injEq,ye,zL,zK,and_true,true_and,and_assoc] at h
 exact h) a0
noncomputable def G24:Ctx:=G23.with 35 wi
theorem JE:SoundAll Tryz.prog G24:=by
 refine MG (cuts:=[]) (cd:=c_slices_Clone___impl_File_impl_File_) (rs:=zC) mixed Jg Tryz.func35 (by kernel_rfl) (by kernel_rfl) (by kernel_rfl) (by kernel_rfl) (by kernel_rfl) (by kernel_rfl) cFile (wk:=fun y=>nocap (pm (.own 59 2) y)) (Same.comp Same.nocap (Same.own (.own 59 2))) ?_ ?_
 ·intro l out ho
  obtain ⟨r,h1,h2⟩:=Option.bind_eq_some_iff.mp ho
  obtain ⟨hp,rfl⟩:=zy h1
  obtain ⟨N,hN⟩:=(wh l hp).1
  refine ⟨N,?_⟩
  refine ((zR (fun y=>some (nocap (pm (.own 59 2) y))) 1 c_slices_Clone___impl_File_impl_File_ zC [.d (lw cFile l)] ⟨rfl,rfl,rfl⟩).trans (tP ⟨G23,[],[],[],N,zC,none,fun _ _=>none,fun y=>some (nocap (pm (.own 59 2) y))⟩ ⟨rfl,rfl,rfl,rfl,rfl,fun _=>rfl,fun _=>rfl⟩ l)).trans ?_
  show (ya N l).bind _=_
  rw [hN]; exact h2
 ·intro out ho
  obtain ⟨r,h1,h2⟩:=Option.bind_eq_some_iff.mp ho
  obtain ⟨hp,rfl⟩:=zy h1
  obtain ⟨N,hN⟩:=(wh [] hp).2
  refine ⟨N,?_⟩
  refine ((zR (fun y=>some (nocap (pm (.own 59 2) y))) 1 c_slices_Clone___impl_File_impl_File_ zC [.nil] ⟨rfl,rfl,rfl⟩).trans (tz ⟨G23,[],[],[],N,zC,none,fun _ _=>none,fun y=>some (nocap (pm (.own 59 2) y))⟩ ⟨rfl,rfl,rfl,rfl,rfl,fun _=>rfl,fun _=>rfl⟩)).trans ?_
  show (yE N).bind _=_
  rw [hN]; exact h2
noncomputable def pW (a0_Files:List TFile):Option (List TFile):=yk (nE a0_Files) (oe a0_Files)
def sn (a:(List TFile)):List X:=[.agg [.d (zh cFile a)]]
noncomputable def og:List X→Option XOut:=lay sn fun a=>((pW a)).bind fun r=>some (.ret (.agg [zP (cFile) 59 none false r]) [])
theorem ib (a0_Files:List TFile):og [.agg [.d (zh cFile a0_Files)]]=((pW a0_Files)).bind fun r=>some (.ret (.agg [zP (cFile) 59 none false r]) []):=yb (enc:=sn) (by
 intro a b h
 simp only [sn,List.cons.injEq,X.d.injEq,X.res.injEq,RK.bld.injEq,X.agg.injEq,X.box.injEq,D.int.injEq,D.bool.injEq,D.fn.injEq,ye,zL,zK,and_true,true_and,and_assoc] at h
 exact h) a0_Files
noncomputable def G25:Ctx:=G24.with 19 og
theorem Ji:SoundAll Tryz.prog G25:=by
 refine yK (cuts:=[]) (k:=1) (cd:=c_impl_copied) (rs:=tJ) (enc:=sn) mixed JE Tryz.func19 (by kernel_rfl) (by kernel_rfl) (by kernel_rfl) (by kernel_rfl) (by kernel_rfl) (by kernel_rfl) (wk:=fun y=>nocap y) Same.nocap ?_
 intro a out ho
 obtain ⟨r,h1,h2⟩:=Option.bind_eq_some_iff.mp ho
 obtain ⟨hp,rfl⟩:=zy h1
 obtain ⟨N,hN⟩:=eS yg (fun _ h=>zA h) a hp
 refine ⟨N,?_⟩
 refine ((zR (fun y=>some (nocap y)) 1 c_impl_copied tJ (sn a) ⟨rfl,rfl,rfl⟩).trans (dg ⟨G24,[],[],[],N,tJ,none,fun _ _=>none,fun y=>some (nocap y)⟩ ⟨rfl,rfl,rfl,rfl,rfl,fun _=>rfl,fun _=>rfl⟩ yg ⟨rfl,(fun a0=>(show G24 35 _=_ from rfl).trans (tl a0))⟩ a)).trans ?_
 show (tt yg N a).bind _=_
 rw [hN]; exact h2
noncomputable def na (zo:Int) (zf:List UInt8) (zB:List UInt8) (zg:List UInt8):Option (Bool):=yk (m3 zo zf zB zg) (qw zo zf zB zg)
def sR (a:Int×(List UInt8)×(List UInt8)×(List UInt8)):List X:=[.agg [.d (.int .i64 a.1),.d (sD a.2.1),.d (sD a.2.2.1),.d (sD a.2.2.2)]]
noncomputable def oP:List X→Option XOut:=lay sR fun a=>((na a.1 a.2.1 a.2.2.1 a.2.2.2)).bind fun r=>some (.ret (.d (.bool r)) [])
theorem iN (zo:Int) (zf:List UInt8) (zB:List UInt8) (zg:List UInt8):oP [.agg [.d (.int .i64 zo),.d (sD zf),.d (sD zB),.d (sD zg)]]=((na zo zf zB zg)).bind fun r=>some (.ret (.d (.bool r)) []):=yb (enc:=sR) (by
 intro a b h
 simp only [sR,List.cons.injEq,X.d.injEq,X.res.injEq,RK.bld.injEq,X.agg.injEq,X.box.injEq,D.int.injEq,D.bool.injEq,D.fn.injEq,ye,zL,zK,and_true,true_and,and_assoc] at h
 simp only [Prod.ext_iff]; exact h) (zo,zf,zB,zg)
noncomputable def G26:Ctx:=G25.with 43 oP
theorem so26:SoundAll Tryz.prog G26:=by
 refine yK (cuts:=[]) (k:=1) (cd:=c_impl_actOk) (rs:=sS) (enc:=sR) mixed Ji Tryz.func43 (by kernel_rfl) (by kernel_rfl) (by kernel_rfl) (by kernel_rfl) (by kernel_rfl) (by kernel_rfl) (wk:=fun y=>nocap y) Same.nocap ?_
 intro a out ho
 obtain ⟨r,h1,h2⟩:=Option.bind_eq_some_iff.mp ho
 obtain ⟨hp,rfl⟩:=zy h1
 obtain ⟨N,hN⟩:=bw yV (fun _ h=>zA h) a.1 a.2.1 a.2.2.1 a.2.2.2 hp
 refine ⟨N,?_⟩
 refine ((zR (fun y=>some (nocap y)) 1 c_impl_actOk sS (sR a) ⟨rfl,rfl,rfl⟩).trans (bX ⟨G25,[],[],[],N,sS,none,fun _ _=>none,fun y=>some (nocap y)⟩ ⟨rfl,rfl,rfl,rfl,rfl,fun _=>rfl,fun _=>rfl⟩ yV ⟨rfl,(fun a0=>(show G25 34 _=_ from rfl).trans (qL a0))⟩ a.1 a.2.1 a.2.2.1 a.2.2.2)).trans ?_
 show (re yV N a.1 a.2.1 a.2.2.1 a.2.2.2).bind _=_
 rw [hN]; exact h2
noncomputable def pS (a0_Files:List TFile) (zk:Int) (a1_Name:List UInt8) (a1_To:List UInt8) (a1_Data:List UInt8):Option (List TFile×Int):=yk (rQ a0_Files zk a1_Name a1_To a1_Data) (nX a0_Files zk a1_Name a1_To a1_Data)
def nC (a:(List TFile)×Int×(List UInt8)×(List UInt8)×(List UInt8)):List X:=[.agg [.d (zh cFile a.1)],.agg [.d (.int .i64 a.2.1),.d (sD a.2.2.1),.d (sD a.2.2.2.1),.d (sD a.2.2.2.2)]]
noncomputable def ei:List X→Option XOut:=lay nC fun a=>((pS a.1 a.2.1 a.2.2.1 a.2.2.2.1 a.2.2.2.2)).bind fun r=>some (.ret (.tup [.agg [zP (cFile) 59 none false r.1],.d (.int .i64 r.2)]) [])
theorem cq (a0_Files:List TFile) (zk:Int) (a1_Name:List UInt8) (a1_To:List UInt8) (a1_Data:List UInt8):ei [.agg [.d (zh cFile a0_Files)],.agg [.d (.int .i64 zk),.d (sD a1_Name),.d (sD a1_To),.d (sD a1_Data)]]=((pS a0_Files zk a1_Name a1_To a1_Data)).bind fun r=>some (.ret (.tup [.agg [zP (cFile) 59 none false r.1],.d (.int .i64 r.2)]) []):=yb (enc:=nC) (by
 intro a b h
 simp only [nC,List.cons.injEq,X.d.injEq,X.res.injEq,RK.bld.injEq,X.agg.injEq,X.box.injEq,D.int.injEq,D.bool.injEq,D.fn.injEq,ye,zL,zK,and_true,true_and,and_assoc] at h
 simp only [Prod.ext_iff]; exact h) (a0_Files,zk,a1_Name,a1_To,a1_Data)
noncomputable def G27:Ctx:=G26.with 9 ei
theorem Jc:SoundAll Tryz.prog G27:=so26.with (TG (Cd:=pV) (Cc:=og) (Ca:=oP) (by have h:=so26 18; exact h) (by have h:=so26 19; exact h) (by have h:=so26 43; exact h) (D:=s5) (A:=vH) (pre:=rQ)
 (fun fs k n t d h=>⟨h.2.1,h.2.2⟩) (fun fs h=>⟨(ox h).2.1,(show ((fs.map pr).map (·.1)).Nodup→(fs.map (·.Name)).Nodup by rw [List.map_map]; exact id) (cZ (ox h).1)⟩)
 (fun fs k n t d h=>(ii fs).trans (by rw [show p8 fs=some (rY fs) from zA ⟨h.1,Rd h.2.1⟩]; rfl))
 (fun fs k n t d h=>(ib fs).trans (by rw [show pW fs=some (oe fs) from zA h.1]; rfl))
 (fun k n t d h=>(iN k n t d).trans (by rw [show na k n t d=some (qw k n t d) from zA ⟨by rw [tE]; omega,by rw [tE]; omega⟩]; rfl))
 (F:=nX) (fun fs k n t d xs c h=>by obtain ⟨e1,e2⟩:=Um h; exact ⟨e1,e2⟩) (enc:=nC) (fun _=>rfl) (fun a out ho=>by
 obtain ⟨r,h1,h2⟩:=Option.bind_eq_some_iff.mp ho
 obtain ⟨hp,rfl⟩:=zy h1
 exact ⟨hp,(Option.some.inj h2).symm⟩))
noncomputable def sm (zf:List UInt8) (zg:List UInt8) (a1_Name:List UInt8) (a1_Data:List UInt8):Option (Bool):=yk (sN zf zg a1_Name a1_Data) (vC zf zg a1_Name a1_Data)
def tU (a:(List UInt8)×(List UInt8)×(List UInt8)×(List UInt8)):List X:=[.agg [.d (sD a.1),.d (sD a.2.1)],.agg [.d (sD a.2.2.1),.d (sD a.2.2.2)]]
noncomputable def lM:List X→Option XOut:=lay tU fun a=>((sm a.1 a.2.1 a.2.2.1 a.2.2.2)).bind fun r=>some (.ret (.d (.bool r)) [])
theorem ij (zf:List UInt8) (zg:List UInt8) (a1_Name:List UInt8) (a1_Data:List UInt8):lM [.agg [.d (sD zf),.d (sD zg)],.agg [.d (sD a1_Name),.d (sD a1_Data)]]=((sm zf zg a1_Name a1_Data)).bind fun r=>some (.ret (.d (.bool r)) []):=yb (enc:=tU) (by
 intro a b h
 simp only [tU,List.cons.injEq,X.d.injEq,X.res.injEq,RK.bld.injEq,X.agg.injEq,X.box.injEq,D.int.injEq,D.bool.injEq,D.fn.injEq,ye,zL,zK,and_true,true_and,and_assoc] at h
 simp only [Prod.ext_iff]; exact h) (zf,zg,a1_Name,a1_Data)
noncomputable def G28:Ctx:=G27.with 48 lM
theorem Jf:SoundAll Tryz.prog G28:=by
 refine yK (cuts:=[]) (k:=2) (cd:=c_laws_eqFile) (rs:=tH) (enc:=tU) mixed Jc Tryz.func48 (by kernel_rfl) (by kernel_rfl) (by kernel_rfl) (by kernel_rfl) (by kernel_rfl) (by kernel_rfl) (wk:=fun y=>nocap y) Same.nocap ?_
 intro a out ho
 obtain ⟨r,h1,h2⟩:=Option.bind_eq_some_iff.mp ho
 obtain ⟨hp,rfl⟩:=zy h1
 obtain ⟨N,hN⟩:=dE a.1 a.2.1 a.2.2.1 a.2.2.2 hp
 refine ⟨N,?_⟩
 refine ((zR (fun y=>some (nocap y)) 2 c_laws_eqFile tH (tU a) ⟨rfl,rfl,rfl⟩).trans (du ⟨G27,[],[],[],N,tH,none,fun _ _=>none,fun y=>some (nocap y)⟩ ⟨rfl,rfl,rfl,rfl,rfl,fun _=>rfl,fun _=>rfl⟩ a.1 a.2.1 a.2.2.1 a.2.2.2)).trans ?_
 show (sr N a.1 a.2.1 a.2.2.1 a.2.2.2).bind _=_
 rw [hN]; exact h2
noncomputable def uN (a0:List TFile) (a1:List TFile):Option (Bool):=yk (u9 a0 a1) (rr a0 a1)
def uZ (a:(List TFile)×(List TFile)):List X:=[.d (zh cFile a.1),.d (zh cFile a.2)]
noncomputable def mg:List X→Option XOut:=lay uZ fun a=>((uN a.1 a.2)).bind fun r=>some (.ret (.d (.bool r)) [])
theorem jw (a0:List TFile) (a1:List TFile):mg [.d (zh cFile a0),.d (zh cFile a1)]=((uN a0 a1)).bind fun r=>some (.ret (.d (.bool r)) []):=yb (enc:=uZ) (by
 intro a b h
 simp only [uZ,List.cons.injEq,X.d.injEq,X.res.injEq,RK.bld.injEq,X.agg.injEq,X.box.injEq,D.int.injEq,D.bool.injEq,D.fn.injEq,ye,zL,zK,and_true,true_and,and_assoc] at h
 simp only [Prod.ext_iff]; exact h) (a0,a1)
noncomputable def G29:Ctx:=G28.with 24 mg
theorem Jb:SoundAll Tryz.prog G29:=by
 refine yK (cuts:=[]) (k:=2) (cd:=c_laws_eqFileS) (rs:=wg) (enc:=uZ) mixed Jf Tryz.func24 (by kernel_rfl) (by kernel_rfl) (by kernel_rfl) (by kernel_rfl) (by kernel_rfl) (by kernel_rfl) (wk:=fun y=>nocap y) Same.nocap ?_
 intro a out ho
 obtain ⟨r,h1,h2⟩:=Option.bind_eq_some_iff.mp ho
 obtain ⟨hp,rfl⟩:=zy h1
 obtain ⟨N,hN⟩:=fp sm (fun _ _ _ _ h=>zA h) a.1 a.2 hp
 refine ⟨N,?_⟩
 refine ((zR (fun y=>some (nocap y)) 2 c_laws_eqFileS wg (uZ a) ⟨rfl,rfl,rfl⟩).trans (fB ⟨G28,[],[],[],N,wg,none,fun _ _=>none,fun y=>some (nocap y)⟩ ⟨rfl,rfl,rfl,rfl,rfl,fun _=>rfl,fun _=>rfl⟩ sm ⟨rfl,(fun zf zg a1_Name a1_Data=>(show G28 48 _=_ from rfl).trans (ij zf zg a1_Name a1_Data))⟩ a.1 a.2)).trans ?_
 show (uF sm N a.1 a.2).bind _=_
 rw [hN]; exact h2
noncomputable def sh (a0_Files:List TFile) (xn:List TFile):Option (Bool):=yk (vM a0_Files xn) (rW a0_Files xn)
def tX (a:(List TFile)×(List TFile)):List X:=[.agg [.d (zh cFile a.1)],.agg [.d (zh cFile a.2)]]
noncomputable def lR:List X→Option XOut:=lay tX fun a=>((sh a.1 a.2)).bind fun r=>some (.ret (.d (.bool r)) [])
theorem iA (a0_Files:List TFile) (xn:List TFile):lR [.agg [.d (zh cFile a0_Files)],.agg [.d (zh cFile xn)]]=((sh a0_Files xn)).bind fun r=>some (.ret (.d (.bool r)) []):=yb (enc:=tX) (by
 intro a b h
 simp only [tX,List.cons.injEq,X.d.injEq,X.res.injEq,RK.bld.injEq,X.agg.injEq,X.box.injEq,D.int.injEq,D.bool.injEq,D.fn.injEq,ye,zL,zK,and_true,true_and,and_assoc] at h
 simp only [Prod.ext_iff]; exact h) (a0_Files,xn)
noncomputable def G30:Ctx:=G29.with 10 lR
theorem Jn:SoundAll Tryz.prog G30:=by
 refine yK (cuts:=[]) (k:=2) (cd:=c_laws_eqDisk) (rs:=tY) (enc:=tX) mixed Jb Tryz.func10 (by kernel_rfl) (by kernel_rfl) (by kernel_rfl) (by kernel_rfl) (by kernel_rfl) (by kernel_rfl) (wk:=fun y=>nocap y) Same.nocap ?_
 intro a out ho
 obtain ⟨r,h1,h2⟩:=Option.bind_eq_some_iff.mp ho
 obtain ⟨hp,rfl⟩:=zy h1
 obtain ⟨N,hN⟩:=dK uN (fun _ _ h=>zA h) a.1 a.2 hp
 refine ⟨N,?_⟩
 refine ((zR (fun y=>some (nocap y)) 2 c_laws_eqDisk tY (tX a) ⟨rfl,rfl,rfl⟩).trans (dN ⟨G29,[],[],[],N,tY,none,fun _ _=>none,fun y=>some (nocap y)⟩ ⟨rfl,rfl,rfl,rfl,rfl,fun _=>rfl,fun _=>rfl⟩ uN ⟨rfl,(fun a0 a1=>(show G29 24 _=_ from rfl).trans (jw a0 a1))⟩ a.1 a.2)).trans ?_
 show (tW uN N a.1 a.2).bind _=_
 rw [hN]; exact h2
noncomputable def xq (a0:Int):Option (List UInt8):=yk (yH a0) (z6 a0)
def uf (a:Int):List X:=[.d (.int .i64 a)]
noncomputable def nL:List X→Option XOut:=lay uf fun a=>((xq a)).bind fun r=>some (.ret (.d (sD r)) [])
theorem pG (a0:Int):nL [.d (.int .i64 a0)]=((xq a0)).bind fun r=>some (.ret (.d (sD r)) []):=yb (enc:=uf) (by
 intro a b h
 simp only [uf,List.cons.injEq,X.d.injEq,X.res.injEq,RK.bld.injEq,X.agg.injEq,X.box.injEq,D.int.injEq,D.bool.injEq,D.fn.injEq,ye,zL,zK,and_true,true_and,and_assoc] at h
 exact h) a0
noncomputable def G31:Ctx:=G30.with 49 nL
theorem J8:SoundAll Tryz.prog G31:=by
 refine yK (cuts:=[]) (k:=1) (cd:=c_laws_markText) (rs:=xS) (enc:=uf) mixed Jn Tryz.func49 (by kernel_rfl) (by kernel_rfl) (by kernel_rfl) (by kernel_rfl) (by kernel_rfl) (by kernel_rfl) (wk:=fun y=>nocap y) Same.nocap ?_
 intro a out ho
 obtain ⟨r,h1,h2⟩:=Option.bind_eq_some_iff.mp ho
 obtain ⟨hp,rfl⟩:=zy h1
 obtain ⟨N,hN⟩:=gJ a hp
 refine ⟨N,?_⟩
 refine ((zR (fun y=>some (nocap y)) 1 c_laws_markText xS (uf a) ⟨rfl,rfl,rfl⟩).trans (iG ⟨G30,[],[],[],N,xS,none,fun _ _=>none,fun y=>some (nocap y)⟩ ⟨rfl,rfl,rfl,rfl,rfl,fun _=>rfl,fun _=>rfl⟩ a)).trans ?_
 show (uc N a).bind _=_
 rw [hN]; exact h2
noncomputable def vk (a0:List TFile) (a1:Int):Option (Int×List TFile):=yk (vL a0 a1) (xc a0 a1)
def vu (a:(List TFile)×Int):List X:=[zP cFile 59 none false a.1,.d (.int .i64 a.2)]
noncomputable def oV:List X→Option XOut:=lay vu fun a=>((vk a.1 a.2)).bind fun r=>some (.ret (.d (.int .i64 r.1)) [[zh (cFile) r.2]])
theorem kd (a0:List TFile) (a1:Int):oV [zP cFile 59 none false a0,.d (.int .i64 a1)]=((vk a0 a1)).bind fun r=>some (.ret (.d (.int .i64 r.1)) [[zh (cFile) r.2]]):=yb (enc:=vu) (by
 intro a b h
 simp only [vu,List.cons.injEq,X.d.injEq,X.res.injEq,RK.bld.injEq,X.agg.injEq,X.box.injEq,D.int.injEq,D.bool.injEq,D.fn.injEq,ye,zL,zK,and_true,true_and,and_assoc] at h
 simp only [Prod.ext_iff]; exact h) (a0,a1)
noncomputable def G32:Ctx:=G31.with 25 oV true
theorem Jw:SoundAll Tryz.prog G32:=by
 refine yK (cuts:=[]) (k:=2) (cd:=c_laws_markFileS) (rs:=xB) (enc:=vu) mixed J8 Tryz.func25 (by kernel_rfl) (by kernel_rfl) (by kernel_rfl) (by kernel_rfl) (by kernel_rfl) (by kernel_rfl) (wk:=fun y=>nocap y) Same.nocap ?_
 intro a out ho
 obtain ⟨r,h1,h2⟩:=Option.bind_eq_some_iff.mp ho
 obtain ⟨hp,rfl⟩:=zy h1
 obtain ⟨N,hN⟩:=j3 xq (fun _ h=>zA h) a.1 a.2 hp
 refine ⟨N,?_⟩
 refine ((zR (fun y=>some (nocap y)) 2 c_laws_markFileS xB (vu a) ⟨rfl,rfl,rfl⟩).trans (iy ⟨G31,[0],[0],[(0,.row 59 2)],N,xB,none,fun _ _=>none,fun y=>some (nocap y)⟩ ⟨rfl,rfl,rfl,rfl,rfl,fun _=>rfl,fun _=>rfl⟩ xq ⟨rfl,(fun a0=>(show G31 49 _=_ from rfl).trans (pG a0))⟩ a.1 a.2)).trans ?_
 show (vn xq N a.1 a.2).bind _=_
 rw [hN]; exact h2
noncomputable def uj (a0_Files:List TFile) (a1:Int):Option (Int×List TFile):=yk (rH a0_Files a1) (yj a0_Files a1)
def vU (a:(List TFile)×Int):List X:=[.agg [zP cFile 59 none false a.1],.d (.int .i64 a.2)]
noncomputable def ny:List X→Option XOut:=lay vU fun a=>((uj a.1 a.2)).bind fun r=>some (.ret (.d (.int .i64 r.1)) [[zh (cFile) r.2]])
theorem kT (a0_Files:List TFile) (a1:Int):ny [.agg [zP cFile 59 none false a0_Files],.d (.int .i64 a1)]=((uj a0_Files a1)).bind fun r=>some (.ret (.d (.int .i64 r.1)) [[zh (cFile) r.2]]):=yb (enc:=vU) (by
 intro a b h
 simp only [vU,List.cons.injEq,X.d.injEq,X.res.injEq,RK.bld.injEq,X.agg.injEq,X.box.injEq,D.int.injEq,D.bool.injEq,D.fn.injEq,ye,zL,zK,and_true,true_and,and_assoc] at h
 simp only [Prod.ext_iff]; exact h) (a0_Files,a1)
noncomputable def G33:Ctx:=G32.with 11 ny true
theorem Jk:SoundAll Tryz.prog G33:=by
 refine yK (cuts:=[]) (k:=2) (cd:=c_laws_markDisk) (rs:=vX) (enc:=vU) mixed Jw Tryz.func11 (by kernel_rfl) (by kernel_rfl) (by kernel_rfl) (by kernel_rfl) (by kernel_rfl) (by kernel_rfl) (wk:=fun y=>nocap y) Same.nocap ?_
 intro a out ho
 obtain ⟨r,h1,h2⟩:=Option.bind_eq_some_iff.mp ho
 obtain ⟨hp,rfl⟩:=zy h1
 obtain ⟨N,hN⟩:=gP vk (fun _ _ h=>zA h) a.1 a.2 hp
 refine ⟨N,?_⟩
 refine ((zR (fun y=>some (nocap y)) 2 c_laws_markDisk vX (vU a) ⟨rfl,rfl,rfl⟩).trans (gF ⟨G32,[0],[0],[(0,.row 59 2)],N,vX,none,fun _ _=>none,fun y=>some (nocap y)⟩ ⟨rfl,rfl,rfl,rfl,rfl,fun _=>rfl,fun _=>rfl⟩ vk ⟨rfl,(fun a0 a1=>(show G32 25 _=_ from rfl).trans (kd a0 a1))⟩ a.1 a.2)).trans ?_
 show (ug vk N a.1 a.2).bind _=_
 rw [hN]; exact h2
noncomputable def vj (a0:List TFile) (a1:Int):Option (Int):=yk (vJ a0 a1) (xb a0 a1)
def vo (a:(List TFile)×Int):List X:=[.d (zh cFile a.1),.d (.int .i64 a.2)]
noncomputable def nl:List X→Option XOut:=lay vo fun a=>((vj a.1 a.2)).bind fun r=>some (.ret (.d (.int .i64 r)) [])
theorem l7 (a0:List TFile) (a1:Int):nl [.d (zh cFile a0),.d (.int .i64 a1)]=((vj a0 a1)).bind fun r=>some (.ret (.d (.int .i64 r)) []):=yb (enc:=vo) (by
 intro a b h
 simp only [vo,List.cons.injEq,X.d.injEq,X.res.injEq,RK.bld.injEq,X.agg.injEq,X.box.injEq,D.int.injEq,D.bool.injEq,D.fn.injEq,ye,zL,zK,and_true,true_and,and_assoc] at h
 simp only [Prod.ext_iff]; exact h) (a0,a1)
noncomputable def G34:Ctx:=G33.with 26 nl
theorem Jj:SoundAll Tryz.prog G34:=by
 refine yK (cuts:=[]) (k:=2) (cd:=c_laws_heldFileS) (rs:=xC) (enc:=vo) mixed Jk Tryz.func26 (by kernel_rfl) (by kernel_rfl) (by kernel_rfl) (by kernel_rfl) (by kernel_rfl) (by kernel_rfl) (wk:=fun y=>nocap y) Same.nocap ?_
 intro a out ho
 obtain ⟨r,h1,h2⟩:=Option.bind_eq_some_iff.mp ho
 obtain ⟨hp,rfl⟩:=zy h1
 obtain ⟨N,hN⟩:=ig xq (fun _ h=>zA h) a.1 a.2 hp
 refine ⟨N,?_⟩
 refine ((zR (fun y=>some (nocap y)) 2 c_laws_heldFileS xC (vo a) ⟨rfl,rfl,rfl⟩).trans (iu ⟨G33,[],[],[],N,xC,none,fun _ _=>none,fun y=>some (nocap y)⟩ ⟨rfl,rfl,rfl,rfl,rfl,fun _=>rfl,fun _=>rfl⟩ xq ⟨rfl,(fun a0=>(show G33 49 _=_ from rfl).trans (pG a0))⟩ a.1 a.2)).trans ?_
 show (vh xq N a.1 a.2).bind _=_
 rw [hN]; exact h2
noncomputable def uh (a0_Files:List TFile) (a1:Int):Option (Int):=yk (ur a0_Files a1) (wD a0_Files a1)
def vP (a:(List TFile)×Int):List X:=[.agg [.d (zh cFile a.1)],.d (.int .i64 a.2)]
noncomputable def np:List X→Option XOut:=lay vP fun a=>((uh a.1 a.2)).bind fun r=>some (.ret (.d (.int .i64 r)) [])
theorem kB (a0_Files:List TFile) (a1:Int):np [.agg [.d (zh cFile a0_Files)],.d (.int .i64 a1)]=((uh a0_Files a1)).bind fun r=>some (.ret (.d (.int .i64 r)) []):=yb (enc:=vP) (by
 intro a b h
 simp only [vP,List.cons.injEq,X.d.injEq,X.res.injEq,RK.bld.injEq,X.agg.injEq,X.box.injEq,D.int.injEq,D.bool.injEq,D.fn.injEq,ye,zL,zK,and_true,true_and,and_assoc] at h
 simp only [Prod.ext_iff]; exact h) (a0_Files,a1)
noncomputable def G35:Ctx:=G34.with 12 np
theorem Jx:SoundAll Tryz.prog G35:=by
 refine yK (cuts:=[]) (k:=2) (cd:=c_laws_heldDisk) (rs:=v6) (enc:=vP) mixed Jj Tryz.func12 (by kernel_rfl) (by kernel_rfl) (by kernel_rfl) (by kernel_rfl) (by kernel_rfl) (by kernel_rfl) (wk:=fun y=>nocap y) Same.nocap ?_
 intro a out ho
 obtain ⟨r,h1,h2⟩:=Option.bind_eq_some_iff.mp ho
 obtain ⟨hp,rfl⟩:=zy h1
 obtain ⟨N,hN⟩:=iO vj (fun _ _ h=>zA h) a.1 a.2 hp
 refine ⟨N,?_⟩
 refine ((zR (fun y=>some (nocap y)) 2 c_laws_heldDisk v6 (vP a) ⟨rfl,rfl,rfl⟩).trans (hP ⟨G34,[],[],[],N,v6,none,fun _ _=>none,fun y=>some (nocap y)⟩ ⟨rfl,rfl,rfl,rfl,rfl,fun _=>rfl,fun _=>rfl⟩ vj ⟨rfl,(fun a0 a1=>(show G34 26 _=_ from rfl).trans (l7 a0 a1))⟩ a.1 a.2)).trans ?_
 show (ui vj N a.1 a.2).bind _=_
 rw [hN]; exact h2
noncomputable def qj (a0_Files:List TFile) (zk:Int) (a1_Name:List UInt8) (a1_To:List UInt8) (a1_Data:List UInt8):Option (Bool):=yk (wx a0_Files zk a1_Name a1_To a1_Data) (qh a0_Files zk a1_Name a1_To a1_Data)
def vq (a:(List TFile)×Int×(List UInt8)×(List UInt8)×(List UInt8)):List X:=[.agg [.d (zh cFile a.1)],.agg [.d (.int .i64 a.2.1),.d (sD a.2.2.1),.d (sD a.2.2.2.1),.d (sD a.2.2.2.2)]]
noncomputable def u6:List X→Option XOut:=lay vq fun a=>((qj a.1 a.2.1 a.2.2.1 a.2.2.2.1 a.2.2.2.2)).bind fun r=>some (.ret (.d (.bool r)) [])
theorem kf (a0_Files:List TFile) (zk:Int) (a1_Name:List UInt8) (a1_To:List UInt8) (a1_Data:List UInt8):u6 [.agg [.d (zh cFile a0_Files)],.agg [.d (.int .i64 zk),.d (sD a1_Name),.d (sD a1_To),.d (sD a1_Data)]]=((qj a0_Files zk a1_Name a1_To a1_Data)).bind fun r=>some (.ret (.d (.bool r)) []):=yb (enc:=vq) (by
 intro a b h
 simp only [vq,List.cons.injEq,X.d.injEq,X.res.injEq,RK.bld.injEq,X.agg.injEq,X.box.injEq,D.int.injEq,D.bool.injEq,D.fn.injEq,ye,zL,zK,and_true,true_and,and_assoc] at h
 simp only [Prod.ext_iff]; exact h) (a0_Files,zk,a1_Name,a1_To,a1_Data)
noncomputable def G36:Ctx:=G35.with 3 u6
theorem JQ:SoundAll Tryz.prog G36:=by
 refine yK (cuts:=[]) (k:=2) (cd:=c_laws_FnExactDo) (rs:=vp) (enc:=vq) mixed Jx Tryz.func3 (by kernel_rfl) (by kernel_rfl) (by kernel_rfl) (by kernel_rfl) (by kernel_rfl) (by kernel_rfl) (wk:=fun y=>nocap y) Same.nocap ?_
 intro a out ho
 obtain ⟨r,h1,h2⟩:=Option.bind_eq_some_iff.mp ho
 obtain ⟨hp,rfl⟩:=zy h1
 obtain ⟨N,hN⟩:=j5 tv (fun _ _ h=>zA h) rh (fun _ _ _ _ _ h=>zA h) t8 (fun _ h=>zA h) ri (fun _ _ _ _ h=>zA h) pO (fun _ _ _ _ _ h=>zA h) pS (fun _ _ _ _ _ h=>zA h) sh (fun _ _ h=>zA h) uj (fun _ _ h=>zA h) uh (fun _ _ h=>zA h) a.1 a.2.1 a.2.2.1 a.2.2.2.1 a.2.2.2.2 hp
 refine ⟨N,?_⟩
 refine ((zR (fun y=>some (nocap y)) 2 c_laws_FnExactDo vp (vq a) ⟨rfl,rfl,rfl⟩).trans (iq ⟨G35,[],[],[],N,vp,none,fun _ _=>none,fun y=>some (nocap y)⟩ ⟨rfl,rfl,rfl,rfl,rfl,fun _=>rfl,fun _=>rfl⟩ tv ⟨rfl,(fun a0_Files a1=>(show G35 4 _=_ from rfl).trans (im a0_Files a1))⟩ rh ⟨rfl,(fun zo zf zB zg a1=>(show G35 5 _=_ from rfl).trans (iK zo zf zB zg a1))⟩ t8 ⟨rfl,(fun a0_Files=>(show G35 7 _=_ from rfl).trans (iz a0_Files))⟩ ri ⟨rfl,(fun zo zf zB zg=>(show G35 8 _=_ from rfl).trans (gv zo zf zB zg))⟩ pO ⟨rfl,(fun a0_Files zk a1_Name a1_To a1_Data=>(show G35 6 _=_ from rfl).trans (cC a0_Files zk a1_Name a1_To a1_Data))⟩ pS ⟨rfl,(fun a0_Files zk a1_Name a1_To a1_Data=>(show G35 9 _=_ from rfl).trans (cq a0_Files zk a1_Name a1_To a1_Data))⟩ sh ⟨rfl,(fun a0_Files xn=>(show G35 10 _=_ from rfl).trans (iA a0_Files xn))⟩ uj ⟨rfl,(fun a0_Files a1=>(show G35 11 _=_ from rfl).trans (kT a0_Files a1))⟩ uh ⟨rfl,(fun a0_Files a1=>(show G35 12 _=_ from rfl).trans (kB a0_Files a1))⟩ a.1 a.2.1 a.2.2.1 a.2.2.2.1 a.2.2.2.2)).trans ?_
 show (vf tv rh t8 ri pO pS sh uj uh N a.1 a.2.1 a.2.2.1 a.2.2.2.1 a.2.2.2.2).bind _=_
 rw [hN]; exact h2
theorem law:Sound Tryz.prog 3 u6:=by
 have h:=JQ 3
 exact h
end Go.Proofs.YtpjfklhaogdfeaaGreatDoor.TowDo
