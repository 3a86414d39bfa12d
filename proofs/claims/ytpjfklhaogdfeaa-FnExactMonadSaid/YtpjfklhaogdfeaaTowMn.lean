/- The contracts of the functions under laws_FnExactMonad, one upon the other. Printed by a program of this session. -/
import Derived.Test.YtpjfklhaogdfeaaFMo
import Derived.Test.YtpjfklhaogdfeaaPMnX
import Derived.Test.YtpjfklhaogdfeaaGrC
import Derived.Test.YtpjfklhaogdfeaaVmLayer
import Derived.Test.YtpjfklhaogdfeaaProg
set_option linter.all false
set_option maxRecDepth 100000
namespace Go.Proofs.Ytpjfklhaogdfeaa.TowMn
open Go.Vm
instance gl:Gl:=⟨0,fun _=>none⟩
theorem mixed:Try.prog.follows .mixedOrders=true:=by kernel_rfl
noncomputable def G0:Ctx:=Γ0 zl
theorem so0:SoundAll Try.prog G0:=Γ0_sound _ _
noncomputable def qC (a0:List Int) (a1:Int):Option (Int):=yG (nB a0 a1) (u3 a0 a1)
def qn (a:(List Int)×Int):List X:=[.d (zf cI a.1),.d (.int .i64 a.2)]
noncomputable def iu:List X→Option XOut:=lay qn fun a=>((qC a.1 a.2)).bind fun r=>some (.ret (.d (.int .i64 r)) [])
theorem dc (a0:List Int) (a1:Int):iu [.d (zf cI a0),.d (.int .i64 a1)]=((qC a0 a1)).bind fun r=>some (.ret (.d (.int .i64 r)) []):=yA (enc:=qn) (by
 intro a b h
 simp only [qn,List.cons.injEq,X.d.injEq,X.res.injEq,RK.bld.injEq,X.agg.injEq,X.box.injEq,D.int.injEq,D.bool.injEq,D.fn.injEq,yz,zY,zZ,and_true,true_and,and_assoc] at h
 simp only [Prod.ext_iff]; exact h) (a0,a1)
noncomputable def G1:Ctx:=G0.with 29 iu
theorem so1:SoundAll Try.prog G1:=by
 refine yS (cuts:=[]) (k:=2) (cd:=c_laws_szIntS) (rs:=qD) (enc:=qn) mixed so0 Try.func29 (by kernel_rfl) (by kernel_rfl) (by kernel_rfl) (by kernel_rfl) (by kernel_rfl) (by kernel_rfl) (wk:=fun y=>nocap y) Same.nocap ?_
 intro a out ho
 obtain ⟨r,h1,h2⟩:=Option.bind_eq_some_iff.mp ho
 obtain ⟨hp,rfl⟩:=zH h1
 obtain ⟨N,hN⟩:=Ze a.1 a.2 hp
 refine ⟨N,?_⟩
 refine ((yi (fun y=>some (nocap y)) 2 c_laws_szIntS qD (qn a) ⟨rfl,rfl,rfl⟩).trans (Zt ⟨G0,[],[],[],N,qD,none,fun _ _=>none,fun y=>some (nocap y)⟩ ⟨rfl,rfl,rfl,rfl,rfl,fun _=>rfl,fun _=>rfl⟩ a.1 a.2)).trans ?_
 show (qk N a.1 a.2).bind _=_
 rw [hN]; exact h2
noncomputable def rb (za:List Int) (zb:List Int) (a1:Int):Option (Int):=yG (nk za zb a1) (wb za zb a1)
def sm (a:(List Int)×(List Int)×Int):List X:=[.agg [.d (zf cI a.1),.d (zf cI a.2.1)],.d (.int .i64 a.2.2)]
noncomputable def jB:List X→Option XOut:=lay sm fun a=>((rb a.1 a.2.1 a.2.2)).bind fun r=>some (.ret (.d (.int .i64 r)) [])
theorem fY (za:List Int) (zb:List Int) (a1:Int):jB [.agg [.d (zf cI za),.d (zf cI zb)],.d (.int .i64 a1)]=((rb za zb a1)).bind fun r=>some (.ret (.d (.int .i64 r)) []):=yA (enc:=sm) (by
 intro a b h
 simp only [sm,List.cons.injEq,X.d.injEq,X.res.injEq,RK.bld.injEq,X.agg.injEq,X.box.injEq,D.int.injEq,D.bool.injEq,D.fn.injEq,yz,zY,zZ,and_true,true_and,and_assoc] at h
 simp only [Prod.ext_iff]; exact h) (za,zb,a1)
noncomputable def G2:Ctx:=G1.with 6 jB
theorem so2:SoundAll Try.prog G2:=by
 refine yS (cuts:=[]) (k:=2) (cd:=c_laws_szArray) (rs:=sc) (enc:=sm) mixed so1 Try.func6 (by kernel_rfl) (by kernel_rfl) (by kernel_rfl) (by kernel_rfl) (by kernel_rfl) (by kernel_rfl) (wk:=fun y=>nocap y) Same.nocap ?_
 intro a out ho
 obtain ⟨r,h1,h2⟩:=Option.bind_eq_some_iff.mp ho
 obtain ⟨hp,rfl⟩:=zH h1
 obtain ⟨N,hN⟩:=aB qC (fun _ _ h=>zx h) a.1 a.2.1 a.2.2 hp
 refine ⟨N,?_⟩
 refine ((yi (fun y=>some (nocap y)) 2 c_laws_szArray sc (sm a) ⟨rfl,rfl,rfl⟩).trans (bQ ⟨G1,[],[],[],N,sc,none,fun _ _=>none,fun y=>some (nocap y)⟩ ⟨rfl,rfl,rfl,rfl,rfl,fun _=>rfl,fun _=>rfl⟩ qC ⟨rfl,(fun a0 a1=>(show G1 29 _=_ from rfl).trans (dc a0 a1))⟩ a.1 a.2.1 a.2.2)).trans ?_
 show (rk qC N a.1 a.2.1 a.2.2).bind _=_
 rw [hN]; exact h2
noncomputable def qw (a0:List Int):Option (List Int):=yG (nN a0) (oP a0)
def rN (a:(List Int)):List X:=[.d (zf cI a)]
noncomputable def iA:List X→Option XOut:=lay rN fun a=>((qw a)).bind fun r=>some (.ret (zj (cI) 3 none false r) [])
theorem dB (a0:List Int):iA [.d (zf cI a0)]=((qw a0)).bind fun r=>some (.ret (zj (cI) 3 none false r) []):=yA (enc:=rN) (by
 intro a b h
 simp only [rN,List.cons.injEq,X.d.injEq,X.res.injEq,RK.bld.injEq,X.agg.injEq,X.box.injEq,D.int.injEq,D.bool.injEq,D.fn.injEq,yz,zY,zZ,and_true,true_and,and_assoc] at h
 exact h) a0
noncomputable def G3:Ctx:=G2.with 37 iA
theorem so3:SoundAll Try.prog G3:=by
 refine yS (cuts:=[]) (k:=1) (cd:=c_laws_toIntS) (rs:=v9) (enc:=rN) mixed so2 Try.func37 (by kernel_rfl) (by kernel_rfl) (by kernel_rfl) (by kernel_rfl) (by kernel_rfl) (by kernel_rfl) (wk:=fun y=>nocap y) Same.nocap ?_
 intro a out ho
 obtain ⟨r,h1,h2⟩:=Option.bind_eq_some_iff.mp ho
 obtain ⟨hp,rfl⟩:=zH h1
 obtain ⟨N,hN⟩:=ZF a hp
 refine ⟨N,?_⟩
 refine ((yi (fun y=>some (nocap y)) 1 c_laws_toIntS v9 (rN a) ⟨rfl,rfl,rfl⟩).trans (Zp ⟨G2,[],[],[],N,v9,none,fun _ _=>none,fun y=>some (nocap y)⟩ ⟨rfl,rfl,rfl,rfl,rfl,fun _=>rfl,fun _=>rfl⟩ a)).trans ?_
 show (rX N a).bind _=_
 rw [hN]; exact h2
noncomputable def sU (za:List Int) (zb:List Int):Option (List Int×List Int):=yG (ni za zb) (pS za zb)
def rg (a:(List Int)×(List Int)):List X:=[.agg [.d (zf cI a.1),.d (zf cI a.2)]]
noncomputable def jI:List X→Option XOut:=lay rg fun a=>((sU a.1 a.2)).bind fun r=>some (.ret (.agg [zj (cI) 3 none false r.1,zj (cI) 3 none false r.2]) [])
theorem ek (za:List Int) (zb:List Int):jI [.agg [.d (zf cI za),.d (zf cI zb)]]=((sU za zb)).bind fun r=>some (.ret (.agg [zj (cI) 3 none false r.1,zj (cI) 3 none false r.2]) []):=yA (enc:=rg) (by
 intro a b h
 simp only [rg,List.cons.injEq,X.d.injEq,X.res.injEq,RK.bld.injEq,X.agg.injEq,X.box.injEq,D.int.injEq,D.bool.injEq,D.fn.injEq,yz,zY,zZ,and_true,true_and,and_assoc] at h
 simp only [Prod.ext_iff]; exact h) (za,zb)
noncomputable def G4:Ctx:=G3.with 8 jI
theorem so4:SoundAll Try.prog G4:=by
 refine yS (cuts:=[]) (k:=1) (cd:=c_laws_toArray) (rs:=sy) (enc:=rg) mixed so3 Try.func8 (by kernel_rfl) (by kernel_rfl) (by kernel_rfl) (by kernel_rfl) (by kernel_rfl) (by kernel_rfl) (wk:=fun y=>nocap y) Same.nocap ?_
 intro a out ho
 obtain ⟨r,h1,h2⟩:=Option.bind_eq_some_iff.mp ho
 obtain ⟨hp,rfl⟩:=zH h1
 obtain ⟨N,hN⟩:=al qw (fun _ h=>zx h) a.1 a.2 hp
 refine ⟨N,?_⟩
 refine ((yi (fun y=>some (nocap y)) 1 c_laws_toArray sy (rg a) ⟨rfl,rfl,rfl⟩).trans (bY ⟨G3,[],[],[],N,sy,none,fun _ _=>none,fun y=>some (nocap y)⟩ ⟨rfl,rfl,rfl,rfl,rfl,fun _=>rfl,fun _=>rfl⟩ qw ⟨rfl,(fun a0=>(show G3 37 _=_ from rfl).trans (dB a0))⟩ a.1 a.2)).trans ?_
 show (se qw N a.1 a.2).bind _=_
 rw [hN]; exact h2
noncomputable def xd (a0:List Int):Option (Int):=yG (vP a0) (xT a0)
def uH (a:(List Int)):List X:=[.d (zf cI a)]
noncomputable def lH:List X→Option XOut:=lay uH fun a=>((xd a)).bind fun r=>some (.ret (.d (.int .i64 r)) [])
theorem qP (a0:List Int):lH [.d (zf cI a0)]=((xd a0)).bind fun r=>some (.ret (.d (.int .i64 r)) []):=yA (enc:=uH) (by
 intro a b h
 simp only [uH,List.cons.injEq,X.d.injEq,X.res.injEq,RK.bld.injEq,X.agg.injEq,X.box.injEq,D.int.injEq,D.bool.injEq,D.fn.injEq,yz,zY,zZ,and_true,true_and,and_assoc] at h
 exact h) a0
noncomputable def G5:Ctx:=G4.with 80 lH
theorem so5:SoundAll Try.prog G5:=by
 refine yS (cuts:=[]) (k:=1) (cd:=c_spec_l1Product) (rs:=wB) (enc:=uH) mixed so4 Try.func80 (by kernel_rfl) (by kernel_rfl) (by kernel_rfl) (by kernel_rfl) (by kernel_rfl) (by kernel_rfl) (wk:=fun y=>nocap y) Same.nocap ?_
 intro a out ho
 obtain ⟨r,h1,h2⟩:=Option.bind_eq_some_iff.mp ho
 obtain ⟨hp,rfl⟩:=zH h1
 obtain ⟨N,hN⟩:=dh a hp
 refine ⟨N,?_⟩
 refine ((yi (fun y=>some (nocap y)) 1 c_spec_l1Product wB (uH a) ⟨rfl,rfl,rfl⟩).trans (dw ⟨G4,[],[],[],N,wB,none,fun _ _=>none,fun y=>some (nocap y)⟩ ⟨rfl,rfl,rfl,rfl,rfl,fun _=>rfl,fun _=>rfl⟩ a)).trans ?_
 show (rH N a).bind _=_
 rw [hN]; exact h2
noncomputable def rQ (a0:List Int):Option (Bool):=yG (nK a0) (qI a0)
def rZ (a:(List Int)):List X:=[.d (zf cI a)]
noncomputable def iH:List X→Option XOut:=lay rZ fun a=>((rQ a)).bind fun r=>some (.ret (.d (.bool r)) [])
theorem dK (a0:List Int):iH [.d (zf cI a0)]=((rQ a0)).bind fun r=>some (.ret (.d (.bool r)) []):=yA (enc:=rZ) (by
 intro a b h
 simp only [rZ,List.cons.injEq,X.d.injEq,X.res.injEq,RK.bld.injEq,X.agg.injEq,X.box.injEq,D.int.injEq,D.bool.injEq,D.fn.injEq,yz,zY,zZ,and_true,true_and,and_assoc] at h
 exact h) a0
noncomputable def G6:Ctx:=G5.with 79 iH
theorem so6:SoundAll Try.prog G6:=by
 refine yS (cuts:=[]) (k:=1) (cd:=c_spec_l1Fits) (rs:=ug) (enc:=rZ) mixed so5 Try.func79 (by kernel_rfl) (by kernel_rfl) (by kernel_rfl) (by kernel_rfl) (by kernel_rfl) (by kernel_rfl) (wk:=fun y=>nocap y) Same.nocap ?_
 intro a out ho
 obtain ⟨r,h1,h2⟩:=Option.bind_eq_some_iff.mp ho
 obtain ⟨hp,rfl⟩:=zH h1
 obtain ⟨N,hN⟩:=ZE xd (fun _ h=>zx h) a hp
 refine ⟨N,?_⟩
 refine ((yi (fun y=>some (nocap y)) 1 c_spec_l1Fits ug (rZ a) ⟨rfl,rfl,rfl⟩).trans (Zw ⟨G5,[],[],[],N,ug,none,fun _ _=>none,fun y=>some (nocap y)⟩ ⟨rfl,rfl,rfl,rfl,rfl,fun _=>rfl,fun _=>rfl⟩ xd ⟨rfl,(fun a0=>(show G5 80 _=_ from rfl).trans (qP a0))⟩ a)).trans ?_
 show (qc xd N a).bind _=_
 rw [hN]; exact h2
noncomputable def sJ (za:List Int) (zb:List Int):Option (Bool):=yG (o9 za zb) (t7 za zb)
def sL (a:(List Int)×(List Int)):List X:=[.agg [.d (zf cI a.1),.d (zf cI a.2)]]
noncomputable def ja:List X→Option XOut:=lay sL fun a=>((sJ a.1 a.2)).bind fun r=>some (.ret (.d (.bool r)) [])
theorem en (za:List Int) (zb:List Int):ja [.agg [.d (zf cI za),.d (zf cI zb)]]=((sJ za zb)).bind fun r=>some (.ret (.d (.bool r)) []):=yA (enc:=sL) (by
 intro a b h
 simp only [sL,List.cons.injEq,X.d.injEq,X.res.injEq,RK.bld.injEq,X.agg.injEq,X.box.injEq,D.int.injEq,D.bool.injEq,D.fn.injEq,yz,zY,zZ,and_true,true_and,and_assoc] at h
 simp only [Prod.ext_iff]; exact h) (za,zb)
noncomputable def G7:Ctx:=G6.with 30 ja
theorem so7:SoundAll Try.prog G7:=by
 refine yS (cuts:=[]) (k:=1) (cd:=c_spec_ArrayOk) (rs:=vH) (enc:=sL) mixed so6 Try.func30 (by kernel_rfl) (by kernel_rfl) (by kernel_rfl) (by kernel_rfl) (by kernel_rfl) (by kernel_rfl) (wk:=fun y=>nocap y) Same.nocap ?_
 intro a out ho
 obtain ⟨r,h1,h2⟩:=Option.bind_eq_some_iff.mp ho
 obtain ⟨hp,rfl⟩:=zH h1
 obtain ⟨N,hN⟩:=ae rQ (fun _ h=>zx h) xd (fun _ h=>zx h) a.1 a.2 hp
 refine ⟨N,?_⟩
 refine ((yi (fun y=>some (nocap y)) 1 c_spec_ArrayOk vH (sL a) ⟨rfl,rfl,rfl⟩).trans (aa ⟨G6,[],[],[],N,vH,none,fun _ _=>none,fun y=>some (nocap y)⟩ ⟨rfl,rfl,rfl,rfl,rfl,fun _=>rfl,fun _=>rfl⟩ rQ ⟨rfl,(fun a0=>(show G6 79 _=_ from rfl).trans (dK a0))⟩ xd ⟨rfl,(fun a0=>(show G6 80 _=_ from rfl).trans (qP a0))⟩ a.1 a.2)).trans ?_
 show (sh rQ xd N a.1 a.2).bind _=_
 rw [hN]; exact h2
noncomputable def xb (a0:List Int):Option (List Int):=yG (xM a0) (xj a0)
def qH (a:(List Int)):List X:=[.d (zf cI a)]
noncomputable def ik:List X→Option XOut:=lay qH fun a=>((xb a)).bind fun r=>some (.ret (zj (cI) 3 none false r) [])
theorem rp (a0:List Int):ik [.d (zf cI a0)]=((xb a0)).bind fun r=>some (.ret (zj (cI) 3 none false r) []):=yA (enc:=qH) (by
 intro a b h
 simp only [qH,List.cons.injEq,X.d.injEq,X.res.injEq,RK.bld.injEq,X.agg.injEq,X.box.injEq,D.int.injEq,D.bool.injEq,D.fn.injEq,yz,zY,zZ,and_true,true_and,and_assoc] at h
 exact h) a0
noncomputable def G8:Ctx:=G7.with 81 ik
theorem so8:SoundAll Try.prog G8:=by
 refine yS (cuts:=[]) (k:=1) (cd:=c_spec_l2Copy) (rs:=qp) (enc:=qH) mixed so7 Try.func81 (by kernel_rfl) (by kernel_rfl) (by kernel_rfl) (by kernel_rfl) (by kernel_rfl) (by kernel_rfl) (wk:=fun y=>nocap y) Same.nocap ?_
 intro a out ho
 obtain ⟨r,h1,h2⟩:=Option.bind_eq_some_iff.mp ho
 obtain ⟨hp,rfl⟩:=zH h1
 obtain ⟨N,hN⟩:=Zq a hp
 refine ⟨N,?_⟩
 refine ((yi (fun y=>some (nocap y)) 1 c_spec_l2Copy qp (qH a) ⟨rfl,rfl,rfl⟩).trans (ZH ⟨G7,[],[],[],N,qp,none,fun _ _=>none,fun y=>some (nocap y)⟩ ⟨rfl,rfl,rfl,rfl,rfl,fun _=>rfl,fun _=>rfl⟩ a)).trans ?_
 show (qu N a).bind _=_
 rw [hN]; exact h2
noncomputable def xg (a0:List Int):Option (List Int×List Int):=yG (wg a0) (xK a0)
def tF (a:(List Int)):List X:=[.d (zf cI a)]
noncomputable def kh:List X→Option XOut:=lay tF fun a=>((xg a)).bind fun r=>some (.ret (.agg [zj (cI) 3 none false r.1,zj (cI) 3 none false r.2]) [])
theorem pf (a0:List Int):kh [.d (zf cI a0)]=((xg a0)).bind fun r=>some (.ret (.agg [zj (cI) 3 none false r.1,zj (cI) 3 none false r.2]) []):=yA (enc:=tF) (by
 intro a b h
 simp only [tF,List.cons.injEq,X.d.injEq,X.res.injEq,RK.bld.injEq,X.agg.injEq,X.box.injEq,D.int.injEq,D.bool.injEq,D.fn.injEq,yz,zY,zZ,and_true,true_and,and_assoc] at h
 exact h) a0
noncomputable def G9:Ctx:=G8.with 32 kh
theorem so9:SoundAll Try.prog G9:=by
 refine yS (cuts:=[]) (k:=1) (cd:=c_spec_l2Vector) (rs:=u6) (enc:=tF) mixed so8 Try.func32 (by kernel_rfl) (by kernel_rfl) (by kernel_rfl) (by kernel_rfl) (by kernel_rfl) (by kernel_rfl) (wk:=fun y=>nocap y) Same.nocap ?_
 intro a out ho
 obtain ⟨r,h1,h2⟩:=Option.bind_eq_some_iff.mp ho
 obtain ⟨hp,rfl⟩:=zH h1
 obtain ⟨N,hN⟩:=dP xb (fun _ h=>zx h) a hp
 refine ⟨N,?_⟩
 refine ((yi (fun y=>some (nocap y)) 1 c_spec_l2Vector u6 (tF a) ⟨rfl,rfl,rfl⟩).trans (d8 ⟨G8,[],[],[],N,u6,none,fun _ _=>none,fun y=>some (nocap y)⟩ ⟨rfl,rfl,rfl,rfl,rfl,fun _=>rfl,fun _=>rfl⟩ xb ⟨rfl,(fun a0=>(show G8 81 _=_ from rfl).trans (rp a0))⟩ a)).trans ?_
 show (tf xb N a).bind _=_
 rw [hN]; exact h2
noncomputable def qv (za:List Int) (zb:List Int):Option (List Int×List Int×Int):=yG (nU za zb) (oH za zb)
def qa (a:(List Int)×(List Int)):List X:=[.agg [.d (zf cI a.1),.d (zf cI a.2)]]
noncomputable def it:List X→Option XOut:=lay qa fun a=>((qv a.1 a.2)).bind fun r=>some (.ret (.tup [.agg [zj (cI) 3 none false r.1,zj (cI) 3 none false r.2.1],.d (.int .i64 r.2.2)]) [])
theorem dp (za:List Int) (zb:List Int):it [.agg [.d (zf cI za),.d (zf cI zb)]]=((qv za zb)).bind fun r=>some (.ret (.tup [.agg [zj (cI) 3 none false r.1,zj (cI) 3 none false r.2.1],.d (.int .i64 r.2.2)]) []):=yA (enc:=qa) (by
 intro a b h
 simp only [qa,List.cons.injEq,X.d.injEq,X.res.injEq,RK.bld.injEq,X.agg.injEq,X.box.injEq,D.int.injEq,D.bool.injEq,D.fn.injEq,yz,zY,zZ,and_true,true_and,and_assoc] at h
 simp only [Prod.ext_iff]; exact h) (za,zb)
noncomputable def G10:Ctx:=G9.with 31 it
theorem Ft:SoundAll Try.prog G10:=by
 refine yS (cuts:=[]) (k:=1) (cd:=c_spec_l2Iota) (rs:=uc) (enc:=qa) mixed so9 Try.func31 (by kernel_rfl) (by kernel_rfl) (by kernel_rfl) (by kernel_rfl) (by kernel_rfl) (by kernel_rfl) (wk:=fun y=>nocap (wK (.node [.node [.own 3 1,.own 3 1],.k]) y)) (Same.comp Same.nocap (Same.own (.node [.node [.own 3 1,.own 3 1],.k]))) ?_
 intro a out ho
 obtain ⟨r,h1,h2⟩:=Option.bind_eq_some_iff.mp ho
 obtain ⟨hp,rfl⟩:=zH h1
 obtain ⟨N,hN⟩:=Zn xg (fun _ h=>zx h) a.1 a.2 hp
 refine ⟨N,?_⟩
 refine ((yi (fun y=>some (nocap (wK (.node [.node [.own 3 1,.own 3 1],.k]) y))) 1 c_spec_l2Iota uc (qa a) ⟨rfl,rfl,rfl⟩).trans (Zo ⟨G9,[],[],[],N,uc,none,fun _ _=>none,fun y=>some (nocap (wK (.node [.node [.own 3 1,.own 3 1],.k]) y))⟩ ⟨rfl,rfl,rfl,rfl,rfl,fun _=>rfl,fun _=>rfl⟩ xg ⟨rfl,(fun a0=>(show G9 32 _=_ from rfl).trans (pf a0))⟩ a.1 a.2)).trans ?_
 show (r9 xg N a.1 a.2).bind _=_
 rw [hN]; exact h2
noncomputable def pH (za:List Int) (zb:List Int) (a1:Int):Option (List Int×List Int):=yG (pT za zb a1) (sQ za zb a1)
def pF (a:(List Int)×(List Int)×Int):List X:=[.agg [.d (zf cI a.1),.d (zf cI a.2.1)],.d (.int .i64 a.2.2)]
noncomputable def gu:List X→Option XOut:=lay pF fun a=>((pH a.1 a.2.1 a.2.2)).bind fun r=>some (.ret (.agg [zj (cI) 3 none false r.1,zj (cI) 3 none false r.2]) [])
theorem bf (za:List Int) (zb:List Int) (a1:Int):gu [.agg [.d (zf cI za),.d (zf cI zb)],.d (.int .i64 a1)]=((pH za zb a1)).bind fun r=>some (.ret (.agg [zj (cI) 3 none false r.1,zj (cI) 3 none false r.2]) []):=yA (enc:=pF) (by
 intro a b h
 simp only [pF,List.cons.injEq,X.d.injEq,X.res.injEq,RK.bld.injEq,X.agg.injEq,X.box.injEq,D.int.injEq,D.bool.injEq,D.fn.injEq,yz,zY,zZ,and_true,true_and,and_assoc] at h
 simp only [Prod.ext_iff]; exact h) (za,zb,a1)
noncomputable def G11:Ctx:=G10.with 82 gu
theorem Fq:SoundAll Try.prog G11:=by
 refine yS (cuts:=[]) (k:=2) (cd:=c_spec_l2Row) (rs:=pM) (enc:=pF) mixed Ft Try.func82 (by kernel_rfl) (by kernel_rfl) (by kernel_rfl) (by kernel_rfl) (by kernel_rfl) (by kernel_rfl) (wk:=fun y=>nocap y) Same.nocap ?_
 intro a out ho
 obtain ⟨r,h1,h2⟩:=Option.bind_eq_some_iff.mp ho
 obtain ⟨hp,rfl⟩:=zH h1
 obtain ⟨N,hN⟩:=Y2 xb (fun _ h=>zx h) xd (fun _ h=>zx h) a.1 a.2.1 a.2.2 hp
 refine ⟨N,?_⟩
 refine ((yi (fun y=>some (nocap y)) 2 c_spec_l2Row pM (pF a) ⟨rfl,rfl,rfl⟩).trans (Xt ⟨G10,[],[],[],N,pM,none,fun _ _=>none,fun y=>some (nocap y)⟩ ⟨rfl,rfl,rfl,rfl,rfl,fun _=>rfl,fun _=>rfl⟩ xb ⟨rfl,(fun a0=>(show G10 81 _=_ from rfl).trans (rp a0))⟩ xd ⟨rfl,(fun a0=>(show G10 80 _=_ from rfl).trans (qP a0))⟩ a.1 a.2.1 a.2.2)).trans ?_
 show (pz xb xd N a.1 a.2.1 a.2.2).bind _=_
 rw [hN]; exact h2
noncomputable def pr (za:List Int) (zb:List Int):Option (List Int×List Int):=yG (nX za zb) (nF za zb)
def px (a:(List Int)×(List Int)):List X:=[.agg [.d (zf cI a.1),.d (zf cI a.2)]]
noncomputable def gf:List X→Option XOut:=lay px fun a=>((pr a.1 a.2)).bind fun r=>some (.ret (.agg [zj (cI) 3 none false r.1,zj (cI) 3 none false r.2]) [])
theorem cv (za:List Int) (zb:List Int):gf [.agg [.d (zf cI za),.d (zf cI zb)]]=((pr za zb)).bind fun r=>some (.ret (.agg [zj (cI) 3 none false r.1,zj (cI) 3 none false r.2]) []):=yA (enc:=px) (by
 intro a b h
 simp only [px,List.cons.injEq,X.d.injEq,X.res.injEq,RK.bld.injEq,X.agg.injEq,X.box.injEq,D.int.injEq,D.bool.injEq,D.fn.injEq,yz,zY,zZ,and_true,true_and,and_assoc] at h
 simp only [Prod.ext_iff]; exact h) (za,zb)
noncomputable def G12:Ctx:=G11.with 33 gf
theorem Gg:SoundAll Try.prog G12:=by
 refine yS (cuts:=[]) (k:=1) (cd:=c_spec_l2Rev) (rs:=uN) (enc:=px) mixed Fq Try.func33 (by kernel_rfl) (by kernel_rfl) (by kernel_rfl) (by kernel_rfl) (by kernel_rfl) (by kernel_rfl) (wk:=fun y=>nocap y) Same.nocap ?_
 intro a out ho
 obtain ⟨r,h1,h2⟩:=Option.bind_eq_some_iff.mp ho
 obtain ⟨hp,rfl⟩:=zH h1
 obtain ⟨N,hN⟩:=Yn xb (fun _ h=>zx h) pH (fun _ _ _ h=>zx h) a.1 a.2 hp
 refine ⟨N,?_⟩
 refine ((yi (fun y=>some (nocap y)) 1 c_spec_l2Rev uN (px a) ⟨rfl,rfl,rfl⟩).trans (Z6 ⟨G11,[],[],[],N,uN,none,fun _ _=>none,fun y=>some (nocap y)⟩ ⟨rfl,rfl,rfl,rfl,rfl,fun _=>rfl,fun _=>rfl⟩ xb ⟨rfl,(fun a0=>(show G11 81 _=_ from rfl).trans (rp a0))⟩ pH ⟨rfl,(fun za zb a1=>(show G11 82 _=_ from rfl).trans (bf za zb a1))⟩ a.1 a.2)).trans ?_
 show (pn xb pH N a.1 a.2).bind _=_
 rw [hN]; exact h2
noncomputable def tG (a0:List Int):Option (List Int):=yG (tU a0) (wY a0)
def tl (a:(List Int)):List X:=[.d (zf cI a)]
noncomputable def lZ:List X→Option XOut:=lay tl fun a=>((tG a)).bind fun r=>some (.ret (zj (cI) 3 none false r) [])
theorem fq (a0:List Int):lZ [.d (zf cI a0)]=((tG a0)).bind fun r=>some (.ret (zj (cI) 3 none false r) []):=yA (enc:=tl) (by
 intro a b h
 simp only [tl,List.cons.injEq,X.d.injEq,X.res.injEq,RK.bld.injEq,X.agg.injEq,X.box.injEq,D.int.injEq,D.bool.injEq,D.fn.injEq,yz,zY,zZ,and_true,true_and,and_assoc] at h
 exact h) a0
noncomputable def G13:Ctx:=G12.with 83 lZ
theorem GH:SoundAll Try.prog G13:=by
 refine yS (cuts:=[]) (k:=1) (cd:=c_spec_l2Turned) (rs:=wU) (enc:=tl) mixed Gg Try.func83 (by kernel_rfl) (by kernel_rfl) (by kernel_rfl) (by kernel_rfl) (by kernel_rfl) (by kernel_rfl) (wk:=fun y=>nocap y) Same.nocap ?_
 intro a out ho
 obtain ⟨r,h1,h2⟩:=Option.bind_eq_some_iff.mp ho
 obtain ⟨hp,rfl⟩:=zH h1
 obtain ⟨N,hN⟩:=cK a hp
 refine ⟨N,?_⟩
 refine ((yi (fun y=>some (nocap y)) 1 c_spec_l2Turned wU (tl a) ⟨rfl,rfl,rfl⟩).trans (cm ⟨G12,[],[],[],N,wU,none,fun _ _=>none,fun y=>some (nocap y)⟩ ⟨rfl,rfl,rfl,rfl,rfl,fun _=>rfl,fun _=>rfl⟩ a)).trans ?_
 show (tL N a).bind _=_
 rw [hN]; exact h2
noncomputable def tm (a0:List Int) (a1:Int):Option (List Int):=yG (tW a0 a1) (vY a0 a1)
def tc (a:(List Int)×Int):List X:=[.d (zf cI a.1),.d (.int .i64 a.2)]
noncomputable def kz:List X→Option XOut:=lay tc fun a=>((tm a.1 a.2)).bind fun r=>some (.ret (zj (cI) 3 none false r) [])
theorem fc (a0:List Int) (a1:Int):kz [.d (zf cI a0),.d (.int .i64 a1)]=((tm a0 a1)).bind fun r=>some (.ret (zj (cI) 3 none false r) []):=yA (enc:=tc) (by
 intro a b h
 simp only [tc,List.cons.injEq,X.d.injEq,X.res.injEq,RK.bld.injEq,X.agg.injEq,X.box.injEq,D.int.injEq,D.bool.injEq,D.fn.injEq,yz,zY,zZ,and_true,true_and,and_assoc] at h
 simp only [Prod.ext_iff]; exact h) (a0,a1)
noncomputable def G14:Ctx:=G13.with 85 kz
theorem GY:SoundAll Try.prog G14:=by
 refine yS (cuts:=[]) (k:=2) (cd:=c_spec_l2Places) (rs:=wP) (enc:=tc) mixed GH Try.func85 (by kernel_rfl) (by kernel_rfl) (by kernel_rfl) (by kernel_rfl) (by kernel_rfl) (by kernel_rfl) (wk:=fun y=>nocap y) Same.nocap ?_
 intro a out ho
 obtain ⟨r,h1,h2⟩:=Option.bind_eq_some_iff.mp ho
 obtain ⟨hp,rfl⟩:=zH h1
 obtain ⟨N,hN⟩:=cn a.1 a.2 hp
 refine ⟨N,?_⟩
 refine ((yi (fun y=>some (nocap y)) 2 c_spec_l2Places wP (tc a) ⟨rfl,rfl,rfl⟩).trans (dY ⟨G13,[],[],[],N,wP,none,fun _ _=>none,fun y=>some (nocap y)⟩ ⟨rfl,rfl,rfl,rfl,rfl,fun _=>rfl,fun _=>rfl⟩ a.1 a.2)).trans ?_
 show (u7 N a.1 a.2).bind _=_
 rw [hN]; exact h2
noncomputable def qj (za:List Int) (zb:List Int) (a1:List Int):Option (Int):=yG (qX za zb a1) (uZ za zb a1)
def qF (a:(List Int)×(List Int)×(List Int)):List X:=[.agg [.d (zf cI a.1),.d (zf cI a.2.1)],.d (zf cI a.2.2)]
noncomputable def il:List X→Option XOut:=lay qF fun a=>((qj a.1 a.2.1 a.2.2)).bind fun r=>some (.ret (.d (.int .i64 r)) [])
theorem dy (za:List Int) (zb:List Int) (a1:List Int):il [.agg [.d (zf cI za),.d (zf cI zb)],.d (zf cI a1)]=((qj za zb a1)).bind fun r=>some (.ret (.d (.int .i64 r)) []):=yA (enc:=qF) (by
 intro a b h
 simp only [qF,List.cons.injEq,X.d.injEq,X.res.injEq,RK.bld.injEq,X.agg.injEq,X.box.injEq,D.int.injEq,D.bool.injEq,D.fn.injEq,yz,zY,zZ,and_true,true_and,and_assoc] at h
 simp only [Prod.ext_iff]; exact h) (za,zb,a1)
noncomputable def G15:Ctx:=G14.with 84 il
theorem Fp:SoundAll Try.prog G15:=by
 refine yS (cuts:=[]) (k:=2) (cd:=c_spec_l2Cell) (rs:=uf) (enc:=qF) mixed GY Try.func84 (by kernel_rfl) (by kernel_rfl) (by kernel_rfl) (by kernel_rfl) (by kernel_rfl) (by kernel_rfl) (wk:=fun y=>nocap y) Same.nocap ?_
 intro a out ho
 obtain ⟨r,h1,h2⟩:=Option.bind_eq_some_iff.mp ho
 obtain ⟨hp,rfl⟩:=zH h1
 obtain ⟨N,hN⟩:=Zh a.1 a.2.1 a.2.2 hp
 refine ⟨N,?_⟩
 refine ((yi (fun y=>some (nocap y)) 2 c_spec_l2Cell uf (qF a) ⟨rfl,rfl,rfl⟩).trans (Zs ⟨G14,[],[],[],N,uf,none,fun _ _=>none,fun y=>some (nocap y)⟩ ⟨rfl,rfl,rfl,rfl,rfl,fun _=>rfl,fun _=>rfl⟩ a.1 a.2.1 a.2.2)).trans ?_
 show (qq N a.1 a.2.1 a.2.2).bind _=_
 rw [hN]; exact h2
noncomputable def rT (za:List Int) (zb:List Int):Option (List Int×List Int):=yG (nG za zb) (oF za zb)
def qJ (a:(List Int)×(List Int)):List X:=[.agg [.d (zf cI a.1),.d (zf cI a.2)]]
noncomputable def iF:List X→Option XOut:=lay qJ fun a=>((rT a.1 a.2)).bind fun r=>some (.ret (.agg [zj (cI) 3 none false r.1,zj (cI) 3 none false r.2]) [])
theorem dm (za:List Int) (zb:List Int):iF [.agg [.d (zf cI za),.d (zf cI zb)]]=((rT za zb)).bind fun r=>some (.ret (.agg [zj (cI) 3 none false r.1,zj (cI) 3 none false r.2]) []):=yA (enc:=qJ) (by
 intro a b h
 simp only [qJ,List.cons.injEq,X.d.injEq,X.res.injEq,RK.bld.injEq,X.agg.injEq,X.box.injEq,D.int.injEq,D.bool.injEq,D.fn.injEq,yz,zY,zZ,and_true,true_and,and_assoc] at h
 simp only [Prod.ext_iff]; exact h) (za,zb)
noncomputable def G16:Ctx:=G15.with 34 iF
theorem Gz:SoundAll Try.prog G16:=by
 refine yS (cuts:=[]) (k:=1) (cd:=c_spec_l2Flip) (rs:=ub) (enc:=qJ) mixed Fp Try.func34 (by kernel_rfl) (by kernel_rfl) (by kernel_rfl) (by kernel_rfl) (by kernel_rfl) (by kernel_rfl) (wk:=fun y=>nocap y) Same.nocap ?_
 intro a out ho
 obtain ⟨r,h1,h2⟩:=Option.bind_eq_some_iff.mp ho
 obtain ⟨hp,rfl⟩:=zH h1
 obtain ⟨N,hN⟩:=Zg tG (fun _ h=>zx h) tm (fun _ _ h=>zx h) qj (fun _ _ _ h=>zx h) a.1 a.2 hp
 refine ⟨N,?_⟩
 refine ((yi (fun y=>some (nocap y)) 1 c_spec_l2Flip ub (qJ a) ⟨rfl,rfl,rfl⟩).trans (ZJ ⟨G15,[],[],[],N,ub,none,fun _ _=>none,fun y=>some (nocap y)⟩ ⟨rfl,rfl,rfl,rfl,rfl,fun _=>rfl,fun _=>rfl⟩ tG ⟨rfl,(fun a0=>(show G15 83 _=_ from rfl).trans (fq a0))⟩ tm ⟨rfl,(fun a0 a1=>(show G15 85 _=_ from rfl).trans (fc a0 a1))⟩ qj ⟨rfl,(fun za zb a1=>(show G15 84 _=_ from rfl).trans (dy za zb a1))⟩ a.1 a.2)).trans ?_
 show (rP tG tm qj N a.1 a.2).bind _=_
 rw [hN]; exact h2
noncomputable def si (za:List Int) (zb:List Int):Option (Int):=yG (oV za zb) (oh za zb)
def sC (a:(List Int)×(List Int)):List X:=[.agg [.d (zf cI a.1),.d (zf cI a.2)]]
noncomputable def jq:List X→Option XOut:=lay sC fun a=>((si a.1 a.2)).bind fun r=>some (.ret (.d (.int .i64 r)) [])
theorem ed (za:List Int) (zb:List Int):jq [.agg [.d (zf cI za),.d (zf cI zb)]]=((si za zb)).bind fun r=>some (.ret (.d (.int .i64 r)) []):=yA (enc:=sC) (by
 intro a b h
 simp only [sC,List.cons.injEq,X.d.injEq,X.res.injEq,RK.bld.injEq,X.agg.injEq,X.box.injEq,D.int.injEq,D.bool.injEq,D.fn.injEq,yz,zY,zZ,and_true,true_and,and_assoc] at h
 simp only [Prod.ext_iff]; exact h) (za,zb)
noncomputable def G17:Ctx:=G16.with 35 jq
theorem Gt:SoundAll Try.prog G17:=by
 refine yS (cuts:=[]) (k:=1) (cd:=c_spec_l2Count) (rs:=rn) (enc:=sC) mixed Gz Try.func35 (by kernel_rfl) (by kernel_rfl) (by kernel_rfl) (by kernel_rfl) (by kernel_rfl) (by kernel_rfl) (wk:=fun y=>nocap y) Same.nocap ?_
 intro a out ho
 obtain ⟨r,h1,h2⟩:=Option.bind_eq_some_iff.mp ho
 obtain ⟨hp,rfl⟩:=zH h1
 obtain ⟨N,hN⟩:=bR a.1 a.2 hp
 refine ⟨N,?_⟩
 refine ((yi (fun y=>some (nocap y)) 1 c_spec_l2Count rn (sC a) ⟨rfl,rfl,rfl⟩).trans (bT ⟨G16,[],[],[],N,rn,none,fun _ _=>none,fun y=>some (nocap y)⟩ ⟨rfl,rfl,rfl,rfl,rfl,fun _=>rfl,fun _=>rfl⟩ a.1 a.2)).trans ?_
 show (re N a.1 a.2).bind _=_
 rw [hN]; exact h2
noncomputable def sW (za:List Int) (zb:List Int):Option (List Int×List Int):=yG (ng za zb) (md za zb)
def s7 (a:(List Int)×(List Int)):List X:=[.agg [.d (zf cI a.1),.d (zf cI a.2)]]
noncomputable def jr:List X→Option XOut:=lay s7 fun a=>((sW a.1 a.2)).bind fun r=>some (.ret (.agg [zj (cI) 3 none false r.1,zj (cI) 3 none false r.2]) [])
theorem ei (za:List Int) (zb:List Int):jr [.agg [.d (zf cI za),.d (zf cI zb)]]=((sW za zb)).bind fun r=>some (.ret (.agg [zj (cI) 3 none false r.1,zj (cI) 3 none false r.2]) []):=yA (enc:=s7) (by
 intro a b h
 simp only [s7,List.cons.injEq,X.d.injEq,X.res.injEq,RK.bld.injEq,X.agg.injEq,X.box.injEq,D.int.injEq,D.bool.injEq,D.fn.injEq,yz,zY,zZ,and_true,true_and,and_assoc] at h
 simp only [Prod.ext_iff]; exact h) (za,zb)
noncomputable def G18:Ctx:=G17.with 36 jr
theorem Gq:SoundAll Try.prog G18:=by
 refine yS (cuts:=[]) (k:=1) (cd:=c_spec_l2Grade) (rs:=xZ) (enc:=s7) mixed Gt Try.func36 (by kernel_rfl) (by kernel_rfl) (by kernel_rfl) (by kernel_rfl) (by kernel_rfl) (by kernel_rfl) (wk:=fun y=>nocap y) Same.nocap ?_
 intro a out ho
 obtain ⟨r,h1,h2⟩:=Option.bind_eq_some_iff.mp ho
 obtain ⟨hp,rfl⟩:=zH h1
 obtain ⟨N,hN⟩:=bU xb (fun _ h=>zx h) xg (fun _ h=>zx h) a.1 a.2 hp
 refine ⟨N,?_⟩
 refine ((yi (fun y=>some (nocap y)) 1 c_spec_l2Grade xZ (s7 a) ⟨rfl,rfl,rfl⟩).trans (bw ⟨G17,[],[],[],N,xZ,none,fun _ _=>none,fun y=>some (nocap y)⟩ ⟨rfl,rfl,rfl,rfl,rfl,fun _=>rfl,fun _=>rfl⟩ xb ⟨rfl,(fun a0=>(show G17 81 _=_ from rfl).trans (rp a0))⟩ xg ⟨rfl,(fun a0=>(show G17 32 _=_ from rfl).trans (pf a0))⟩ a.1 a.2)).trans ?_
 show (pO xb xg N a.1 a.2).bind _=_
 rw [hN]; exact h2
noncomputable def pu (a0:Int) (a1_Shape:List Int) (a1_Data:List Int):Option (List Int×List Int×Int):=yG (sG a0 a1_Shape a1_Data) (xl a0 a1_Shape a1_Data)
def pK (a:Int×(List Int)×(List Int)):List X:=[.d (.int .i64 a.1),.agg [.d (zf cI a.2.1),.d (zf cI a.2.2)]]
noncomputable def fu:List X→Option XOut:=lay pK fun a=>((pu a.1 a.2.1 a.2.2)).bind fun r=>some (.ret (.tup [.agg [zj (cI) 3 none false r.1,zj (cI) 3 none false r.2.1],.d (.int .i64 r.2.2)]) [])
theorem cT (a0:Int) (a1_Shape:List Int) (a1_Data:List Int):fu [.d (.int .i64 a0),.agg [.d (zf cI a1_Shape),.d (zf cI a1_Data)]]=((pu a0 a1_Shape a1_Data)).bind fun r=>some (.ret (.tup [.agg [zj (cI) 3 none false r.1,zj (cI) 3 none false r.2.1],.d (.int .i64 r.2.2)]) []):=yA (enc:=pK) (by
 intro a b h
 simp only [pK,List.cons.injEq,X.d.injEq,X.res.injEq,RK.bld.injEq,X.agg.injEq,X.box.injEq,D.int.injEq,D.bool.injEq,D.fn.injEq,yz,zY,zZ,and_true,true_and,and_assoc] at h
 simp only [Prod.ext_iff]; exact h) (a0,a1_Shape,a1_Data)
noncomputable def G19:Ctx:=G18.with 7 fu
theorem GF:SoundAll Try.prog G19:=by
 refine yS (cuts:=[]) (k:=2) (cd:=c_spec_Monad) (rs:=pp) (enc:=pK) mixed Gq Try.func7 (by kernel_rfl) (by kernel_rfl) (by kernel_rfl) (by kernel_rfl) (by kernel_rfl) (by kernel_rfl) (wk:=fun y=>nocap (wK (.node [.node [.own 3 1,.own 3 1],.k]) y)) (Same.comp Same.nocap (Same.own (.node [.node [.own 3 1,.own 3 1],.k]))) ?_
 intro a out ho
 obtain ⟨r,h1,h2⟩:=Option.bind_eq_some_iff.mp ho
 obtain ⟨hp,rfl⟩:=zH h1
 obtain ⟨N,hN⟩:=Z1 sJ (fun _ _ h=>zx h) qv (fun _ _ h=>zx h) xg (fun _ h=>zx h) pr (fun _ _ h=>zx h) rT (fun _ _ h=>zx h) si (fun _ _ h=>zx h) sW (fun _ _ h=>zx h) a.1 a.2.1 a.2.2 hp
 refine ⟨N,?_⟩
 refine ((yi (fun y=>some (nocap (wK (.node [.node [.own 3 1,.own 3 1],.k]) y))) 2 c_spec_Monad pp (pK a) ⟨rfl,rfl,rfl⟩).trans (YW ⟨G18,[],[],[],N,pp,none,fun _ _=>none,fun y=>some (nocap (wK (.node [.node [.own 3 1,.own 3 1],.k]) y))⟩ ⟨rfl,rfl,rfl,rfl,rfl,fun _=>rfl,fun _=>rfl⟩ sJ ⟨rfl,(fun za zb=>(show G18 30 _=_ from rfl).trans (en za zb))⟩ qv ⟨rfl,(fun za zb=>(show G18 31 _=_ from rfl).trans (dp za zb))⟩ xg ⟨rfl,(fun a0=>(show G18 32 _=_ from rfl).trans (pf a0))⟩ pr ⟨rfl,(fun za zb=>(show G18 33 _=_ from rfl).trans (cv za zb))⟩ rT ⟨rfl,(fun za zb=>(show G18 34 _=_ from rfl).trans (dm za zb))⟩ si ⟨rfl,(fun za zb=>(show G18 35 _=_ from rfl).trans (ed za zb))⟩ sW ⟨rfl,(fun za zb=>(show G18 36 _=_ from rfl).trans (ei za zb))⟩ a.1 a.2.1 a.2.2)).trans ?_
 show (pk sJ qv xg pr rT si sW N a.1 a.2.1 a.2.2).bind _=_
 rw [hN]; exact h2
noncomputable def zT (a0:List Int):Option (List Int):=yG (xf a0) (yy a0)
def uq (l:List Int):List X:=[.d (zf cI l)]
noncomputable def qY:List X→Option XOut:=lay uq fun a=>((zT a)).bind fun r=>some (.ret (zj (cI) 3 none false r) [])
theorem xX (a0:List Int):qY [.d (zf cI a0)]=((zT a0)).bind fun r=>some (.ret (zj (cI) 3 none false r) []):=yA (enc:=uq) (by
 intro a b h
 simp only [uq,List.cons.injEq,X.d.injEq,X.res.injEq,RK.bld.injEq,X.agg.injEq,X.box.injEq,D.int.injEq,D.bool.injEq,D.fn.injEq,yz,zY,zZ,and_true,true_and,and_assoc] at h
 exact h) a0
noncomputable def G20:Ctx:=G19.with 86 qY
theorem GA:SoundAll Try.prog G20:=by
 refine Jy (cuts:=[]) (cd:=c_slices_Clone___int_int_) (rs:=yF) mixed GF Try.func86 (by kernel_rfl) (by kernel_rfl) (by kernel_rfl) (by kernel_rfl) (by kernel_rfl) (by kernel_rfl) cI (wk:=fun y=>nocap (wK (.own 3 1) y)) (Same.comp Same.nocap (Same.own (.own 3 1))) ?_ ?_
 ·intro l out ho
  obtain ⟨r,h1,h2⟩:=Option.bind_eq_some_iff.mp ho
  obtain ⟨hp,rfl⟩:=zH h1
  obtain ⟨N,hN⟩:=(qW l hp).1
  refine ⟨N,?_⟩
  refine ((yi (fun y=>some (nocap (wK (.own 3 1) y))) 1 c_slices_Clone___int_int_ yF [.d (j8 cI l)] ⟨rfl,rfl,rfl⟩).trans (mB ⟨G19,[],[],[],N,yF,none,fun _ _=>none,fun y=>some (nocap (wK (.own 3 1) y))⟩ ⟨rfl,rfl,rfl,rfl,rfl,fun _=>rfl,fun _=>rfl⟩ l)).trans ?_
  show (xu N l).bind _=_
  rw [hN]; exact h2
 ·intro out ho
  obtain ⟨r,h1,h2⟩:=Option.bind_eq_some_iff.mp ho
  obtain ⟨hp,rfl⟩:=zH h1
  obtain ⟨N,hN⟩:=(qW [] hp).2
  refine ⟨N,?_⟩
  refine ((yi (fun y=>some (nocap (wK (.own 3 1) y))) 1 c_slices_Clone___int_int_ yF [.nil] ⟨rfl,rfl,rfl⟩).trans (mG ⟨G19,[],[],[],N,yF,none,fun _ _=>none,fun y=>some (nocap (wK (.own 3 1) y))⟩ ⟨rfl,rfl,rfl,rfl,rfl,fun _=>rfl,fun _=>rfl⟩)).trans ?_
  show (wh N).bind _=_
  rw [hN]; exact h2
noncomputable def xc (a0:List Int):Option (List Int×List Int):=yG (w9 a0) (xN a0)
def tD (a:(List Int)):List X:=[.d (zf cI a)]
noncomputable def nS:List X→Option XOut:=lay tD fun a=>((xc a)).bind fun r=>some (.ret (.agg [zj (cI) 3 none false r.1,zj (cI) 3 none false r.2]) [])
theorem tJ (a0:List Int):nS [.d (zf cI a0)]=((xc a0)).bind fun r=>some (.ret (.agg [zj (cI) 3 none false r.1,zj (cI) 3 none false r.2]) []):=yA (enc:=tD) (by
 intro a b h
 simp only [tD,List.cons.injEq,X.d.injEq,X.res.injEq,RK.bld.injEq,X.agg.injEq,X.box.injEq,D.int.injEq,D.bool.injEq,D.fn.injEq,yz,zY,zZ,and_true,true_and,and_assoc] at h
 exact h) a0
noncomputable def G21:Ctx:=G20.with 40 nS
theorem Gh:SoundAll Try.prog G21:=by
 refine yS (cuts:=[]) (k:=1) (cd:=c_impl_vectorOf) (rs:=tq) (enc:=tD) mixed GA Try.func40 (by kernel_rfl) (by kernel_rfl) (by kernel_rfl) (by kernel_rfl) (by kernel_rfl) (by kernel_rfl) (wk:=fun y=>nocap y) Same.nocap ?_
 intro a out ho
 obtain ⟨r,h1,h2⟩:=Option.bind_eq_some_iff.mp ho
 obtain ⟨hp,rfl⟩:=zH h1
 obtain ⟨N,hN⟩:=dX zT (fun _ h=>zx h) a hp
 refine ⟨N,?_⟩
 refine ((yi (fun y=>some (nocap y)) 1 c_impl_vectorOf tq (tD a) ⟨rfl,rfl,rfl⟩).trans (cW ⟨G20,[],[],[],N,tq,none,fun _ _=>none,fun y=>some (nocap y)⟩ ⟨rfl,rfl,rfl,rfl,rfl,fun _=>rfl,fun _=>rfl⟩ zT ⟨rfl,(fun a0=>(show G20 86 _=_ from rfl).trans (xX a0))⟩ a)).trans ?_
 show (ti zT N a).bind _=_
 rw [hN]; exact h2
noncomputable def rf (za:List Int) (zb:List Int):Option (Res (List Int×List Int)):=yG (oY za zb) (pY za zb)
def t9 (a:(List Int)×(List Int)):List X:=[.agg [.d (zf cI a.1),.d (zf cI a.2)]]
noncomputable def jw:List X→Option XOut:=lay t9 fun a=>((rf a.1 a.2)).bind fun r=>r.on (fun r=>some (.ret (.agg [zj (cI) 3 none false r.1,zj (cI) 3 none false r.2]) [])) (fun x=>some (.pan x []))
theorem em (za:List Int) (zb:List Int):jw [.agg [.d (zf cI za),.d (zf cI zb)]]=((rf za zb)).bind fun r=>r.on (fun r=>some (.ret (.agg [zj (cI) 3 none false r.1,zj (cI) 3 none false r.2]) [])) (fun x=>some (.pan x [])):=yA (enc:=t9) (by
 intro a b h
 simp only [t9,List.cons.injEq,X.d.injEq,X.res.injEq,RK.bld.injEq,X.agg.injEq,X.box.injEq,D.int.injEq,D.bool.injEq,D.fn.injEq,yz,zY,zZ,and_true,true_and,and_assoc] at h
 simp only [Prod.ext_iff]; exact h) (za,zb)
noncomputable def G22:Ctx:=G21.with 38 jw
theorem Fh:SoundAll Try.prog G22:=by
 refine yS (cuts:=[]) (k:=1) (cd:=c_impl_counted) (rs:=vC) (enc:=t9) mixed Gh Try.func38 (by kernel_rfl) (by kernel_rfl) (by kernel_rfl) (by kernel_rfl) (by kernel_rfl) (by kernel_rfl) (wk:=fun y=>nocap y) Same.nocap ?_
 intro a out ho
 obtain ⟨r,h1,h2⟩:=Option.bind_eq_some_iff.mp ho
 obtain ⟨hp,rfl⟩:=zH h1
 obtain ⟨N,hN⟩:=ai xc (fun _ h=>zx h) a.1 a.2 hp
 refine ⟨N,?_⟩
 refine ((yi (fun y=>some (nocap y)) 1 c_impl_counted vC (t9 a) ⟨rfl,rfl,rfl⟩).trans (bN ⟨G21,[],[],[],N,vC,none,fun _ _=>none,fun y=>some (nocap y)⟩ ⟨rfl,rfl,rfl,rfl,rfl,fun _=>rfl,fun _=>rfl⟩ xc ⟨rfl,(fun a0=>(show G21 40 _=_ from rfl).trans (tJ a0))⟩ a.1 a.2)).trans ?_
 show (rl xc N a.1 a.2).bind _=_
 rw [hN]; exact h2
noncomputable def sY (za:List Int) (zb:List Int):Option (List Int×List Int):=yG (oZ za zb) (ol za zb)
def rj (a:(List Int)×(List Int)):List X:=[.agg [.d (zf cI a.1),.d (zf cI a.2)]]
noncomputable def jj:List X→Option XOut:=lay rj fun a=>((sY a.1 a.2)).bind fun r=>some (.ret (.agg [zj (cI) 3 none false r.1,zj (cI) 3 none false r.2]) [])
theorem f6 (za:List Int) (zb:List Int):jj [.agg [.d (zf cI za),.d (zf cI zb)]]=((sY za zb)).bind fun r=>some (.ret (.agg [zj (cI) 3 none false r.1,zj (cI) 3 none false r.2]) []):=yA (enc:=rj) (by
 intro a b h
 simp only [rj,List.cons.injEq,X.d.injEq,X.res.injEq,RK.bld.injEq,X.agg.injEq,X.box.injEq,D.int.injEq,D.bool.injEq,D.fn.injEq,yz,zY,zZ,and_true,true_and,and_assoc] at h
 simp only [Prod.ext_iff]; exact h) (za,zb)
noncomputable def G23:Ctx:=G22.with 39 jj
theorem Gk:SoundAll Try.prog G23:=by
 refine yS (cuts:=[]) (k:=1) (cd:=c_impl_Monad_1) (rs:=rm) (enc:=rj) mixed Fh Try.func39 (by kernel_rfl) (by kernel_rfl) (by kernel_rfl) (by kernel_rfl) (by kernel_rfl) (by kernel_rfl) (wk:=fun y=>nocap y) Same.nocap ?_
 intro a out ho
 obtain ⟨r,h1,h2⟩:=Option.bind_eq_some_iff.mp ho
 obtain ⟨hp,rfl⟩:=zH h1
 obtain ⟨N,hN⟩:=bX xc (fun _ h=>zx h) a.1 a.2 hp
 refine ⟨N,?_⟩
 refine ((yi (fun y=>some (nocap y)) 1 c_impl_Monad_1 rm (rj a) ⟨rfl,rfl,rfl⟩).trans (bz ⟨G22,[],[],[],N,rm,none,fun _ _=>none,fun y=>some (nocap y)⟩ ⟨rfl,rfl,rfl,rfl,rfl,fun _=>rfl,fun _=>rfl⟩ xc ⟨rfl,(fun a0=>(show G22 40 _=_ from rfl).trans (tJ a0))⟩ a.1 a.2)).trans ?_
 show (ra xc N a.1 a.2).bind _=_
 rw [hN]; exact h2
noncomputable def sB (za:List Int) (zb:List Int):Option (List Int×List Int):=yG (nd za zb) (pR za zb)
def sF (a:(List Int)×(List Int)):List X:=[.agg [.d (zf cI a.1),.d (zf cI a.2)]]
noncomputable def jk:List X→Option XOut:=lay sF fun a=>((sB a.1 a.2)).bind fun r=>some (.ret (.agg [zj (cI) 3 none false r.1,zj (cI) 3 none false r.2]) [])
theorem f9 (za:List Int) (zb:List Int):jk [.agg [.d (zf cI za),.d (zf cI zb)]]=((sB za zb)).bind fun r=>some (.ret (.agg [zj (cI) 3 none false r.1,zj (cI) 3 none false r.2]) []):=yA (enc:=sF) (by
 intro a b h
 simp only [sF,List.cons.injEq,X.d.injEq,X.res.injEq,RK.bld.injEq,X.agg.injEq,X.box.injEq,D.int.injEq,D.bool.injEq,D.fn.injEq,yz,zY,zZ,and_true,true_and,and_assoc] at h
 simp only [Prod.ext_iff]; exact h) (za,zb)
noncomputable def G24:Ctx:=G23.with 41 jk
theorem Fc:SoundAll Try.prog G24:=by
 refine yS (cuts:=[]) (k:=1) (cd:=c_impl_Monad_2) (rs:=sM) (enc:=sF) mixed Gk Try.func41 (by kernel_rfl) (by kernel_rfl) (by kernel_rfl) (by kernel_rfl) (by kernel_rfl) (by kernel_rfl) (wk:=fun y=>nocap y) Same.nocap ?_
 intro a out ho
 obtain ⟨r,h1,h2⟩:=Option.bind_eq_some_iff.mp ho
 obtain ⟨hp,rfl⟩:=zH h1
 obtain ⟨N,hN⟩:=bL xc (fun _ h=>zx h) a.1 a.2 hp
 refine ⟨N,?_⟩
 refine ((yi (fun y=>some (nocap y)) 1 c_impl_Monad_2 sM (sF a) ⟨rfl,rfl,rfl⟩).trans (bA ⟨G23,[],[],[],N,sM,none,fun _ _=>none,fun y=>some (nocap y)⟩ ⟨rfl,rfl,rfl,rfl,rfl,fun _=>rfl,fun _=>rfl⟩ xc ⟨rfl,(fun a0=>(show G23 40 _=_ from rfl).trans (tJ a0))⟩ a.1 a.2)).trans ?_
 show (s8 xc N a.1 a.2).bind _=_
 rw [hN]; exact h2
noncomputable def rL (za:List Int) (zb:List Int):Option (List Int×List Int):=yG (nV za zb) (mR za zb)
def qd (a:(List Int)×(List Int)):List X:=[.agg [.d (zf cI a.1),.d (zf cI a.2)]]
noncomputable def im:List X→Option XOut:=lay qd fun a=>((rL a.1 a.2)).bind fun r=>some (.ret (.agg [zj (cI) 3 none false r.1,zj (cI) 3 none false r.2]) [])
theorem dq (za:List Int) (zb:List Int):im [.agg [.d (zf cI za),.d (zf cI zb)]]=((rL za zb)).bind fun r=>some (.ret (.agg [zj (cI) 3 none false r.1,zj (cI) 3 none false r.2]) []):=yA (enc:=qd) (by
 intro a b h
 simp only [qd,List.cons.injEq,X.d.injEq,X.res.injEq,RK.bld.injEq,X.agg.injEq,X.box.injEq,D.int.injEq,D.bool.injEq,D.fn.injEq,yz,zY,zZ,and_true,true_and,and_assoc] at h
 simp only [Prod.ext_iff]; exact h) (za,zb)
noncomputable def G25:Ctx:=G24.with 87 im
theorem Fi:SoundAll Try.prog G25:=by
 refine yS (cuts:=[]) (k:=1) (cd:=c_impl_cloned) (rs:=qg) (enc:=qd) mixed Fc Try.func87 (by kernel_rfl) (by kernel_rfl) (by kernel_rfl) (by kernel_rfl) (by kernel_rfl) (by kernel_rfl) (wk:=fun y=>nocap y) Same.nocap ?_
 intro a out ho
 obtain ⟨r,h1,h2⟩:=Option.bind_eq_some_iff.mp ho
 obtain ⟨hp,rfl⟩:=zH h1
 obtain ⟨N,hN⟩:=ZB zT (fun _ h=>zx h) a.1 a.2 hp
 refine ⟨N,?_⟩
 refine ((yi (fun y=>some (nocap y)) 1 c_impl_cloned qg (qd a) ⟨rfl,rfl,rfl⟩).trans (Zc ⟨G24,[],[],[],N,qg,none,fun _ _=>none,fun y=>some (nocap y)⟩ ⟨rfl,rfl,rfl,rfl,rfl,fun _=>rfl,fun _=>rfl⟩ zT ⟨rfl,(fun a0=>(show G24 86 _=_ from rfl).trans (xX a0))⟩ a.1 a.2)).trans ?_
 show (rV zT N a.1 a.2).bind _=_
 rw [hN]; exact h2
noncomputable def wI (a0:List Int):Option (Int×Bool):=yG (rz a0) (xY a0)
def sA (a:(List Int)):List X:=[.d (zf cI a)]
noncomputable def k7:List X→Option XOut:=lay sA fun a=>((wI a)).bind fun r=>some (.ret (.tup [.d (.int .i64 r.1),.d (.bool r.2)]) [])
theorem mV (a0:List Int):k7 [.d (zf cI a0)]=((wI a0)).bind fun r=>some (.ret (.tup [.d (.int .i64 r.1),.d (.bool r.2)]) []):=yA (enc:=sA) (by
 intro a b h
 simp only [sA,List.cons.injEq,X.d.injEq,X.res.injEq,RK.bld.injEq,X.agg.injEq,X.box.injEq,D.int.injEq,D.bool.injEq,D.fn.injEq,yz,zY,zZ,and_true,true_and,and_assoc] at h
 exact h) a0
noncomputable def G26:Ctx:=G25.with 93 k7
theorem GD:SoundAll Try.prog G26:=by
 refine yS (cuts:=[]) (k:=1) (cd:=c_impl_cellsOf) (rs:=vr) (enc:=sA) mixed Fi Try.func93 (by kernel_rfl) (by kernel_rfl) (by kernel_rfl) (by kernel_rfl) (by kernel_rfl) (by kernel_rfl) (wk:=fun y=>nocap y) Same.nocap ?_
 intro a out ho
 obtain ⟨r,h1,h2⟩:=Option.bind_eq_some_iff.mp ho
 obtain ⟨hp,rfl⟩:=zH h1
 obtain ⟨N,hN⟩:=ad a hp
 refine ⟨N,?_⟩
 refine ((yi (fun y=>some (nocap y)) 1 c_impl_cellsOf vr (sA a) ⟨rfl,rfl,rfl⟩).trans (bp ⟨G25,[],[],[],N,vr,none,fun _ _=>none,fun y=>some (nocap y)⟩ ⟨rfl,rfl,rfl,rfl,rfl,fun _=>rfl,fun _=>rfl⟩ a)).trans ?_
 show (sH N a).bind _=_
 rw [hN]; exact h2
noncomputable def ur (a0:List Int):Option (Res (List Int×Option Nat×List Int)):=yG (oO a0) (tM a0)
def oy (a:(List Int)):List X:=[.d (zf cI a)]
noncomputable def eJ:List X→Option XOut:=lay oy fun a=>((ur a)).bind fun r=>r.on (fun r=>some (.ret (.agg [zj (cI) 3 none false r.1,zj (cI) 3 r.2.1 false r.2.2]) [])) (fun x=>some (.pan x []))
theorem ji (a0:List Int):eJ [.d (zf cI a0)]=((ur a0)).bind fun r=>r.on (fun r=>some (.ret (.agg [zj (cI) 3 none false r.1,zj (cI) 3 r.2.1 false r.2.2]) [])) (fun x=>some (.pan x [])):=yA (enc:=oy) (by
 intro a b h
 simp only [oy,List.cons.injEq,X.d.injEq,X.res.injEq,RK.bld.injEq,X.agg.injEq,X.box.injEq,D.int.injEq,D.bool.injEq,D.fn.injEq,yz,zY,zZ,and_true,true_and,and_assoc] at h
 exact h) a0
noncomputable def G27:Ctx:=G26.with 88 eJ
theorem Gv:SoundAll Try.prog G27:=by
 refine yS (cuts:=[]) (k:=1) (cd:=c_impl_made) (rs:=oA) (enc:=oy) mixed GD Try.func88 (by kernel_rfl) (by kernel_rfl) (by kernel_rfl) (by kernel_rfl) (by kernel_rfl) (by kernel_rfl) (wk:=fun y=>y) Same.id ?_
 intro a out ho
 obtain ⟨r,h1,h2⟩:=Option.bind_eq_some_iff.mp ho
 obtain ⟨hp,rfl⟩:=zH h1
 obtain ⟨N,hN⟩:=Wh wI (fun _ h=>zx h) zT (fun _ h=>zx h) a hp
 refine ⟨N,?_⟩
 refine ((yi (fun y=>some (y)) 1 c_impl_made oA (oy a) ⟨rfl,rfl,rfl⟩).trans (XM ⟨G26,[],[],[],N,oA,none,fun _ _=>none,fun y=>some (y)⟩ ⟨rfl,rfl,rfl,rfl,rfl,fun _=>rfl,fun _=>rfl⟩ wI ⟨rfl,(fun a0=>(show G26 93 _=_ from rfl).trans (mV a0))⟩ zT ⟨rfl,(fun a0=>(show G26 86 _=_ from rfl).trans (xX a0))⟩ a)).trans ?_
 show (oz wI zT N a).bind _=_
 rw [hN]; exact h2
noncomputable def qy (za:List Int) (zb:List Int):Option (Int×Int):=yG (nP za zb) (oE za zb)
def qe (a:(List Int)×(List Int)):List X:=[.agg [.d (zf cI a.1),.d (zf cI a.2)]]
noncomputable def iy:List X→Option XOut:=lay qe fun a=>((qy a.1 a.2)).bind fun r=>some (.ret (.tup [.d (.int .i64 r.1),.d (.int .i64 r.2)]) [])
theorem dt (za:List Int) (zb:List Int):iy [.agg [.d (zf cI za),.d (zf cI zb)]]=((qy za zb)).bind fun r=>some (.ret (.tup [.d (.int .i64 r.1),.d (.int .i64 r.2)]) []):=yA (enc:=qe) (by
 intro a b h
 simp only [qe,List.cons.injEq,X.d.injEq,X.res.injEq,RK.bld.injEq,X.agg.injEq,X.box.injEq,D.int.injEq,D.bool.injEq,D.fn.injEq,yz,zY,zZ,and_true,true_and,and_assoc] at h
 simp only [Prod.ext_iff]; exact h) (za,zb)
noncomputable def G28:Ctx:=G27.with 89 iy
theorem GB:SoundAll Try.prog G28:=by
 refine yS (cuts:=[]) (k:=1) (cd:=c_impl_rowsOf) (rs:=rW) (enc:=qe) mixed Gv Try.func89 (by kernel_rfl) (by kernel_rfl) (by kernel_rfl) (by kernel_rfl) (by kernel_rfl) (by kernel_rfl) (wk:=fun y=>nocap y) Same.nocap ?_
 intro a out ho
 obtain ⟨r,h1,h2⟩:=Option.bind_eq_some_iff.mp ho
 obtain ⟨hp,rfl⟩:=zH h1
 obtain ⟨N,hN⟩:=Zk a.1 a.2 hp
 refine ⟨N,?_⟩
 refine ((yi (fun y=>some (nocap y)) 1 c_impl_rowsOf rW (qe a) ⟨rfl,rfl,rfl⟩).trans (ZD ⟨G27,[],[],[],N,rW,none,fun _ _=>none,fun y=>some (nocap y)⟩ ⟨rfl,rfl,rfl,rfl,rfl,fun _=>rfl,fun _=>rfl⟩ a.1 a.2)).trans ?_
 show (qt N a.1 a.2).bind _=_
 rw [hN]; exact h2
noncomputable def tj (za:List Int) (zb:List Int):Option (Res (List Int×List Int)):=yG (ow za zb) (qZ za zb)
def th (a:(List Int)×(List Int)):List X:=[.agg [.d (zf cI a.1),.d (zf cI a.2)]]
noncomputable def kF:List X→Option XOut:=lay th fun a=>((tj a.1 a.2)).bind fun r=>r.on (fun r=>some (.ret (.agg [zj (cI) 3 none false r.1,zj (cI) 3 none false r.2]) [])) (fun x=>some (.pan x []))
theorem gm (za:List Int) (zb:List Int):kF [.agg [.d (zf cI za),.d (zf cI zb)]]=((tj za zb)).bind fun r=>r.on (fun r=>some (.ret (.agg [zj (cI) 3 none false r.1,zj (cI) 3 none false r.2]) [])) (fun x=>some (.pan x [])):=yA (enc:=th) (by
 intro a b h
 simp only [th,List.cons.injEq,X.d.injEq,X.res.injEq,RK.bld.injEq,X.agg.injEq,X.box.injEq,D.int.injEq,D.bool.injEq,D.fn.injEq,yz,zY,zZ,and_true,true_and,and_assoc] at h
 simp only [Prod.ext_iff]; exact h) (za,zb)
noncomputable def G29:Ctx:=G28.with 42 kF
theorem Gr:SoundAll Try.prog G29:=by
 refine yS (cuts:=[]) (k:=1) (cd:=c_impl_reversed) (rs:=wN) (enc:=th) mixed GB Try.func42 (by kernel_rfl) (by kernel_rfl) (by kernel_rfl) (by kernel_rfl) (by kernel_rfl) (by kernel_rfl) (wk:=fun y=>nocap y) Same.nocap ?_
 intro a out ho
 obtain ⟨r,h1,h2⟩:=Option.bind_eq_some_iff.mp ho
 obtain ⟨hp,rfl⟩:=zH h1
 obtain ⟨N,hN⟩:=bd rL (fun _ _ h=>zx h) ur (fun _ h=>zx h) qy (fun _ _ h=>zx h) a.1 a.2 hp
 refine ⟨N,?_⟩
 refine ((yi (fun y=>some (nocap y)) 1 c_impl_reversed wN (th a) ⟨rfl,rfl,rfl⟩).trans (bj ⟨G28,[],[],[],N,wN,none,fun _ _=>none,fun y=>some (nocap y)⟩ ⟨rfl,rfl,rfl,rfl,rfl,fun _=>rfl,fun _=>rfl⟩ rL ⟨rfl,(fun za zb=>(show G28 87 _=_ from rfl).trans (dq za zb))⟩ ur ⟨rfl,(fun a0=>(show G28 88 _=_ from rfl).trans (ji a0))⟩ qy ⟨rfl,(fun za zb=>(show G28 89 _=_ from rfl).trans (dt za zb))⟩ a.1 a.2)).trans ?_
 show (tK rL ur qy N a.1 a.2).bind _=_
 rw [hN]; exact h2
noncomputable def xr (a0:List Int):Option (List Int):=yG (xR a0) (yI a0)
def xq (a:(List Int)):List X:=[zj cI 3 none false a]
noncomputable def ro:List X→Option XOut:=lay xq fun a=>((xr a)).bind fun r=>some (.ret (.tup []) [[zf (cI) r]])
theorem nC (a0:List Int):ro [zj cI 3 none false a0]=((xr a0)).bind fun r=>some (.ret (.tup []) [[zf (cI) r]]):=yA (enc:=xq) (by
 intro a b h
 simp only [xq,List.cons.injEq,X.d.injEq,X.res.injEq,RK.bld.injEq,X.agg.injEq,X.box.injEq,D.int.injEq,D.bool.injEq,D.fn.injEq,yz,zY,zZ,and_true,true_and,and_assoc] at h
 exact h) a0
noncomputable def G30:Ctx:=G29.with 90 ro true
theorem GC:SoundAll Try.prog G30:=by
 refine yS (cuts:=[]) (k:=1) (cd:=c_slices_Reverse___int_int_) (rs:=yP) (enc:=xq) mixed Gr Try.func90 (by kernel_rfl) (by kernel_rfl) (by kernel_rfl) (by kernel_rfl) (by kernel_rfl) (by kernel_rfl) (wk:=fun y=>nocap y) Same.nocap ?_
 intro a out ho
 obtain ⟨r,h1,h2⟩:=Option.bind_eq_some_iff.mp ho
 obtain ⟨hp,rfl⟩:=zH h1
 obtain ⟨N,hN⟩:=mE a hp
 refine ⟨N,?_⟩
 refine ((yi (fun y=>some (nocap y)) 1 c_slices_Reverse___int_int_ yP (xq a) ⟨rfl,rfl,rfl⟩).trans (mq ⟨G29,[0],[0],[(0,.row 3 1)],N,yP,none,fun _ _=>none,fun y=>some (nocap y)⟩ ⟨rfl,rfl,rfl,rfl,rfl,fun _=>rfl,fun _=>rfl⟩ a)).trans ?_
 show (yJ N a).bind _=_
 rw [hN]; exact h2
noncomputable def sV (za:List Int) (zb:List Int):Option (Res (List Int×List Int)):=yG (na za zb) (p9 za zb)
def sg (a:(List Int)×(List Int)):List X:=[.agg [.d (zf cI a.1),.d (zf cI a.2)]]
noncomputable def jv:List X→Option XOut:=lay sg fun a=>((sV a.1 a.2)).bind fun r=>r.on (fun r=>some (.ret (.agg [zj (cI) 3 none false r.1,zj (cI) 3 none false r.2]) [])) (fun x=>some (.pan x []))
theorem ef (za:List Int) (zb:List Int):jv [.agg [.d (zf cI za),.d (zf cI zb)]]=((sV za zb)).bind fun r=>r.on (fun r=>some (.ret (.agg [zj (cI) 3 none false r.1,zj (cI) 3 none false r.2]) [])) (fun x=>some (.pan x [])):=yA (enc:=sg) (by
 intro a b h
 simp only [sg,List.cons.injEq,X.d.injEq,X.res.injEq,RK.bld.injEq,X.agg.injEq,X.box.injEq,D.int.injEq,D.bool.injEq,D.fn.injEq,yz,zY,zZ,and_true,true_and,and_assoc] at h
 simp only [Prod.ext_iff]; exact h) (za,zb)
noncomputable def G31:Ctx:=G30.with 43 jv
theorem so31:SoundAll Try.prog G31:=by
 refine yS (cuts:=[]) (k:=1) (cd:=c_impl_flipped) (rs:=yZ) (enc:=sg) mixed GC Try.func43 (by kernel_rfl) (by kernel_rfl) (by kernel_rfl) (by kernel_rfl) (by kernel_rfl) (by kernel_rfl) (wk:=fun y=>nocap y) Same.nocap ?_
 intro a out ho
 obtain ⟨r,h1,h2⟩:=Option.bind_eq_some_iff.mp ho
 obtain ⟨hp,rfl⟩:=zH h1
 obtain ⟨N,hN⟩:=bP zT (fun _ h=>zx h) xr (fun _ h=>zx h) ur (fun _ h=>zx h) a.1 a.2 hp
 refine ⟨N,?_⟩
 refine ((yi (fun y=>some (nocap y)) 1 c_impl_flipped yZ (sg a) ⟨rfl,rfl,rfl⟩).trans (b9 ⟨G30,[],[],[],N,yZ,none,fun _ _=>none,fun y=>some (nocap y)⟩ ⟨rfl,rfl,rfl,rfl,rfl,fun _=>rfl,fun _=>rfl⟩ zT ⟨rfl,(fun a0=>(show G30 86 _=_ from rfl).trans (xX a0))⟩ xr ⟨rfl,(fun a0=>(show G30 90 _=_ from rfl).trans (nC a0))⟩ ur ⟨rfl,(fun a0=>(show G30 88 _=_ from rfl).trans (ji a0))⟩ a.1 a.2)).trans ?_
 show (su zT xr ur N a.1 a.2).bind _=_
 rw [hN]; exact h2
noncomputable def qA (za:List Int) (zb:List Int):Option (Res (List Int×List Int)):=yG (kx za zb) (mK za zb)
def oN (a:(List Int)×(List Int)):List X:=[.agg [.d (zf cI a.1),.d (zf cI a.2)]]
noncomputable def ij:List X→Option XOut:=lay oN fun a=>((qA a.1 a.2)).bind fun r=>r.on (fun r=>some (.ret (.agg [zj (cI) 3 none false r.1,zj (cI) 3 none false r.2]) [])) (fun x=>some (.pan x []))
theorem eO (za:List Int) (zb:List Int):ij [.agg [.d (zf cI za),.d (zf cI zb)]]=((qA za zb)).bind fun r=>r.on (fun r=>some (.ret (.agg [zj (cI) 3 none false r.1,zj (cI) 3 none false r.2]) [])) (fun x=>some (.pan x [])):=yA (enc:=oN) (by
 intro a b h
 simp only [oN,List.cons.injEq,X.d.injEq,X.res.injEq,RK.bld.injEq,X.agg.injEq,X.box.injEq,D.int.injEq,D.bool.injEq,D.fn.injEq,yz,zY,zZ,and_true,true_and,and_assoc] at h
 simp only [Prod.ext_iff]; exact h) (za,zb)
noncomputable def G32:Ctx:=G31.with 44 ij
theorem GS:SoundAll Try.prog G32:=so31.with (hJ (Cv:=nS) (by have h:=so31 40; exact h) (fun l hl=>(tJ l).trans (by rw [show xc l=some (xN l) from zx (show small l by unfold small; omega)]; rfl)) (enc:=oN) (fun _=>rfl) (fun a out ho=>by
 obtain ⟨r,h1,h2⟩:=Option.bind_eq_some_iff.mp ho
 obtain ⟨hp,rfl⟩:=zH h1
 refine ⟨hp,?_⟩
 unfold mK gz at h2
 by_cases c:a.1.length=1
 ·rw [if_pos c] at h2 ⊢; exact (Option.some.inj h2).symm
 ·rw [if_neg c] at h2 ⊢; exact (Option.some.inj h2).symm))
noncomputable def td (a0:Int):Option (List Int×List Int):=yG (ox a0) (ny a0)
def tE (a:Int):List X:=[.d (.int .i64 a)]
noncomputable def kC:List X→Option XOut:=lay tE fun a=>((td a)).bind fun r=>some (.ret (.agg [zj (cI) 3 none false r.1,zj (cI) 3 none false r.2]) [])
theorem gx (a0:Int):kC [.d (.int .i64 a0)]=((td a0)).bind fun r=>some (.ret (.agg [zj (cI) 3 none false r.1,zj (cI) 3 none false r.2]) []):=yA (enc:=tE) (by
 intro a b h
 simp only [tE,List.cons.injEq,X.d.injEq,X.res.injEq,RK.bld.injEq,X.agg.injEq,X.box.injEq,D.int.injEq,D.bool.injEq,D.fn.injEq,yz,zY,zZ,and_true,true_and,and_assoc] at h
 exact h) a0
noncomputable def G33:Ctx:=G32.with 46 kC
theorem GO:SoundAll Try.prog G33:=by
 refine yS (cuts:=[]) (k:=1) (cd:=c_impl_scalarOf) (rs:=u9) (enc:=tE) mixed GS Try.func46 (by kernel_rfl) (by kernel_rfl) (by kernel_rfl) (by kernel_rfl) (by kernel_rfl) (by kernel_rfl) (wk:=fun y=>nocap y) Same.nocap ?_
 intro a out ho
 obtain ⟨r,h1,h2⟩:=Option.bind_eq_some_iff.mp ho
 obtain ⟨hp,rfl⟩:=zH h1
 obtain ⟨N,hN⟩:=bg a hp
 refine ⟨N,?_⟩
 refine ((yi (fun y=>some (nocap y)) 1 c_impl_scalarOf u9 (tE a) ⟨rfl,rfl,rfl⟩).trans (bh ⟨G32,[],[],[],N,u9,none,fun _ _=>none,fun y=>some (nocap y)⟩ ⟨rfl,rfl,rfl,rfl,rfl,fun _=>rfl,fun _=>rfl⟩ a)).trans ?_
 show (pc N a).bind _=_
 rw [hN]; exact h2
noncomputable def sr (za:List Int) (zb:List Int):Option (List Int×List Int):=yG (nj za zb) (pZ za zb)
def sS (a:(List Int)×(List Int)):List X:=[.agg [.d (zf cI a.1),.d (zf cI a.2)]]
noncomputable def jd:List X→Option XOut:=lay sS fun a=>((sr a.1 a.2)).bind fun r=>some (.ret (.agg [zj (cI) 3 none false r.1,zj (cI) 3 none false r.2]) [])
theorem ea (za:List Int) (zb:List Int):jd [.agg [.d (zf cI za),.d (zf cI zb)]]=((sr za zb)).bind fun r=>some (.ret (.agg [zj (cI) 3 none false r.1,zj (cI) 3 none false r.2]) []):=yA (enc:=sS) (by
 intro a b h
 simp only [sS,List.cons.injEq,X.d.injEq,X.res.injEq,RK.bld.injEq,X.agg.injEq,X.box.injEq,D.int.injEq,D.bool.injEq,D.fn.injEq,yz,zY,zZ,and_true,true_and,and_assoc] at h
 simp only [Prod.ext_iff]; exact h) (za,zb)
noncomputable def G34:Ctx:=G33.with 45 jd
theorem Gp:SoundAll Try.prog G34:=by
 refine yS (cuts:=[]) (k:=1) (cd:=c_impl_Monad_3) (rs:=sR) (enc:=sS) mixed GO Try.func45 (by kernel_rfl) (by kernel_rfl) (by kernel_rfl) (by kernel_rfl) (by kernel_rfl) (by kernel_rfl) (wk:=fun y=>nocap y) Same.nocap ?_
 intro a out ho
 obtain ⟨r,h1,h2⟩:=Option.bind_eq_some_iff.mp ho
 obtain ⟨hp,rfl⟩:=zH h1
 obtain ⟨N,hN⟩:=ah td (fun _ h=>zx h) a.1 a.2 hp
 refine ⟨N,?_⟩
 refine ((yi (fun y=>some (nocap y)) 1 c_impl_Monad_3 sR (sS a) ⟨rfl,rfl,rfl⟩).trans (bm ⟨G33,[],[],[],N,sR,none,fun _ _=>none,fun y=>some (nocap y)⟩ ⟨rfl,rfl,rfl,rfl,rfl,fun _=>rfl,fun _=>rfl⟩ td ⟨rfl,(fun a0=>(show G33 46 _=_ from rfl).trans (gx a0))⟩ a.1 a.2)).trans ?_
 show (ri td N a.1 a.2).bind _=_
 rw [hN]; exact h2
noncomputable def t8 (za:List Int) (zb:List Int):Option (Bool):=yG (nf za zb) (sN za zb)
def sx (a:(List Int)×(List Int)):List X:=[.agg [.d (zf cI a.1),.d (zf cI a.2)]]
noncomputable def jF:List X→Option XOut:=lay sx fun a=>((t8 a.1 a.2)).bind fun r=>some (.ret (.d (.bool r)) [])
theorem er (za:List Int) (zb:List Int):jF [.agg [.d (zf cI za),.d (zf cI zb)]]=((t8 za zb)).bind fun r=>some (.ret (.d (.bool r)) []):=yA (enc:=sx) (by
 intro a b h
 simp only [sx,List.cons.injEq,X.d.injEq,X.res.injEq,RK.bld.injEq,X.agg.injEq,X.box.injEq,D.int.injEq,D.bool.injEq,D.fn.injEq,yz,zY,zZ,and_true,true_and,and_assoc] at h
 simp only [Prod.ext_iff]; exact h) (za,zb)
noncomputable def G35:Ctx:=G34.with 47 jF
theorem Js:SoundAll Try.prog G35:=by
 refine yS (cuts:=[]) (k:=1) (cd:=c_impl_ArrayOk) (rs:=vE) (enc:=sx) mixed Gp Try.func47 (by kernel_rfl) (by kernel_rfl) (by kernel_rfl) (by kernel_rfl) (by kernel_rfl) (by kernel_rfl) (wk:=fun y=>nocap y) Same.nocap ?_
 intro a out ho
 obtain ⟨r,h1,h2⟩:=Option.bind_eq_some_iff.mp ho
 obtain ⟨hp,rfl⟩:=zH h1
 obtain ⟨N,hN⟩:=ar wI (fun _ h=>zx h) a.1 a.2 hp
 refine ⟨N,?_⟩
 refine ((yi (fun y=>some (nocap y)) 1 c_impl_ArrayOk vE (sx a) ⟨rfl,rfl,rfl⟩).trans (bo ⟨G34,[],[],[],N,vE,none,fun _ _=>none,fun y=>some (nocap y)⟩ ⟨rfl,rfl,rfl,rfl,rfl,fun _=>rfl,fun _=>rfl⟩ wI ⟨rfl,(fun a0=>(show G34 93 _=_ from rfl).trans (mV a0))⟩ a.1 a.2)).trans ?_
 show (sn wI N a.1 a.2).bind _=_
 rw [hN]; exact h2
noncomputable def ve (x:D) (a0:Int) (a1_Shape:List Int) (a1_Data:List Int):Option (Int):=(od x).bind fun x=>yG (tA x a0 a1_Shape a1_Data) (rR x a0 a1_Shape a1_Data)
def uY (a:Int×(List Int)×(List Int)):List X:=[.box [.d (.int .i64 a.1)],.box [.d (zf cI a.2.1),.d (zf cI a.2.2)]]
theorem fX:∀ a b,uY a=uY b→a=b:=by
 intro a b h
 simp only [uY,List.cons.injEq,X.d.injEq,X.res.injEq,RK.bld.injEq,X.agg.injEq,X.box.injEq,D.int.injEq,D.bool.injEq,D.fn.injEq,yz,zY,zZ,and_true,true_and,and_assoc] at h
 simp only [Prod.ext_iff]; exact h
noncomputable def pX (x:D) (xs:List X):Option (List (List D)):=lay uY (fun a=>(ve x a.1 a.2.1 a.2.2).bind fun r=>some [[.int .i64 r],[D.nils,D.nils]]) xs
theorem fZ (x:D) (a0:Int) (a1_Shape:List Int) (a1_Data:List Int):pX x [.box [.d (.int .i64 a0)],.box [.d (zf cI a1_Shape),.d (zf cI a1_Data)]]=(ve x a0 a1_Shape a1_Data).bind fun r=>some [[.int .i64 r],[D.nils,D.nils]]:=yA (β:=List (List D)) (enc:=uY) (C:=fun a=>(ve x a.1 a.2.1 a.2.2).bind fun r=>some [[.int .i64 r],[D.nils,D.nils]]) fX (a0,a1_Shape,a1_Data)
theorem iK {x:D} {c:Int} (h:od x=some c):x= .ifaceS 123 [.int .i64 c]:=by
 unfold od at h
 split at h
 ·split at h
  ·rename_i e; subst e; injection h with h; rw [h]
  ·cases h
 ·cases h
theorem eV (x:Int) (a0:Int) (a1_Shape:List Int) (a1_Data:List Int):ve (.ifaceS 123 [.int .i64 x]) a0 a1_Shape a1_Data=yG (tA x a0 a1_Shape a1_Data) (rR x a0 a1_Shape a1_Data):=by
 unfold ve od
 simp only [if_true,Option.bind_some]
theorem af:SoundD Try.prog 48 pX:=by
 refine Ni (cuts:=[]) (k:=2) (a:=7) (b:=4) (cd:=c_impl_caught) mixed Js Try.func48 (by kernel_rfl) (by kernel_rfl) (by kernel_rfl) (by kernel_rfl) (by kernel_rfl) (by kernel_rfl) (by kernel_rfl) (by kernel_rfl) ?_
 intro x xs outs ho
 obtain ⟨a,rfl,ho2⟩:=o8 ho
 obtain ⟨r,h1,h2⟩:=Option.bind_eq_some_iff.mp ho2
 obtain ⟨c,h3,h4⟩:=Option.bind_eq_some_iff.mp h1
 obtain rfl:=iK h3
 obtain ⟨hp,rfl⟩:=zH h4
 obtain ⟨N,hN⟩:=Zj c a.1 a.2.1 a.2.2 hp
 refine ⟨N,?_⟩
 rw [ND 2 4 c_impl_caught _ (uY a) ⟨rfl,rfl,rfl⟩]
 refine (congrArg (fun z:Option XOut=>z.bind _) (ZG ⟨G35,[0,64],[0,64],[(0,.box),(64,.box)],N,[],none,fun _ _=>none,some⟩ ⟨rfl,rfl,rfl,rfl,rfl,fun _=>rfl,fun _=>rfl⟩ c a.1 a.2.1 a.2.2)).trans ?_
 show ((oT N c a.1 a.2.1 a.2.2).bind _).bind _=_
 rw [hN]; exact h2
noncomputable def pC (a0:Int) (a1_Shape:List Int) (a1_Data:List Int):Option (List Int×List Int×Int):=yG (mc a0 a1_Shape a1_Data) (pv a0 a1_Shape a1_Data)
def pD (a:Int×(List Int)×(List Int)):List X:=[.d (.int .i64 a.1),.agg [.d (zf cI a.2.1),.d (zf cI a.2.2)]]
noncomputable def gv:List X→Option XOut:=lay pD fun a=>((pC a.1 a.2.1 a.2.2)).bind fun r=>some (.ret (.tup [.agg [zj (cI) 3 none false r.1,zj (cI) 3 none false r.2.1],.d (.int .i64 r.2.2)]) [])
theorem ce (a0:Int) (a1_Shape:List Int) (a1_Data:List Int):gv [.d (.int .i64 a0),.agg [.d (zf cI a1_Shape),.d (zf cI a1_Data)]]=((pC a0 a1_Shape a1_Data)).bind fun r=>some (.ret (.tup [.agg [zj (cI) 3 none false r.1,zj (cI) 3 none false r.2.1],.d (.int .i64 r.2.2)]) []):=yA (enc:=pD) (by
 intro a b h
 simp only [pD,List.cons.injEq,X.d.injEq,X.res.injEq,RK.bld.injEq,X.agg.injEq,X.box.injEq,D.int.injEq,D.bool.injEq,D.fn.injEq,yz,zY,zZ,and_true,true_and,and_assoc] at h
 simp only [Prod.ext_iff]; exact h) (a0,a1_Shape,a1_Data)
noncomputable def G36:Ctx:=G35.with 9 gv
theorem Fb:SoundAll Try.prog G36:=by
 refine MT (cuts:=[]) (k:=2) (A:=c_impl_Monad) (B:=d_impl_Monad) (da:=rY) (keep:=qi) (rs:=uA) (enc:=pD) mixed Js af Try.func9 (by kernel_rfl) (by kernel_rfl) (by kernel_rfl) (by kernel_rfl) (by kernel_rfl) (by kernel_rfl) (by kernel_rfl) (by kernel_rfl) (wk:=fun y=>nocap (wK (.node [.node [.own 3 1,.own 3 1],.k]) y)) (Same.comp Same.nocap (Same.own (.node [.node [.own 3 1,.own 3 1],.k]))) ?_
 intro a out ho
 obtain ⟨r,h1,h2⟩:=Option.bind_eq_some_iff.mp ho
 obtain ⟨hp,rfl⟩:=zH h1
 obtain ⟨N,hN⟩:=YK rf (fun _ _ h=>zx h) sY (fun _ _ h=>zx h) sB (fun _ _ h=>zx h) tj (fun _ _ h=>zx h) sV (fun _ _ h=>zx h) qA (fun _ _ h=>zx h) sr (fun _ _ h=>zx h) t8 (fun _ _ h=>zx h) ve (fun x a0 a1_Shape a1_Data h=>(eV x a0 a1_Shape a1_Data).trans (zx h)) a.1 a.2.1 a.2.2 hp
 refine ⟨N,?_⟩
 refine ((Pe (FD:=pX) (fun y=>some (nocap (wK (.node [.node [.own 3 1,.own 3 1],.k]) y))) 2 c_impl_Monad rY qi d_impl_Monad uA (pD a) ⟨rfl,rfl,rfl⟩).trans (Xu ⟨G35,[],[],[],N,uA,none,pX,fun y=>some (nocap (wK (.node [.node [.own 3 1,.own 3 1],.k]) y))⟩ ⟨rfl,rfl,rfl,rfl,rfl,fun _=>rfl,fun _=>rfl⟩ rf ⟨rfl,(fun za zb=>(show G35 38 _=_ from rfl).trans (em za zb))⟩ sY ⟨rfl,(fun za zb=>(show G35 39 _=_ from rfl).trans (f6 za zb))⟩ sB ⟨rfl,(fun za zb=>(show G35 41 _=_ from rfl).trans (f9 za zb))⟩ tj ⟨rfl,(fun za zb=>(show G35 42 _=_ from rfl).trans (gm za zb))⟩ sV ⟨rfl,(fun za zb=>(show G35 43 _=_ from rfl).trans (ef za zb))⟩ qA ⟨rfl,(fun za zb=>(show G35 44 _=_ from rfl).trans (eO za zb))⟩ sr ⟨rfl,(fun za zb=>(show G35 45 _=_ from rfl).trans (ea za zb))⟩ t8 ⟨rfl,(fun za zb=>(show G35 47 _=_ from rfl).trans (er za zb))⟩ ve (fun x a0 a1_Shape a1_Data=>fZ x a0 a1_Shape a1_Data) a.1 a.2.1 a.2.2)).trans ?_
 show (pj rf sY sB tj sV qA sr t8 ve N a.1 a.2.1 a.2.2).bind _=_
 rw [hN]; exact h2
noncomputable def qm (a0:List Int) (a1:List Int):Option (Bool):=yG (nz a0 a1) (qf a0 a1)
def qE (a:(List Int)×(List Int)):List X:=[.d (zf cI a.1),.d (zf cI a.2)]
noncomputable def ir:List X→Option XOut:=lay qE fun a=>((qm a.1 a.2)).bind fun r=>some (.ret (.d (.bool r)) [])
theorem eN (a0:List Int) (a1:List Int):ir [.d (zf cI a0),.d (zf cI a1)]=((qm a0 a1)).bind fun r=>some (.ret (.d (.bool r)) []):=yA (enc:=qE) (by
 intro a b h
 simp only [qE,List.cons.injEq,X.d.injEq,X.res.injEq,RK.bld.injEq,X.agg.injEq,X.box.injEq,D.int.injEq,D.bool.injEq,D.fn.injEq,yz,zY,zZ,and_true,true_and,and_assoc] at h
 simp only [Prod.ext_iff]; exact h) (a0,a1)
noncomputable def G37:Ctx:=G36.with 49 ir
theorem Fj:SoundAll Try.prog G37:=by
 refine yS (cuts:=[]) (k:=2) (cd:=c_laws_eqIntS) (rs:=v6) (enc:=qE) mixed Fb Try.func49 (by kernel_rfl) (by kernel_rfl) (by kernel_rfl) (by kernel_rfl) (by kernel_rfl) (by kernel_rfl) (wk:=fun y=>nocap y) Same.nocap ?_
 intro a out ho
 obtain ⟨r,h1,h2⟩:=Option.bind_eq_some_iff.mp ho
 obtain ⟨hp,rfl⟩:=zH h1
 obtain ⟨N,hN⟩:=Zy a.1 a.2 hp
 refine ⟨N,?_⟩
 refine ((yi (fun y=>some (nocap y)) 2 c_laws_eqIntS v6 (qE a) ⟨rfl,rfl,rfl⟩).trans (ZI ⟨G36,[],[],[],N,v6,none,fun _ _=>none,fun y=>some (nocap y)⟩ ⟨rfl,rfl,rfl,rfl,rfl,fun _=>rfl,fun _=>rfl⟩ a.1 a.2)).trans ?_
 show (qz N a.1 a.2).bind _=_
 rw [hN]; exact h2
noncomputable def sX (za:List Int) (zb:List Int) (a1_Shape:List Int) (a1_Data:List Int):Option (Bool):=yG (nh za zb a1_Shape a1_Data) (uy za zb a1_Shape a1_Data)
def s9 (a:(List Int)×(List Int)×(List Int)×(List Int)):List X:=[.agg [.d (zf cI a.1),.d (zf cI a.2.1)],.agg [.d (zf cI a.2.2.1),.d (zf cI a.2.2.2)]]
noncomputable def kZ:List X→Option XOut:=lay s9 fun a=>((sX a.1 a.2.1 a.2.2.1 a.2.2.2)).bind fun r=>some (.ret (.d (.bool r)) [])
theorem eh (za:List Int) (zb:List Int) (a1_Shape:List Int) (a1_Data:List Int):kZ [.agg [.d (zf cI za),.d (zf cI zb)],.agg [.d (zf cI a1_Shape),.d (zf cI a1_Data)]]=((sX za zb a1_Shape a1_Data)).bind fun r=>some (.ret (.d (.bool r)) []):=yA (enc:=s9) (by
 intro a b h
 simp only [s9,List.cons.injEq,X.d.injEq,X.res.injEq,RK.bld.injEq,X.agg.injEq,X.box.injEq,D.int.injEq,D.bool.injEq,D.fn.injEq,yz,zY,zZ,and_true,true_and,and_assoc] at h
 simp only [Prod.ext_iff]; exact h) (za,zb,a1_Shape,a1_Data)
noncomputable def G38:Ctx:=G37.with 10 kZ
theorem Ge:SoundAll Try.prog G38:=by
 refine yS (cuts:=[]) (k:=2) (cd:=c_laws_eqArray) (rs:=sP) (enc:=s9) mixed Fj Try.func10 (by kernel_rfl) (by kernel_rfl) (by kernel_rfl) (by kernel_rfl) (by kernel_rfl) (by kernel_rfl) (wk:=fun y=>nocap y) Same.nocap ?_
 intro a out ho
 obtain ⟨r,h1,h2⟩:=Option.bind_eq_some_iff.mp ho
 obtain ⟨hp,rfl⟩:=zH h1
 obtain ⟨N,hN⟩:=bx qm (fun _ _ h=>zx h) a.1 a.2.1 a.2.2.1 a.2.2.2 hp
 refine ⟨N,?_⟩
 refine ((yi (fun y=>some (nocap y)) 2 c_laws_eqArray sP (s9 a) ⟨rfl,rfl,rfl⟩).trans (bW ⟨G37,[],[],[],N,sP,none,fun _ _=>none,fun y=>some (nocap y)⟩ ⟨rfl,rfl,rfl,rfl,rfl,fun _=>rfl,fun _=>rfl⟩ qm ⟨rfl,(fun a0 a1=>(show G37 49 _=_ from rfl).trans (eN a0 a1))⟩ a.1 a.2.1 a.2.2.1 a.2.2.2)).trans ?_
 show (sE qm N a.1 a.2.1 a.2.2.1 a.2.2.2).bind _=_
 rw [hN]; exact h2
noncomputable def tH (a0:List Int) (a1:Int):Option (Int×List Int):=yG (ou a0 a1) (tz a0 a1)
def tt (a:(List Int)×Int):List X:=[zj cI 3 none false a.1,.d (.int .i64 a.2)]
noncomputable def kB:List X→Option XOut:=lay tt fun a=>((tH a.1 a.2)).bind fun r=>some (.ret (.d (.int .i64 r.1)) [[zf (cI) r.2]])
theorem gp (a0:List Int) (a1:Int):kB [zj cI 3 none false a0,.d (.int .i64 a1)]=((tH a0 a1)).bind fun r=>some (.ret (.d (.int .i64 r.1)) [[zf (cI) r.2]]):=yA (enc:=tt) (by
 intro a b h
 simp only [tt,List.cons.injEq,X.d.injEq,X.res.injEq,RK.bld.injEq,X.agg.injEq,X.box.injEq,D.int.injEq,D.bool.injEq,D.fn.injEq,yz,zY,zZ,and_true,true_and,and_assoc] at h
 simp only [Prod.ext_iff]; exact h) (a0,a1)
noncomputable def G39:Ctx:=G38.with 50 kB true
theorem Gx:SoundAll Try.prog G39:=by
 refine yS (cuts:=[]) (k:=2) (cd:=c_laws_markIntS) (rs:=wV) (enc:=tt) mixed Ge Try.func50 (by kernel_rfl) (by kernel_rfl) (by kernel_rfl) (by kernel_rfl) (by kernel_rfl) (by kernel_rfl) (wk:=fun y=>nocap y) Same.nocap ?_
 intro a out ho
 obtain ⟨r,h1,h2⟩:=Option.bind_eq_some_iff.mp ho
 obtain ⟨hp,rfl⟩:=zH h1
 obtain ⟨N,hN⟩:=cQ a.1 a.2 hp
 refine ⟨N,?_⟩
 refine ((yi (fun y=>some (nocap y)) 2 c_laws_markIntS wV (tt a) ⟨rfl,rfl,rfl⟩).trans (ba ⟨G38,[0],[0],[(0,.row 3 1)],N,wV,none,fun _ _=>none,fun y=>some (nocap y)⟩ ⟨rfl,rfl,rfl,rfl,rfl,fun _=>rfl,fun _=>rfl⟩ a.1 a.2)).trans ?_
 show (tx N a.1 a.2).bind _=_
 rw [hN]; exact h2
noncomputable def uI (za:List Int) (zb:List Int) (a1:Int):Option (Int×List Int×List Int):=yG (pt za zb a1) (yD za zb a1)
def uD (a:(List Int)×(List Int)×Int):List X:=[.agg [zj cI 3 none false a.1,zj cI 3 none false a.2.1],.d (.int .i64 a.2.2)]
noncomputable def lF:List X→Option XOut:=lay uD fun a=>((uI a.1 a.2.1 a.2.2)).bind fun r=>some (.ret (.d (.int .i64 r.1)) [[zf (cI) r.2.1],[zf (cI) r.2.2]])
theorem iS (za:List Int) (zb:List Int) (a1:Int):lF [.agg [zj cI 3 none false za,zj cI 3 none false zb],.d (.int .i64 a1)]=((uI za zb a1)).bind fun r=>some (.ret (.d (.int .i64 r.1)) [[zf (cI) r.2.1],[zf (cI) r.2.2]]):=yA (enc:=uD) (by
 intro a b h
 simp only [uD,List.cons.injEq,X.d.injEq,X.res.injEq,RK.bld.injEq,X.agg.injEq,X.box.injEq,D.int.injEq,D.bool.injEq,D.fn.injEq,yz,zY,zZ,and_true,true_and,and_assoc] at h
 simp only [Prod.ext_iff]; exact h) (za,zb,a1)
noncomputable def G40:Ctx:=G39.with 11 lF true
theorem Fe:SoundAll Try.prog G40:=by
 refine yS (cuts:=[]) (k:=2) (cd:=c_laws_markArray) (rs:=uF) (enc:=uD) mixed Gx Try.func11 (by kernel_rfl) (by kernel_rfl) (by kernel_rfl) (by kernel_rfl) (by kernel_rfl) (by kernel_rfl) (wk:=fun y=>nocap y) Same.nocap ?_
 intro a out ho
 obtain ⟨r,h1,h2⟩:=Option.bind_eq_some_iff.mp ho
 obtain ⟨hp,rfl⟩:=zH h1
 obtain ⟨N,hN⟩:=du tH (fun _ _ h=>zx h) a.1 a.2.1 a.2.2 hp
 refine ⟨N,?_⟩
 refine ((yi (fun y=>some (nocap y)) 2 c_laws_markArray uF (uD a) ⟨rfl,rfl,rfl⟩).trans (dG ⟨G39,[0,1],[0,1],[(0,.row 3 1),(1,.row 3 1)],N,uF,none,fun _ _=>none,fun y=>some (nocap y)⟩ ⟨rfl,rfl,rfl,rfl,rfl,fun _=>rfl,fun _=>rfl⟩ tH ⟨rfl,(fun a0 a1=>(show G39 50 _=_ from rfl).trans (gp a0 a1))⟩ a.1 a.2.1 a.2.2)).trans ?_
 show (uL tH N a.1 a.2.1 a.2.2).bind _=_
 rw [hN]; exact h2
noncomputable def tk (a0:List Int) (a1:Int):Option (Int):=yG (ot a0 a1) (vW a0 a1)
def tI (a:(List Int)×Int):List X:=[.d (zf cI a.1),.d (.int .i64 a.2)]
noncomputable def kj:List X→Option XOut:=lay tI fun a=>((tk a.1 a.2)).bind fun r=>some (.ret (.d (.int .i64 r)) [])
theorem fB (a0:List Int) (a1:Int):kj [.d (zf cI a0),.d (.int .i64 a1)]=((tk a0 a1)).bind fun r=>some (.ret (.d (.int .i64 r)) []):=yA (enc:=tI) (by
 intro a b h
 simp only [tI,List.cons.injEq,X.d.injEq,X.res.injEq,RK.bld.injEq,X.agg.injEq,X.box.injEq,D.int.injEq,D.bool.injEq,D.fn.injEq,yz,zY,zZ,and_true,true_and,and_assoc] at h
 simp only [Prod.ext_iff]; exact h) (a0,a1)
noncomputable def G41:Ctx:=G40.with 51 kj
theorem Fm:SoundAll Try.prog G41:=by
 refine yS (cuts:=[]) (k:=2) (cd:=c_laws_heldIntS) (rs:=wO) (enc:=tI) mixed Fe Try.func51 (by kernel_rfl) (by kernel_rfl) (by kernel_rfl) (by kernel_rfl) (by kernel_rfl) (by kernel_rfl) (wk:=fun y=>nocap y) Same.nocap ?_
 intro a out ho
 obtain ⟨r,h1,h2⟩:=Option.bind_eq_some_iff.mp ho
 obtain ⟨hp,rfl⟩:=zH h1
 obtain ⟨N,hN⟩:=cr a.1 a.2 hp
 refine ⟨N,?_⟩
 refine ((yi (fun y=>some (nocap y)) 2 c_laws_heldIntS wO (tI a) ⟨rfl,rfl,rfl⟩).trans (bk ⟨G40,[],[],[],N,wO,none,fun _ _=>none,fun y=>some (nocap y)⟩ ⟨rfl,rfl,rfl,rfl,rfl,fun _=>rfl,fun _=>rfl⟩ a.1 a.2)).trans ?_
 show (tp N a.1 a.2).bind _=_
 rw [hN]; exact h2
noncomputable def uG (za:List Int) (zb:List Int) (a1:Int):Option (Int):=yG (pm za zb a1) (vG za zb a1)
def uB (a:(List Int)×(List Int)×Int):List X:=[.agg [.d (zf cI a.1),.d (zf cI a.2.1)],.d (.int .i64 a.2.2)]
noncomputable def lQ:List X→Option XOut:=lay uB fun a=>((uG a.1 a.2.1 a.2.2)).bind fun r=>some (.ret (.d (.int .i64 r)) [])
theorem iJ (za:List Int) (zb:List Int) (a1:Int):lQ [.agg [.d (zf cI za),.d (zf cI zb)],.d (.int .i64 a1)]=((uG za zb a1)).bind fun r=>some (.ret (.d (.int .i64 r)) []):=yA (enc:=uB) (by
 intro a b h
 simp only [uB,List.cons.injEq,X.d.injEq,X.res.injEq,RK.bld.injEq,X.agg.injEq,X.box.injEq,D.int.injEq,D.bool.injEq,D.fn.injEq,yz,zY,zZ,and_true,true_and,and_assoc] at h
 simp only [Prod.ext_iff]; exact h) (za,zb,a1)
noncomputable def G42:Ctx:=G41.with 12 lQ
theorem Gu:SoundAll Try.prog G42:=by
 refine yS (cuts:=[]) (k:=2) (cd:=c_laws_heldArray) (rs:=uz) (enc:=uB) mixed Fm Try.func12 (by kernel_rfl) (by kernel_rfl) (by kernel_rfl) (by kernel_rfl) (by kernel_rfl) (by kernel_rfl) (wk:=fun y=>nocap y) Same.nocap ?_
 intro a out ho
 obtain ⟨r,h1,h2⟩:=Option.bind_eq_some_iff.mp ho
 obtain ⟨hp,rfl⟩:=zH h1
 obtain ⟨N,hN⟩:=de tk (fun _ _ h=>zx h) a.1 a.2.1 a.2.2 hp
 refine ⟨N,?_⟩
 refine ((yi (fun y=>some (nocap y)) 2 c_laws_heldArray uz (uB a) ⟨rfl,rfl,rfl⟩).trans (eR ⟨G41,[],[],[],N,uz,none,fun _ _=>none,fun y=>some (nocap y)⟩ ⟨rfl,rfl,rfl,rfl,rfl,fun _=>rfl,fun _=>rfl⟩ tk ⟨rfl,(fun a0 a1=>(show G41 51 _=_ from rfl).trans (fB a0 a1))⟩ a.1 a.2.1 a.2.2)).trans ?_
 show (uO tk N a.1 a.2.1 a.2.2).bind _=_
 rw [hN]; exact h2
noncomputable def qR (a0:Int) (a1_Shape:List Int) (a1_Data:List Int):Option (Bool):=yG (wF a0 a1_Shape a1_Data) (qQ a0 a1_Shape a1_Data)
def vm (a:Int×(List Int)×(List Int)):List X:=[.d (.int .i64 a.1),.agg [.d (zf cI a.2.1),.d (zf cI a.2.2)]]
noncomputable def uP:List X→Option XOut:=lay vm fun a=>((qR a.1 a.2.1 a.2.2)).bind fun r=>some (.ret (.d (.bool r)) [])
theorem kQ (a0:Int) (a1_Shape:List Int) (a1_Data:List Int):uP [.d (.int .i64 a0),.agg [.d (zf cI a1_Shape),.d (zf cI a1_Data)]]=((qR a0 a1_Shape a1_Data)).bind fun r=>some (.ret (.d (.bool r)) []):=yA (enc:=vm) (by
 intro a b h
 simp only [vm,List.cons.injEq,X.d.injEq,X.res.injEq,RK.bld.injEq,X.agg.injEq,X.box.injEq,D.int.injEq,D.bool.injEq,D.fn.injEq,yz,zY,zZ,and_true,true_and,and_assoc] at h
 simp only [Prod.ext_iff]; exact h) (a0,a1_Shape,a1_Data)
noncomputable def G43:Ctx:=G42.with 3 uP
theorem GQ:SoundAll Try.prog G43:=by
 refine yS (cuts:=[]) (k:=2) (cd:=c_laws_FnExactMonad) (rs:=vq) (enc:=vm) mixed Gu Try.func3 (by kernel_rfl) (by kernel_rfl) (by kernel_rfl) (by kernel_rfl) (by kernel_rfl) (by kernel_rfl) (wk:=fun y=>nocap y) Same.nocap ?_
 intro a out ho
 obtain ⟨r,h1,h2⟩:=Option.bind_eq_some_iff.mp ho
 obtain ⟨hp,rfl⟩:=zH h1
 obtain ⟨N,hN⟩:=iQ rb (fun _ _ _ h=>zx h) sU (fun _ _ h=>zx h) pu (fun _ _ _ h=>zx h) pC (fun _ _ _ h=>zx h) sX (fun _ _ _ _ h=>zx h) uI (fun _ _ _ h=>zx h) uG (fun _ _ _ h=>zx h) a.1 a.2.1 a.2.2 hp
 refine ⟨N,?_⟩
 refine ((yi (fun y=>some (nocap y)) 2 c_laws_FnExactMonad vq (vm a) ⟨rfl,rfl,rfl⟩).trans (iO ⟨G42,[],[],[],N,vq,none,fun _ _=>none,fun y=>some (nocap y)⟩ ⟨rfl,rfl,rfl,rfl,rfl,fun _=>rfl,fun _=>rfl⟩ rb ⟨rfl,(fun za zb a1=>(show G42 6 _=_ from rfl).trans (fY za zb a1))⟩ sU ⟨rfl,(fun za zb=>(show G42 8 _=_ from rfl).trans (ek za zb))⟩ pu ⟨rfl,(fun a0 a1_Shape a1_Data=>(show G42 7 _=_ from rfl).trans (cT a0 a1_Shape a1_Data))⟩ pC ⟨rfl,(fun a0 a1_Shape a1_Data=>(show G42 9 _=_ from rfl).trans (ce a0 a1_Shape a1_Data))⟩ sX ⟨rfl,(fun za zb a1_Shape a1_Data=>(show G42 10 _=_ from rfl).trans (eh za zb a1_Shape a1_Data))⟩ uI ⟨rfl,(fun za zb a1=>(show G42 11 _=_ from rfl).trans (iS za zb a1))⟩ uG ⟨rfl,(fun za zb a1=>(show G42 12 _=_ from rfl).trans (iJ za zb a1))⟩ a.1 a.2.1 a.2.2)).trans ?_
 show (vo rb sU pu pC sX uI uG N a.1 a.2.1 a.2.2).bind _=_
 rw [hN]; exact h2
theorem law:Sound Try.prog 3 uP:=by
 have h:=GQ 3
 exact h
end Go.Proofs.Ytpjfklhaogdfeaa.TowMn
