/- The contracts of the functions under laws_FnSums, one upon the other. Printed by a program of this session. -/
import Derived.Test.YtafjdofgafppgaaGreatFSm
import Derived.Test.YtafjdofgafppgaaGreatPSmX
import Derived.Test.YtafjdofgafppgaaGreatVmLayer
import Derived.Test.YtafjdofgafppgaaGreatProg
set_option linter.all false
set_option maxRecDepth 100000
namespace Go.Proofs.YtafjdofgafppgaaGreat.TowSm
open Go.Vm
instance gl:Gl:=⟨0,fun _=>none⟩
theorem yx:Tryz.prog.follows .mixedOrders=true:=by kernel_rfl
noncomputable def G0:Ctx:=Γ0 zl
theorem so0:SoundAll Tryz.prog G0:=Γ0_sound _ _
noncomputable def mK (a0:List Int):Option (List Int×Int):=yh (tl a0) (mw a0)
def mH (a:(List Int)):List X:=[.d (zf c8 a)]
noncomputable def am:List X→Option XOut:=lay mH fun a=>((mK a)).bind fun r=>some (.ret (.box [.d (zf (c8) r.1),.d (.int .i64 r.2)]) [])
theorem Xv (a0:List Int):am [.d (zf c8 a0)]=((mK a0)).bind fun r=>some (.ret (.box [.d (zf (c8) r.1),.d (.int .i64 r.2)]) []):=yi (enc:=mH) (by
 intro a b h
 simp only [mH,List.cons.injEq,X.d.injEq,X.res.injEq,RK.bld.injEq,X.agg.injEq,X.box.injEq,D.int.injEq,D.bool.injEq,D.fn.injEq,yk,zU,zS,and_true,true_and,and_assoc] at h
 exact h) a0
noncomputable def G1:Ctx:=G0.with 30 am
theorem so1:SoundAll Tryz.prog G1:=by
 refine yE (cuts:=[7]) (k:=1) (cd:=c_spec_l1Open) (rs:=m8) (enc:=mH) yx so0 Tryz.func30 (by kernel_rfl) (by kernel_rfl) (by kernel_rfl) (by kernel_rfl) (by kernel_rfl) (by kernel_rfl) (wk:=fun y=>nocap y) Same.nocap ?_
 intro a out ho
 obtain ⟨r,h1,h2⟩:=Option.bind_eq_some_iff.mp ho
 obtain ⟨hp,rfl⟩:=zH h1
 obtain ⟨N,hN⟩:=US a hp
 refine ⟨N,?_⟩
 refine ((z9 (fun y=>some (nocap y)) 1 c_spec_l1Open m8 (mH a) ⟨rfl,rfl,rfl⟩).trans (Tr ⟨G0,[],[],[],N,m8,none,fun _ _=>none,fun y=>some (nocap y)⟩ ⟨rfl,rfl,rfl,rfl,rfl,fun _=>rfl,fun _=>rfl⟩ a)).trans ?_
 show (my N a).bind _=_
 rw [hN]; exact h2
noncomputable def wu (a0_b:List Int) (a0_p:Int):Option (Int×List Int×Int):=yh (sF a0_b a0_p) (vo a0_b a0_p)
def tJ (a:(List Int)×Int):List X:=[.box [.d (zf c8 a.1),.d (.int .i64 a.2)]]
noncomputable def gI:List X→Option XOut:=lay tJ fun a=>((wu a.1 a.2)).bind fun r=>some (.ret (.d (.int .i64 r.1)) [[zf (c8) r.2.1,.int .i64 r.2.2]])
theorem jM (a0_b:List Int) (a0_p:Int):gI [.box [.d (zf c8 a0_b),.d (.int .i64 a0_p)]]=((wu a0_b a0_p)).bind fun r=>some (.ret (.d (.int .i64 r.1)) [[zf (c8) r.2.1,.int .i64 r.2.2]]):=yi (enc:=tJ) (by
 intro a b h
 simp only [tJ,List.cons.injEq,X.d.injEq,X.res.injEq,RK.bld.injEq,X.agg.injEq,X.box.injEq,D.int.injEq,D.bool.injEq,D.fn.injEq,yk,zU,zS,and_true,true_and,and_assoc] at h
 simp only [Prod.ext_iff]; exact h) (a0_b,a0_p)
noncomputable def G2:Ctx:=G1.with 67 gI
theorem so2:SoundAll Tryz.prog G2:=by
 refine yE (cuts:=[]) (k:=1) (cd:=c___spec_l1Rd__next) (rs:=tM) (enc:=tJ) yx so1 Tryz.func67 (by kernel_rfl) (by kernel_rfl) (by kernel_rfl) (by kernel_rfl) (by kernel_rfl) (by kernel_rfl) (wk:=fun y=>nocap y) Same.nocap ?_
 intro a out ho
 obtain ⟨r,h1,h2⟩:=Option.bind_eq_some_iff.mp ho
 obtain ⟨hp,rfl⟩:=zH h1
 obtain ⟨N,hN⟩:=aJ a.1 a.2 hp
 refine ⟨N,?_⟩
 refine ((z9 (fun y=>some (nocap y)) 1 c___spec_l1Rd__next tM (tJ a) ⟨rfl,rfl,rfl⟩).trans (aP ⟨G1,[0],[0],[(0,.box)],N,tM,none,fun _ _=>none,fun y=>some (nocap y)⟩ ⟨rfl,rfl,rfl,rfl,rfl,fun _=>rfl,fun _=>rfl⟩ a.1 a.2)).trans ?_
 show (tK N a.1 a.2).bind _=_
 rw [hN]; exact h2
noncomputable def o7 (a0_b:List Int) (a0_p:Int):Option (List Int×List Int×Int):=yh (iS a0_b a0_p) (nk a0_b a0_p)
def oZ (a:(List Int)×Int):List X:=[.box [.d (zf c8 a.1),.d (.int .i64 a.2)]]
noncomputable def bu:List X→Option XOut:=lay oZ fun a=>((o7 a.1 a.2)).bind fun r=>some (.ret (zo (cI) 3 none false r.1) [[zf (c8) r.2.1,.int .i64 r.2.2]])
theorem Yg (a0_b:List Int) (a0_p:Int):bu [.box [.d (zf c8 a0_b),.d (.int .i64 a0_p)]]=((o7 a0_b a0_p)).bind fun r=>some (.ret (zo (cI) 3 none false r.1) [[zf (c8) r.2.1,.int .i64 r.2.2]]):=yi (enc:=oZ) (by
 intro a b h
 simp only [oZ,List.cons.injEq,X.d.injEq,X.res.injEq,RK.bld.injEq,X.agg.injEq,X.box.injEq,D.int.injEq,D.bool.injEq,D.fn.injEq,yk,zU,zS,and_true,true_and,and_assoc] at h
 simp only [Prod.ext_iff]; exact h) (a0_b,a0_p)
noncomputable def G3:Ctx:=G2.with 31 bu
theorem so3:SoundAll Tryz.prog G3:=by
 refine yE (cuts:=[]) (k:=1) (cd:=c_spec_l1Shape) (rs:=t8) (enc:=oZ) yx so2 Tryz.func31 (by kernel_rfl) (by kernel_rfl) (by kernel_rfl) (by kernel_rfl) (by kernel_rfl) (by kernel_rfl) (wk:=fun y=>nocap y) Same.nocap ?_
 intro a out ho
 obtain ⟨r,h1,h2⟩:=Option.bind_eq_some_iff.mp ho
 obtain ⟨hp,rfl⟩:=zH h1
 obtain ⟨N,hN⟩:=W6 wu (fun _ _ h=>zk h) a.1 a.2 hp
 refine ⟨N,?_⟩
 refine ((z9 (fun y=>some (nocap y)) 1 c_spec_l1Shape t8 (oZ a) ⟨rfl,rfl,rfl⟩).trans (VN ⟨G2,[0],[0],[(0,.box)],N,t8,none,fun _ _=>none,fun y=>some (nocap y)⟩ ⟨rfl,rfl,rfl,rfl,rfl,fun _=>rfl,fun _=>rfl⟩ wu ⟨rfl,(fun a0_b a0_p=>(show G2 67 _=_ from rfl).trans (jM a0_b a0_p))⟩ a.1 a.2)).trans ?_
 show (oq wu N a.1 a.2).bind _=_
 rw [hN]; exact h2
noncomputable def yG (a0:List Int):Option (Int):=yh (we a0) (yY a0)
def rA (a:(List Int)):List X:=[.d (zf cI a)]
noncomputable def eY:List X→Option XOut:=lay rA fun a=>((yG a)).bind fun r=>some (.ret (.d (.int .i64 r)) [])
theorem ux (a0:List Int):eY [.d (zf cI a0)]=((yG a0)).bind fun r=>some (.ret (.d (.int .i64 r)) []):=yi (enc:=rA) (by
 intro a b h
 simp only [rA,List.cons.injEq,X.d.injEq,X.res.injEq,RK.bld.injEq,X.agg.injEq,X.box.injEq,D.int.injEq,D.bool.injEq,D.fn.injEq,yk,zU,zS,and_true,true_and,and_assoc] at h
 exact h) a0
noncomputable def G4:Ctx:=G3.with 92 eY
theorem so4:SoundAll Tryz.prog G4:=by
 refine yE (cuts:=[]) (k:=1) (cd:=c_spec_l1Product) (rs:=uO) (enc:=rA) yx so3 Tryz.func92 (by kernel_rfl) (by kernel_rfl) (by kernel_rfl) (by kernel_rfl) (by kernel_rfl) (by kernel_rfl) (wk:=fun y=>nocap y) Same.nocap ?_
 intro a out ho
 obtain ⟨r,h1,h2⟩:=Option.bind_eq_some_iff.mp ho
 obtain ⟨hp,rfl⟩:=zH h1
 obtain ⟨N,hN⟩:=XQ a hp
 refine ⟨N,?_⟩
 refine ((z9 (fun y=>some (nocap y)) 1 c_spec_l1Product uO (rA a) ⟨rfl,rfl,rfl⟩).trans (XH ⟨G3,[],[],[],N,uO,none,fun _ _=>none,fun y=>some (nocap y)⟩ ⟨rfl,rfl,rfl,rfl,rfl,fun _=>rfl,fun _=>rfl⟩ a)).trans ?_
 show (nF N a).bind _=_
 rw [hN]; exact h2
noncomputable def mC (a0_b:List Int) (a0_p:Int):Option (Int×List Int×Int):=yh (lK a0_b a0_p) (ph a0_b a0_p)
def mP (a:(List Int)×Int):List X:=[.box [.d (zf c8 a.1),.d (.int .i64 a.2)]]
noncomputable def aF:List X→Option XOut:=lay mP fun a=>((mC a.1 a.2)).bind fun r=>some (.ret (.d (.int .i64 r.1)) [[zf (c8) r.2.1,.int .i64 r.2.2]])
theorem YS (a0_b:List Int) (a0_p:Int):aF [.box [.d (zf c8 a0_b),.d (.int .i64 a0_p)]]=((mC a0_b a0_p)).bind fun r=>some (.ret (.d (.int .i64 r.1)) [[zf (c8) r.2.1,.int .i64 r.2.2]]):=yi (enc:=mP) (by
 intro a b h
 simp only [mP,List.cons.injEq,X.d.injEq,X.res.injEq,RK.bld.injEq,X.agg.injEq,X.box.injEq,D.int.injEq,D.bool.injEq,D.fn.injEq,yk,zU,zS,and_true,true_and,and_assoc] at h
 simp only [Prod.ext_iff]; exact h) (a0_b,a0_p)
noncomputable def G5:Ctx:=G4.with 93 aF
theorem so5:SoundAll Tryz.prog G5:=by
 refine yE (cuts:=[]) (k:=1) (cd:=c_spec_l1Cell) (rs:=mz) (enc:=mP) yx so4 Tryz.func93 (by kernel_rfl) (by kernel_rfl) (by kernel_rfl) (by kernel_rfl) (by kernel_rfl) (by kernel_rfl) (wk:=fun y=>nocap y) Same.nocap ?_
 intro a out ho
 obtain ⟨r,h1,h2⟩:=Option.bind_eq_some_iff.mp ho
 obtain ⟨hp,rfl⟩:=zH h1
 obtain ⟨N,hN⟩:=U7 wu (fun _ _ h=>zk h) a.1 a.2 hp
 refine ⟨N,?_⟩
 refine ((z9 (fun y=>some (nocap y)) 1 c_spec_l1Cell mz (mP a) ⟨rfl,rfl,rfl⟩).trans (UZ ⟨G4,[0],[0],[(0,.box)],N,mz,none,fun _ _=>none,fun y=>some (nocap y)⟩ ⟨rfl,rfl,rfl,rfl,rfl,fun _=>rfl,fun _=>rfl⟩ wu ⟨rfl,(fun a0_b a0_p=>(show G4 67 _=_ from rfl).trans (jM a0_b a0_p))⟩ a.1 a.2)).trans ?_
 show (m6 wu N a.1 a.2).bind _=_
 rw [hN]; exact h2
noncomputable def mA (a0_b:List Int) (a0_p:Int) (a1:List Int):Option (List Int×List Int×List Int×Int):=yh (hZ a0_b a0_p a1) (ir a0_b a0_p a1)
def nK (a:(List Int)×Int×(List Int)):List X:=[.box [.d (zf c8 a.1),.d (.int .i64 a.2.1)],.d (zf cI a.2.2)]
noncomputable def al:List X→Option XOut:=lay nK fun a=>((mA a.1 a.2.1 a.2.2)).bind fun r=>some (.ret (.agg [.d (zf (cI) r.1),zo (cI) 3 none false r.2.1]) [[zf (c8) r.2.2.1,.int .i64 r.2.2.2]])
theorem Y6 (a0_b:List Int) (a0_p:Int) (a1:List Int):al [.box [.d (zf c8 a0_b),.d (.int .i64 a0_p)],.d (zf cI a1)]=((mA a0_b a0_p a1)).bind fun r=>some (.ret (.agg [.d (zf (cI) r.1),zo (cI) 3 none false r.2.1]) [[zf (c8) r.2.2.1,.int .i64 r.2.2.2]]):=yi (enc:=nK) (by
 intro a b h
 simp only [nK,List.cons.injEq,X.d.injEq,X.res.injEq,RK.bld.injEq,X.agg.injEq,X.box.injEq,D.int.injEq,D.bool.injEq,D.fn.injEq,yk,zU,zS,and_true,true_and,and_assoc] at h
 simp only [Prod.ext_iff]; exact h) (a0_b,a0_p,a1)
noncomputable def G6:Ctx:=G5.with 32 al
theorem so6:SoundAll Tryz.prog G6:=by
 refine yE (cuts:=[]) (k:=2) (cd:=c_spec_l1Fill) (rs:=sM) (enc:=nK) yx so5 Tryz.func32 (by kernel_rfl) (by kernel_rfl) (by kernel_rfl) (by kernel_rfl) (by kernel_rfl) (by kernel_rfl) (wk:=fun y=>nocap y) Same.nocap ?_
 intro a out ho
 obtain ⟨r,h1,h2⟩:=Option.bind_eq_some_iff.mp ho
 obtain ⟨hp,rfl⟩:=zH h1
 obtain ⟨N,hN⟩:=UH yG (fun _ h=>zk h) mC (fun _ _ h=>zk h) a.1 a.2.1 a.2.2 hp
 refine ⟨N,?_⟩
 refine ((z9 (fun y=>some (nocap y)) 2 c_spec_l1Fill sM (nK a) ⟨rfl,rfl,rfl⟩).trans (UV ⟨G5,[0],[0],[(0,.box)],N,sM,none,fun _ _=>none,fun y=>some (nocap y)⟩ ⟨rfl,rfl,rfl,rfl,rfl,fun _=>rfl,fun _=>rfl⟩ yG ⟨rfl,(fun a0=>(show G5 92 _=_ from rfl).trans (ux a0))⟩ mC ⟨rfl,(fun a0_b a0_p=>(show G5 93 _=_ from rfl).trans (YS a0_b a0_p))⟩ a.1 a.2.1 a.2.2)).trans ?_
 show (iq yG mC N a.1 a.2.1 a.2.2).bind _=_
 rw [hN]; exact h2
noncomputable def yX (a0:List Int):Option (List Int):=yh (up a0) (xC a0)
def nS (a:(List Int)):List X:=[.d (zf cI a)]
noncomputable def aA:List X→Option XOut:=lay nS fun a=>((yX a)).bind fun r=>some (.ret (zo (cI) 3 none false r) [])
theorem sc (a0:List Int):aA [.d (zf cI a0)]=((yX a0)).bind fun r=>some (.ret (zo (cI) 3 none false r) []):=yi (enc:=nS) (by
 intro a b h
 simp only [nS,List.cons.injEq,X.d.injEq,X.res.injEq,RK.bld.injEq,X.agg.injEq,X.box.injEq,D.int.injEq,D.bool.injEq,D.fn.injEq,yk,zU,zS,and_true,true_and,and_assoc] at h
 exact h) a0
noncomputable def G7:Ctx:=G6.with 33 aA
theorem so7:SoundAll Tryz.prog G7:=by
 refine yE (cuts:=[]) (k:=1) (cd:=c_spec_l2Copy) (rs:=mY) (enc:=nS) yx so6 Tryz.func33 (by kernel_rfl) (by kernel_rfl) (by kernel_rfl) (by kernel_rfl) (by kernel_rfl) (by kernel_rfl) (wk:=fun y=>nocap y) Same.nocap ?_
 intro a out ho
 obtain ⟨r,h1,h2⟩:=Option.bind_eq_some_iff.mp ho
 obtain ⟨hp,rfl⟩:=zH h1
 obtain ⟨N,hN⟩:=Te a hp
 refine ⟨N,?_⟩
 refine ((z9 (fun y=>some (nocap y)) 1 c_spec_l2Copy mY (nS a) ⟨rfl,rfl,rfl⟩).trans (Tv ⟨G6,[],[],[],N,mY,none,fun _ _=>none,fun y=>some (nocap y)⟩ ⟨rfl,rfl,rfl,rfl,rfl,fun _=>rfl,fun _=>rfl⟩ a)).trans ?_
 show (nR N a).bind _=_
 rw [hN]; exact h2
noncomputable def rM (a0:List Int):Option (List Int×List Int×List Int×List Int):=yh (kb a0) (rQ a0)
def qe (a:(List Int)):List X:=[.d (zf c8 a)]
noncomputable def dP:List X→Option XOut:=lay qe fun a=>((rM a)).bind fun r=>some (.ret (.tup [.agg [.d (zf (cI) r.1),zo (cI) 3 none false r.2.1],.agg [.d (zf (cI) r.2.2.1),zo (cI) 3 none false r.2.2.2]]) [])
theorem aQ (a0:List Int):dP [.d (zf c8 a0)]=((rM a0)).bind fun r=>some (.ret (.tup [.agg [.d (zf (cI) r.1),zo (cI) 3 none false r.2.1],.agg [.d (zf (cI) r.2.2.1),zo (cI) 3 none false r.2.2.2]]) []):=yi (enc:=qe) (by
 intro a b h
 simp only [qe,List.cons.injEq,X.d.injEq,X.res.injEq,RK.bld.injEq,X.agg.injEq,X.box.injEq,D.int.injEq,D.bool.injEq,D.fn.injEq,yk,zU,zS,and_true,true_and,and_assoc] at h
 exact h) a0
noncomputable def G8:Ctx:=G7.with 5 dP
theorem so8:SoundAll Tryz.prog G8:=by
 refine yE (cuts:=[]) (k:=1) (cd:=c_spec_TwoArrays) (rs:=qH) (enc:=qe) yx so7 Tryz.func5 (by kernel_rfl) (by kernel_rfl) (by kernel_rfl) (by kernel_rfl) (by kernel_rfl) (by kernel_rfl) (wk:=fun y=>nocap y) Same.nocap ?_
 intro a out ho
 obtain ⟨r,h1,h2⟩:=Option.bind_eq_some_iff.mp ho
 obtain ⟨hp,rfl⟩:=zH h1
 obtain ⟨N,hN⟩:=Xh mK (fun _ h=>zk h) o7 (fun _ _ h=>zk h) mA (fun _ _ _ h=>zk h) yX (fun _ h=>zk h) a hp
 refine ⟨N,?_⟩
 refine ((z9 (fun y=>some (nocap y)) 1 c_spec_TwoArrays qH (qe a) ⟨rfl,rfl,rfl⟩).trans (XB ⟨G7,[],[],[],N,qH,none,fun _ _=>none,fun y=>some (nocap y)⟩ ⟨rfl,rfl,rfl,rfl,rfl,fun _=>rfl,fun _=>rfl⟩ mK ⟨rfl,(fun a0=>(show G7 30 _=_ from rfl).trans (Xv a0))⟩ o7 ⟨rfl,(fun a0_b a0_p=>(show G7 31 _=_ from rfl).trans (Yg a0_b a0_p))⟩ mA ⟨rfl,(fun a0_b a0_p a1=>(show G7 32 _=_ from rfl).trans (Y6 a0_b a0_p a1))⟩ yX ⟨rfl,(fun a0=>(show G7 33 _=_ from rfl).trans (sc a0))⟩ a)).trans ?_
 show (rF mK o7 mA yX N a).bind _=_
 rw [hN]; exact h2
noncomputable def tA (a0:Int):Option (Bool):=yh (lN a0) (xO a0)
def mT (a:Int):List X:=[.d (.int .i64 a)]
noncomputable def ao:List X→Option XOut:=lay mT fun a=>((tA a)).bind fun r=>some (.ret (.d (.bool r)) [])
theorem du (a0:Int):ao [.d (.int .i64 a0)]=((tA a0)).bind fun r=>some (.ret (.d (.bool r)) []):=yi (enc:=mT) (by
 intro a b h
 simp only [mT,List.cons.injEq,X.d.injEq,X.res.injEq,RK.bld.injEq,X.agg.injEq,X.box.injEq,D.int.injEq,D.bool.injEq,D.fn.injEq,yk,zU,zS,and_true,true_and,and_assoc] at h
 exact h) a0
noncomputable def G9:Ctx:=G8.with 34 ao
theorem so9:SoundAll Tryz.prog G9:=by
 refine yE (cuts:=[]) (k:=1) (cd:=c_spec_l2OpOk) (rs:=nP) (enc:=mT) yx so8 Tryz.func34 (by kernel_rfl) (by kernel_rfl) (by kernel_rfl) (by kernel_rfl) (by kernel_rfl) (by kernel_rfl) (wk:=fun y=>nocap y) Same.nocap ?_
 intro a out ho
 obtain ⟨r,h1,h2⟩:=Option.bind_eq_some_iff.mp ho
 obtain ⟨hp,rfl⟩:=zH h1
 obtain ⟨N,hN⟩:=U9 a hp
 refine ⟨N,?_⟩
 refine ((z9 (fun y=>some (nocap y)) 1 c_spec_l2OpOk nP (mT a) ⟨rfl,rfl,rfl⟩).trans (Tf ⟨G8,[],[],[],N,nP,none,fun _ _=>none,fun y=>some (nocap y)⟩ ⟨rfl,rfl,rfl,rfl,rfl,fun _=>rfl,fun _=>rfl⟩ a)).trans ?_
 show (nW N a).bind _=_
 rw [hN]; exact h2
noncomputable def tD (a0:List Int):Option (Bool):=yh (lO a0) (sO a0)
def n7 (a:(List Int)):List X:=[.d (zf cI a)]
noncomputable def ae:List X→Option XOut:=lay n7 fun a=>((tD a)).bind fun r=>some (.ret (.d (.bool r)) [])
theorem dc (a0:List Int):ae [.d (zf cI a0)]=((tD a0)).bind fun r=>some (.ret (.d (.bool r)) []):=yi (enc:=n7) (by
 intro a b h
 simp only [n7,List.cons.injEq,X.d.injEq,X.res.injEq,RK.bld.injEq,X.agg.injEq,X.box.injEq,D.int.injEq,D.bool.injEq,D.fn.injEq,yk,zU,zS,and_true,true_and,and_assoc] at h
 exact h) a0
noncomputable def G10:Ctx:=G9.with 83 ae
theorem AA:SoundAll Tryz.prog G10:=by
 refine yE (cuts:=[]) (k:=1) (cd:=c_spec_l1Fits) (rs:=sK) (enc:=n7) yx so9 Tryz.func83 (by kernel_rfl) (by kernel_rfl) (by kernel_rfl) (by kernel_rfl) (by kernel_rfl) (by kernel_rfl) (wk:=fun y=>nocap y) Same.nocap ?_
 intro a out ho
 obtain ⟨r,h1,h2⟩:=Option.bind_eq_some_iff.mp ho
 obtain ⟨hp,rfl⟩:=zH h1
 obtain ⟨N,hN⟩:=UW yG (fun _ h=>zk h) a hp
 refine ⟨N,?_⟩
 refine ((z9 (fun y=>some (nocap y)) 1 c_spec_l1Fits sK (n7 a) ⟨rfl,rfl,rfl⟩).trans (Tb ⟨G9,[],[],[],N,sK,none,fun _ _=>none,fun y=>some (nocap y)⟩ ⟨rfl,rfl,rfl,rfl,rfl,fun _=>rfl,fun _=>rfl⟩ yG ⟨rfl,(fun a0=>(show G9 92 _=_ from rfl).trans (ux a0))⟩ a)).trans ?_
 show (mX yG N a).bind _=_
 rw [hN]; exact h2
noncomputable def uP (zg:List Int) (zh:List Int):Option (Bool):=yh (nv zg zh) (sg zg zh)
def nn (a:(List Int)×(List Int)):List X:=[.agg [.d (zf cI a.1),.d (zf cI a.2)]]
noncomputable def bl:List X→Option XOut:=lay nn fun a=>((uP a.1 a.2)).bind fun r=>some (.ret (.d (.bool r)) [])
theorem eo (zg:List Int) (zh:List Int):bl [.agg [.d (zf cI zg),.d (zf cI zh)]]=((uP zg zh)).bind fun r=>some (.ret (.d (.bool r)) []):=yi (enc:=nn) (by
 intro a b h
 simp only [nn,List.cons.injEq,X.d.injEq,X.res.injEq,RK.bld.injEq,X.agg.injEq,X.box.injEq,D.int.injEq,D.bool.injEq,D.fn.injEq,yk,zU,zS,and_true,true_and,and_assoc] at h
 simp only [Prod.ext_iff]; exact h) (zg,zh)
noncomputable def G11:Ctx:=G10.with 35 bl
theorem AB:SoundAll Tryz.prog G11:=by
 refine yE (cuts:=[]) (k:=1) (cd:=c_spec_ArrayOk) (rs:=t5) (enc:=nn) yx AA Tryz.func35 (by kernel_rfl) (by kernel_rfl) (by kernel_rfl) (by kernel_rfl) (by kernel_rfl) (by kernel_rfl) (wk:=fun y=>nocap y) Same.nocap ?_
 intro a out ho
 obtain ⟨r,h1,h2⟩:=Option.bind_eq_some_iff.mp ho
 obtain ⟨hp,rfl⟩:=zH h1
 obtain ⟨N,hN⟩:=V6 tD (fun _ h=>zk h) yG (fun _ h=>zk h) a.1 a.2 hp
 refine ⟨N,?_⟩
 refine ((z9 (fun y=>some (nocap y)) 1 c_spec_ArrayOk t5 (nn a) ⟨rfl,rfl,rfl⟩).trans (VH ⟨G10,[],[],[],N,t5,none,fun _ _=>none,fun y=>some (nocap y)⟩ ⟨rfl,rfl,rfl,rfl,rfl,fun _=>rfl,fun _=>rfl⟩ tD ⟨rfl,(fun a0=>(show G10 83 _=_ from rfl).trans (dc a0))⟩ yG ⟨rfl,(fun a0=>(show G10 92 _=_ from rfl).trans (ux a0))⟩ a.1 a.2)).trans ?_
 show (oE tD yG N a.1 a.2).bind _=_
 rw [hN]; exact h2
noncomputable def nX (a0:Int):Option (Int×Bool):=yh (gj a0) (n5 a0)
def mS (a:Int):List X:=[.d (.int .i64 a)]
noncomputable def aD:List X→Option XOut:=lay mS fun a=>((nX a)).bind fun r=>some (.ret (.tup [.d (.int .i64 r.1),.d (.bool r.2)]) [])
theorem Xe (a0:Int):aD [.d (.int .i64 a0)]=((nX a0)).bind fun r=>some (.ret (.tup [.d (.int .i64 r.1),.d (.bool r.2)]) []):=yi (enc:=mS) (by
 intro a b h
 simp only [mS,List.cons.injEq,X.d.injEq,X.res.injEq,RK.bld.injEq,X.agg.injEq,X.box.injEq,D.int.injEq,D.bool.injEq,D.fn.injEq,yk,zU,zS,and_true,true_and,and_assoc] at h
 exact h) a0
noncomputable def G12:Ctx:=G11.with 94 aD
theorem Ap:SoundAll Tryz.prog G12:=by
 refine yE (cuts:=[]) (k:=1) (cd:=c_spec_l2None) (rs:=nO) (enc:=mS) yx AB Tryz.func94 (by kernel_rfl) (by kernel_rfl) (by kernel_rfl) (by kernel_rfl) (by kernel_rfl) (by kernel_rfl) (wk:=fun y=>nocap y) Same.nocap ?_
 intro a out ho
 obtain ⟨r,h1,h2⟩:=Option.bind_eq_some_iff.mp ho
 obtain ⟨hp,rfl⟩:=zH h1
 obtain ⟨N,hN⟩:=UR a hp
 refine ⟨N,?_⟩
 refine ((z9 (fun y=>some (nocap y)) 1 c_spec_l2None nO (mS a) ⟨rfl,rfl,rfl⟩).trans (UL ⟨G11,[],[],[],N,nO,none,fun _ _=>none,fun y=>some (nocap y)⟩ ⟨rfl,rfl,rfl,rfl,rfl,fun _=>rfl,fun _=>rfl⟩ a)).trans ?_
 show (nV N a).bind _=_
 rw [hN]; exact h2
noncomputable def tE (a0:List Int) (a1:List Int):Option (Alt (List Int×List Int) (List Int×List Int)):=yh (lI a0 a1) (sN a0 a1)
def mO (a:(List Int)×(List Int)):List X:=[zo cI 3 none false a.1,zo cI 3 none false a.2]
noncomputable def aI:List X→Option XOut:=lay mO fun a=>((tE a.1 a.2)).bind fun r=>r.on (fun r=>some (.ret (.tup [.agg [.nil,.nil],.d (.int .i64 6)]) [[zf (cI) r.1],[zf (cI) r.2]])) (fun r=>some (.ret (.tup [.agg [.par 0,.par 1],.d (.int .i64 0)]) [[zf (cI) r.1],[zf (cI) r.2]]))
theorem eZ (a0:List Int) (a1:List Int):aI [zo cI 3 none false a0,zo cI 3 none false a1]=((tE a0 a1)).bind fun r=>r.on (fun r=>some (.ret (.tup [.agg [.nil,.nil],.d (.int .i64 6)]) [[zf (cI) r.1],[zf (cI) r.2]])) (fun r=>some (.ret (.tup [.agg [.par 0,.par 1],.d (.int .i64 0)]) [[zf (cI) r.1],[zf (cI) r.2]])):=yi (enc:=mO) (by
 intro a b h
 simp only [mO,List.cons.injEq,X.d.injEq,X.res.injEq,RK.bld.injEq,X.agg.injEq,X.box.injEq,D.int.injEq,D.bool.injEq,D.fn.injEq,yk,zU,zS,and_true,true_and,and_assoc] at h
 simp only [Prod.ext_iff]; exact h) (a0,a1)
noncomputable def G13:Ctx:=G12.with 90 aI true
theorem AV:SoundAll Tryz.prog G13:=by
 refine yE (cuts:=[]) (k:=2) (cd:=c_spec_l2Made) (rs:=nZ) (enc:=mO) yx Ap Tryz.func90 (by kernel_rfl) (by kernel_rfl) (by kernel_rfl) (by kernel_rfl) (by kernel_rfl) (by kernel_rfl) (wk:=fun y=>nocap y) Same.nocap ?_
 intro a out ho
 obtain ⟨r,h1,h2⟩:=Option.bind_eq_some_iff.mp ho
 obtain ⟨hp,rfl⟩:=zH h1
 obtain ⟨N,hN⟩:=U1 tD (fun _ h=>zk h) a.1 a.2 hp
 refine ⟨N,?_⟩
 refine ((z9 (fun y=>some (nocap y)) 2 c_spec_l2Made nZ (mO a) ⟨rfl,rfl,rfl⟩).trans (U6 ⟨G12,[0,64],[0,64],[(0,.row 3 1),(64,.row 3 1)],N,nZ,none,fun _ _=>none,fun y=>some (nocap y)⟩ ⟨rfl,rfl,rfl,rfl,rfl,fun _=>rfl,fun _=>rfl⟩ tD ⟨rfl,(fun a0=>(show G12 83 _=_ from rfl).trans (dc a0))⟩ a.1 a.2)).trans ?_
 show (mo tD N a.1 a.2).bind _=_
 rw [hN]; exact h2
noncomputable def tC (zg:List Int) (zh:List Int) (a1:List Int):Option (List Int×List Int):=yh (lC zg zh a1) (tF zg zh a1)
def nU (a:(List Int)×(List Int)×(List Int)):List X:=[.agg [.d (zf cI a.1),.d (zf cI a.2.1)],.d (zf cI a.2.2)]
noncomputable def aw:List X→Option XOut:=lay nU fun a=>((tC a.1 a.2.1 a.2.2)).bind fun r=>some (.ret (.agg [zo (cI) 3 none false r.1,zo (cI) 3 none false r.2]) [])
theorem dG (zg:List Int) (zh:List Int) (a1:List Int):aw [.agg [.d (zf cI zg),.d (zf cI zh)],.d (zf cI a1)]=((tC zg zh a1)).bind fun r=>some (.ret (.agg [zo (cI) 3 none false r.1,zo (cI) 3 none false r.2]) []):=yi (enc:=nU) (by
 intro a b h
 simp only [nU,List.cons.injEq,X.d.injEq,X.res.injEq,RK.bld.injEq,X.agg.injEq,X.box.injEq,D.int.injEq,D.bool.injEq,D.fn.injEq,yk,zU,zS,and_true,true_and,and_assoc] at h
 simp only [Prod.ext_iff]; exact h) (zg,zh,a1)
noncomputable def G14:Ctx:=G13.with 95 aw
theorem As:SoundAll Tryz.prog G14:=by
 refine yE (cuts:=[]) (k:=2) (cd:=c_spec_l2Wide) (rs:=sS) (enc:=nU) yx AV Tryz.func95 (by kernel_rfl) (by kernel_rfl) (by kernel_rfl) (by kernel_rfl) (by kernel_rfl) (by kernel_rfl) (wk:=fun y=>nocap y) Same.nocap ?_
 intro a out ho
 obtain ⟨r,h1,h2⟩:=Option.bind_eq_some_iff.mp ho
 obtain ⟨hp,rfl⟩:=zH h1
 obtain ⟨N,hN⟩:=Tu yX (fun _ h=>zk h) yG (fun _ h=>zk h) a.1 a.2.1 a.2.2 hp
 refine ⟨N,?_⟩
 refine ((z9 (fun y=>some (nocap y)) 2 c_spec_l2Wide sS (nU a) ⟨rfl,rfl,rfl⟩).trans (UJ ⟨G13,[],[],[],N,sS,none,fun _ _=>none,fun y=>some (nocap y)⟩ ⟨rfl,rfl,rfl,rfl,rfl,fun _=>rfl,fun _=>rfl⟩ yX ⟨rfl,(fun a0=>(show G13 33 _=_ from rfl).trans (sc a0))⟩ yG ⟨rfl,(fun a0=>(show G13 92 _=_ from rfl).trans (ux a0))⟩ a.1 a.2.1 a.2.2)).trans ?_
 show (ma yX yG N a.1 a.2.1 a.2.2).bind _=_
 rw [hN]; exact h2
noncomputable def km (zg:List Int) (zh:List Int) (a1:Int):Option (List Int×List Int):=yh (jx zg zh a1) (qM zg zh a1)
def k8 (a:(List Int)×(List Int)×Int):List X:=[.agg [.d (zf cI a.1),.d (zf cI a.2.1)],.d (.int .i64 a.2.2)]
noncomputable def Zr:List X→Option XOut:=lay k8 fun a=>((km a.1 a.2.1 a.2.2)).bind fun r=>some (.ret (.agg [zo (cI) 3 none false r.1,zo (cI) 3 none false r.2]) [])
theorem Wn (zg:List Int) (zh:List Int) (a1:Int):Zr [.agg [.d (zf cI zg),.d (zf cI zh)],.d (.int .i64 a1)]=((km zg zh a1)).bind fun r=>some (.ret (.agg [zo (cI) 3 none false r.1,zo (cI) 3 none false r.2]) []):=yi (enc:=k8) (by
 intro a b h
 simp only [k8,List.cons.injEq,X.d.injEq,X.res.injEq,RK.bld.injEq,X.agg.injEq,X.box.injEq,D.int.injEq,D.bool.injEq,D.fn.injEq,yk,zU,zS,and_true,true_and,and_assoc] at h
 simp only [Prod.ext_iff]; exact h) (zg,zh,a1)
noncomputable def G15:Ctx:=G14.with 96 Zr
theorem Ai:SoundAll Tryz.prog G15:=by
 refine yE (cuts:=[]) (k:=2) (cd:=c_spec_l2Row) (rs:=kH) (enc:=k8) yx As Tryz.func96 (by kernel_rfl) (by kernel_rfl) (by kernel_rfl) (by kernel_rfl) (by kernel_rfl) (by kernel_rfl) (wk:=fun y=>nocap y) Same.nocap ?_
 intro a out ho
 obtain ⟨r,h1,h2⟩:=Option.bind_eq_some_iff.mp ho
 obtain ⟨hp,rfl⟩:=zH h1
 obtain ⟨N,hN⟩:=SN yX (fun _ h=>zk h) yG (fun _ h=>zk h) a.1 a.2.1 a.2.2 hp
 refine ⟨N,?_⟩
 refine ((z9 (fun y=>some (nocap y)) 2 c_spec_l2Row kH (k8 a) ⟨rfl,rfl,rfl⟩).trans (SX ⟨G14,[],[],[],N,kH,none,fun _ _=>none,fun y=>some (nocap y)⟩ ⟨rfl,rfl,rfl,rfl,rfl,fun _=>rfl,fun _=>rfl⟩ yX ⟨rfl,(fun a0=>(show G14 33 _=_ from rfl).trans (sc a0))⟩ yG ⟨rfl,(fun a0=>(show G14 92 _=_ from rfl).trans (ux a0))⟩ a.1 a.2.1 a.2.2)).trans ?_
 show (ky yX yG N a.1 a.2.1 a.2.2).bind _=_
 rw [hN]; exact h2
noncomputable def tz (a0:List Int) (a1:List Int):Option (Bool):=yh (lT a0 a1) (uG a0 a1)
def mF (a:(List Int)×(List Int)):List X:=[.d (zf cI a.1),.d (zf cI a.2)]
noncomputable def ai:List X→Option XOut:=lay mF fun a=>((tz a.1 a.2)).bind fun r=>some (.ret (.d (.bool r)) [])
theorem dF (a0:List Int) (a1:List Int):ai [.d (zf cI a0),.d (zf cI a1)]=((tz a0 a1)).bind fun r=>some (.ret (.d (.bool r)) []):=yi (enc:=mF) (by
 intro a b h
 simp only [mF,List.cons.injEq,X.d.injEq,X.res.injEq,RK.bld.injEq,X.agg.injEq,X.box.injEq,D.int.injEq,D.bool.injEq,D.fn.injEq,yk,zU,zS,and_true,true_and,and_assoc] at h
 simp only [Prod.ext_iff]; exact h) (a0,a1)
noncomputable def G16:Ctx:=G15.with 55 ai
theorem zaz:SoundAll Tryz.prog G16:=by
 refine yE (cuts:=[]) (k:=2) (cd:=c_spec_l2Same) (rs:=sP) (enc:=mF) yx Ai Tryz.func55 (by kernel_rfl) (by kernel_rfl) (by kernel_rfl) (by kernel_rfl) (by kernel_rfl) (by kernel_rfl) (wk:=fun y=>nocap y) Same.nocap ?_
 intro a out ho
 obtain ⟨r,h1,h2⟩:=Option.bind_eq_some_iff.mp ho
 obtain ⟨hp,rfl⟩:=zH h1
 obtain ⟨N,hN⟩:=U4 a.1 a.2 hp
 refine ⟨N,?_⟩
 refine ((z9 (fun y=>some (nocap y)) 2 c_spec_l2Same sP (mF a) ⟨rfl,rfl,rfl⟩).trans (UF ⟨G15,[],[],[],N,sP,none,fun _ _=>none,fun y=>some (nocap y)⟩ ⟨rfl,rfl,rfl,rfl,rfl,fun _=>rfl,fun _=>rfl⟩ a.1 a.2)).trans ?_
 show (lj N a.1 a.2).bind _=_
 rw [hN]; exact h2
noncomputable def j5 (a0:Int):Option (Int×Int):=yh (fZ a0) (j2 a0)
def jR (a:Int):List X:=[.d (.int .i64 a)]
noncomputable def YM:List X→Option XOut:=lay jR fun a=>((j5 a)).bind fun r=>some (.ret (.tup [.d (.int .i64 r.1),.d (.int .i64 r.2)]) [])
theorem Vx (a0:Int):YM [.d (.int .i64 a0)]=((j5 a0)).bind fun r=>some (.ret (.tup [.d (.int .i64 r.1),.d (.int .i64 r.2)]) []):=yi (enc:=jR) (by
 intro a b h
 simp only [jR,List.cons.injEq,X.d.injEq,X.res.injEq,RK.bld.injEq,X.agg.injEq,X.box.injEq,D.int.injEq,D.bool.injEq,D.fn.injEq,yk,zU,zS,and_true,true_and,and_assoc] at h
 exact h) a0
noncomputable def G17:Ctx:=G16.with 115 YM
theorem zan:SoundAll Tryz.prog G17:=by
 refine yE (cuts:=[]) (k:=1) (cd:=c_spec_l2In) (rs:=jK) (enc:=jR) yx zaz Tryz.func115 (by kernel_rfl) (by kernel_rfl) (by kernel_rfl) (by kernel_rfl) (by kernel_rfl) (by kernel_rfl) (wk:=fun y=>nocap y) Same.nocap ?_
 intro a out ho
 obtain ⟨r,h1,h2⟩:=Option.bind_eq_some_iff.mp ho
 obtain ⟨hp,rfl⟩:=zH h1
 obtain ⟨N,hN⟩:=QF a hp
 refine ⟨N,?_⟩
 refine ((z9 (fun y=>some (nocap y)) 1 c_spec_l2In jK (jR a) ⟨rfl,rfl,rfl⟩).trans (R3 ⟨G16,[],[],[],N,jK,none,fun _ _=>none,fun y=>some (nocap y)⟩ ⟨rfl,rfl,rfl,rfl,rfl,fun _=>rfl,fun _=>rfl⟩ a)).trans ?_
 show (jO N a).bind _=_
 rw [hN]; exact h2
noncomputable def ow (a0:Int) (a1:Int):Option (Int):=yh (iJ a0 a1) (o9 a0 a1)
def ou (a:Int×Int):List X:=[.d (.int .i64 a.1),.d (.int .i64 a.2)]
noncomputable def bg:List X→Option XOut:=lay ou fun a=>((ow a.1 a.2)).bind fun r=>some (.ret (.d (.int .i64 r)) [])
theorem Ys (a0:Int) (a1:Int):bg [.d (.int .i64 a0),.d (.int .i64 a1)]=((ow a0 a1)).bind fun r=>some (.ret (.d (.int .i64 r)) []):=yi (enc:=ou) (by
 intro a b h
 simp only [ou,List.cons.injEq,X.d.injEq,X.res.injEq,RK.bld.injEq,X.agg.injEq,X.box.injEq,D.int.injEq,D.bool.injEq,D.fn.injEq,yk,zU,zS,and_true,true_and,and_assoc] at h
 simp only [Prod.ext_iff]; exact h) (a0,a1)
noncomputable def G18:Ctx:=G17.with 116 bg
theorem AW:SoundAll Tryz.prog G18:=by
 refine yE (cuts:=[]) (k:=2) (cd:=c_spec_l2Floor) (rs:=oo) (enc:=ou) yx zan Tryz.func116 (by kernel_rfl) (by kernel_rfl) (by kernel_rfl) (by kernel_rfl) (by kernel_rfl) (by kernel_rfl) (wk:=fun y=>nocap y) Same.nocap ?_
 intro a out ho
 obtain ⟨r,h1,h2⟩:=Option.bind_eq_some_iff.mp ho
 obtain ⟨hp,rfl⟩:=zH h1
 obtain ⟨N,hN⟩:=V3 a.1 a.2 hp
 refine ⟨N,?_⟩
 refine ((z9 (fun y=>some (nocap y)) 2 c_spec_l2Floor oo (ou a) ⟨rfl,rfl,rfl⟩).trans (VR ⟨G17,[],[],[],N,oo,none,fun _ _=>none,fun y=>some (nocap y)⟩ ⟨rfl,rfl,rfl,rfl,rfl,fun _=>rfl,fun _=>rfl⟩ a.1 a.2)).trans ?_
 show (nf N a.1 a.2).bind _=_
 rw [hN]; exact h2
noncomputable def mI (a0:Bool):Option (Int):=yh (gp a0) (wx a0)
def mU (a:Bool):List X:=[.d (.bool a)]
noncomputable def ab:List X→Option XOut:=lay mU fun a=>((mI a)).bind fun r=>some (.ret (.d (.int .i64 r)) [])
theorem XV (a0:Bool):ab [.d (.bool a0)]=((mI a0)).bind fun r=>some (.ret (.d (.int .i64 r)) []):=yi (enc:=mU) (by
 intro a b h
 simp only [mU,List.cons.injEq,X.d.injEq,X.res.injEq,RK.bld.injEq,X.agg.injEq,X.box.injEq,D.int.injEq,D.bool.injEq,D.fn.injEq,yk,zU,zS,and_true,true_and,and_assoc] at h
 exact h) a0
noncomputable def G19:Ctx:=G18.with 88 ab
theorem AU:SoundAll Tryz.prog G19:=by
 refine yE (cuts:=[]) (k:=1) (cd:=c_spec_l2Bool) (rs:=mi) (enc:=mU) yx AW Tryz.func88 (by kernel_rfl) (by kernel_rfl) (by kernel_rfl) (by kernel_rfl) (by kernel_rfl) (by kernel_rfl) (wk:=fun y=>nocap y) Same.nocap ?_
 intro a out ho
 obtain ⟨r,h1,h2⟩:=Option.bind_eq_some_iff.mp ho
 obtain ⟨hp,rfl⟩:=zH h1
 obtain ⟨N,hN⟩:=UI a hp
 refine ⟨N,?_⟩
 refine ((z9 (fun y=>some (nocap y)) 1 c_spec_l2Bool mi (mU a) ⟨rfl,rfl,rfl⟩).trans (UM ⟨G18,[],[],[],N,mi,none,fun _ _=>none,fun y=>some (nocap y)⟩ ⟨rfl,rfl,rfl,rfl,rfl,fun _=>rfl,fun _=>rfl⟩ a)).trans ?_
 show (n9 N a).bind _=_
 rw [hN]; exact h2
noncomputable def ki (a0:Int) (a1:Int) (a2:Int):Option (Int×Int):=yh (jo a0 a1 a2) (sB a0 a1 a2)
def lX (a:Int×Int×Int):List X:=[.d (.int .i64 a.1),.d (.int .i64 a.2.1),.d (.int .i64 a.2.2)]
noncomputable def aZ:List X→Option XOut:=lay lX fun a=>((ki a.1 a.2.1 a.2.2)).bind fun r=>some (.ret (.tup [.d (.int .i64 r.1),.d (.int .i64 r.2)]) [])
theorem WY (a0:Int) (a1:Int) (a2:Int):aZ [.d (.int .i64 a0),.d (.int .i64 a1),.d (.int .i64 a2)]=((ki a0 a1 a2)).bind fun r=>some (.ret (.tup [.d (.int .i64 r.1),.d (.int .i64 r.2)]) []):=yi (enc:=lX) (by
 intro a b h
 simp only [lX,List.cons.injEq,X.d.injEq,X.res.injEq,RK.bld.injEq,X.agg.injEq,X.box.injEq,D.int.injEq,D.bool.injEq,D.fn.injEq,yk,zU,zS,and_true,true_and,and_assoc] at h
 simp only [Prod.ext_iff]; exact h) (a0,a1,a2)
noncomputable def G20:Ctx:=G19.with 91 aZ
theorem AY:SoundAll Tryz.prog G20:=by
 refine yE (cuts:=[]) (k:=3) (cd:=c_spec_l2Two) (rs:=kw) (enc:=lX) yx AU Tryz.func91 (by kernel_rfl) (by kernel_rfl) (by kernel_rfl) (by kernel_rfl) (by kernel_rfl) (by kernel_rfl) (wk:=fun y=>nocap y) Same.nocap ?_
 intro a out ho
 obtain ⟨r,h1,h2⟩:=Option.bind_eq_some_iff.mp ho
 obtain ⟨hp,rfl⟩:=zH h1
 obtain ⟨N,hN⟩:=T4 j5 (fun _ h=>zk h) ow (fun _ _ h=>zk h) mI (fun _ h=>zk h) a.1 a.2.1 a.2.2 hp
 refine ⟨N,?_⟩
 refine ((z9 (fun y=>some (nocap y)) 3 c_spec_l2Two kw (lX a) ⟨rfl,rfl,rfl⟩).trans (SV ⟨G19,[],[],[],N,kw,none,fun _ _=>none,fun y=>some (nocap y)⟩ ⟨rfl,rfl,rfl,rfl,rfl,fun _=>rfl,fun _=>rfl⟩ j5 ⟨rfl,(fun a0=>(show G19 115 _=_ from rfl).trans (Vx a0))⟩ ow ⟨rfl,(fun a0 a1=>(show G19 116 _=_ from rfl).trans (Ys a0 a1))⟩ mI ⟨rfl,(fun a0=>(show G19 88 _=_ from rfl).trans (XV a0))⟩ a.1 a.2.1 a.2.2)).trans ?_
 show (kT j5 ow mI N a.1 a.2.1 a.2.2).bind _=_
 rw [hN]; exact h2
noncomputable def nQ (a0:Int) (za:List Int) (zb:List Int) (zt:List Int) (zA:List Int):Option (List Int×List Int×Int):=yh (lG a0 za zb zt zA) (pe a0 za zb zt zA)
def mJ (a:Int×(List Int)×(List Int)×(List Int)×(List Int)):List X:=[.d (.int .i64 a.1),.agg [.d (zf cI a.2.1),.d (zf cI a.2.2.1)],.agg [.d (zf cI a.2.2.2.1),.d (zf cI a.2.2.2.2)]]
noncomputable def ak:List X→Option XOut:=lay mJ fun a=>((nQ a.1 a.2.1 a.2.2.1 a.2.2.2.1 a.2.2.2.2)).bind fun r=>some (.ret (.tup [.agg [zo (cI) 3 none false r.1,zo (cI) 3 none false r.2.1],.d (.int .i64 r.2.2)]) [])
theorem XA (a0:Int) (za:List Int) (zb:List Int) (zt:List Int) (zA:List Int):ak [.d (.int .i64 a0),.agg [.d (zf cI za),.d (zf cI zb)],.agg [.d (zf cI zt),.d (zf cI zA)]]=((nQ a0 za zb zt zA)).bind fun r=>some (.ret (.tup [.agg [zo (cI) 3 none false r.1,zo (cI) 3 none false r.2.1],.d (.int .i64 r.2.2)]) []):=yi (enc:=mJ) (by
 intro a b h
 simp only [mJ,List.cons.injEq,X.d.injEq,X.res.injEq,RK.bld.injEq,X.agg.injEq,X.box.injEq,D.int.injEq,D.bool.injEq,D.fn.injEq,yk,zU,zS,and_true,true_and,and_assoc] at h
 simp only [Prod.ext_iff]; exact h) (a0,za,zb,zt,zA)
noncomputable def G21:Ctx:=G20.with 76 ak
theorem zaA:SoundAll Tryz.prog G21:=by
 refine yE (cuts:=[]) (k:=3) (cd:=c_spec_l2Each) (rs:=w8) (enc:=mJ) yx AY Tryz.func76 (by kernel_rfl) (by kernel_rfl) (by kernel_rfl) (by kernel_rfl) (by kernel_rfl) (by kernel_rfl) (wk:=fun y=>nocap (yw (.node [.node [.own 3 1,.own 3 1],.k]) y)) (Same.comp Same.nocap (Same.own (.node [.node [.own 3 1,.own 3 1],.k]))) ?_
 intro a out ho
 obtain ⟨r,h1,h2⟩:=Option.bind_eq_some_iff.mp ho
 obtain ⟨hp,rfl⟩:=zH h1
 obtain ⟨N,hN⟩:=UG tC (fun _ _ _ h=>zk h) tz (fun _ _ h=>zk h) yX (fun _ h=>zk h) ki (fun _ _ _ h=>zk h) a.1 a.2.1 a.2.2.1 a.2.2.2.1 a.2.2.2.2 hp
 refine ⟨N,?_⟩
 refine ((z9 (fun y=>some (nocap (yw (.node [.node [.own 3 1,.own 3 1],.k]) y))) 3 c_spec_l2Each w8 (mJ a) ⟨rfl,rfl,rfl⟩).trans (Ts ⟨G20,[],[],[],N,w8,none,fun _ _=>none,fun y=>some (nocap (yw (.node [.node [.own 3 1,.own 3 1],.k]) y))⟩ ⟨rfl,rfl,rfl,rfl,rfl,fun _=>rfl,fun _=>rfl⟩ tC ⟨rfl,(fun zg zh a1=>(show G20 95 _=_ from rfl).trans (dG zg zh a1))⟩ tz ⟨rfl,(fun a0 a1=>(show G20 55 _=_ from rfl).trans (dF a0 a1))⟩ yX ⟨rfl,(fun a0=>(show G20 33 _=_ from rfl).trans (sc a0))⟩ ki ⟨rfl,(fun a0 a1 a2=>(show G20 91 _=_ from rfl).trans (WY a0 a1 a2))⟩ a.1 a.2.1 a.2.2.1 a.2.2.2.1 a.2.2.2.2)).trans ?_
 show (nL tC tz yX ki N a.1 a.2.1 a.2.2.1 a.2.2.2.1 a.2.2.2.2).bind _=_
 rw [hN]; exact h2
noncomputable def um (a0:Int) (za:List Int) (zb:List Int):Option (List Int×List Int×Int):=yh (sX a0 za zb) (vr a0 za zb)
def pv (a:Int×(List Int)×(List Int)):List X:=[.d (.int .i64 a.1),.agg [.d (zf cI a.2.1),.d (zf cI a.2.2)]]
noncomputable def dY:List X→Option XOut:=lay pv fun a=>((um a.1 a.2.1 a.2.2)).bind fun r=>some (.ret (.tup [.agg [zo (cI) 3 none false r.1,zo (cI) 3 none false r.2.1],.d (.int .i64 r.2.2)]) [])
theorem fM (a0:Int) (za:List Int) (zb:List Int):dY [.d (.int .i64 a0),.agg [.d (zf cI za),.d (zf cI zb)]]=((um a0 za zb)).bind fun r=>some (.ret (.tup [.agg [zo (cI) 3 none false r.1,zo (cI) 3 none false r.2.1],.d (.int .i64 r.2.2)]) []):=yi (enc:=pv) (by
 intro a b h
 simp only [pv,List.cons.injEq,X.d.injEq,X.res.injEq,RK.bld.injEq,X.agg.injEq,X.box.injEq,D.int.injEq,D.bool.injEq,D.fn.injEq,yk,zU,zS,and_true,true_and,and_assoc] at h
 simp only [Prod.ext_iff]; exact h) (a0,za,zb)
noncomputable def G22:Ctx:=G21.with 36 dY
theorem Az:SoundAll Tryz.prog G22:=by
 refine yE (cuts:=[]) (k:=2) (cd:=c_spec_l2Reduce) (rs:=tt) (enc:=pv) yx zaA Tryz.func36 (by kernel_rfl) (by kernel_rfl) (by kernel_rfl) (by kernel_rfl) (by kernel_rfl) (by kernel_rfl) (wk:=fun y=>nocap (yw (.node [.node [.own 3 1,.own 3 1],.k]) y)) (Same.comp Same.nocap (Same.own (.node [.node [.own 3 1,.own 3 1],.k]))) ?_
 intro a out ho
 obtain ⟨r,h1,h2⟩:=Option.bind_eq_some_iff.mp ho
 obtain ⟨hp,rfl⟩:=zH h1
 obtain ⟨N,hN⟩:=Wa yX (fun _ h=>zk h) nX (fun _ h=>zk h) tE (fun _ _ h=>zk h) tC (fun _ _ _ h=>zk h) km (fun _ _ _ h=>zk h) nQ (fun _ _ _ _ _ h=>zk h) a.1 a.2.1 a.2.2 hp
 refine ⟨N,?_⟩
 refine ((z9 (fun y=>some (nocap (yw (.node [.node [.own 3 1,.own 3 1],.k]) y))) 2 c_spec_l2Reduce tt (pv a) ⟨rfl,rfl,rfl⟩).trans (Wk ⟨G21,[],[],[],N,tt,none,fun _ _=>none,fun y=>some (nocap (yw (.node [.node [.own 3 1,.own 3 1],.k]) y))⟩ ⟨rfl,rfl,rfl,rfl,rfl,fun _=>rfl,fun _=>rfl⟩ yX ⟨rfl,(fun a0=>(show G21 33 _=_ from rfl).trans (sc a0))⟩ nX ⟨rfl,(fun a0=>(show G21 94 _=_ from rfl).trans (Xe a0))⟩ tE ⟨rfl,(fun a0 a1=>(show G21 90 _=_ from rfl).trans (eZ a0 a1))⟩ tC ⟨rfl,(fun zg zh a1=>(show G21 95 _=_ from rfl).trans (dG zg zh a1))⟩ km ⟨rfl,(fun zg zh a1=>(show G21 96 _=_ from rfl).trans (Wn zg zh a1))⟩ nQ ⟨rfl,(fun a0 za zb zt zA=>(show G21 76 _=_ from rfl).trans (XA a0 za zb zt zA))⟩ a.1 a.2.1 a.2.2)).trans ?_
 show (pS yX nX tE tC km nQ N a.1 a.2.1 a.2.2).bind _=_
 rw [hN]; exact h2
noncomputable def mZ (a0:Int) (za:List Int) (zb:List Int):Option (List Int×List Int×Int):=yh (pA a0 za zb) (xy a0 za zb)
def mD (a:Int×(List Int)×(List Int)):List X:=[.d (.int .i64 a.1),.agg [.d (zf cI a.2.1),.d (zf cI a.2.2)]]
noncomputable def ag:List X→Option XOut:=lay mD fun a=>((mZ a.1 a.2.1 a.2.2)).bind fun r=>some (.ret (.tup [.agg [zo (cI) 3 none false r.1,zo (cI) 3 none false r.2.1],.d (.int .i64 r.2.2)]) [])
theorem Xc (a0:Int) (za:List Int) (zb:List Int):ag [.d (.int .i64 a0),.agg [.d (zf cI za),.d (zf cI zb)]]=((mZ a0 za zb)).bind fun r=>some (.ret (.tup [.agg [zo (cI) 3 none false r.1,zo (cI) 3 none false r.2.1],.d (.int .i64 r.2.2)]) []):=yi (enc:=mD) (by
 intro a b h
 simp only [mD,List.cons.injEq,X.d.injEq,X.res.injEq,RK.bld.injEq,X.agg.injEq,X.box.injEq,D.int.injEq,D.bool.injEq,D.fn.injEq,yk,zU,zS,and_true,true_and,and_assoc] at h
 simp only [Prod.ext_iff]; exact h) (a0,za,zb)
noncomputable def G23:Ctx:=G22.with 6 ag
theorem zat:SoundAll Tryz.prog G23:=by
 refine yE (cuts:=[]) (k:=2) (cd:=c_spec_Reduce) (rs:=mg) (enc:=mD) yx Az Tryz.func6 (by kernel_rfl) (by kernel_rfl) (by kernel_rfl) (by kernel_rfl) (by kernel_rfl) (by kernel_rfl) (wk:=fun y=>nocap (yw (.node [.node [.own 3 1,.own 3 1],.k]) y)) (Same.comp Same.nocap (Same.own (.node [.node [.own 3 1,.own 3 1],.k]))) ?_
 intro a out ho
 obtain ⟨r,h1,h2⟩:=Option.bind_eq_some_iff.mp ho
 obtain ⟨hp,rfl⟩:=zH h1
 obtain ⟨N,hN⟩:=Tj tA (fun _ h=>zk h) uP (fun _ _ h=>zk h) um (fun _ _ _ h=>zk h) a.1 a.2.1 a.2.2 hp
 refine ⟨N,?_⟩
 refine ((z9 (fun y=>some (nocap (yw (.node [.node [.own 3 1,.own 3 1],.k]) y))) 2 c_spec_Reduce mg (mD a) ⟨rfl,rfl,rfl⟩).trans (UC ⟨G22,[],[],[],N,mg,none,fun _ _=>none,fun y=>some (nocap (yw (.node [.node [.own 3 1,.own 3 1],.k]) y))⟩ ⟨rfl,rfl,rfl,rfl,rfl,fun _=>rfl,fun _=>rfl⟩ tA ⟨rfl,(fun a0=>(show G22 34 _=_ from rfl).trans (du a0))⟩ uP ⟨rfl,(fun zg zh=>(show G22 35 _=_ from rfl).trans (eo zg zh))⟩ um ⟨rfl,(fun a0 za zb=>(show G22 36 _=_ from rfl).trans (fM a0 za zb))⟩ a.1 a.2.1 a.2.2)).trans ?_
 show (mG tA uP um N a.1 a.2.1 a.2.2).bind _=_
 rw [hN]; exact h2
noncomputable def oC (zg:List Int) (zh:List Int) (a1:Int):Option (List Int×List Int):=yh (nI zg zh a1) (rm zg zh a1)
def nj (a:(List Int)×(List Int)×Int):List X:=[.agg [.d (zf cI a.1),.d (zf cI a.2.1)],.d (.int .i64 a.2.2)]
noncomputable def cX:List X→Option XOut:=lay nj fun a=>((oC a.1 a.2.1 a.2.2)).bind fun r=>some (.ret (.agg [zo (cI) 3 none false r.1,zo (cI) 3 none false r.2]) [])
theorem Yn (zg:List Int) (zh:List Int) (a1:Int):cX [.agg [.d (zf cI zg),.d (zf cI zh)],.d (.int .i64 a1)]=((oC zg zh a1)).bind fun r=>some (.ret (.agg [zo (cI) 3 none false r.1,zo (cI) 3 none false r.2]) []):=yi (enc:=nj) (by
 intro a b h
 simp only [nj,List.cons.injEq,X.d.injEq,X.res.injEq,RK.bld.injEq,X.agg.injEq,X.box.injEq,D.int.injEq,D.bool.injEq,D.fn.injEq,yk,zU,zS,and_true,true_and,and_assoc] at h
 simp only [Prod.ext_iff]; exact h) (zg,zh,a1)
noncomputable def G24:Ctx:=G23.with 37 cX
theorem zav:SoundAll Tryz.prog G24:=by
 refine yE (cuts:=[17]) (k:=2) (cd:=c_spec_l2First) (rs:=oP) (enc:=nj) yx zat Tryz.func37 (by kernel_rfl) (by kernel_rfl) (by kernel_rfl) (by kernel_rfl) (by kernel_rfl) (by kernel_rfl) (wk:=fun y=>nocap y) Same.nocap ?_
 intro a out ho
 obtain ⟨r,h1,h2⟩:=Option.bind_eq_some_iff.mp ho
 obtain ⟨hp,rfl⟩:=zH h1
 obtain ⟨N,hN⟩:=VE yG (fun _ h=>zk h) yX (fun _ h=>zk h) a.1 a.2.1 a.2.2 hp
 refine ⟨N,?_⟩
 refine ((z9 (fun y=>some (nocap y)) 2 c_spec_l2First oP (nj a) ⟨rfl,rfl,rfl⟩).trans (Vz ⟨G23,[],[],[],N,oP,none,fun _ _=>none,fun y=>some (nocap y)⟩ ⟨rfl,rfl,rfl,rfl,rfl,fun _=>rfl,fun _=>rfl⟩ yG ⟨rfl,(fun a0=>(show G23 92 _=_ from rfl).trans (ux a0))⟩ yX ⟨rfl,(fun a0=>(show G23 33 _=_ from rfl).trans (sc a0))⟩ a.1 a.2.1 a.2.2)).trans ?_
 show (oL yG yX N a.1 a.2.1 a.2.2).bind _=_
 rw [hN]; exact h2
noncomputable def oz (a0:List Int) (a1:List TArray):Option (List Int×List Int×Int):=yh (nt a0 a1) (rg a0 a1)
def oG (a:(List Int)×(List TArray)):List X:=[.d (zf cI a.1),.d (zf cArray a.2)]
noncomputable def cZ:List X→Option XOut:=lay oG fun a=>((oz a.1 a.2)).bind fun r=>some (.ret (.tup [.agg [zo (cI) 3 none false r.1,zo (cI) 3 none false r.2.1],.d (.int .i64 r.2.2)]) [])
theorem Yo (a0:List Int) (a1:List TArray):cZ [.d (zf cI a0),.d (zf cArray a1)]=((oz a0 a1)).bind fun r=>some (.ret (.tup [.agg [zo (cI) 3 none false r.1,zo (cI) 3 none false r.2.1],.d (.int .i64 r.2.2)]) []):=yi (enc:=oG) (by
 intro a b h
 simp only [oG,List.cons.injEq,X.d.injEq,X.res.injEq,RK.bld.injEq,X.agg.injEq,X.box.injEq,D.int.injEq,D.bool.injEq,D.fn.injEq,yk,zU,zS,and_true,true_and,and_assoc] at h
 simp only [Prod.ext_iff]; exact h) (a0,a1)
noncomputable def G25:Ctx:=G24.with 38 cZ
theorem AT:SoundAll Tryz.prog G25:=by
 refine yE (cuts:=[]) (k:=2) (cd:=c_spec_l2Stack) (rs:=tT) (enc:=oG) yx zav Tryz.func38 (by kernel_rfl) (by kernel_rfl) (by kernel_rfl) (by kernel_rfl) (by kernel_rfl) (by kernel_rfl) (wk:=fun y=>nocap (yw (.node [.node [.own 3 1,.own 3 1],.k]) y)) (Same.comp Same.nocap (Same.own (.node [.node [.own 3 1,.own 3 1],.k]))) ?_
 intro a out ho
 obtain ⟨r,h1,h2⟩:=Option.bind_eq_some_iff.mp ho
 obtain ⟨hp,rfl⟩:=zH h1
 obtain ⟨N,hN⟩:=VQ tE (fun _ _ h=>zk h) a.1 a.2 hp
 refine ⟨N,?_⟩
 refine ((z9 (fun y=>some (nocap (yw (.node [.node [.own 3 1,.own 3 1],.k]) y))) 2 c_spec_l2Stack tT (oG a) ⟨rfl,rfl,rfl⟩).trans (W4 ⟨G24,[],[],[],N,tT,none,fun _ _=>none,fun y=>some (nocap (yw (.node [.node [.own 3 1,.own 3 1],.k]) y))⟩ ⟨rfl,rfl,rfl,rfl,rfl,fun _=>rfl,fun _=>rfl⟩ tE ⟨rfl,(fun a0 a1=>(show G24 90 _=_ from rfl).trans (eZ a0 a1))⟩ a.1 a.2)).trans ?_
 show (oT tE N a.1 a.2).bind _=_
 rw [hN]; exact h2
noncomputable def jN (a0:Int) (za:List Int) (zb:List Int):Option (List Int×List Int×Int):=yh (ip a0 za zb) (u7 a0 za zb)
def jL (a:Int×(List Int)×(List Int)):List X:=[.d (.int .i64 a.1),.agg [.d (zf cI a.2.1),.d (zf cI a.2.2)]]
noncomputable def YA:List X→Option XOut:=lay jL fun a=>((jN a.1 a.2.1 a.2.2)).bind fun r=>some (.ret (.tup [.agg [zo (cI) 3 none false r.1,zo (cI) 3 none false r.2.1],.d (.int .i64 r.2.2)]) [])
theorem VM (a0:Int) (za:List Int) (zb:List Int):YA [.d (.int .i64 a0),.agg [.d (zf cI za),.d (zf cI zb)]]=((jN a0 za zb)).bind fun r=>some (.ret (.tup [.agg [zo (cI) 3 none false r.1,zo (cI) 3 none false r.2.1],.d (.int .i64 r.2.2)]) []):=yi (enc:=jL) (by
 intro a b h
 simp only [jL,List.cons.injEq,X.d.injEq,X.res.injEq,RK.bld.injEq,X.agg.injEq,X.box.injEq,D.int.injEq,D.bool.injEq,D.fn.injEq,yk,zU,zS,and_true,true_and,and_assoc] at h
 simp only [Prod.ext_iff]; exact h) (a0,za,zb)
noncomputable def G26:Ctx:=G25.with 7 YA
theorem AZ:SoundAll Tryz.prog G26:=by
 refine yE (cuts:=[]) (k:=2) (cd:=c_spec_Scan) (rs:=pX) (enc:=jL) yx AT Tryz.func7 (by kernel_rfl) (by kernel_rfl) (by kernel_rfl) (by kernel_rfl) (by kernel_rfl) (by kernel_rfl) (wk:=fun y=>nocap (yw (.node [.node [.own 3 1,.own 3 1],.k]) y)) (Same.comp Same.nocap (Same.own (.node [.node [.own 3 1,.own 3 1],.k]))) ?_
 intro a out ho
 obtain ⟨r,h1,h2⟩:=Option.bind_eq_some_iff.mp ho
 obtain ⟨hp,rfl⟩:=zH h1
 obtain ⟨N,hN⟩:=RY tA (fun _ h=>zk h) uP (fun _ _ h=>zk h) um (fun _ _ _ h=>zk h) oC (fun _ _ _ h=>zk h) oz (fun _ _ h=>zk h) a.1 a.2.1 a.2.2 hp
 refine ⟨N,?_⟩
 refine ((z9 (fun y=>some (nocap (yw (.node [.node [.own 3 1,.own 3 1],.k]) y))) 2 c_spec_Scan pX (jL a) ⟨rfl,rfl,rfl⟩).trans (RT ⟨G25,[],[],[],N,pX,none,fun _ _=>none,fun y=>some (nocap (yw (.node [.node [.own 3 1,.own 3 1],.k]) y))⟩ ⟨rfl,rfl,rfl,rfl,rfl,fun _=>rfl,fun _=>rfl⟩ tA ⟨rfl,(fun a0=>(show G25 34 _=_ from rfl).trans (du a0))⟩ uP ⟨rfl,(fun zg zh=>(show G25 35 _=_ from rfl).trans (eo zg zh))⟩ um ⟨rfl,(fun a0 za zb=>(show G25 36 _=_ from rfl).trans (fM a0 za zb))⟩ oC ⟨rfl,(fun zg zh a1=>(show G25 37 _=_ from rfl).trans (Yn zg zh a1))⟩ oz ⟨rfl,(fun a0 a1=>(show G25 38 _=_ from rfl).trans (Yo a0 a1))⟩ a.1 a.2.1 a.2.2)).trans ?_
 show (j6 tA uP um oC oz N a.1 a.2.1 a.2.2).bind _=_
 rw [hN]; exact h2
noncomputable def xJ (a0:Int):Option (Res (Int)):=yh (tY a0) (wG a0)
def ox (a:Int):List X:=[.d (.int .i64 a)]
noncomputable def bq:List X→Option XOut:=lay ox fun a=>((xJ a)).bind fun r=>r.on (fun r=>some (.ret (.d (.int .i64 r)) [])) (fun x=>some (.pan x []))
theorem oe (a0:Int):bq [.d (.int .i64 a0)]=((xJ a0)).bind fun r=>r.on (fun r=>some (.ret (.d (.int .i64 r)) [])) (fun x=>some (.pan x [])):=yi (enc:=ox) (by
 intro a b h
 simp only [ox,List.cons.injEq,X.d.injEq,X.res.injEq,RK.bld.injEq,X.agg.injEq,X.box.injEq,D.int.injEq,D.bool.injEq,D.fn.injEq,yk,zU,zS,and_true,true_and,and_assoc] at h
 exact h) a0
noncomputable def G27:Ctx:=G26.with 118 bq
theorem AQ:SoundAll Tryz.prog G27:=by
 refine yE (cuts:=[]) (k:=1) (cd:=c_impl_inRange) (rs:=o5) (enc:=ox) yx AZ Tryz.func118 (by kernel_rfl) (by kernel_rfl) (by kernel_rfl) (by kernel_rfl) (by kernel_rfl) (by kernel_rfl) (wk:=fun y=>nocap y) Same.nocap ?_
 intro a out ho
 obtain ⟨r,h1,h2⟩:=Option.bind_eq_some_iff.mp ho
 obtain ⟨hp,rfl⟩:=zH h1
 obtain ⟨N,hN⟩:=Vt a hp
 refine ⟨N,?_⟩
 refine ((z9 (fun y=>some (nocap y)) 1 c_impl_inRange o5 (ox a) ⟨rfl,rfl,rfl⟩).trans (V5 ⟨G26,[],[],[],N,o5,none,fun _ _=>none,fun y=>some (nocap y)⟩ ⟨rfl,rfl,rfl,rfl,rfl,fun _=>rfl,fun _=>rfl⟩ a)).trans ?_
 show (oM N a).bind _=_
 rw [hN]; exact h2
noncomputable def vV (a0:Int) (a1:Int):Option (Res (Int)):=yh (uS a0 a1) (rJ a0 a1)
def qx (a:Int×Int):List X:=[.d (.int .i64 a.1),.d (.int .i64 a.2)]
noncomputable def wY:List X→Option XOut:=lay qx fun a=>((vV a.1 a.2)).bind fun r=>r.on (fun r=>some (.ret (.d (.int .i64 r)) [])) (fun x=>some (.pan x []))
theorem qQ (a0:Int) (a1:Int):wY [.d (.int .i64 a0),.d (.int .i64 a1)]=((vV a0 a1)).bind fun r=>r.on (fun r=>some (.ret (.d (.int .i64 r)) [])) (fun x=>some (.pan x [])):=yi (enc:=qx) (by
 intro a b h
 simp only [qx,List.cons.injEq,X.d.injEq,X.res.injEq,RK.bld.injEq,X.agg.injEq,X.box.injEq,D.int.injEq,D.bool.injEq,D.fn.injEq,yk,zU,zS,and_true,true_and,and_assoc] at h
 simp only [Prod.ext_iff]; exact h) (a0,a1)
noncomputable def G28:Ctx:=G27.with 117 wY
theorem Dq:SoundAll Tryz.prog G28:=by
 refine yE (cuts:=[]) (k:=2) (cd:=c_impl_cellOps_1) (rs:=qk) (enc:=qx) yx AQ Tryz.func117 (by kernel_rfl) (by kernel_rfl) (by kernel_rfl) (by kernel_rfl) (by kernel_rfl) (by kernel_rfl) (wk:=fun y=>nocap y) Same.nocap ?_
 intro a out ho
 obtain ⟨r,h1,h2⟩:=Option.bind_eq_some_iff.mp ho
 obtain ⟨hp,rfl⟩:=zH h1
 obtain ⟨N,hN⟩:=XS xJ (fun _ h=>zk h) a.1 a.2 hp
 refine ⟨N,?_⟩
 refine ((z9 (fun y=>some (nocap y)) 2 c_impl_cellOps_1 qk (qx a) ⟨rfl,rfl,rfl⟩).trans (XR ⟨G27,[],[],[],N,qk,none,fun _ _=>none,fun y=>some (nocap y)⟩ ⟨rfl,rfl,rfl,rfl,rfl,fun _=>rfl,fun _=>rfl⟩ xJ ⟨rfl,(fun a0=>(show G27 118 _=_ from rfl).trans (oe a0))⟩ a.1 a.2)).trans ?_
 show (rY xJ N a.1 a.2).bind _=_
 rw [hN]; exact h2
theorem l6:Sound Tryz.prog 117 wY:=by
 have h:=Dq 117
 exact h
noncomputable def vG (a0:Int) (a1:Int):Option (Res (Int)):=yh (uY a0 a1) (rX a0 a1)
def rO (a:Int×Int):List X:=[.d (.int .i64 a.1),.d (.int .i64 a.2)]
noncomputable def wT:List X→Option XOut:=lay rO fun a=>((vG a.1 a.2)).bind fun r=>r.on (fun r=>some (.ret (.d (.int .i64 r)) [])) (fun x=>some (.pan x []))
theorem qS (a0:Int) (a1:Int):wT [.d (.int .i64 a0),.d (.int .i64 a1)]=((vG a0 a1)).bind fun r=>r.on (fun r=>some (.ret (.d (.int .i64 r)) [])) (fun x=>some (.pan x [])):=yi (enc:=rO) (by
 intro a b h
 simp only [rO,List.cons.injEq,X.d.injEq,X.res.injEq,RK.bld.injEq,X.agg.injEq,X.box.injEq,D.int.injEq,D.bool.injEq,D.fn.injEq,yk,zU,zS,and_true,true_and,and_assoc] at h
 simp only [Prod.ext_iff]; exact h) (a0,a1)
noncomputable def G29:Ctx:=G28.with 119 wT
theorem CX:SoundAll Tryz.prog G29:=by
 refine yE (cuts:=[]) (k:=2) (cd:=c_impl_cellOps_2) (rs:=qd) (enc:=rO) yx Dq Tryz.func119 (by kernel_rfl) (by kernel_rfl) (by kernel_rfl) (by kernel_rfl) (by kernel_rfl) (by kernel_rfl) (wk:=fun y=>nocap y) Same.nocap ?_
 intro a out ho
 obtain ⟨r,h1,h2⟩:=Option.bind_eq_some_iff.mp ho
 obtain ⟨hp,rfl⟩:=zH h1
 obtain ⟨N,hN⟩:=XI xJ (fun _ h=>zk h) a.1 a.2 hp
 refine ⟨N,?_⟩
 refine ((z9 (fun y=>some (nocap y)) 2 c_impl_cellOps_2 qd (rO a) ⟨rfl,rfl,rfl⟩).trans (XL ⟨G28,[],[],[],N,qd,none,fun _ _=>none,fun y=>some (nocap y)⟩ ⟨rfl,rfl,rfl,rfl,rfl,fun _=>rfl,fun _=>rfl⟩ xJ ⟨rfl,(fun a0=>(show G28 118 _=_ from rfl).trans (oe a0))⟩ a.1 a.2)).trans ?_
 show (qC xJ N a.1 a.2).bind _=_
 rw [hN]; exact h2
theorem kl:Sound Tryz.prog 119 wT:=by
 have h:=CX 119
 exact h
noncomputable def vF (a0:Int) (a1:Int):Option (Res (Int)):=yh (uU a0 a1) (rZ a0 a1)
def qO (a:Int×Int):List X:=[.d (.int .i64 a.1),.d (.int .i64 a.2)]
noncomputable def wP:List X→Option XOut:=lay qO fun a=>((vF a.1 a.2)).bind fun r=>r.on (fun r=>some (.ret (.d (.int .i64 r)) [])) (fun x=>some (.pan x []))
theorem qP (a0:Int) (a1:Int):wP [.d (.int .i64 a0),.d (.int .i64 a1)]=((vF a0 a1)).bind fun r=>r.on (fun r=>some (.ret (.d (.int .i64 r)) [])) (fun x=>some (.pan x [])):=yi (enc:=qO) (by
 intro a b h
 simp only [qO,List.cons.injEq,X.d.injEq,X.res.injEq,RK.bld.injEq,X.agg.injEq,X.box.injEq,D.int.injEq,D.bool.injEq,D.fn.injEq,yk,zU,zS,and_true,true_and,and_assoc] at h
 simp only [Prod.ext_iff]; exact h) (a0,a1)
noncomputable def G30:Ctx:=G29.with 120 wP
theorem DL:SoundAll Tryz.prog G30:=by
 refine yE (cuts:=[]) (k:=2) (cd:=c_impl_cellOps_3) (rs:=qE) (enc:=qO) yx CX Tryz.func120 (by kernel_rfl) (by kernel_rfl) (by kernel_rfl) (by kernel_rfl) (by kernel_rfl) (by kernel_rfl) (wk:=fun y=>nocap y) Same.nocap ?_
 intro a out ho
 obtain ⟨r,h1,h2⟩:=Option.bind_eq_some_iff.mp ho
 obtain ⟨hp,rfl⟩:=zH h1
 obtain ⟨N,hN⟩:=Xt xJ (fun _ h=>zk h) a.1 a.2 hp
 refine ⟨N,?_⟩
 refine ((z9 (fun y=>some (nocap y)) 2 c_impl_cellOps_3 qE (qO a) ⟨rfl,rfl,rfl⟩).trans (Y7 ⟨G29,[],[],[],N,qE,none,fun _ _=>none,fun y=>some (nocap y)⟩ ⟨rfl,rfl,rfl,rfl,rfl,fun _=>rfl,fun _=>rfl⟩ xJ ⟨rfl,(fun a0=>(show G29 118 _=_ from rfl).trans (oe a0))⟩ a.1 a.2)).trans ?_
 show (rL xJ N a.1 a.2).bind _=_
 rw [hN]; exact h2
theorem l9:Sound Tryz.prog 120 wP:=by
 have h:=DL 120
 exact h
noncomputable def px (a0:Int) (a1:Int):Option (Res (Int)):=yh (jA a0 a1) (pq a0 a1)
def pz (a:Int×Int):List X:=[.d (.int .i64 a.1),.d (.int .i64 a.2)]
noncomputable def cw:List X→Option XOut:=lay pz fun a=>((px a.1 a.2)).bind fun r=>r.on (fun r=>some (.ret (.d (.int .i64 r)) [])) (fun x=>some (.pan x []))
theorem Zp (a0:Int) (a1:Int):cw [.d (.int .i64 a0),.d (.int .i64 a1)]=((px a0 a1)).bind fun r=>r.on (fun r=>some (.ret (.d (.int .i64 r)) [])) (fun x=>some (.pan x [])):=yi (enc:=pz) (by
 intro a b h
 simp only [pz,List.cons.injEq,X.d.injEq,X.res.injEq,RK.bld.injEq,X.agg.injEq,X.box.injEq,D.int.injEq,D.bool.injEq,D.fn.injEq,yk,zU,zS,and_true,true_and,and_assoc] at h
 simp only [Prod.ext_iff]; exact h) (a0,a1)
noncomputable def G31:Ctx:=G30.with 122 cw
theorem zas:SoundAll Tryz.prog G31:=by
 refine yE (cuts:=[]) (k:=2) (cd:=c_impl_floorDiv) (rs:=pH) (enc:=pz) yx DL Tryz.func122 (by kernel_rfl) (by kernel_rfl) (by kernel_rfl) (by kernel_rfl) (by kernel_rfl) (by kernel_rfl) (wk:=fun y=>nocap y) Same.nocap ?_
 intro a out ho
 obtain ⟨r,h1,h2⟩:=Option.bind_eq_some_iff.mp ho
 obtain ⟨hp,rfl⟩:=zH h1
 obtain ⟨N,hN⟩:=Wo a.1 a.2 hp
 refine ⟨N,?_⟩
 refine ((z9 (fun y=>some (nocap y)) 2 c_impl_floorDiv pH (pz a) ⟨rfl,rfl,rfl⟩).trans (Wq ⟨G30,[],[],[],N,pH,none,fun _ _=>none,fun y=>some (nocap y)⟩ ⟨rfl,rfl,rfl,rfl,rfl,fun _=>rfl,fun _=>rfl⟩ a.1 a.2)).trans ?_
 show (pF N a.1 a.2).bind _=_
 rw [hN]; exact h2
noncomputable def vU (a0:Int) (a1:Int):Option (Res (Int)):=yh (uT a0 a1) (qj a0 a1)
def qh (a:Int×Int):List X:=[.d (.int .i64 a.1),.d (.int .i64 a.2)]
noncomputable def wV:List X→Option XOut:=lay qh fun a=>((vU a.1 a.2)).bind fun r=>r.on (fun r=>some (.ret (.d (.int .i64 r)) [])) (fun x=>some (.pan x []))
theorem qX (a0:Int) (a1:Int):wV [.d (.int .i64 a0),.d (.int .i64 a1)]=((vU a0 a1)).bind fun r=>r.on (fun r=>some (.ret (.d (.int .i64 r)) [])) (fun x=>some (.pan x [])):=yi (enc:=qh) (by
 intro a b h
 simp only [qh,List.cons.injEq,X.d.injEq,X.res.injEq,RK.bld.injEq,X.agg.injEq,X.box.injEq,D.int.injEq,D.bool.injEq,D.fn.injEq,yk,zU,zS,and_true,true_and,and_assoc] at h
 simp only [Prod.ext_iff]; exact h) (a0,a1)
noncomputable def G32:Ctx:=G31.with 121 wV
theorem EH:SoundAll Tryz.prog G32:=by
 refine yE (cuts:=[]) (k:=2) (cd:=c_impl_cellOps_4) (rs:=qA) (enc:=qh) yx zas Tryz.func121 (by kernel_rfl) (by kernel_rfl) (by kernel_rfl) (by kernel_rfl) (by kernel_rfl) (by kernel_rfl) (wk:=fun y=>nocap y) Same.nocap ?_
 intro a out ho
 obtain ⟨r,h1,h2⟩:=Option.bind_eq_some_iff.mp ho
 obtain ⟨hp,rfl⟩:=zH h1
 obtain ⟨N,hN⟩:=Xr px (fun _ _ h=>zk h) xJ (fun _ h=>zk h) a.1 a.2 hp
 refine ⟨N,?_⟩
 refine ((z9 (fun y=>some (nocap y)) 2 c_impl_cellOps_4 qA (qh a) ⟨rfl,rfl,rfl⟩).trans (YW ⟨G31,[],[],[],N,qA,none,fun _ _=>none,fun y=>some (nocap y)⟩ ⟨rfl,rfl,rfl,rfl,rfl,fun _=>rfl,fun _=>rfl⟩ px ⟨rfl,(fun a0 a1=>(show G31 122 _=_ from rfl).trans (Zp a0 a1))⟩ xJ ⟨rfl,(fun a0=>(show G31 118 _=_ from rfl).trans (oe a0))⟩ a.1 a.2)).trans ?_
 show (rD px xJ N a.1 a.2).bind _=_
 rw [hN]; exact h2
theorem kf:Sound Tryz.prog 121 wV:=by
 have h:=EH 121
 exact h
noncomputable def uQ (a0:Int) (a1:Int):Option (Int):=yh (t6 a0 a1) (o6 a0 a1)
def oO (a:Int×Int):List X:=[.d (.int .i64 a.1),.d (.int .i64 a.2)]
noncomputable def uh:List X→Option XOut:=lay oO fun a=>((uQ a.1 a.2)).bind fun r=>some (.ret (.d (.int .i64 r)) [])
theorem p8 (a0:Int) (a1:Int):uh [.d (.int .i64 a0),.d (.int .i64 a1)]=((uQ a0 a1)).bind fun r=>some (.ret (.d (.int .i64 r)) []):=yi (enc:=oO) (by
 intro a b h
 simp only [oO,List.cons.injEq,X.d.injEq,X.res.injEq,RK.bld.injEq,X.agg.injEq,X.box.injEq,D.int.injEq,D.bool.injEq,D.fn.injEq,yk,zU,zS,and_true,true_and,and_assoc] at h
 simp only [Prod.ext_iff]; exact h) (a0,a1)
noncomputable def G33:Ctx:=G32.with 123 uh
theorem EK:SoundAll Tryz.prog G33:=by
 refine yE (cuts:=[]) (k:=2) (cd:=c_impl_residue) (rs:=nm) (enc:=oO) yx EH Tryz.func123 (by kernel_rfl) (by kernel_rfl) (by kernel_rfl) (by kernel_rfl) (by kernel_rfl) (by kernel_rfl) (wk:=fun y=>nocap y) Same.nocap ?_
 intro a out ho
 obtain ⟨r,h1,h2⟩:=Option.bind_eq_some_iff.mp ho
 obtain ⟨hp,rfl⟩:=zH h1
 obtain ⟨N,hN⟩:=Vs a.1 a.2 hp
 refine ⟨N,?_⟩
 refine ((z9 (fun y=>some (nocap y)) 2 c_impl_residue nm (oO a) ⟨rfl,rfl,rfl⟩).trans (V7 ⟨G32,[],[],[],N,nm,none,fun _ _=>none,fun y=>some (nocap y)⟩ ⟨rfl,rfl,rfl,rfl,rfl,fun _=>rfl,fun _=>rfl⟩ a.1 a.2)).trans ?_
 show (oV N a.1 a.2).bind _=_
 rw [hN]; exact h2
theorem iA:Sound Tryz.prog 123 uh:=by
 have h:=EK 123
 exact h
noncomputable def vK (a0:Int) (a1:Int):Option (Int):=yh (u2 a0 a1) (rG a0 a1)
def rN (a:Int×Int):List X:=[.d (.int .i64 a.1),.d (.int .i64 a.2)]
noncomputable def w4:List X→Option XOut:=lay rN fun a=>((vK a.1 a.2)).bind fun r=>some (.ret (.d (.int .i64 r)) [])
theorem qT (a0:Int) (a1:Int):w4 [.d (.int .i64 a0),.d (.int .i64 a1)]=((vK a0 a1)).bind fun r=>some (.ret (.d (.int .i64 r)) []):=yi (enc:=rN) (by
 intro a b h
 simp only [rN,List.cons.injEq,X.d.injEq,X.res.injEq,RK.bld.injEq,X.agg.injEq,X.box.injEq,D.int.injEq,D.bool.injEq,D.fn.injEq,yk,zU,zS,and_true,true_and,and_assoc] at h
 simp only [Prod.ext_iff]; exact h) (a0,a1)
noncomputable def G34:Ctx:=G33.with 124 w4
theorem Df:SoundAll Tryz.prog G34:=by
 refine yE (cuts:=[]) (k:=2) (cd:=c_impl_cellOps_5) (rs:=qw) (enc:=rN) yx EK Tryz.func124 (by kernel_rfl) (by kernel_rfl) (by kernel_rfl) (by kernel_rfl) (by kernel_rfl) (by kernel_rfl) (wk:=fun y=>nocap y) Same.nocap ?_
 intro a out ho
 obtain ⟨r,h1,h2⟩:=Option.bind_eq_some_iff.mp ho
 obtain ⟨hp,rfl⟩:=zH h1
 obtain ⟨N,hN⟩:=Xw a.1 a.2 hp
 refine ⟨N,?_⟩
 refine ((z9 (fun y=>some (nocap y)) 2 c_impl_cellOps_5 qw (rN a) ⟨rfl,rfl,rfl⟩).trans (Xa ⟨G33,[],[],[],N,qw,none,fun _ _=>none,fun y=>some (nocap y)⟩ ⟨rfl,rfl,rfl,rfl,rfl,fun _=>rfl,fun _=>rfl⟩ a.1 a.2)).trans ?_
 show (rr N a.1 a.2).bind _=_
 rw [hN]; exact h2
theorem k7:Sound Tryz.prog 124 w4:=by
 have h:=Df 124
 exact h
noncomputable def vR (a0:Int) (a1:Int):Option (Int):=yh (uV a0 a1) (rt a0 a1)
def qN (a:Int×Int):List X:=[.d (.int .i64 a.1),.d (.int .i64 a.2)]
noncomputable def wZ:List X→Option XOut:=lay qN fun a=>((vR a.1 a.2)).bind fun r=>some (.ret (.d (.int .i64 r)) [])
theorem qU (a0:Int) (a1:Int):wZ [.d (.int .i64 a0),.d (.int .i64 a1)]=((vR a0 a1)).bind fun r=>some (.ret (.d (.int .i64 r)) []):=yi (enc:=qN) (by
 intro a b h
 simp only [qN,List.cons.injEq,X.d.injEq,X.res.injEq,RK.bld.injEq,X.agg.injEq,X.box.injEq,D.int.injEq,D.bool.injEq,D.fn.injEq,yk,zU,zS,and_true,true_and,and_assoc] at h
 simp only [Prod.ext_iff]; exact h) (a0,a1)
noncomputable def G35:Ctx:=G34.with 125 wZ
theorem Ck:SoundAll Tryz.prog G35:=by
 refine yE (cuts:=[]) (k:=2) (cd:=c_impl_cellOps_6) (rs:=ql) (enc:=qN) yx Df Tryz.func125 (by kernel_rfl) (by kernel_rfl) (by kernel_rfl) (by kernel_rfl) (by kernel_rfl) (by kernel_rfl) (wk:=fun y=>nocap y) Same.nocap ?_
 intro a out ho
 obtain ⟨r,h1,h2⟩:=Option.bind_eq_some_iff.mp ho
 obtain ⟨hp,rfl⟩:=zH h1
 obtain ⟨N,hN⟩:=Y4 a.1 a.2 hp
 refine ⟨N,?_⟩
 refine ((z9 (fun y=>some (nocap y)) 2 c_impl_cellOps_6 ql (qN a) ⟨rfl,rfl,rfl⟩).trans (XD ⟨G34,[],[],[],N,ql,none,fun _ _=>none,fun y=>some (nocap y)⟩ ⟨rfl,rfl,rfl,rfl,rfl,fun _=>rfl,fun _=>rfl⟩ a.1 a.2)).trans ?_
 show (qK N a.1 a.2).bind _=_
 rw [hN]; exact h2
theorem ka:Sound Tryz.prog 125 wZ:=by
 have h:=Ck 125
 exact h
noncomputable def wg (a0:Bool):Option (Int):=yh (rj a0) (th a0)
def kj (a:Bool):List X:=[.d (.bool a)]
noncomputable def a8:List X→Option XOut:=lay kj fun a=>((wg a)).bind fun r=>some (.ret (.d (.int .i64 r)) [])
theorem lL (a0:Bool):a8 [.d (.bool a0)]=((wg a0)).bind fun r=>some (.ret (.d (.int .i64 r)) []):=yi (enc:=kj) (by
 intro a b h
 simp only [kj,List.cons.injEq,X.d.injEq,X.res.injEq,RK.bld.injEq,X.agg.injEq,X.box.injEq,D.int.injEq,D.bool.injEq,D.fn.injEq,yk,zU,zS,and_true,true_and,and_assoc] at h
 exact h) a0
noncomputable def G36:Ctx:=G35.with 53 a8
theorem zab:SoundAll Tryz.prog G36:=by
 refine yE (cuts:=[]) (k:=1) (cd:=c_impl_truth) (rs:=lW) (enc:=kj) yx Ck Tryz.func53 (by kernel_rfl) (by kernel_rfl) (by kernel_rfl) (by kernel_rfl) (by kernel_rfl) (by kernel_rfl) (wk:=fun y=>nocap y) Same.nocap ?_
 intro a out ho
 obtain ⟨r,h1,h2⟩:=Option.bind_eq_some_iff.mp ho
 obtain ⟨hp,rfl⟩:=zH h1
 obtain ⟨N,hN⟩:=Rv a hp
 refine ⟨N,?_⟩
 refine ((z9 (fun y=>some (nocap y)) 1 c_impl_truth lW (kj a) ⟨rfl,rfl,rfl⟩).trans (TN ⟨G35,[],[],[],N,lW,none,fun _ _=>none,fun y=>some (nocap y)⟩ ⟨rfl,rfl,rfl,rfl,rfl,fun _=>rfl,fun _=>rfl⟩ a)).trans ?_
 show (kB N a).bind _=_
 rw [hN]; exact h2
noncomputable def vM (a0:Int) (a1:Int):Option (Int):=yh (u1 a0 a1) (rC a0 a1)
def qp (a:Int×Int):List X:=[.d (.int .i64 a.1),.d (.int .i64 a.2)]
noncomputable def wS:List X→Option XOut:=lay qp fun a=>((vM a.1 a.2)).bind fun r=>some (.ret (.d (.int .i64 r)) [])
theorem qV (a0:Int) (a1:Int):wS [.d (.int .i64 a0),.d (.int .i64 a1)]=((vM a0 a1)).bind fun r=>some (.ret (.d (.int .i64 r)) []):=yi (enc:=qp) (by
 intro a b h
 simp only [qp,List.cons.injEq,X.d.injEq,X.res.injEq,RK.bld.injEq,X.agg.injEq,X.box.injEq,D.int.injEq,D.bool.injEq,D.fn.injEq,yk,zU,zS,and_true,true_and,and_assoc] at h
 simp only [Prod.ext_iff]; exact h) (a0,a1)
noncomputable def G37:Ctx:=G36.with 126 wS
theorem Co:SoundAll Tryz.prog G37:=by
 refine yE (cuts:=[]) (k:=2) (cd:=c_impl_cellOps_7) (rs:=qF) (enc:=qp) yx zab Tryz.func126 (by kernel_rfl) (by kernel_rfl) (by kernel_rfl) (by kernel_rfl) (by kernel_rfl) (by kernel_rfl) (wk:=fun y=>nocap y) Same.nocap ?_
 intro a out ho
 obtain ⟨r,h1,h2⟩:=Option.bind_eq_some_iff.mp ho
 obtain ⟨hp,rfl⟩:=zH h1
 obtain ⟨N,hN⟩:=Xs wg (fun _ h=>zk h) a.1 a.2 hp
 refine ⟨N,?_⟩
 refine ((z9 (fun y=>some (nocap y)) 2 c_impl_cellOps_7 qF (qp a) ⟨rfl,rfl,rfl⟩).trans (Xz ⟨G36,[],[],[],N,qF,none,fun _ _=>none,fun y=>some (nocap y)⟩ ⟨rfl,rfl,rfl,rfl,rfl,fun _=>rfl,fun _=>rfl⟩ wg ⟨rfl,(fun a0=>(show G36 53 _=_ from rfl).trans (lL a0))⟩ a.1 a.2)).trans ?_
 show (ry wg N a.1 a.2).bind _=_
 rw [hN]; exact h2
theorem kr:Sound Tryz.prog 126 wS:=by
 have h:=Co 126
 exact h
noncomputable def vH (a0:Int) (a1:Int):Option (Int):=yh (u0 a0 a1) (qL a0 a1)
def qJ (a:Int×Int):List X:=[.d (.int .i64 a.1),.d (.int .i64 a.2)]
noncomputable def w6:List X→Option XOut:=lay qJ fun a=>((vH a.1 a.2)).bind fun r=>some (.ret (.d (.int .i64 r)) [])
theorem qR (a0:Int) (a1:Int):w6 [.d (.int .i64 a0),.d (.int .i64 a1)]=((vH a0 a1)).bind fun r=>some (.ret (.d (.int .i64 r)) []):=yi (enc:=qJ) (by
 intro a b h
 simp only [qJ,List.cons.injEq,X.d.injEq,X.res.injEq,RK.bld.injEq,X.agg.injEq,X.box.injEq,D.int.injEq,D.bool.injEq,D.fn.injEq,yk,zU,zS,and_true,true_and,and_assoc] at h
 simp only [Prod.ext_iff]; exact h) (a0,a1)
noncomputable def G38:Ctx:=G37.with 127 w6
theorem Ew:SoundAll Tryz.prog G38:=by
 refine yE (cuts:=[]) (k:=2) (cd:=c_impl_cellOps_8) (rs:=rq) (enc:=qJ) yx Co Tryz.func127 (by kernel_rfl) (by kernel_rfl) (by kernel_rfl) (by kernel_rfl) (by kernel_rfl) (by kernel_rfl) (wk:=fun y=>nocap y) Same.nocap ?_
 intro a out ho
 obtain ⟨r,h1,h2⟩:=Option.bind_eq_some_iff.mp ho
 obtain ⟨hp,rfl⟩:=zH h1
 obtain ⟨N,hN⟩:=Xf wg (fun _ h=>zk h) a.1 a.2 hp
 refine ⟨N,?_⟩
 refine ((z9 (fun y=>some (nocap y)) 2 c_impl_cellOps_8 rq (qJ a) ⟨rfl,rfl,rfl⟩).trans (Xq ⟨G37,[],[],[],N,rq,none,fun _ _=>none,fun y=>some (nocap y)⟩ ⟨rfl,rfl,rfl,rfl,rfl,fun _=>rfl,fun _=>rfl⟩ wg ⟨rfl,(fun a0=>(show G37 53 _=_ from rfl).trans (lL a0))⟩ a.1 a.2)).trans ?_
 show (qu wg N a.1 a.2).bind _=_
 rw [hN]; exact h2
theorem kP:Sound Tryz.prog 127 w6:=by
 have h:=Ew 127
 exact h
noncomputable def vT (a0:Int) (a1:Int):Option (Int):=yh (uX a0 a1) (qt a0 a1)
def qz (a:Int×Int):List X:=[.d (.int .i64 a.1),.d (.int .i64 a.2)]
noncomputable def wO:List X→Option XOut:=lay qz fun a=>((vT a.1 a.2)).bind fun r=>some (.ret (.d (.int .i64 r)) [])
theorem qW (a0:Int) (a1:Int):wO [.d (.int .i64 a0),.d (.int .i64 a1)]=((vT a0 a1)).bind fun r=>some (.ret (.d (.int .i64 r)) []):=yi (enc:=qz) (by
 intro a b h
 simp only [qz,List.cons.injEq,X.d.injEq,X.res.injEq,RK.bld.injEq,X.agg.injEq,X.box.injEq,D.int.injEq,D.bool.injEq,D.fn.injEq,yk,zU,zS,and_true,true_and,and_assoc] at h
 simp only [Prod.ext_iff]; exact h) (a0,a1)
noncomputable def G39:Ctx:=G38.with 128 wO
theorem Cj:SoundAll Tryz.prog G39:=by
 refine yE (cuts:=[]) (k:=2) (cd:=c_impl_cellOps_9) (rs:=qf) (enc:=qz) yx Ew Tryz.func128 (by kernel_rfl) (by kernel_rfl) (by kernel_rfl) (by kernel_rfl) (by kernel_rfl) (by kernel_rfl) (wk:=fun y=>nocap y) Same.nocap ?_
 intro a out ho
 obtain ⟨r,h1,h2⟩:=Option.bind_eq_some_iff.mp ho
 obtain ⟨hp,rfl⟩:=zH h1
 obtain ⟨N,hN⟩:=YX wg (fun _ h=>zk h) a.1 a.2 hp
 refine ⟨N,?_⟩
 refine ((z9 (fun y=>some (nocap y)) 2 c_impl_cellOps_9 qf (qz a) ⟨rfl,rfl,rfl⟩).trans (Xj ⟨G38,[],[],[],N,qf,none,fun _ _=>none,fun y=>some (nocap y)⟩ ⟨rfl,rfl,rfl,rfl,rfl,fun _=>rfl,fun _=>rfl⟩ wg ⟨rfl,(fun a0=>(show G38 53 _=_ from rfl).trans (lL a0))⟩ a.1 a.2)).trans ?_
 show (qg wg N a.1 a.2).bind _=_
 rw [hN]; exact h2
theorem kK:Sound Tryz.prog 128 wO:=by
 have h:=Cj 128
 exact h
noncomputable def oR:Option (Unit):=yh (iL) (fc)
def k9 (a:Unit):List X:=[]
noncomputable def cR:List X→Option XOut:=lay k9 fun a=>((oR)).bind fun r=>some (.ret (.agg [.d (D.nilf),.d (.fn 117),.d (.fn 119),.d (.fn 120),.d (.fn 121),.d (.fn 123),.d (.fn 124),.d (.fn 125),.d (.fn 126),.d (.fn 127),.d (.fn 128)]) [])
theorem Yv:cR []=((oR)).bind fun r=>some (.ret (.agg [.d (D.nilf),.d (.fn 117),.d (.fn 119),.d (.fn 120),.d (.fn 121),.d (.fn 123),.d (.fn 124),.d (.fn 125),.d (.fn 126),.d (.fn 127),.d (.fn 128)]) []):=yi (enc:=k9) (fun _ _ _=>rfl) ()
noncomputable def G40:Ctx:=G39.with 97 cR
theorem zay:SoundAll Tryz.prog G40:=by
 refine yE (cuts:=[]) (k:=0) (cd:=c_impl_cellOps) (rs:=oN) (enc:=k9) yx Cj Tryz.func97 (by kernel_rfl) (by kernel_rfl) (by kernel_rfl) (by kernel_rfl) (by kernel_rfl) (by kernel_rfl) (wk:=fun y=>nocap y) Same.nocap ?_
 intro a out ho
 obtain ⟨r,h1,h2⟩:=Option.bind_eq_some_iff.mp ho
 obtain ⟨hp,rfl⟩:=zH h1
 obtain ⟨N,hN⟩:=VT vV (fun _ _ h=>zk h) vG (fun _ _ h=>zk h) vF (fun _ _ h=>zk h) vU (fun _ _ h=>zk h) uQ (fun _ _ h=>zk h) vK (fun _ _ h=>zk h) vR (fun _ _ h=>zk h) vM (fun _ _ h=>zk h) vH (fun _ _ h=>zk h) vT (fun _ _ h=>zk h) hp
 refine ⟨N,?_⟩
 refine ((z9 (fun y=>some (nocap y)) 0 c_impl_cellOps oN (k9 a) ⟨rfl,rfl,rfl⟩).trans (Vj ⟨G39,[],[],[],N,oN,none,fun _ _=>none,fun y=>some (nocap y)⟩ ⟨rfl,rfl,rfl,rfl,rfl,fun _=>rfl,fun _=>rfl⟩ vV ⟨rfl,(fun a0 a1=>(show G39 117 _=_ from rfl).trans (qQ a0 a1))⟩ vG ⟨rfl,(fun a0 a1=>(show G39 119 _=_ from rfl).trans (qS a0 a1))⟩ vF ⟨rfl,(fun a0 a1=>(show G39 120 _=_ from rfl).trans (qP a0 a1))⟩ vU ⟨rfl,(fun a0 a1=>(show G39 121 _=_ from rfl).trans (qX a0 a1))⟩ uQ ⟨rfl,(fun a0 a1=>(show G39 123 _=_ from rfl).trans (p8 a0 a1))⟩ vK ⟨rfl,(fun a0 a1=>(show G39 124 _=_ from rfl).trans (qT a0 a1))⟩ vR ⟨rfl,(fun a0 a1=>(show G39 125 _=_ from rfl).trans (qU a0 a1))⟩ vM ⟨rfl,(fun a0 a1=>(show G39 126 _=_ from rfl).trans (qV a0 a1))⟩ vH ⟨rfl,(fun a0 a1=>(show G39 127 _=_ from rfl).trans (qR a0 a1))⟩ vT ⟨rfl,(fun a0 a1=>(show G39 128 _=_ from rfl).trans (qW a0 a1))⟩)).trans ?_
 show (jq vV vG vF vU uQ vK vR vM vH vT N).bind _=_
 rw [hN]; exact h2
noncomputable def wJ (a0:Int):Option (Alt Unit Nat):=yh (pk a0) (uD a0)
def ll (a:Int):List X:=[.d (.int .i64 a)]
noncomputable def lr:List X→Option XOut:=lay ll fun a=>((wJ a)).bind fun r=>r.on (fun r=>some (.ret (.tup [.d (D.nilf),.d (.bool false)]) [])) (fun r=>some (.ret (.tup [.d (.fn r),.d (.bool true)]) []))
theorem js (a0:Int):lr [.d (.int .i64 a0)]=((wJ a0)).bind fun r=>r.on (fun r=>some (.ret (.tup [.d (D.nilf),.d (.bool false)]) [])) (fun r=>some (.ret (.tup [.d (.fn r),.d (.bool true)]) [])):=yi (enc:=ll) (by
 intro a b h
 simp only [ll,List.cons.injEq,X.d.injEq,X.res.injEq,RK.bld.injEq,X.agg.injEq,X.box.injEq,D.int.injEq,D.bool.injEq,D.fn.injEq,yk,zU,zS,and_true,true_and,and_assoc] at h
 exact h) a0
noncomputable def G41:Ctx:=G40.with 39 lr
theorem EJ:SoundAll Tryz.prog G41:=by
 refine yE (cuts:=[]) (k:=1) (cd:=c_impl_opOf) (rs:=jU) (enc:=ll) yx zay Tryz.func39 (by kernel_rfl) (by kernel_rfl) (by kernel_rfl) (by kernel_rfl) (by kernel_rfl) (by kernel_rfl) (wk:=fun y=>nocap y) Same.nocap ?_
 intro a out ho
 obtain ⟨r,h1,h2⟩:=Option.bind_eq_some_iff.mp ho
 obtain ⟨hp,rfl⟩:=zH h1
 obtain ⟨N,hN⟩:=Qs oR (fun h=>zk h) a hp
 refine ⟨N,?_⟩
 refine ((z9 (fun y=>some (nocap y)) 1 c_impl_opOf jU (ll a) ⟨rfl,rfl,rfl⟩).trans (R9 ⟨G40,[],[],[],N,jU,none,fun _ _=>none,fun y=>some (nocap y)⟩ ⟨rfl,rfl,rfl,rfl,rfl,fun _=>rfl,fun _=>rfl⟩ oR ⟨rfl,(show G40 97 _=_ from rfl).trans Yv⟩ a)).trans ?_
 show (jX oR N a).bind _=_
 rw [hN]; exact h2
theorem U3:Sound Tryz.prog 39 lr:=by
 have h:=EJ 39
 exact h
noncomputable def wE (a0:List Int):Option (Int×Bool):=yh (qn a0) (vk a0)
def oH (a:(List Int)):List X:=[.d (zf cI a)]
noncomputable def cN:List X→Option XOut:=lay oH fun a=>((wE a)).bind fun r=>some (.ret (.tup [.d (.int .i64 r.1),.d (.bool r.2)]) [])
theorem jy (a0:List Int):cN [.d (zf cI a0)]=((wE a0)).bind fun r=>some (.ret (.tup [.d (.int .i64 r.1),.d (.bool r.2)]) []):=yi (enc:=oH) (by
 intro a b h
 simp only [oH,List.cons.injEq,X.d.injEq,X.res.injEq,RK.bld.injEq,X.agg.injEq,X.box.injEq,D.int.injEq,D.bool.injEq,D.fn.injEq,yk,zU,zS,and_true,true_and,and_assoc] at h
 exact h) a0
noncomputable def G42:Ctx:=G41.with 98 cN
theorem A2:SoundAll Tryz.prog G42:=by
 refine yE (cuts:=[]) (k:=1) (cd:=c_impl_cellsOf) (rs:=tS) (enc:=oH) yx EJ Tryz.func98 (by kernel_rfl) (by kernel_rfl) (by kernel_rfl) (by kernel_rfl) (by kernel_rfl) (by kernel_rfl) (wk:=fun y=>nocap y) Same.nocap ?_
 intro a out ho
 obtain ⟨r,h1,h2⟩:=Option.bind_eq_some_iff.mp ho
 obtain ⟨hp,rfl⟩:=zH h1
 obtain ⟨N,hN⟩:=VA a hp
 refine ⟨N,?_⟩
 refine ((z9 (fun y=>some (nocap y)) 1 c_impl_cellsOf tS (oH a) ⟨rfl,rfl,rfl⟩).trans (Vu ⟨G41,[],[],[],N,tS,none,fun _ _=>none,fun y=>some (nocap y)⟩ ⟨rfl,rfl,rfl,rfl,rfl,fun _=>rfl,fun _=>rfl⟩ a)).trans ?_
 show (oK N a).bind _=_
 rw [hN]; exact h2
noncomputable def yP (zg:List Int) (zh:List Int):Option (Bool):=yh (vO zg zh) (xx zg zh)
def rk (a:(List Int)×(List Int)):List X:=[.agg [.d (zf cI a.1),.d (zf cI a.2)]]
noncomputable def ri:List X→Option XOut:=lay rk fun a=>((yP a.1 a.2)).bind fun r=>some (.ret (.d (.bool r)) [])
theorem tv (zg:List Int) (zh:List Int):ri [.agg [.d (zf cI zg),.d (zf cI zh)]]=((yP zg zh)).bind fun r=>some (.ret (.d (.bool r)) []):=yi (enc:=rk) (by
 intro a b h
 simp only [rk,List.cons.injEq,X.d.injEq,X.res.injEq,RK.bld.injEq,X.agg.injEq,X.box.injEq,D.int.injEq,D.bool.injEq,D.fn.injEq,yk,zU,zS,and_true,true_and,and_assoc] at h
 simp only [Prod.ext_iff]; exact h) (zg,zh)
noncomputable def G43:Ctx:=G42.with 40 ri
theorem DZ:SoundAll Tryz.prog G43:=by
 refine yE (cuts:=[]) (k:=1) (cd:=c_impl_ArrayOk) (rs:=tO) (enc:=rk) yx A2 Tryz.func40 (by kernel_rfl) (by kernel_rfl) (by kernel_rfl) (by kernel_rfl) (by kernel_rfl) (by kernel_rfl) (wk:=fun y=>nocap y) Same.nocap ?_
 intro a out ho
 obtain ⟨r,h1,h2⟩:=Option.bind_eq_some_iff.mp ho
 obtain ⟨hp,rfl⟩:=zH h1
 obtain ⟨N,hN⟩:=Vw wE (fun _ h=>zk h) a.1 a.2 hp
 refine ⟨N,?_⟩
 refine ((z9 (fun y=>some (nocap y)) 1 c_impl_ArrayOk tO (rk a) ⟨rfl,rfl,rfl⟩).trans (Vk ⟨G42,[],[],[],N,tO,none,fun _ _=>none,fun y=>some (nocap y)⟩ ⟨rfl,rfl,rfl,rfl,rfl,fun _=>rfl,fun _=>rfl⟩ wE ⟨rfl,(fun a0=>(show G42 98 _=_ from rfl).trans (jy a0))⟩ a.1 a.2)).trans ?_
 show (oD wE N a.1 a.2).bind _=_
 rw [hN]; exact h2
theorem Xp:Sound Tryz.prog 40 ri:=by
 have h:=DZ 40
 exact h
noncomputable def yz (a0:List Int):Option (List Int):=yh (xF a0) (yH a0)
def u4 (l:List Int):List X:=[.d (zf cI l)]
noncomputable def wm:List X→Option XOut:=lay u4 fun a=>((yz a)).bind fun r=>some (.ret (zo (cI) 3 none false r) [])
theorem ug (a0:List Int):wm [.d (zf cI a0)]=((yz a0)).bind fun r=>some (.ret (zo (cI) 3 none false r) []):=yi (enc:=u4) (by
 intro a b h
 simp only [u4,List.cons.injEq,X.d.injEq,X.res.injEq,RK.bld.injEq,X.agg.injEq,X.box.injEq,D.int.injEq,D.bool.injEq,D.fn.injEq,yk,zU,zS,and_true,true_and,and_assoc] at h
 exact h) a0
noncomputable def G44:Ctx:=G43.with 99 wm
theorem CV:SoundAll Tryz.prog G44:=by
 refine DR (cuts:=[]) (cd:=c_slices_Clone___int_int_) (rs:=xl) yx DZ Tryz.func99 (by kernel_rfl) (by kernel_rfl) (by kernel_rfl) (by kernel_rfl) (by kernel_rfl) (by kernel_rfl) cI (wk:=fun y=>nocap (yw (.own 3 1) y)) (Same.comp Same.nocap (Same.own (.own 3 1))) ?_ ?_
 ·intro l out ho
  obtain ⟨r,h1,h2⟩:=Option.bind_eq_some_iff.mp ho
  obtain ⟨hp,rfl⟩:=zH h1
  obtain ⟨N,hN⟩:=(lJ l hp).1
  refine ⟨N,?_⟩
  refine ((z9 (fun y=>some (nocap (yw (.own 3 1) y))) 1 c_slices_Clone___int_int_ xl [.d (bZ cI l)] ⟨rfl,rfl,rfl⟩).trans (fH ⟨G43,[],[],[],N,xl,none,fun _ _=>none,fun y=>some (nocap (yw (.own 3 1) y))⟩ ⟨rfl,rfl,rfl,rfl,rfl,fun _=>rfl,fun _=>rfl⟩ l)).trans ?_
  show (wN N l).bind _=_
  rw [hN]; exact h2
 ·intro out ho
  obtain ⟨r,h1,h2⟩:=Option.bind_eq_some_iff.mp ho
  obtain ⟨hp,rfl⟩:=zH h1
  obtain ⟨N,hN⟩:=(lJ [] hp).2
  refine ⟨N,?_⟩
  refine ((z9 (fun y=>some (nocap (yw (.own 3 1) y))) 1 c_slices_Clone___int_int_ xl [.nil] ⟨rfl,rfl,rfl⟩).trans (fN ⟨G43,[],[],[],N,xl,none,fun _ _=>none,fun y=>some (nocap (yw (.own 3 1) y))⟩ ⟨rfl,rfl,rfl,rfl,rfl,fun _=>rfl,fun _=>rfl⟩)).trans ?_
  show (uv N).bind _=_
  rw [hN]; exact h2
theorem fU:Sound Tryz.prog 99 wm:=by
 have h:=CV 99
 exact h
noncomputable def tB (zg:List Int) (zh:List Int):Option (List Int×List Int):=yh (lF zg zh) (ib zg zh)
def nM (a:(List Int)×(List Int)):List X:=[.agg [.d (zf cI a.1),.d (zf cI a.2)]]
noncomputable def au:List X→Option XOut:=lay nM fun a=>((tB a.1 a.2)).bind fun r=>some (.ret (.agg [zo (cI) 3 none false r.1,zo (cI) 3 none false r.2]) [])
theorem dL (zg:List Int) (zh:List Int):au [.agg [.d (zf cI zg),.d (zf cI zh)]]=((tB zg zh)).bind fun r=>some (.ret (.agg [zo (cI) 3 none false r.1,zo (cI) 3 none false r.2]) []):=yi (enc:=nM) (by
 intro a b h
 simp only [nM,List.cons.injEq,X.d.injEq,X.res.injEq,RK.bld.injEq,X.agg.injEq,X.box.injEq,D.int.injEq,D.bool.injEq,D.fn.injEq,yk,zU,zS,and_true,true_and,and_assoc] at h
 simp only [Prod.ext_iff]; exact h) (zg,zh)
noncomputable def G45:Ctx:=G44.with 41 au
theorem FO:SoundAll Tryz.prog G45:=by
 refine yE (cuts:=[]) (k:=1) (cd:=c_impl_cloned) (rs:=md) (enc:=nM) yx CV Tryz.func41 (by kernel_rfl) (by kernel_rfl) (by kernel_rfl) (by kernel_rfl) (by kernel_rfl) (by kernel_rfl) (wk:=fun y=>nocap y) Same.nocap ?_
 intro a out ho
 obtain ⟨r,h1,h2⟩:=Option.bind_eq_some_iff.mp ho
 obtain ⟨hp,rfl⟩:=zH h1
 obtain ⟨N,hN⟩:=U8 yz (fun _ h=>zk h) a.1 a.2 hp
 refine ⟨N,?_⟩
 refine ((z9 (fun y=>some (nocap y)) 1 c_impl_cloned md (nM a) ⟨rfl,rfl,rfl⟩).trans (UK ⟨G44,[],[],[],N,md,none,fun _ _=>none,fun y=>some (nocap y)⟩ ⟨rfl,rfl,rfl,rfl,rfl,fun _=>rfl,fun _=>rfl⟩ yz ⟨rfl,(fun a0=>(show G44 99 _=_ from rfl).trans (ug a0))⟩ a.1 a.2)).trans ?_
 show (li yz N a.1 a.2).bind _=_
 rw [hN]; exact h2
noncomputable def yK (x:D) (a0:Int) (za:List Int) (zb:List Int):Option (Int):=(jn x).bind fun x=>yh (xV x a0 za zb) (wy x a0 za zb)
def pn (a:Int×(List Int)×(List Int)):List X:=[.box [.d (.int .i64 a.1)],.box [.d (zf cI a.2.1),.d (zf cI a.2.2)]]
theorem Yq:∀ a b,pn a=pn b→a=b:=by
 intro a b h
 simp only [pn,List.cons.injEq,X.d.injEq,X.res.injEq,RK.bld.injEq,X.agg.injEq,X.box.injEq,D.int.injEq,D.bool.injEq,D.fn.injEq,yk,zU,zS,and_true,true_and,and_assoc] at h
 simp only [Prod.ext_iff]; exact h
noncomputable def xI (x:D) (xs:List X):Option (List (List D)):=lay pn (fun a=>(yK x a.1 a.2.1 a.2.2).bind fun r=>some [[.int .i64 r],[D.nils,D.nils]]) xs
theorem tw (x:D) (a0:Int) (za:List Int) (zb:List Int):xI x [.box [.d (.int .i64 a0)],.box [.d (zf cI za),.d (zf cI zb)]]=(yK x a0 za zb).bind fun r=>some [[.int .i64 r],[D.nils,D.nils]]:=yi (β:=List (List D)) (enc:=pn) (C:=fun a=>(yK x a.1 a.2.1 a.2.2).bind fun r=>some [[.int .i64 r],[D.nils,D.nils]]) Yq (a0,za,zb)
theorem aR {x:D} {c:Int} (h:jn x=some c):x= .ifaceS 75 [.int .i64 c]:=by
 unfold jn at h
 split at h
 ·split at h
  ·rename_i e; subst e; injection h with h; rw [h]
  ·cases h
 ·cases h
theorem t7 (x:Int) (a0:Int) (za:List Int) (zb:List Int):yK (.ifaceS 75 [.int .i64 x]) a0 za zb=yh (xV x a0 za zb) (wy x a0 za zb):=by
 unfold yK jn
 simp only [if_true,Option.bind_some]
theorem rh:SoundD Tryz.prog 42 xI:=by
 refine Hx (cuts:=[]) (k:=2) (a:=7) (b:=4) (cd:=c_impl_caught) yx FO Tryz.func42 (by kernel_rfl) (by kernel_rfl) (by kernel_rfl) (by kernel_rfl) (by kernel_rfl) (by kernel_rfl) (by kernel_rfl) (by kernel_rfl) ?_
 intro x xs outs ho
 obtain ⟨a,rfl,ho2⟩:=dl ho
 obtain ⟨r,h1,h2⟩:=Option.bind_eq_some_iff.mp ho2
 obtain ⟨c,h3,h4⟩:=Option.bind_eq_some_iff.mp h1
 obtain rfl:=aR h3
 obtain ⟨hp,rfl⟩:=zH h4
 obtain ⟨N,hN⟩:=Tg c a.1 a.2.1 a.2.2 hp
 refine ⟨N,?_⟩
 rw [I6 2 4 c_impl_caught _ (pn a) ⟨rfl,rfl,rfl⟩]
 refine (congrArg (fun z:Option XOut=>z.bind _) (UU ⟨G45,[0,64],[0,64],[(0,.box),(64,.box)],N,[],none,fun _ _=>none,some⟩ ⟨rfl,rfl,rfl,rfl,rfl,fun _=>rfl,fun _=>rfl⟩ c a.1 a.2.1 a.2.2)).trans ?_
 show ((it N c a.1 a.2.1 a.2.2).bind _).bind _=_
 rw [hN]; exact h2
noncomputable def vL (a0:Int):Option (Res (Int)):=yh (sE a0) (wR a0)
def uM (a:Int):List X:=[.d (.int .i64 a)]
noncomputable def wX:List X→Option XOut:=lay uM fun a=>((vL a)).bind fun r=>r.on (fun r=>some (.ret (.d (.int .i64 r)) [])) (fun x=>some (.pan x []))
theorem gG (a0:Int):wX [.d (.int .i64 a0)]=((vL a0)).bind fun r=>r.on (fun r=>some (.ret (.d (.int .i64 r)) [])) (fun x=>some (.pan x [])):=yi (enc:=uM) (by
 intro a b h
 simp only [uM,List.cons.injEq,X.d.injEq,X.res.injEq,RK.bld.injEq,X.agg.injEq,X.box.injEq,D.int.injEq,D.bool.injEq,D.fn.injEq,yk,zU,zS,and_true,true_and,and_assoc] at h
 exact h) a0
noncomputable def G46:Ctx:=G45.with 65 wX
theorem CA:SoundAll Tryz.prog G46:=by
 refine yE (cuts:=[]) (k:=1) (cd:=c_impl_nothingOf) (rs:=rP) (enc:=uM) yx FO Tryz.func65 (by kernel_rfl) (by kernel_rfl) (by kernel_rfl) (by kernel_rfl) (by kernel_rfl) (by kernel_rfl) (wk:=fun y=>nocap y) Same.nocap ?_
 intro a out ho
 obtain ⟨r,h1,h2⟩:=Option.bind_eq_some_iff.mp ho
 obtain ⟨hp,rfl⟩:=zH h1
 obtain ⟨N,hN⟩:=Xg a hp
 refine ⟨N,?_⟩
 refine ((z9 (fun y=>some (nocap y)) 1 c_impl_nothingOf rP (uM a) ⟨rfl,rfl,rfl⟩).trans (Xk ⟨G45,[],[],[],N,rP,none,fun _ _=>none,fun y=>some (nocap y)⟩ ⟨rfl,rfl,rfl,rfl,rfl,fun _=>rfl,fun _=>rfl⟩ a)).trans ?_
 show (rx N a).bind _=_
 rw [hN]; exact h2
theorem fI:Sound Tryz.prog 65 wX:=by
 have h:=CA 65
 exact h
noncomputable def yC (a0:List Int):Option (Res (List Int×Option Nat×List Int)):=yh (xz a0) (yT a0)
def rf (a:(List Int)):List X:=[.d (zf cI a)]
noncomputable def v7:List X→Option XOut:=lay rf fun a=>((yC a)).bind fun r=>r.on (fun r=>some (.ret (.agg [zo (cI) 3 none false r.1,zo (cI) 3 r.2.1 false r.2.2]) [])) (fun x=>some (.pan x []))
theorem vh (a0:List Int):v7 [.d (zf cI a0)]=((yC a0)).bind fun r=>r.on (fun r=>some (.ret (.agg [zo (cI) 3 none false r.1,zo (cI) 3 r.2.1 false r.2.2]) [])) (fun x=>some (.pan x [])):=yi (enc:=rf) (by
 intro a b h
 simp only [rf,List.cons.injEq,X.d.injEq,X.res.injEq,RK.bld.injEq,X.agg.injEq,X.box.injEq,D.int.injEq,D.bool.injEq,D.fn.injEq,yk,zU,zS,and_true,true_and,and_assoc] at h
 exact h) a0
noncomputable def G47:Ctx:=G46.with 44 v7
theorem so47:SoundAll Tryz.prog G47:=by
 refine yE (cuts:=[]) (k:=1) (cd:=c_impl_made) (rs:=j4) (enc:=rf) yx CA Tryz.func44 (by kernel_rfl) (by kernel_rfl) (by kernel_rfl) (by kernel_rfl) (by kernel_rfl) (by kernel_rfl) (wk:=fun y=>y) Same.id ?_
 intro a out ho
 obtain ⟨r,h1,h2⟩:=Option.bind_eq_some_iff.mp ho
 obtain ⟨hp,rfl⟩:=zH h1
 obtain ⟨N,hN⟩:=QE wE (fun _ h=>zk h) yz (fun _ h=>zk h) a hp
 refine ⟨N,?_⟩
 refine ((z9 (fun y=>some (y)) 1 c_impl_made j4 (rf a) ⟨rfl,rfl,rfl⟩).trans (RM ⟨G46,[],[],[],N,j4,none,fun _ _=>none,fun y=>some (y)⟩ ⟨rfl,rfl,rfl,rfl,rfl,fun _=>rfl,fun _=>rfl⟩ wE ⟨rfl,(fun a0=>(show G46 98 _=_ from rfl).trans (jy a0))⟩ yz ⟨rfl,(fun a0=>(show G46 99 _=_ from rfl).trans (ug a0))⟩ a)).trans ?_
 show (jG wE yz N a).bind _=_
 rw [hN]; exact h2
theorem fY:Sound Tryz.prog 44 v7:=by
 have h:=so47 44
 exact h
noncomputable def D47:Ctx:=(((((((((((((G0.with 117 wY).with 119 wT).with 120 wP).with 121 wV).with 123 uh).with 124 w4).with 125 wZ).with 126 wS).with 127 w6).with 128 wO).with 65 wX).with 44 v7).with 99 wm)
theorem A0:SoundAll Tryz.prog D47:=(((((((((((((so0.with l6).with kl).with l9).with kf).with iA).with k7).with ka).with kr).with kP).with kK).with fI).with fY).with fU)
theorem At (f:Nat) (x y:Int):D47 f [.d (.int .i64 x),.d (.int .i64 y)]=(yh (yv f x y) (xq f x y)).bind fun r=>r.on (fun r=>some (.ret (.d (.int .i64 r)) [])) (fun x=>some (.pan x [])):=by
 by_cases e0:f=117
 ·subst e0
  refine (show D47 117 _=_ from rfl).trans ((qQ x y).trans ?_)
  unfold vV
  by_cases h:uS x y
  ·rw [zk h,zk (show yv 117 x y from ⟨by simp,h⟩)] <;> first | rfl | simp [xq,Res.on]
  ·rw [zP h,zP (fun q=>h q.2)] <;> rfl
 by_cases e1:f=119
 ·subst e1
  refine (show D47 119 _=_ from rfl).trans ((qS x y).trans ?_)
  unfold vG
  by_cases h:uY x y
  ·rw [zk h,zk (show yv 119 x y from ⟨by simp,h⟩)] <;> first | rfl | simp [xq,Res.on]
  ·rw [zP h,zP (fun q=>h q.2)] <;> rfl
 by_cases e2:f=120
 ·subst e2
  refine (show D47 120 _=_ from rfl).trans ((qP x y).trans ?_)
  unfold vF
  by_cases h:uU x y
  ·rw [zk h,zk (show yv 120 x y from ⟨by simp,h⟩)] <;> first | rfl | simp [xq,Res.on]
  ·rw [zP h,zP (fun q=>h q.2)] <;> rfl
 by_cases e3:f=121
 ·subst e3
  refine (show D47 121 _=_ from rfl).trans ((qX x y).trans ?_)
  unfold vU
  by_cases h:uT x y
  ·rw [zk h,zk (show yv 121 x y from ⟨by simp,h⟩)] <;> first | rfl | simp [xq,Res.on]
  ·rw [zP h,zP (fun q=>h q.2)] <;> rfl
 by_cases e4:f=123
 ·subst e4
  refine (show D47 123 _=_ from rfl).trans ((p8 x y).trans ?_)
  unfold uQ
  by_cases h:t6 x y
  ·rw [zk h,zk (show yv 123 x y from ⟨by simp,h⟩)] <;> first | rfl | simp [xq,Res.on]
  ·rw [zP h,zP (fun q=>h q.2)] <;> rfl
 by_cases e5:f=124
 ·subst e5
  refine (show D47 124 _=_ from rfl).trans ((qT x y).trans ?_)
  unfold vK
  by_cases h:u2 x y
  ·rw [zk h,zk (show yv 124 x y from ⟨by simp,h⟩)] <;> first | rfl | simp [xq,Res.on]
  ·rw [zP h,zP (fun q=>h q.2)] <;> rfl
 by_cases e6:f=125
 ·subst e6
  refine (show D47 125 _=_ from rfl).trans ((qU x y).trans ?_)
  unfold vR
  by_cases h:uV x y
  ·rw [zk h,zk (show yv 125 x y from ⟨by simp,h⟩)] <;> first | rfl | simp [xq,Res.on]
  ·rw [zP h,zP (fun q=>h q.2)] <;> rfl
 by_cases e7:f=126
 ·subst e7
  refine (show D47 126 _=_ from rfl).trans ((qV x y).trans ?_)
  unfold vM
  by_cases h:u1 x y
  ·rw [zk h,zk (show yv 126 x y from ⟨by simp,h⟩)] <;> first | rfl | simp [xq,Res.on]
  ·rw [zP h,zP (fun q=>h q.2)] <;> rfl
 by_cases e8:f=127
 ·subst e8
  refine (show D47 127 _=_ from rfl).trans ((qR x y).trans ?_)
  unfold vH
  by_cases h:u0 x y
  ·rw [zk h,zk (show yv 127 x y from ⟨by simp,h⟩)] <;> first | rfl | simp [xq,Res.on]
  ·rw [zP h,zP (fun q=>h q.2)] <;> rfl
 by_cases e9:f=128
 ·subst e9
  refine (show D47 128 _=_ from rfl).trans ((qW x y).trans ?_)
  unfold vT
  by_cases h:uX x y
  ·rw [zk h,zk (show yv 128 x y from ⟨by simp,h⟩)] <;> first | rfl | simp [xq,Res.on]
  ·rw [zP h,zP (fun q=>h q.2)] <;> rfl
 by_cases e10:f=65
 ·subst e10
  refine (show D47 65 _=_ from rfl).trans ((show wX [.d (.int .i64 x),.d (.int .i64 y)]=none from sJ (fun a h=>by simp [uM,zf] at h)).trans ?_)
  rw [zP (fun q=>by simp [yv] at q)] <;> rfl
 by_cases e11:f=44
 ·subst e11
  refine (show D47 44 _=_ from rfl).trans ((show v7 [.d (.int .i64 x),.d (.int .i64 y)]=none from sJ (fun a h=>by simp [rf,zf] at h)).trans ?_)
  rw [zP (fun q=>by simp [yv] at q)] <;> rfl
 by_cases e12:f=99
 ·subst e12
  refine (show D47 99 _=_ from rfl).trans ((show wm [.d (.int .i64 x),.d (.int .i64 y)]=none from sJ (fun a h=>by simp [u4,zf] at h)).trans ?_)
  rw [zP (fun q=>by simp [yv] at q)] <;> rfl
 rw [zP (fun q=>by have:=q.1; omega)]
 show (if f=99 then wm [.d (.int .i64 x),.d (.int .i64 y)] else if f=44 then v7 [.d (.int .i64 x),.d (.int .i64 y)] else if f=65 then wX [.d (.int .i64 x),.d (.int .i64 y)] else if f=128 then wO [.d (.int .i64 x),.d (.int .i64 y)] else if f=127 then w6 [.d (.int .i64 x),.d (.int .i64 y)] else if f=126 then wS [.d (.int .i64 x),.d (.int .i64 y)] else if f=125 then wZ [.d (.int .i64 x),.d (.int .i64 y)] else if f=124 then w4 [.d (.int .i64 x),.d (.int .i64 y)] else if f=123 then uh [.d (.int .i64 x),.d (.int .i64 y)] else if f=121 then wV [.d (.int .i64 x),.d (.int .i64 y)] else if f=120 then wP [.d (.int .i64 x),.d (.int .i64 y)] else if f=119 then wT [.d (.int .i64 x),.d (.int .i64 y)] else if f=117 then wY [.d (.int .i64 x),.d (.int .i64 y)] else G0 f [.d (.int .i64 x),.d (.int .i64 y)])=none
 rw [if_neg e12,if_neg e11,if_neg e10,if_neg e9,if_neg e8,if_neg e7,if_neg e6,if_neg e5,if_neg e4,if_neg e3,if_neg e2,if_neg e1,if_neg e0]; rfl
noncomputable def rb (a0:Int) (a1:Nat) (zt:List Int) (zA:List Int) (a3:Int):Option (Res (List Int×List Int)):=yh (mM a0 a1 zt zA a3) (s8 a0 a1 zt zA a3)
def lp (a:Int×Nat×(List Int)×(List Int)×Int):List X:=[.d (.int .i64 a.1),.d (.fn a.2.1),.agg [.d (zf cI a.2.2.1),.d (zf cI a.2.2.2.1)],.d (.int .i64 a.2.2.2.2)]
noncomputable def fj:List X→Option XOut:=lay lp fun a=>((rb a.1 a.2.1 a.2.2.1 a.2.2.2.1 a.2.2.2.2)).bind fun r=>r.on (fun r=>some (.ret (.agg [zo (cI) 3 none false r.1,zo (cI) 3 none false r.2]) [])) (fun x=>some (.pan x []))
theorem cO (a0:Int) (a1:Nat) (zt:List Int) (zA:List Int) (a3:Int):fj [.d (.int .i64 a0),.d (.fn a1),.agg [.d (zf cI zt),.d (zf cI zA)],.d (.int .i64 a3)]=((rb a0 a1 zt zA a3)).bind fun r=>r.on (fun r=>some (.ret (.agg [zo (cI) 3 none false r.1,zo (cI) 3 none false r.2]) [])) (fun x=>some (.pan x [])):=yi (enc:=lp) (by
 intro a b h
 simp only [lp,List.cons.injEq,X.d.injEq,X.res.injEq,RK.bld.injEq,X.agg.injEq,X.box.injEq,D.int.injEq,D.bool.injEq,D.fn.injEq,yk,zU,zS,and_true,true_and,and_assoc] at h
 simp only [Prod.ext_iff]; exact h) (a0,a1,zt,zA,a3)
theorem dp (a0:Int) (zt:List Int) (zA:List Int) (a3:Int):fj [.d (.int .i64 a0),.d (.nilf),.agg [.d (zf cI zt),.d (zf cI zA)],.d (.int .i64 a3)]=none:=sJ (fun a h=>by simp [lp] at h)
noncomputable def G48:Ctx:=G47.with 43 fj
theorem Ay:SoundAll Tryz.prog (D47.with 43 fj):=by
 refine yE (cuts:=[]) (k:=4) (cd:=c_impl_fold) (rs:=uz) (enc:=lp) yx A0 Tryz.func43 (by kernel_rfl) (by kernel_rfl) (by kernel_rfl) (by kernel_rfl) (by kernel_rfl) (by kernel_rfl) (wk:=fun y=>nocap y) Same.nocap ?_
 intro a out ho
 obtain ⟨r,h1,h2⟩:=Option.bind_eq_some_iff.mp ho
 obtain ⟨hp,rfl⟩:=zH h1
 obtain ⟨N,hN⟩:=Qo vL (fun _ h=>zk h) yC (fun _ h=>zk h) yz (fun _ h=>zk h) (fun f x y=>yh (yv f x y) (xq f x y)) (fun _ _ _ h=>zk h) a.1 a.2.1 a.2.2.1 a.2.2.2.1 a.2.2.2.2 hp
 refine ⟨N,?_⟩
 refine ((z9 (fun y=>some (nocap y)) 4 c_impl_fold uz (lp a) ⟨rfl,rfl,rfl⟩).trans (QA ⟨D47,[],[],[],N,uz,none,fun _ _=>none,fun y=>some (nocap y)⟩ ⟨rfl,rfl,rfl,rfl,rfl,fun _=>rfl,fun _=>rfl⟩ vL ⟨rfl,(fun a0=>(show D47 65 _=_ from rfl).trans (gG a0))⟩ yC ⟨rfl,(fun a0=>(show D47 44 _=_ from rfl).trans (vh a0))⟩ yz ⟨rfl,(fun a0=>(show D47 99 _=_ from rfl).trans (ug a0))⟩ (fun f x y=>yh (yv f x y) (xq f x y)) At a.1 a.2.1 a.2.2.1 a.2.2.2.1 a.2.2.2.2)).trans ?_
 show (jQ vL yC yz (fun f x y=>yh (yv f x y) (xq f x y)) N a.1 a.2.1 a.2.2.1 a.2.2.2.1 a.2.2.2.2).bind _=_
 rw [hN]; exact h2
theorem AR:SoundAll Tryz.prog G48:=so47.with (by have h:=Ay 43; exact h)
noncomputable def mh (a0:Int) (za:List Int) (zb:List Int):Option (List Int×List Int×Int):=yh (hM a0 za zb) (sI a0 za zb)
def lg (a:Int×(List Int)×(List Int)):List X:=[.d (.int .i64 a.1),.agg [.d (zf cI a.2.1),.d (zf cI a.2.2)]]
noncomputable def ay:List X→Option XOut:=lay lg fun a=>((mh a.1 a.2.1 a.2.2)).bind fun r=>some (.ret (.tup [.agg [zo (cI) 3 none false r.1,zo (cI) 3 none false r.2.1],.d (.int .i64 r.2.2)]) [])
theorem Y3 (a0:Int) (za:List Int) (zb:List Int):ay [.d (.int .i64 a0),.agg [.d (zf cI za),.d (zf cI zb)]]=((mh a0 za zb)).bind fun r=>some (.ret (.tup [.agg [zo (cI) 3 none false r.1,zo (cI) 3 none false r.2.1],.d (.int .i64 r.2.2)]) []):=yi (enc:=lg) (by
 intro a b h
 simp only [lg,List.cons.injEq,X.d.injEq,X.res.injEq,RK.bld.injEq,X.agg.injEq,X.box.injEq,D.int.injEq,D.bool.injEq,D.fn.injEq,yk,zU,zS,and_true,true_and,and_assoc] at h
 simp only [Prod.ext_iff]; exact h) (a0,za,zb)
noncomputable def G49:Ctx:=G48.with 8 ay
theorem zaw:SoundAll Tryz.prog G49:=by
 refine eT (cuts:=[]) (k:=2) (A:=c_impl_Reduce) (B:=d_impl_Reduce) (da:=oB) (keep:=o0) (rs:=sR) (enc:=lg) yx AR rh Tryz.func8 (by kernel_rfl) (by kernel_rfl) (by kernel_rfl) (by kernel_rfl) (by kernel_rfl) (by kernel_rfl) (by kernel_rfl) (by kernel_rfl) (wk:=fun y=>nocap (yw (.node [.node [.own 3 1,.own 3 1],.k]) y)) (Same.comp Same.nocap (Same.own (.node [.node [.own 3 1,.own 3 1],.k]))) ?_
 intro a out ho
 obtain ⟨r,h1,h2⟩:=Option.bind_eq_some_iff.mp ho
 obtain ⟨hp,rfl⟩:=zH h1
 obtain ⟨N,hN⟩:=UN wJ (fun _ h=>zk h) yP (fun _ _ h=>zk h) tB (fun _ _ h=>zk h) rb (fun _ _ _ _ _ h=>zk h) yK (fun x a0 za zb h=>(t7 x a0 za zb).trans (zk h)) a.1 a.2.1 a.2.2 hp
 refine ⟨N,?_⟩
 refine ((gZ (FD:=xI) (fun y=>some (nocap (yw (.node [.node [.own 3 1,.own 3 1],.k]) y))) 2 c_impl_Reduce oB o0 d_impl_Reduce sR (lg a) ⟨rfl,rfl,rfl⟩).trans (Tl ⟨G48,[],[],[],N,sR,none,xI,fun y=>some (nocap (yw (.node [.node [.own 3 1,.own 3 1],.k]) y))⟩ ⟨rfl,rfl,rfl,rfl,rfl,fun _=>rfl,fun _=>rfl⟩ wJ ⟨rfl,(fun a0=>(show G48 39 _=_ from rfl).trans (js a0))⟩ yP ⟨rfl,(fun zg zh=>(show G48 40 _=_ from rfl).trans (tv zg zh))⟩ tB ⟨rfl,(fun zg zh=>(show G48 41 _=_ from rfl).trans (dL zg zh))⟩ rb ⟨rfl,(fun a0 a1 zt zA a3=>(show G48 43 _=_ from rfl).trans (cO a0 a1 zt zA a3)),(fun a0 zt zA a3=>(show G48 43 _=_ from rfl).trans (dp a0 zt zA a3))⟩ yK (fun x a0 za zb=>tw x a0 za zb) a.1 a.2.1 a.2.2)).trans ?_
 show (mQ wJ yP tB rb yK N a.1 a.2.1 a.2.2).bind _=_
 rw [hN]; exact h2
noncomputable def jV (a0:Int) (za:List Int) (zb:List Int):Option (List Int×List Int×Int):=yh (f8 a0 za zb) (jW a0 za zb)
def jS (a:Int×(List Int)×(List Int)):List X:=[.d (.int .i64 a.1),.agg [.d (zf cI a.2.1),.d (zf cI a.2.2)]]
noncomputable def YN:List X→Option XOut:=lay jS fun a=>((jV a.1 a.2.1 a.2.2)).bind fun r=>some (.ret (.tup [.agg [zo (cI) 3 none false r.1,zo (cI) 3 none false r.2.1],.d (.int .i64 r.2.2)]) [])
theorem VD (a0:Int) (za:List Int) (zb:List Int):YN [.d (.int .i64 a0),.agg [.d (zf cI za),.d (zf cI zb)]]=((jV a0 za zb)).bind fun r=>some (.ret (.tup [.agg [zo (cI) 3 none false r.1,zo (cI) 3 none false r.2.1],.d (.int .i64 r.2.2)]) []):=yi (enc:=jS) (by
 intro a b h
 simp only [jS,List.cons.injEq,X.d.injEq,X.res.injEq,RK.bld.injEq,X.agg.injEq,X.box.injEq,D.int.injEq,D.bool.injEq,D.fn.injEq,yk,zU,zS,and_true,true_and,and_assoc] at h
 simp only [Prod.ext_iff]; exact h) (a0,za,zb)
noncomputable def G50:Ctx:=G49.with 9 YN
theorem zar:SoundAll Tryz.prog G50:=by
 refine eT (cuts:=[]) (k:=2) (A:=c_impl_Scan) (B:=d_impl_Scan) (da:=oI) (keep:=oS) (rs:=sh) (enc:=jS) yx zaw rh Tryz.func9 (by kernel_rfl) (by kernel_rfl) (by kernel_rfl) (by kernel_rfl) (by kernel_rfl) (by kernel_rfl) (by kernel_rfl) (by kernel_rfl) (wk:=fun y=>nocap (yw (.node [.node [.own 3 1,.own 3 1],.k]) y)) (Same.comp Same.nocap (Same.own (.node [.node [.own 3 1,.own 3 1],.k]))) ?_
 intro a out ho
 obtain ⟨r,h1,h2⟩:=Option.bind_eq_some_iff.mp ho
 obtain ⟨hp,rfl⟩:=zH h1
 obtain ⟨N,hN⟩:=RN wJ (fun _ h=>zk h) yP (fun _ _ h=>zk h) tB (fun _ _ h=>zk h) yC (fun _ h=>zk h) rb (fun _ _ _ _ _ h=>zk h) yK (fun x a0 za zb h=>(t7 x a0 za zb).trans (zk h)) a.1 a.2.1 a.2.2 hp
 refine ⟨N,?_⟩
 refine ((gZ (FD:=xI) (fun y=>some (nocap (yw (.node [.node [.own 3 1,.own 3 1],.k]) y))) 2 c_impl_Scan oI oS d_impl_Scan sh (jS a) ⟨rfl,rfl,rfl⟩).trans (Ql ⟨G49,[],[],[],N,sh,none,xI,fun y=>some (nocap (yw (.node [.node [.own 3 1,.own 3 1],.k]) y))⟩ ⟨rfl,rfl,rfl,rfl,rfl,fun _=>rfl,fun _=>rfl⟩ wJ ⟨rfl,(fun a0=>(show G49 39 _=_ from rfl).trans (js a0))⟩ yP ⟨rfl,(fun zg zh=>(show G49 40 _=_ from rfl).trans (tv zg zh))⟩ tB ⟨rfl,(fun zg zh=>(show G49 41 _=_ from rfl).trans (dL zg zh))⟩ yC ⟨rfl,(fun a0=>(show G49 44 _=_ from rfl).trans (vh a0))⟩ rb ⟨rfl,(fun a0 a1 zt zA a3=>(show G49 43 _=_ from rfl).trans (cO a0 a1 zt zA a3)),(fun a0 zt zA a3=>(show G49 43 _=_ from rfl).trans (dp a0 zt zA a3))⟩ yK (fun x a0 za zb=>tw x a0 za zb) a.1 a.2.1 a.2.2)).trans ?_
 show (jY wJ yP tB yC rb yK N a.1 a.2.1 a.2.2).bind _=_
 rw [hN]; exact h2
noncomputable def pN (zg:List Int) (zh:List Int) (za:List Int) (zb:List Int):Option (Res (List Int×List Int)):=yh (jF zg zh za zb) (lM zg zh za zb)
def pJ (a:(List Int)×(List Int)×(List Int)×(List Int)):List X:=[.agg [.d (zf cI a.1),.d (zf cI a.2.1)],.agg [.d (zf cI a.2.2.1),.d (zf cI a.2.2.2)]]
noncomputable def d7:List X→Option XOut:=lay pJ fun a=>((pN a.1 a.2.1 a.2.2.1 a.2.2.2)).bind fun r=>r.on (fun r=>some (.ret (.agg [zo (cI) 3 none false r.1,zo (cI) 3 none false r.2]) [])) (fun x=>some (.pan x []))
theorem ZJ (zg:List Int) (zh:List Int) (za:List Int) (zb:List Int):d7 [.agg [.d (zf cI zg),.d (zf cI zh)],.agg [.d (zf cI za),.d (zf cI zb)]]=((pN zg zh za zb)).bind fun r=>r.on (fun r=>some (.ret (.agg [zo (cI) 3 none false r.1,zo (cI) 3 none false r.2]) [])) (fun x=>some (.pan x [])):=yi (enc:=pJ) (by
 intro a b h
 simp only [pJ,List.cons.injEq,X.d.injEq,X.res.injEq,RK.bld.injEq,X.agg.injEq,X.box.injEq,D.int.injEq,D.bool.injEq,D.fn.injEq,yk,zU,zS,and_true,true_and,and_assoc] at h
 simp only [Prod.ext_iff]; exact h) (zg,zh,za,zb)
noncomputable def G51:Ctx:=G50.with 45 d7
theorem A6:SoundAll Tryz.prog G51:=by
 refine yE (cuts:=[]) (k:=2) (cd:=c_impl_reshaped) (rs:=vq) (enc:=pJ) yx zar Tryz.func45 (by kernel_rfl) (by kernel_rfl) (by kernel_rfl) (by kernel_rfl) (by kernel_rfl) (by kernel_rfl) (wk:=fun y=>nocap y) Same.nocap ?_
 intro a out ho
 obtain ⟨r,h1,h2⟩:=Option.bind_eq_some_iff.mp ho
 obtain ⟨hp,rfl⟩:=zH h1
 obtain ⟨N,hN⟩:=W0 yC (fun _ h=>zk h) wE (fun _ h=>zk h) a.1 a.2.1 a.2.2.1 a.2.2.2 hp
 refine ⟨N,?_⟩
 refine ((z9 (fun y=>some (nocap y)) 2 c_impl_reshaped vq (pJ a) ⟨rfl,rfl,rfl⟩).trans (WE ⟨G50,[],[],[],N,vq,none,fun _ _=>none,fun y=>some (nocap y)⟩ ⟨rfl,rfl,rfl,rfl,rfl,fun _=>rfl,fun _=>rfl⟩ yC ⟨rfl,(fun a0=>(show G50 44 _=_ from rfl).trans (vh a0))⟩ wE ⟨rfl,(fun a0=>(show G50 98 _=_ from rfl).trans (jy a0))⟩ a.1 a.2.1 a.2.2.1 a.2.2.2)).trans ?_
 show (pO yC wE N a.1 a.2.1 a.2.2.1 a.2.2.2).bind _=_
 rw [hN]; exact h2
noncomputable def ur (zg:List Int) (zh:List Int):Option (Res (Int)):=yh (od zg zh) (vp zg zh)
def pw (a:(List Int)×(List Int)):List X:=[.agg [.d (zf cI a.1),.d (zf cI a.2)]]
noncomputable def ct:List X→Option XOut:=lay pw fun a=>((ur a.1 a.2)).bind fun r=>r.on (fun r=>some (.ret (.d (.int .i64 r)) [])) (fun x=>some (.pan x []))
theorem fB (zg:List Int) (zh:List Int):ct [.agg [.d (zf cI zg),.d (zf cI zh)]]=((ur zg zh)).bind fun r=>r.on (fun r=>some (.ret (.d (.int .i64 r)) [])) (fun x=>some (.pan x [])):=yi (enc:=pw) (by
 intro a b h
 simp only [pw,List.cons.injEq,X.d.injEq,X.res.injEq,RK.bld.injEq,X.agg.injEq,X.box.injEq,D.int.injEq,D.bool.injEq,D.fn.injEq,yk,zU,zS,and_true,true_and,and_assoc] at h
 simp only [Prod.ext_iff]; exact h) (zg,zh)
noncomputable def G52:Ctx:=G51.with 100 ct
theorem AD:SoundAll Tryz.prog G52:=by
 refine yE (cuts:=[]) (k:=1) (cd:=c_impl_numberOf) (rs:=pE) (enc:=pw) yx A6 Tryz.func100 (by kernel_rfl) (by kernel_rfl) (by kernel_rfl) (by kernel_rfl) (by kernel_rfl) (by kernel_rfl) (wk:=fun y=>nocap y) Same.nocap ?_
 intro a out ho
 obtain ⟨r,h1,h2⟩:=Option.bind_eq_some_iff.mp ho
 obtain ⟨hp,rfl⟩:=zH h1
 obtain ⟨N,hN⟩:=X8 a.1 a.2 hp
 refine ⟨N,?_⟩
 refine ((z9 (fun y=>some (nocap y)) 1 c_impl_numberOf pE (pw a) ⟨rfl,rfl,rfl⟩).trans (Wt ⟨G51,[],[],[],N,pE,none,fun _ _=>none,fun y=>some (nocap y)⟩ ⟨rfl,rfl,rfl,rfl,rfl,fun _=>rfl,fun _=>rfl⟩ a.1 a.2)).trans ?_
 show (py N a.1 a.2).bind _=_
 rw [hN]; exact h2
noncomputable def ul (a0:List Int):Option (List Int×List Int):=yh (oa a0) (pK a0)
def pL (a:(List Int)):List X:=[.d (zf cI a)]
noncomputable def cg:List X→Option XOut:=lay pL fun a=>((ul a)).bind fun r=>some (.ret (.agg [zo (cI) 3 none false r.1,zo (cI) 3 none false r.2]) [])
theorem fC (a0:List Int):cg [.d (zf cI a0)]=((ul a0)).bind fun r=>some (.ret (.agg [zo (cI) 3 none false r.1,zo (cI) 3 none false r.2]) []):=yi (enc:=pL) (by
 intro a b h
 simp only [pL,List.cons.injEq,X.d.injEq,X.res.injEq,RK.bld.injEq,X.agg.injEq,X.box.injEq,D.int.injEq,D.bool.injEq,D.fn.injEq,yk,zU,zS,and_true,true_and,and_assoc] at h
 exact h) a0
noncomputable def G53:Ctx:=G52.with 58 cg
theorem zal:SoundAll Tryz.prog G53:=by
 refine yE (cuts:=[]) (k:=1) (cd:=c_impl_vectorOf) (rs:=pC) (enc:=pL) yx AD Tryz.func58 (by kernel_rfl) (by kernel_rfl) (by kernel_rfl) (by kernel_rfl) (by kernel_rfl) (by kernel_rfl) (wk:=fun y=>nocap y) Same.nocap ?_
 intro a out ho
 obtain ⟨r,h1,h2⟩:=Option.bind_eq_some_iff.mp ho
 obtain ⟨hp,rfl⟩:=zH h1
 obtain ⟨N,hN⟩:=WV yz (fun _ h=>zk h) a hp
 refine ⟨N,?_⟩
 refine ((z9 (fun y=>some (nocap y)) 1 c_impl_vectorOf pC (pL a) ⟨rfl,rfl,rfl⟩).trans (WB ⟨G52,[],[],[],N,pC,none,fun _ _=>none,fun y=>some (nocap y)⟩ ⟨rfl,rfl,rfl,rfl,rfl,fun _=>rfl,fun _=>rfl⟩ yz ⟨rfl,(fun a0=>(show G52 99 _=_ from rfl).trans (ug a0))⟩ a)).trans ?_
 show (pP yz N a).bind _=_
 rw [hN]; exact h2
noncomputable def w7 (zg:List Int) (zh:List Int):Option (Alt (List Int×List Int) (List Int×List Int)):=yh (pp zg zh) (uF zg zh)
def lh (a:(List Int)×(List Int)):List X:=[.agg [.d (zf cI a.1),.d (zf cI a.2)]]
noncomputable def aH:List X→Option XOut:=lay lh fun a=>((w7 a.1 a.2)).bind fun r=>r.on (fun r=>some (.ret (.agg [zo (cI) 3 none false r.1,zo (cI) 3 none false r.2]) [])) (fun r=>some (.ret (.agg [.d (zf (cI) r.1),.d (zf (cI) r.2)]) []))
theorem iF (zg:List Int) (zh:List Int):aH [.agg [.d (zf cI zg),.d (zf cI zh)]]=((w7 zg zh)).bind fun r=>r.on (fun r=>some (.ret (.agg [zo (cI) 3 none false r.1,zo (cI) 3 none false r.2]) [])) (fun r=>some (.ret (.agg [.d (zf (cI) r.1),.d (zf (cI) r.2)]) [])):=yi (enc:=lh) (by
 intro a b h
 simp only [lh,List.cons.injEq,X.d.injEq,X.res.injEq,RK.bld.injEq,X.agg.injEq,X.box.injEq,D.int.injEq,D.bool.injEq,D.fn.injEq,yk,zU,zS,and_true,true_and,and_assoc] at h
 simp only [Prod.ext_iff]; exact h) (zg,zh)
noncomputable def G54:Ctx:=G53.with 101 aH
theorem AO:SoundAll Tryz.prog G54:=by
 refine yE (cuts:=[]) (k:=1) (cd:=c_impl_asRows) (rs:=mq) (enc:=lh) yx zal Tryz.func101 (by kernel_rfl) (by kernel_rfl) (by kernel_rfl) (by kernel_rfl) (by kernel_rfl) (by kernel_rfl) (wk:=fun y=>nocap y) Same.nocap ?_
 intro a out ho
 obtain ⟨r,h1,h2⟩:=Option.bind_eq_some_iff.mp ho
 obtain ⟨hp,rfl⟩:=zH h1
 obtain ⟨N,hN⟩:=UD ul (fun _ h=>zk h) a.1 a.2 hp
 refine ⟨N,?_⟩
 refine ((z9 (fun y=>some (nocap y)) 1 c_impl_asRows mq (lh a) ⟨rfl,rfl,rfl⟩).trans (Tp ⟨G53,[],[],[],N,mq,none,fun _ _=>none,fun y=>some (nocap y)⟩ ⟨rfl,rfl,rfl,rfl,rfl,fun _=>rfl,fun _=>rfl⟩ ul ⟨rfl,(fun a0=>(show G53 58 _=_ from rfl).trans (fC a0))⟩ a.1 a.2)).trans ?_
 show (n6 ul N a.1 a.2).bind _=_
 rw [hN]; exact h2
noncomputable def xX (a0:Int) (a1:List Int):Option (List Int):=yh (sx a0 a1) (uK a0 a1)
def rV (a:Int×(List Int)):List X:=[.d (.int .i64 a.1),.d (zf cI a.2)]
noncomputable def dI:List X→Option XOut:=lay rV fun a=>((xX a.1 a.2)).bind fun r=>some (.ret (zo (cI) 3 none false r) [])
theorem lA (a0:Int) (a1:List Int):dI [.d (.int .i64 a0),.d (zf cI a1)]=((xX a0 a1)).bind fun r=>some (.ret (zo (cI) 3 none false r) []):=yi (enc:=rV) (by
 intro a b h
 simp only [rV,List.cons.injEq,X.d.injEq,X.res.injEq,RK.bld.injEq,X.agg.injEq,X.box.injEq,D.int.injEq,D.bool.injEq,D.fn.injEq,yk,zU,zS,and_true,true_and,and_assoc] at h
 simp only [Prod.ext_iff]; exact h) (a0,a1)
noncomputable def G55:Ctx:=G54.with 102 dI
theorem zak:SoundAll Tryz.prog G55:=by
 refine yE (cuts:=[]) (k:=2) (cd:=c_impl_withFirst) (rs:=qI) (enc:=rV) yx AO Tryz.func102 (by kernel_rfl) (by kernel_rfl) (by kernel_rfl) (by kernel_rfl) (by kernel_rfl) (by kernel_rfl) (wk:=fun y=>nocap y) Same.nocap ?_
 intro a out ho
 obtain ⟨r,h1,h2⟩:=Option.bind_eq_some_iff.mp ho
 obtain ⟨hp,rfl⟩:=zH h1
 obtain ⟨N,hN⟩:=XF a.1 a.2 hp
 refine ⟨N,?_⟩
 refine ((z9 (fun y=>some (nocap y)) 2 c_impl_withFirst qI (rV a) ⟨rfl,rfl,rfl⟩).trans (Y5 ⟨G54,[],[],[],N,qI,none,fun _ _=>none,fun y=>some (nocap y)⟩ ⟨rfl,rfl,rfl,rfl,rfl,fun _=>rfl,fun _=>rfl⟩ a.1 a.2)).trans ?_
 show (qy N a.1 a.2).bind _=_
 rw [hN]; exact h2
noncomputable def kF (zg:List Int) (zh:List Int) (za:List Int) (zb:List Int):Option (Res (List Int×List Int)):=yh (gQ zg zh za zb) (gh zg zh za zb)
def kW (a:(List Int)×(List Int)×(List Int)×(List Int)):List X:=[.agg [.d (zf cI a.1),.d (zf cI a.2.1)],.agg [.d (zf cI a.2.2.1),.d (zf cI a.2.2.2)]]
noncomputable def ZU:List X→Option XOut:=lay kW fun a=>((kF a.1 a.2.1 a.2.2.1 a.2.2.2)).bind fun r=>r.on (fun r=>some (.ret (.agg [zo (cI) 3 none false r.1,zo (cI) 3 none false r.2]) [])) (fun x=>some (.pan x []))
theorem X2 (zg:List Int) (zh:List Int) (za:List Int) (zb:List Int):ZU [.agg [.d (zf cI zg),.d (zf cI zh)],.agg [.d (zf cI za),.d (zf cI zb)]]=((kF zg zh za zb)).bind fun r=>r.on (fun r=>some (.ret (.agg [zo (cI) 3 none false r.1,zo (cI) 3 none false r.2]) [])) (fun x=>some (.pan x [])):=yi (enc:=kW) (by
 intro a b h
 simp only [kW,List.cons.injEq,X.d.injEq,X.res.injEq,RK.bld.injEq,X.agg.injEq,X.box.injEq,D.int.injEq,D.bool.injEq,D.fn.injEq,yk,zU,zS,and_true,true_and,and_assoc] at h
 simp only [Prod.ext_iff]; exact h) (zg,zh,za,zb)
noncomputable def G56:Ctx:=G55.with 46 ZU
theorem Aj:SoundAll Tryz.prog G56:=by
 refine yE (cuts:=[]) (k:=2) (cd:=c_impl_taken) (rs:=tg) (enc:=kW) yx zak Tryz.func46 (by kernel_rfl) (by kernel_rfl) (by kernel_rfl) (by kernel_rfl) (by kernel_rfl) (by kernel_rfl) (wk:=fun y=>nocap y) Same.nocap ?_
 intro a out ho
 obtain ⟨r,h1,h2⟩:=Option.bind_eq_some_iff.mp ho
 obtain ⟨hp,rfl⟩:=zH h1
 obtain ⟨N,hN⟩:=TL ur (fun _ _ h=>zk h) w7 (fun _ _ h=>zk h) xX (fun _ _ h=>zk h) yC (fun _ h=>zk h) a.1 a.2.1 a.2.2.1 a.2.2.2 hp
 refine ⟨N,?_⟩
 refine ((z9 (fun y=>some (nocap y)) 2 c_impl_taken tg (kW a) ⟨rfl,rfl,rfl⟩).trans (S7 ⟨G55,[],[],[],N,tg,none,fun _ _=>none,fun y=>some (nocap y)⟩ ⟨rfl,rfl,rfl,rfl,rfl,fun _=>rfl,fun _=>rfl⟩ ur ⟨rfl,(fun zg zh=>(show G55 100 _=_ from rfl).trans (fB zg zh))⟩ w7 ⟨rfl,(fun zg zh=>(show G55 101 _=_ from rfl).trans (iF zg zh))⟩ xX ⟨rfl,(fun a0 a1=>(show G55 102 _=_ from rfl).trans (lA a0 a1))⟩ yC ⟨rfl,(fun a0=>(show G55 44 _=_ from rfl).trans (vh a0))⟩ a.1 a.2.1 a.2.2.1 a.2.2.2)).trans ?_
 show (kV ur w7 xX yC N a.1 a.2.1 a.2.2.1 a.2.2.2).bind _=_
 rw [hN]; exact h2
noncomputable def tx (zg:List Int) (zh:List Int):Option (Int×Int):=yh (lP zg zh) (v9 zg zh)
def mN (a:(List Int)×(List Int)):List X:=[.agg [.d (zf cI a.1),.d (zf cI a.2)]]
noncomputable def aE:List X→Option XOut:=lay mN fun a=>((tx a.1 a.2)).bind fun r=>some (.ret (.tup [.d (.int .i64 r.1),.d (.int .i64 r.2)]) [])
theorem dt (zg:List Int) (zh:List Int):aE [.agg [.d (zf cI zg),.d (zf cI zh)]]=((tx zg zh)).bind fun r=>some (.ret (.tup [.d (.int .i64 r.1),.d (.int .i64 r.2)]) []):=yi (enc:=mN) (by
 intro a b h
 simp only [mN,List.cons.injEq,X.d.injEq,X.res.injEq,RK.bld.injEq,X.agg.injEq,X.box.injEq,D.int.injEq,D.bool.injEq,D.fn.injEq,yk,zU,zS,and_true,true_and,and_assoc] at h
 simp only [Prod.ext_iff]; exact h) (zg,zh)
noncomputable def G57:Ctx:=G56.with 103 aE
theorem A5:SoundAll Tryz.prog G57:=by
 refine yE (cuts:=[]) (k:=1) (cd:=c_impl_rowsOf) (rs:=nY) (enc:=mN) yx Aj Tryz.func103 (by kernel_rfl) (by kernel_rfl) (by kernel_rfl) (by kernel_rfl) (by kernel_rfl) (by kernel_rfl) (wk:=fun y=>nocap y) Same.nocap ?_
 intro a out ho
 obtain ⟨r,h1,h2⟩:=Option.bind_eq_some_iff.mp ho
 obtain ⟨hp,rfl⟩:=zH h1
 obtain ⟨N,hN⟩:=Td a.1 a.2 hp
 refine ⟨N,?_⟩
 refine ((z9 (fun y=>some (nocap y)) 1 c_impl_rowsOf nY (mN a) ⟨rfl,rfl,rfl⟩).trans (Th ⟨G56,[],[],[],N,nY,none,fun _ _=>none,fun y=>some (nocap y)⟩ ⟨rfl,rfl,rfl,rfl,rfl,fun _=>rfl,fun _=>rfl⟩ a.1 a.2)).trans ?_
 show (nN N a.1 a.2).bind _=_
 rw [hN]; exact h2
noncomputable def ni (zg:List Int) (zh:List Int) (za:List Int) (zb:List Int):Option (Res (List Int×List Int)):=yh (iK zg zh za zb) (jg zg zh za zb)
def oF (a:(List Int)×(List Int)×(List Int)×(List Int)):List X:=[.agg [.d (zf cI a.1),.d (zf cI a.2.1)],.agg [.d (zf cI a.2.2.1),.d (zf cI a.2.2.2)]]
noncomputable def bj:List X→Option XOut:=lay oF fun a=>((ni a.1 a.2.1 a.2.2.1 a.2.2.2)).bind fun r=>r.on (fun r=>some (.ret (.agg [zo (cI) 3 none false r.1,zo (cI) 3 none false r.2]) [])) (fun x=>some (.pan x []))
theorem Yh (zg:List Int) (zh:List Int) (za:List Int) (zb:List Int):bj [.agg [.d (zf cI zg),.d (zf cI zh)],.agg [.d (zf cI za),.d (zf cI zb)]]=((ni zg zh za zb)).bind fun r=>r.on (fun r=>some (.ret (.agg [zo (cI) 3 none false r.1,zo (cI) 3 none false r.2]) [])) (fun x=>some (.pan x [])):=yi (enc:=oF) (by
 intro a b h
 simp only [oF,List.cons.injEq,X.d.injEq,X.res.injEq,RK.bld.injEq,X.agg.injEq,X.box.injEq,D.int.injEq,D.bool.injEq,D.fn.injEq,yk,zU,zS,and_true,true_and,and_assoc] at h
 simp only [Prod.ext_iff]; exact h) (zg,zh,za,zb)
noncomputable def G58:Ctx:=G57.with 47 bj
theorem AC:SoundAll Tryz.prog G58:=by
 refine yE (cuts:=[]) (k:=2) (cd:=c_impl_dropped) (rs:=oU) (enc:=oF) yx A5 Tryz.func47 (by kernel_rfl) (by kernel_rfl) (by kernel_rfl) (by kernel_rfl) (by kernel_rfl) (by kernel_rfl) (wk:=fun y=>nocap y) Same.nocap ?_
 intro a out ho
 obtain ⟨r,h1,h2⟩:=Option.bind_eq_some_iff.mp ho
 obtain ⟨hp,rfl⟩:=zH h1
 obtain ⟨N,hN⟩:=VJ ur (fun _ _ h=>zk h) w7 (fun _ _ h=>zk h) tx (fun _ _ h=>zk h) xX (fun _ _ h=>zk h) yC (fun _ h=>zk h) a.1 a.2.1 a.2.2.1 a.2.2.2 hp
 refine ⟨N,?_⟩
 refine ((z9 (fun y=>some (nocap y)) 2 c_impl_dropped oU (oF a) ⟨rfl,rfl,rfl⟩).trans (Va ⟨G57,[],[],[],N,oU,none,fun _ _=>none,fun y=>some (nocap y)⟩ ⟨rfl,rfl,rfl,rfl,rfl,fun _=>rfl,fun _=>rfl⟩ ur ⟨rfl,(fun zg zh=>(show G57 100 _=_ from rfl).trans (fB zg zh))⟩ w7 ⟨rfl,(fun zg zh=>(show G57 101 _=_ from rfl).trans (iF zg zh))⟩ tx ⟨rfl,(fun zg zh=>(show G57 103 _=_ from rfl).trans (dt zg zh))⟩ xX ⟨rfl,(fun a0 a1=>(show G57 102 _=_ from rfl).trans (lA a0 a1))⟩ yC ⟨rfl,(fun a0=>(show G57 44 _=_ from rfl).trans (vh a0))⟩ a.1 a.2.1 a.2.2.1 a.2.2.2)).trans ?_
 show (oJ ur w7 tx xX yC N a.1 a.2.1 a.2.2.1 a.2.2.2).bind _=_
 rw [hN]; exact h2
noncomputable def yN (a0:List Int) (a1:List Int):Option (Bool):=yh (wa a0 a1) (xk a0 a1)
def wr (a:(List Int)×(List Int)):List X:=[.d (zf cI a.1),.d (zf cI a.2)]
noncomputable def wq:List X→Option XOut:=lay wr fun a=>((yN a.1 a.2)).bind fun r=>some (.ret (.d (.bool r)) [])
theorem tP (a0:List Int) (a1:List Int):wq [.d (zf cI a0),.d (zf cI a1)]=((yN a0 a1)).bind fun r=>some (.ret (.d (.bool r)) []):=yi (enc:=wr) (by
 intro a b h
 simp only [wr,List.cons.injEq,X.d.injEq,X.res.injEq,RK.bld.injEq,X.agg.injEq,X.box.injEq,D.int.injEq,D.bool.injEq,D.fn.injEq,yk,zU,zS,and_true,true_and,and_assoc] at h
 simp only [Prod.ext_iff]; exact h) (a0,a1)
noncomputable def G59:Ctx:=G58.with 54 wq
theorem Eb:SoundAll Tryz.prog G59:=by
 refine yE (cuts:=[]) (k:=2) (cd:=c_slices_Equal___int_int_) (rs:=xS) (enc:=wr) yx AC Tryz.func54 (by kernel_rfl) (by kernel_rfl) (by kernel_rfl) (by kernel_rfl) (by kernel_rfl) (by kernel_rfl) (wk:=fun y=>nocap y) Same.nocap ?_
 intro a out ho
 obtain ⟨r,h1,h2⟩:=Option.bind_eq_some_iff.mp ho
 obtain ⟨hp,rfl⟩:=zH h1
 obtain ⟨N,hN⟩:=eF a.1 a.2 hp
 refine ⟨N,?_⟩
 refine ((z9 (fun y=>some (nocap y)) 2 c_slices_Equal___int_int_ xS (wr a) ⟨rfl,rfl,rfl⟩).trans (eH ⟨G58,[],[],[],N,xS,none,fun _ _=>none,fun y=>some (nocap y)⟩ ⟨rfl,rfl,rfl,rfl,rfl,fun _=>rfl,fun _=>rfl⟩ a.1 a.2)).trans ?_
 show (vt N a.1 a.2).bind _=_
 rw [hN]; exact h2
theorem fT:Sound Tryz.prog 54 wq:=by
 have h:=Eb 54
 exact h
noncomputable def qB (zg:List Int) (zh:List Int) (za:List Int) (zb:List Int):Option (Res (List Int×List Int)):=yh (kh zg zh za zb) (nw zg zh za zb)
def qm (a:(List Int)×(List Int)×(List Int)×(List Int)):List X:=[.agg [.d (zf cI a.1),.d (zf cI a.2.1)],.agg [.d (zf cI a.2.2.1),.d (zf cI a.2.2.2)]]
noncomputable def dr:List X→Option XOut:=lay qm fun a=>((qB a.1 a.2.1 a.2.2.1 a.2.2.2)).bind fun r=>r.on (fun r=>some (.ret (.agg [zo (cI) 3 none false r.1,zo (cI) 3 none false r.2]) [])) (fun x=>some (.pan x []))
theorem aO (zg:List Int) (zh:List Int) (za:List Int) (zb:List Int):dr [.agg [.d (zf cI zg),.d (zf cI zh)],.agg [.d (zf cI za),.d (zf cI zb)]]=((qB zg zh za zb)).bind fun r=>r.on (fun r=>some (.ret (.agg [zo (cI) 3 none false r.1,zo (cI) 3 none false r.2]) [])) (fun x=>some (.pan x [])):=yi (enc:=qm) (by
 intro a b h
 simp only [qm,List.cons.injEq,X.d.injEq,X.res.injEq,RK.bld.injEq,X.agg.injEq,X.box.injEq,D.int.injEq,D.bool.injEq,D.fn.injEq,yk,zU,zS,and_true,true_and,and_assoc] at h
 simp only [Prod.ext_iff]; exact h) (zg,zh,za,zb)
noncomputable def G60:Ctx:=G59.with 48 dr
theorem Aw:SoundAll Tryz.prog G60:=by
 refine yE (cuts:=[]) (k:=2) (cd:=c_impl_catenated) (rs:=rU) (enc:=qm) yx Eb Tryz.func48 (by kernel_rfl) (by kernel_rfl) (by kernel_rfl) (by kernel_rfl) (by kernel_rfl) (by kernel_rfl) (wk:=fun y=>nocap y) Same.nocap ?_
 intro a out ho
 obtain ⟨r,h1,h2⟩:=Option.bind_eq_some_iff.mp ho
 obtain ⟨hp,rfl⟩:=zH h1
 obtain ⟨N,hN⟩:=YU w7 (fun _ _ h=>zk h) yN (fun _ _ h=>zk h) xX (fun _ _ h=>zk h) yC (fun _ h=>zk h) a.1 a.2.1 a.2.2.1 a.2.2.2 hp
 refine ⟨N,?_⟩
 refine ((z9 (fun y=>some (nocap y)) 2 c_impl_catenated rU (qm a) ⟨rfl,rfl,rfl⟩).trans (XJ ⟨G59,[],[],[],N,rU,none,fun _ _=>none,fun y=>some (nocap y)⟩ ⟨rfl,rfl,rfl,rfl,rfl,fun _=>rfl,fun _=>rfl⟩ w7 ⟨rfl,(fun zg zh=>(show G59 101 _=_ from rfl).trans (iF zg zh))⟩ yN ⟨rfl,(fun a0 a1=>(show G59 54 _=_ from rfl).trans (tP a0 a1))⟩ xX ⟨rfl,(fun a0 a1=>(show G59 102 _=_ from rfl).trans (lA a0 a1))⟩ yC ⟨rfl,(fun a0=>(show G59 44 _=_ from rfl).trans (vh a0))⟩ a.1 a.2.1 a.2.2.1 a.2.2.2)).trans ?_
 show (rz w7 yN xX yC N a.1 a.2.1 a.2.2.1 a.2.2.2).bind _=_
 rw [hN]; exact h2
noncomputable def vQ (a1:Int):Option (Res (List Int)):=yh (sH a1) (vI a1)
def vW (a:Int):List X:=[.nil,.d (.int .i64 a)]
noncomputable def kO:List X→Option XOut:=lay vW fun a=>((vQ a)).bind fun r=>r.on (fun r=>some (.ret (zo (cI) 3 none false r) [])) (fun x=>some (.pan x []))
theorem fD (a1:Int):kO [.nil,.d (.int .i64 a1)]=((vQ a1)).bind fun r=>r.on (fun r=>some (.ret (zo (cI) 3 none false r) [])) (fun x=>some (.pan x [])):=yi (enc:=vW) (by
 intro a b h
 simp only [vW,List.cons.injEq,X.d.injEq,X.res.injEq,RK.bld.injEq,X.agg.injEq,X.box.injEq,D.int.injEq,D.bool.injEq,D.fn.injEq,yk,zU,zS,and_true,true_and,and_assoc] at h
 exact h) a1
noncomputable def G61:Ctx:=G60.with 107 kO true
theorem A3:SoundAll Tryz.prog G61:=by
 refine yE (cuts:=[20,25]) (k:=2) (cd:=c_slices_Grow___int_int_) (rs:=vP) (enc:=vW) yx Aw Tryz.func107 (by kernel_rfl) (by kernel_rfl) (by kernel_rfl) (by kernel_rfl) (by kernel_rfl) (by kernel_rfl) (wk:=fun y=>nocap (yw (.own 3 1) y)) (Same.comp Same.nocap (Same.own (.own 3 1))) ?_
 intro a out ho
 obtain ⟨r,h1,h2⟩:=Option.bind_eq_some_iff.mp ho
 obtain ⟨hp,rfl⟩:=zH h1
 obtain ⟨N,hN⟩:=db a hp
 refine ⟨N,?_⟩
 refine ((z9 (fun y=>some (nocap (yw (.own 3 1) y))) 2 c_slices_Grow___int_int_ vP (vW a) ⟨rfl,rfl,rfl⟩).trans (dO ⟨G60,[],[],[],N,vP,none,fun _ _=>none,fun y=>some (nocap (yw (.own 3 1) y))⟩ ⟨rfl,rfl,rfl,rfl,rfl,fun _=>rfl,fun _=>rfl⟩ a)).trans ?_
 show (vE N a).bind _=_
 rw [hN]; exact h2
noncomputable def xr (a0:List (List Int)):Option (Res (List Int)):=yh (uc a0) (xw a0)
def wd (a:(List (List Int))):List X:=[.d (zf (cL cI) a)]
noncomputable def wc:List X→Option XOut:=lay wd fun a=>((xr a)).bind fun r=>r.on (fun r=>some (.ret (zo (cI) 3 none false r) [])) (fun x=>some (.pan x []))
theorem p7 (a0:List (List Int)):wc [.d (zf (cL cI) a0)]=((xr a0)).bind fun r=>r.on (fun r=>some (.ret (zo (cI) 3 none false r) [])) (fun x=>some (.pan x [])):=yi (enc:=wd) (by
 intro a b h
 simp only [wd,List.cons.injEq,X.d.injEq,X.res.injEq,RK.bld.injEq,X.agg.injEq,X.box.injEq,D.int.injEq,D.bool.injEq,D.fn.injEq,yk,zU,zS,and_true,true_and,and_assoc] at h
 exact h) a0
noncomputable def G62:Ctx:=G61.with 64 wc
theorem E7:SoundAll Tryz.prog G62:=by
 refine yE (cuts:=[]) (k:=1) (cd:=c_slices_Concat___int_int_) (rs:=xe) (enc:=wd) yx A3 Tryz.func64 (by kernel_rfl) (by kernel_rfl) (by kernel_rfl) (by kernel_rfl) (by kernel_rfl) (by kernel_rfl) (wk:=fun y=>nocap y) Same.nocap ?_
 intro a out ho
 obtain ⟨r,h1,h2⟩:=Option.bind_eq_some_iff.mp ho
 obtain ⟨hp,rfl⟩:=zH h1
 obtain ⟨N,hN⟩:=f7 vQ (fun _ h=>zk h) a hp
 refine ⟨N,?_⟩
 refine ((z9 (fun y=>some (nocap y)) 1 c_slices_Concat___int_int_ xe (wd a) ⟨rfl,rfl,rfl⟩).trans (ej ⟨G61,[],[],[],N,xe,none,fun _ _=>none,fun y=>some (nocap y)⟩ ⟨rfl,rfl,rfl,rfl,rfl,fun _=>rfl,fun _=>rfl⟩ vQ ⟨rfl,(fun a1=>(show G61 107 _=_ from rfl).trans (fD a1))⟩ a)).trans ?_
 show (vc vQ N a).bind _=_
 rw [hN]; exact h2
theorem gY:Sound Tryz.prog 64 wc:=by
 have h:=E7 64
 exact h
noncomputable def n3 (zg:List Int) (zh:List Int) (za:List Int) (zb:List Int):Option (Res (List Int×List Int)):=yh (gg zg zh za zb) (iy zg zh za zb)
def mW (a:(List Int)×(List Int)×(List Int)×(List Int)):List X:=[.agg [.d (zf cI a.1),.d (zf cI a.2.1)],.agg [.d (zf cI a.2.2.1),.d (zf cI a.2.2.2)]]
noncomputable def ad:List X→Option XOut:=lay mW fun a=>((n3 a.1 a.2.1 a.2.2.1 a.2.2.2)).bind fun r=>r.on (fun r=>some (.ret (.agg [zo (cI) 3 none false r.1,zo (cI) 3 none false r.2]) [])) (fun x=>some (.pan x []))
theorem Y0 (zg:List Int) (zh:List Int) (za:List Int) (zb:List Int):ad [.agg [.d (zf cI zg),.d (zf cI zh)],.agg [.d (zf cI za),.d (zf cI zb)]]=((n3 zg zh za zb)).bind fun r=>r.on (fun r=>some (.ret (.agg [zo (cI) 3 none false r.1,zo (cI) 3 none false r.2]) [])) (fun x=>some (.pan x [])):=yi (enc:=mW) (by
 intro a b h
 simp only [mW,List.cons.injEq,X.d.injEq,X.res.injEq,RK.bld.injEq,X.agg.injEq,X.box.injEq,D.int.injEq,D.bool.injEq,D.fn.injEq,yk,zU,zS,and_true,true_and,and_assoc] at h
 simp only [Prod.ext_iff]; exact h) (zg,zh,za,zb)
noncomputable def G63:Ctx:=G62.with 49 ad
theorem zaa:SoundAll Tryz.prog G63:=by
 refine yE (cuts:=[]) (k:=2) (cd:=c_impl_picked) (rs:=sL) (enc:=mW) yx E7 Tryz.func49 (by kernel_rfl) (by kernel_rfl) (by kernel_rfl) (by kernel_rfl) (by kernel_rfl) (by kernel_rfl) (wk:=fun y=>nocap y) Same.nocap ?_
 intro a out ho
 obtain ⟨r,h1,h2⟩:=Option.bind_eq_some_iff.mp ho
 obtain ⟨hp,rfl⟩:=zH h1
 obtain ⟨N,hN⟩:=UY xr (fun _ h=>zk h) yC (fun _ h=>zk h) tx (fun _ _ h=>zk h) a.1 a.2.1 a.2.2.1 a.2.2.2 hp
 refine ⟨N,?_⟩
 refine ((z9 (fun y=>some (nocap y)) 2 c_impl_picked sL (mW a) ⟨rfl,rfl,rfl⟩).trans (UE ⟨G62,[],[],[],N,sL,none,fun _ _=>none,fun y=>some (nocap y)⟩ ⟨rfl,rfl,rfl,rfl,rfl,fun _=>rfl,fun _=>rfl⟩ xr ⟨rfl,(fun a0=>(show G62 64 _=_ from rfl).trans (p7 a0))⟩ yC ⟨rfl,(fun a0=>(show G62 44 _=_ from rfl).trans (vh a0))⟩ tx ⟨rfl,(fun zg zh=>(show G62 103 _=_ from rfl).trans (dt zg zh))⟩ a.1 a.2.1 a.2.2.1 a.2.2.2)).trans ?_
 show (mf xr yC tx N a.1 a.2.1 a.2.2.1 a.2.2.2).bind _=_
 rw [hN]; exact h2
noncomputable def ku (zg:List Int) (zh:List Int) (za:List Int) (zb:List Int):Option (Res (List Int×List Int)):=yh (gO zg zh za zb) (hO zg zh za zb)
def kE (a:(List Int)×(List Int)×(List Int)×(List Int)):List X:=[.agg [.d (zf cI a.1),.d (zf cI a.2.1)],.agg [.d (zf cI a.2.2.1),.d (zf cI a.2.2.2)]]
noncomputable def Zk:List X→Option XOut:=lay kE fun a=>((ku a.1 a.2.1 a.2.2.1 a.2.2.2)).bind fun r=>r.on (fun r=>some (.ret (.agg [zo (cI) 3 none false r.1,zo (cI) 3 none false r.2]) [])) (fun x=>some (.pan x []))
theorem Wz (zg:List Int) (zh:List Int) (za:List Int) (zb:List Int):Zk [.agg [.d (zf cI zg),.d (zf cI zh)],.agg [.d (zf cI za),.d (zf cI zb)]]=((ku zg zh za zb)).bind fun r=>r.on (fun r=>some (.ret (.agg [zo (cI) 3 none false r.1,zo (cI) 3 none false r.2]) [])) (fun x=>some (.pan x [])):=yi (enc:=kE) (by
 intro a b h
 simp only [kE,List.cons.injEq,X.d.injEq,X.res.injEq,RK.bld.injEq,X.agg.injEq,X.box.injEq,D.int.injEq,D.bool.injEq,D.fn.injEq,yk,zU,zS,and_true,true_and,and_assoc] at h
 simp only [Prod.ext_iff]; exact h) (zg,zh,za,zb)
noncomputable def G64:Ctx:=G63.with 50 Zk
theorem zai:SoundAll Tryz.prog G64:=by
 refine yE (cuts:=[]) (k:=2) (cd:=c_impl_found) (rs:=ti) (enc:=kE) yx zaa Tryz.func50 (by kernel_rfl) (by kernel_rfl) (by kernel_rfl) (by kernel_rfl) (by kernel_rfl) (by kernel_rfl) (wk:=fun y=>nocap y) Same.nocap ?_
 intro a out ho
 obtain ⟨r,h1,h2⟩:=Option.bind_eq_some_iff.mp ho
 obtain ⟨hp,rfl⟩:=zH h1
 obtain ⟨N,hN⟩:=Ss yC (fun _ h=>zk h) a.1 a.2.1 a.2.2.1 a.2.2.2 hp
 refine ⟨N,?_⟩
 refine ((z9 (fun y=>some (nocap y)) 2 c_impl_found ti (kE a) ⟨rfl,rfl,rfl⟩).trans (RG ⟨G63,[],[],[],N,ti,none,fun _ _=>none,fun y=>some (nocap y)⟩ ⟨rfl,rfl,rfl,rfl,rfl,fun _=>rfl,fun _=>rfl⟩ yC ⟨rfl,(fun a0=>(show G63 44 _=_ from rfl).trans (vh a0))⟩ a.1 a.2.1 a.2.2.1 a.2.2.2)).trans ?_
 show (kd yC N a.1 a.2.1 a.2.2.1 a.2.2.2).bind _=_
 rw [hN]; exact h2
noncomputable def pG (a0:Int):Option (List Int×List Int):=yh (jz a0) (pr a0)
def pt (a:Int):List X:=[.d (.int .i64 a)]
noncomputable def d8:List X→Option XOut:=lay pt fun a=>((pG a)).bind fun r=>some (.ret (.agg [zo (cI) 3 none false r.1,zo (cI) 3 none false r.2]) [])
theorem ZR (a0:Int):d8 [.d (.int .i64 a0)]=((pG a0)).bind fun r=>some (.ret (.agg [zo (cI) 3 none false r.1,zo (cI) 3 none false r.2]) []):=yi (enc:=pt) (by
 intro a b h
 simp only [pt,List.cons.injEq,X.d.injEq,X.res.injEq,RK.bld.injEq,X.agg.injEq,X.box.injEq,D.int.injEq,D.bool.injEq,D.fn.injEq,yk,zU,zS,and_true,true_and,and_assoc] at h
 exact h) a0
noncomputable def G65:Ctx:=G64.with 52 d8
theorem An:SoundAll Tryz.prog G65:=by
 refine yE (cuts:=[]) (k:=1) (cd:=c_impl_scalarOf) (rs:=pD) (enc:=pt) yx zai Tryz.func52 (by kernel_rfl) (by kernel_rfl) (by kernel_rfl) (by kernel_rfl) (by kernel_rfl) (by kernel_rfl) (wk:=fun y=>nocap y) Same.nocap ?_
 intro a out ho
 obtain ⟨r,h1,h2⟩:=Option.bind_eq_some_iff.mp ho
 obtain ⟨hp,rfl⟩:=zH h1
 obtain ⟨N,hN⟩:=X3 a hp
 refine ⟨N,?_⟩
 refine ((z9 (fun y=>some (nocap y)) 1 c_impl_scalarOf pD (pt a) ⟨rfl,rfl,rfl⟩).trans (WJ ⟨G64,[],[],[],N,pD,none,fun _ _=>none,fun y=>some (nocap y)⟩ ⟨rfl,rfl,rfl,rfl,rfl,fun _=>rfl,fun _=>rfl⟩ a)).trans ?_
 show (lD N a).bind _=_
 rw [hN]; exact h2
noncomputable def mE (zg:List Int) (zh:List Int) (za:List Int) (zb:List Int):Option (List Int×List Int):=yh (gf zg zh za zb) (j9 zg zh za zb)
def ml (a:(List Int)×(List Int)×(List Int)×(List Int)):List X:=[.agg [.d (zf cI a.1),.d (zf cI a.2.1)],.agg [.d (zf cI a.2.2.1),.d (zf cI a.2.2.2)]]
noncomputable def aq:List X→Option XOut:=lay ml fun a=>((mE a.1 a.2.1 a.2.2.1 a.2.2.2)).bind fun r=>some (.ret (.agg [zo (cI) 3 none false r.1,zo (cI) 3 none false r.2]) [])
theorem Y8 (zg:List Int) (zh:List Int) (za:List Int) (zb:List Int):aq [.agg [.d (zf cI zg),.d (zf cI zh)],.agg [.d (zf cI za),.d (zf cI zb)]]=((mE zg zh za zb)).bind fun r=>some (.ret (.agg [zo (cI) 3 none false r.1,zo (cI) 3 none false r.2]) []):=yi (enc:=ml) (by
 intro a b h
 simp only [ml,List.cons.injEq,X.d.injEq,X.res.injEq,RK.bld.injEq,X.agg.injEq,X.box.injEq,D.int.injEq,D.bool.injEq,D.fn.injEq,yk,zU,zS,and_true,true_and,and_assoc] at h
 simp only [Prod.ext_iff]; exact h) (zg,zh,za,zb)
noncomputable def G66:Ctx:=G65.with 51 aq
theorem Ax:SoundAll Tryz.prog G66:=by
 refine yE (cuts:=[]) (k:=2) (cd:=c_impl_Dyad_1) (rs:=n8) (enc:=ml) yx An Tryz.func51 (by kernel_rfl) (by kernel_rfl) (by kernel_rfl) (by kernel_rfl) (by kernel_rfl) (by kernel_rfl) (wk:=fun y=>nocap y) Same.nocap ?_
 intro a out ho
 obtain ⟨r,h1,h2⟩:=Option.bind_eq_some_iff.mp ho
 obtain ⟨hp,rfl⟩:=zH h1
 obtain ⟨N,hN⟩:=Tt yN (fun _ _ h=>zk h) wg (fun _ h=>zk h) pG (fun _ h=>zk h) a.1 a.2.1 a.2.2.1 a.2.2.2 hp
 refine ⟨N,?_⟩
 refine ((z9 (fun y=>some (nocap y)) 2 c_impl_Dyad_1 n8 (ml a) ⟨rfl,rfl,rfl⟩).trans (U0 ⟨G65,[],[],[],N,n8,none,fun _ _=>none,fun y=>some (nocap y)⟩ ⟨rfl,rfl,rfl,rfl,rfl,fun _=>rfl,fun _=>rfl⟩ yN ⟨rfl,(fun a0 a1=>(show G65 54 _=_ from rfl).trans (tP a0 a1))⟩ wg ⟨rfl,(fun a0=>(show G65 53 _=_ from rfl).trans (lL a0))⟩ pG ⟨rfl,(fun a0=>(show G65 52 _=_ from rfl).trans (ZR a0))⟩ a.1 a.2.1 a.2.2.1 a.2.2.2)).trans ?_
 show (m7 yN wg pG N a.1 a.2.1 a.2.2.1 a.2.2.2).bind _=_
 rw [hN]; exact h2
noncomputable def j7 (a0:Int) (za:List Int) (zb:List Int) (zt:List Int) (zA:List Int):Option (List Int×List Int×Int):=yh (f9 a0 za zb zt zA) (lx a0 za zb zt zA)
def jJ (a:Int×(List Int)×(List Int)×(List Int)×(List Int)):List X:=[.d (.int .i64 a.1),.agg [.d (zf cI a.2.1),.d (zf cI a.2.2.1)],.agg [.d (zf cI a.2.2.2.1),.d (zf cI a.2.2.2.2)]]
noncomputable def Yz:List X→Option XOut:=lay jJ fun a=>((j7 a.1 a.2.1 a.2.2.1 a.2.2.2.1 a.2.2.2.2)).bind fun r=>some (.ret (.tup [.agg [zo (cI) 3 none false r.1,zo (cI) 3 none false r.2.1],.d (.int .i64 r.2.2)]) [])
theorem Vo (a0:Int) (za:List Int) (zb:List Int) (zt:List Int) (zA:List Int):Yz [.d (.int .i64 a0),.agg [.d (zf cI za),.d (zf cI zb)],.agg [.d (zf cI zt),.d (zf cI zA)]]=((j7 a0 za zb zt zA)).bind fun r=>some (.ret (.tup [.agg [zo (cI) 3 none false r.1,zo (cI) 3 none false r.2.1],.d (.int .i64 r.2.2)]) []):=yi (enc:=jJ) (by
 intro a b h
 simp only [jJ,List.cons.injEq,X.d.injEq,X.res.injEq,RK.bld.injEq,X.agg.injEq,X.box.injEq,D.int.injEq,D.bool.injEq,D.fn.injEq,yk,zU,zS,and_true,true_and,and_assoc] at h
 simp only [Prod.ext_iff]; exact h) (a0,za,zb,zt,zA)
noncomputable def G67:Ctx:=G66.with 10 Yz
theorem Au:SoundAll Tryz.prog G67:=by
 refine eT (cuts:=[]) (k:=3) (A:=c_impl_Dyad) (B:=d_impl_Dyad) (da:=lV) (keep:=lY) (rs:=pZ) (enc:=jJ) yx Ax rh Tryz.func10 (by kernel_rfl) (by kernel_rfl) (by kernel_rfl) (by kernel_rfl) (by kernel_rfl) (by kernel_rfl) (by kernel_rfl) (by kernel_rfl) (wk:=fun y=>nocap (yw (.node [.node [.own 3 1,.own 3 1],.k]) y)) (Same.comp Same.nocap (Same.own (.node [.node [.own 3 1,.own 3 1],.k]))) ?_
 intro a out ho
 obtain ⟨r,h1,h2⟩:=Option.bind_eq_some_iff.mp ho
 obtain ⟨hp,rfl⟩:=zH h1
 obtain ⟨N,hN⟩:=Qk pN (fun _ _ _ _ h=>zk h) kF (fun _ _ _ _ h=>zk h) ni (fun _ _ _ _ h=>zk h) qB (fun _ _ _ _ h=>zk h) n3 (fun _ _ _ _ h=>zk h) ku (fun _ _ _ _ h=>zk h) mE (fun _ _ _ _ h=>zk h) yP (fun _ _ h=>zk h) yK (fun x a0 za zb h=>(t7 x a0 za zb).trans (zk h)) a.1 a.2.1 a.2.2.1 a.2.2.2.1 a.2.2.2.2 hp
 refine ⟨N,?_⟩
 refine ((gZ (FD:=xI) (fun y=>some (nocap (yw (.node [.node [.own 3 1,.own 3 1],.k]) y))) 3 c_impl_Dyad lV lY d_impl_Dyad pZ (jJ a) ⟨rfl,rfl,rfl⟩).trans (QJ ⟨G66,[],[],[],N,pZ,none,xI,fun y=>some (nocap (yw (.node [.node [.own 3 1,.own 3 1],.k]) y))⟩ ⟨rfl,rfl,rfl,rfl,rfl,fun _=>rfl,fun _=>rfl⟩ pN ⟨rfl,(fun zg zh za zb=>(show G66 45 _=_ from rfl).trans (ZJ zg zh za zb))⟩ kF ⟨rfl,(fun zg zh za zb=>(show G66 46 _=_ from rfl).trans (X2 zg zh za zb))⟩ ni ⟨rfl,(fun zg zh za zb=>(show G66 47 _=_ from rfl).trans (Yh zg zh za zb))⟩ qB ⟨rfl,(fun zg zh za zb=>(show G66 48 _=_ from rfl).trans (aO zg zh za zb))⟩ n3 ⟨rfl,(fun zg zh za zb=>(show G66 49 _=_ from rfl).trans (Y0 zg zh za zb))⟩ ku ⟨rfl,(fun zg zh za zb=>(show G66 50 _=_ from rfl).trans (Wz zg zh za zb))⟩ mE ⟨rfl,(fun zg zh za zb=>(show G66 51 _=_ from rfl).trans (Y8 zg zh za zb))⟩ yP ⟨rfl,(fun zg zh=>(show G66 40 _=_ from rfl).trans (tv zg zh))⟩ yK (fun x a0 za zb=>tw x a0 za zb) a.1 a.2.1 a.2.2.1 a.2.2.2.1 a.2.2.2.2)).trans ?_
 show (jP pN kF ni qB n3 ku mE yP yK N a.1 a.2.1 a.2.2.1 a.2.2.2.1 a.2.2.2.2).bind _=_
 rw [hN]; exact h2
noncomputable def qv (zg:List Int) (zh:List Int) (za:List Int) (zb:List Int):Option (Bool):=yh (kM zg zh za zb) (wW zg zh za zb)
def rE (a:(List Int)×(List Int)×(List Int)×(List Int)):List X:=[.agg [.d (zf cI a.1),.d (zf cI a.2.1)],.agg [.d (zf cI a.2.2.1),.d (zf cI a.2.2.2)]]
noncomputable def dg:List X→Option XOut:=lay rE fun a=>((qv a.1 a.2.1 a.2.2.1 a.2.2.2)).bind fun r=>some (.ret (.d (.bool r)) [])
theorem aK (zg:List Int) (zh:List Int) (za:List Int) (zb:List Int):dg [.agg [.d (zf cI zg),.d (zf cI zh)],.agg [.d (zf cI za),.d (zf cI zb)]]=((qv zg zh za zb)).bind fun r=>some (.ret (.d (.bool r)) []):=yi (enc:=rE) (by
 intro a b h
 simp only [rE,List.cons.injEq,X.d.injEq,X.res.injEq,RK.bld.injEq,X.agg.injEq,X.box.injEq,D.int.injEq,D.bool.injEq,D.fn.injEq,yk,zU,zS,and_true,true_and,and_assoc] at h
 simp only [Prod.ext_iff]; exact h) (zg,zh,za,zb)
noncomputable def G68:Ctx:=G67.with 11 dg
theorem AX:SoundAll Tryz.prog G68:=by
 refine yE (cuts:=[]) (k:=2) (cd:=c_spec_SameArray) (rs:=qc) (enc:=rE) yx Au Tryz.func11 (by kernel_rfl) (by kernel_rfl) (by kernel_rfl) (by kernel_rfl) (by kernel_rfl) (by kernel_rfl) (wk:=fun y=>nocap y) Same.nocap ?_
 intro a out ho
 obtain ⟨r,h1,h2⟩:=Option.bind_eq_some_iff.mp ho
 obtain ⟨hp,rfl⟩:=zH h1
 obtain ⟨N,hN⟩:=XM tz (fun _ _ h=>zk h) a.1 a.2.1 a.2.2.1 a.2.2.2 hp
 refine ⟨N,?_⟩
 refine ((z9 (fun y=>some (nocap y)) 2 c_spec_SameArray qc (rE a) ⟨rfl,rfl,rfl⟩).trans (XP ⟨G67,[],[],[],N,qc,none,fun _ _=>none,fun y=>some (nocap y)⟩ ⟨rfl,rfl,rfl,rfl,rfl,fun _=>rfl,fun _=>rfl⟩ tz ⟨rfl,(fun a0 a1=>(show G67 55 _=_ from rfl).trans (dF a0 a1))⟩ a.1 a.2.1 a.2.2.1 a.2.2.2)).trans ?_
 show (qa tz N a.1 a.2.1 a.2.2.1 a.2.2.2).bind _=_
 rw [hN]; exact h2
noncomputable def nd (zg:List Int) (zh:List Int):Option (List Int×List Int):=yh (iB zg zh) (jh zg zh)
def oy (a:(List Int)×(List Int)):List X:=[.agg [.d (zf cI a.1),.d (zf cI a.2)]]
noncomputable def bk:List X→Option XOut:=lay oy fun a=>((nd a.1 a.2)).bind fun r=>some (.ret (.agg [zo (cI) 3 none false r.1,zo (cI) 3 none false r.2]) [])
theorem Yl (zg:List Int) (zh:List Int):bk [.agg [.d (zf cI zg),.d (zf cI zh)]]=((nd zg zh)).bind fun r=>some (.ret (.agg [zo (cI) 3 none false r.1,zo (cI) 3 none false r.2]) []):=yi (enc:=oy) (by
 intro a b h
 simp only [oy,List.cons.injEq,X.d.injEq,X.res.injEq,RK.bld.injEq,X.agg.injEq,X.box.injEq,D.int.injEq,D.bool.injEq,D.fn.injEq,yk,zU,zS,and_true,true_and,and_assoc] at h
 simp only [Prod.ext_iff]; exact h) (zg,zh)
noncomputable def G69:Ctx:=G68.with 59 bk
theorem Aq:SoundAll Tryz.prog G69:=by
 refine yE (cuts:=[]) (k:=1) (cd:=c_impl_Monad_2) (rs:=ng) (enc:=oy) yx AX Tryz.func59 (by kernel_rfl) (by kernel_rfl) (by kernel_rfl) (by kernel_rfl) (by kernel_rfl) (by kernel_rfl) (wk:=fun y=>nocap y) Same.nocap ?_
 intro a out ho
 obtain ⟨r,h1,h2⟩:=Option.bind_eq_some_iff.mp ho
 obtain ⟨hp,rfl⟩:=zH h1
 obtain ⟨N,hN⟩:=V8 ul (fun _ h=>zk h) a.1 a.2 hp
 refine ⟨N,?_⟩
 refine ((z9 (fun y=>some (nocap y)) 1 c_impl_Monad_2 ng (oy a) ⟨rfl,rfl,rfl⟩).trans (VC ⟨G68,[],[],[],N,ng,none,fun _ _=>none,fun y=>some (nocap y)⟩ ⟨rfl,rfl,rfl,rfl,rfl,fun _=>rfl,fun _=>rfl⟩ ul ⟨rfl,(fun a0=>(show G68 58 _=_ from rfl).trans (fC a0))⟩ a.1 a.2)).trans ?_
 show (ot ul N a.1 a.2).bind _=_
 rw [hN]; exact h2
noncomputable def kY (za:List Int) (zb:List Int):Option (List Int×List Int×Int):=yh (gN za zb) (oA za zb)
def kX (a:(List Int)×(List Int)):List X:=[.d (.int .i64 3),.agg [.d (zf cI a.1),.d (zf cI a.2)]]
noncomputable def Zs:List X→Option XOut:=lay kX fun a=>((kY a.1 a.2)).bind fun r=>some (.ret (.tup [.agg [zo (cI) 3 none false r.1,zo (cI) 3 none false r.2.1],.d (.int .i64 r.2.2)]) [])
theorem WF (za:List Int) (zb:List Int):Zs [.d (.int .i64 3),.agg [.d (zf cI za),.d (zf cI zb)]]=((kY za zb)).bind fun r=>some (.ret (.tup [.agg [zo (cI) 3 none false r.1,zo (cI) 3 none false r.2.1],.d (.int .i64 r.2.2)]) []):=yi (enc:=kX) (by
 intro a b h
 simp only [kX,List.cons.injEq,X.d.injEq,X.res.injEq,RK.bld.injEq,X.agg.injEq,X.box.injEq,D.int.injEq,D.bool.injEq,D.fn.injEq,yk,zU,zS,and_true,true_and,and_assoc] at h
 simp only [Prod.ext_iff]; exact h) (za,zb)
noncomputable def G70:Ctx:=G69.with 12 Zs
theorem so70:SoundAll Tryz.prog G70:=by
 refine eT (cuts:=[]) (k:=2) (A:=c_impl_Monad) (B:=d_impl_Monad) (da:=mn) (keep:=me) (rs:=rK) (enc:=kX) yx Aq rh Tryz.func12 (by kernel_rfl) (by kernel_rfl) (by kernel_rfl) (by kernel_rfl) (by kernel_rfl) (by kernel_rfl) (by kernel_rfl) (by kernel_rfl) (wk:=fun y=>nocap (yw (.node [.node [.own 3 1,.own 3 1],.k]) y)) (Same.comp Same.nocap (Same.own (.node [.node [.own 3 1,.own 3 1],.k]))) ?_
 intro a out ho
 obtain ⟨r,h1,h2⟩:=Option.bind_eq_some_iff.mp ho
 obtain ⟨hp,rfl⟩:=zH h1
 obtain ⟨N,hN⟩:=T3 nd (fun _ _ h=>zk h) yP (fun _ _ h=>zk h) yK (fun x a0 za zb h=>(t7 x a0 za zb).trans (zk h)) a.1 a.2 hp
 refine ⟨N,?_⟩
 refine ((gZ (FD:=xI) (fun y=>some (nocap (yw (.node [.node [.own 3 1,.own 3 1],.k]) y))) 2 c_impl_Monad mn me d_impl_Monad rK (kX a) ⟨rfl,rfl,rfl⟩).trans (SY ⟨G69,[],[],[],N,rK,none,xI,fun y=>some (nocap (yw (.node [.node [.own 3 1,.own 3 1],.k]) y))⟩ ⟨rfl,rfl,rfl,rfl,rfl,fun _=>rfl,fun _=>rfl⟩ nd ⟨rfl,(fun zg zh=>(show G69 59 _=_ from rfl).trans (Yl zg zh))⟩ yP ⟨rfl,(fun zg zh=>(show G69 40 _=_ from rfl).trans (tv zg zh))⟩ yK (fun x a0 za zb=>tw x a0 za zb) a.1 a.2)).trans ?_
 show (kG nd yP yK N a.1 a.2).bind _=_
 rw [hN]; exact h2
noncomputable def D70:Ctx:=(((((((((((((((G0.with 117 wY).with 119 wT).with 120 wP).with 121 wV).with 123 uh).with 124 w4).with 125 wZ).with 126 wS).with 127 w6).with 128 wO).with 39 lr).with 40 ri).with 64 wc).with 44 v7).with 65 wX)
theorem A9:SoundAll Tryz.prog D70:=(((((((((((((((so0.with l6).with kl).with l9).with kf).with iA).with k7).with ka).with kr).with kP).with kK).with U3).with Xp).with gY).with fY).with fI)
theorem AM (f:Nat) (x y:Int):D70 f [.d (.int .i64 x),.d (.int .i64 y)]=(yh (yv f x y) (xq f x y)).bind fun r=>r.on (fun r=>some (.ret (.d (.int .i64 r)) [])) (fun x=>some (.pan x [])):=by
 by_cases e0:f=117
 ·subst e0
  refine (show D70 117 _=_ from rfl).trans ((qQ x y).trans ?_)
  unfold vV
  by_cases h:uS x y
  ·rw [zk h,zk (show yv 117 x y from ⟨by simp,h⟩)] <;> first | rfl | simp [xq,Res.on]
  ·rw [zP h,zP (fun q=>h q.2)] <;> rfl
 by_cases e1:f=119
 ·subst e1
  refine (show D70 119 _=_ from rfl).trans ((qS x y).trans ?_)
  unfold vG
  by_cases h:uY x y
  ·rw [zk h,zk (show yv 119 x y from ⟨by simp,h⟩)] <;> first | rfl | simp [xq,Res.on]
  ·rw [zP h,zP (fun q=>h q.2)] <;> rfl
 by_cases e2:f=120
 ·subst e2
  refine (show D70 120 _=_ from rfl).trans ((qP x y).trans ?_)
  unfold vF
  by_cases h:uU x y
  ·rw [zk h,zk (show yv 120 x y from ⟨by simp,h⟩)] <;> first | rfl | simp [xq,Res.on]
  ·rw [zP h,zP (fun q=>h q.2)] <;> rfl
 by_cases e3:f=121
 ·subst e3
  refine (show D70 121 _=_ from rfl).trans ((qX x y).trans ?_)
  unfold vU
  by_cases h:uT x y
  ·rw [zk h,zk (show yv 121 x y from ⟨by simp,h⟩)] <;> first | rfl | simp [xq,Res.on]
  ·rw [zP h,zP (fun q=>h q.2)] <;> rfl
 by_cases e4:f=123
 ·subst e4
  refine (show D70 123 _=_ from rfl).trans ((p8 x y).trans ?_)
  unfold uQ
  by_cases h:t6 x y
  ·rw [zk h,zk (show yv 123 x y from ⟨by simp,h⟩)] <;> first | rfl | simp [xq,Res.on]
  ·rw [zP h,zP (fun q=>h q.2)] <;> rfl
 by_cases e5:f=124
 ·subst e5
  refine (show D70 124 _=_ from rfl).trans ((qT x y).trans ?_)
  unfold vK
  by_cases h:u2 x y
  ·rw [zk h,zk (show yv 124 x y from ⟨by simp,h⟩)] <;> first | rfl | simp [xq,Res.on]
  ·rw [zP h,zP (fun q=>h q.2)] <;> rfl
 by_cases e6:f=125
 ·subst e6
  refine (show D70 125 _=_ from rfl).trans ((qU x y).trans ?_)
  unfold vR
  by_cases h:uV x y
  ·rw [zk h,zk (show yv 125 x y from ⟨by simp,h⟩)] <;> first | rfl | simp [xq,Res.on]
  ·rw [zP h,zP (fun q=>h q.2)] <;> rfl
 by_cases e7:f=126
 ·subst e7
  refine (show D70 126 _=_ from rfl).trans ((qV x y).trans ?_)
  unfold vM
  by_cases h:u1 x y
  ·rw [zk h,zk (show yv 126 x y from ⟨by simp,h⟩)] <;> first | rfl | simp [xq,Res.on]
  ·rw [zP h,zP (fun q=>h q.2)] <;> rfl
 by_cases e8:f=127
 ·subst e8
  refine (show D70 127 _=_ from rfl).trans ((qR x y).trans ?_)
  unfold vH
  by_cases h:u0 x y
  ·rw [zk h,zk (show yv 127 x y from ⟨by simp,h⟩)] <;> first | rfl | simp [xq,Res.on]
  ·rw [zP h,zP (fun q=>h q.2)] <;> rfl
 by_cases e9:f=128
 ·subst e9
  refine (show D70 128 _=_ from rfl).trans ((qW x y).trans ?_)
  unfold vT
  by_cases h:uX x y
  ·rw [zk h,zk (show yv 128 x y from ⟨by simp,h⟩)] <;> first | rfl | simp [xq,Res.on]
  ·rw [zP h,zP (fun q=>h q.2)] <;> rfl
 by_cases e10:f=39
 ·subst e10
  refine (show D70 39 _=_ from rfl).trans ((show lr [.d (.int .i64 x),.d (.int .i64 y)]=none from sJ (fun a h=>by simp [ll,zf] at h)).trans ?_)
  rw [zP (fun q=>by simp [yv] at q)] <;> rfl
 by_cases e11:f=40
 ·subst e11
  refine (show D70 40 _=_ from rfl).trans ((show ri [.d (.int .i64 x),.d (.int .i64 y)]=none from sJ (fun a h=>by simp [rk,zf] at h)).trans ?_)
  rw [zP (fun q=>by simp [yv] at q)] <;> rfl
 by_cases e12:f=64
 ·subst e12
  refine (show D70 64 _=_ from rfl).trans ((show wc [.d (.int .i64 x),.d (.int .i64 y)]=none from sJ (fun a h=>by simp [wd,zf] at h)).trans ?_)
  rw [zP (fun q=>by simp [yv] at q)] <;> rfl
 by_cases e13:f=44
 ·subst e13
  refine (show D70 44 _=_ from rfl).trans ((show v7 [.d (.int .i64 x),.d (.int .i64 y)]=none from sJ (fun a h=>by simp [rf,zf] at h)).trans ?_)
  rw [zP (fun q=>by simp [yv] at q)] <;> rfl
 by_cases e14:f=65
 ·subst e14
  refine (show D70 65 _=_ from rfl).trans ((show wX [.d (.int .i64 x),.d (.int .i64 y)]=none from sJ (fun a h=>by simp [uM,zf] at h)).trans ?_)
  rw [zP (fun q=>by simp [yv] at q)] <;> rfl
 rw [zP (fun q=>by have:=q.1; omega)]
 show (if f=65 then wX [.d (.int .i64 x),.d (.int .i64 y)] else if f=44 then v7 [.d (.int .i64 x),.d (.int .i64 y)] else if f=64 then wc [.d (.int .i64 x),.d (.int .i64 y)] else if f=40 then ri [.d (.int .i64 x),.d (.int .i64 y)] else if f=39 then lr [.d (.int .i64 x),.d (.int .i64 y)] else if f=128 then wO [.d (.int .i64 x),.d (.int .i64 y)] else if f=127 then w6 [.d (.int .i64 x),.d (.int .i64 y)] else if f=126 then wS [.d (.int .i64 x),.d (.int .i64 y)] else if f=125 then wZ [.d (.int .i64 x),.d (.int .i64 y)] else if f=124 then w4 [.d (.int .i64 x),.d (.int .i64 y)] else if f=123 then uh [.d (.int .i64 x),.d (.int .i64 y)] else if f=121 then wV [.d (.int .i64 x),.d (.int .i64 y)] else if f=120 then wP [.d (.int .i64 x),.d (.int .i64 y)] else if f=119 then wT [.d (.int .i64 x),.d (.int .i64 y)] else if f=117 then wY [.d (.int .i64 x),.d (.int .i64 y)] else G0 f [.d (.int .i64 x),.d (.int .i64 y)])=none
 rw [if_neg e14,if_neg e13,if_neg e12,if_neg e11,if_neg e10,if_neg e9,if_neg e8,if_neg e7,if_neg e6,if_neg e5,if_neg e4,if_neg e3,if_neg e2,if_neg e1,if_neg e0]; rfl
noncomputable def kD (a0:Int) (a1:Int) (zt:List Int) (zA:List Int) (wU:List Int) (uW:List Int):Option (List Int×List Int×Int):=yh (fe a0 a1 zt zA wU uW) (l8 a0 a1 zt zA wU uW)
def l7 (a:Int×Int×(List Int)×(List Int)×(List Int)×(List Int)):List X:=[.d (.int .i64 a.1),.d (.int .i64 a.2.1),.agg [.d (zf cI a.2.2.1),.d (zf cI a.2.2.2.1)],.agg [.d (zf cI a.2.2.2.2.1),.d (zf cI a.2.2.2.2.2)]]
noncomputable def dv:List X→Option XOut:=lay l7 fun a=>((kD a.1 a.2.1 a.2.2.1 a.2.2.2.1 a.2.2.2.2.1 a.2.2.2.2.2)).bind fun r=>some (.ret (.tup [.agg [zo (cI) 3 none false r.1,zo (cI) 3 none false r.2.1],.d (.int .i64 r.2.2)]) [])
theorem Ws (a0:Int) (a1:Int) (zt:List Int) (zA:List Int) (wU:List Int) (uW:List Int):dv [.d (.int .i64 a0),.d (.int .i64 a1),.agg [.d (zf cI zt),.d (zf cI zA)],.agg [.d (zf cI wU),.d (zf cI uW)]]=((kD a0 a1 zt zA wU uW)).bind fun r=>some (.ret (.tup [.agg [zo (cI) 3 none false r.1,zo (cI) 3 none false r.2.1],.d (.int .i64 r.2.2)]) []):=yi (enc:=l7) (by
 intro a b h
 simp only [l7,List.cons.injEq,X.d.injEq,X.res.injEq,RK.bld.injEq,X.agg.injEq,X.box.injEq,D.int.injEq,D.bool.injEq,D.fn.injEq,yk,zU,zS,and_true,true_and,and_assoc] at h
 simp only [Prod.ext_iff]; exact h) (a0,a1,zt,zA,wU,uW)
noncomputable def G71:Ctx:=G70.with 13 dv
theorem AH:SoundAll Tryz.prog (D70.with 13 dv):=by
 refine eT (cuts:=[82]) (k:=4) (A:=c_impl_Inner) (B:=d_impl_Inner) (da:=ua) (keep:=vY) (rs:=xG) (enc:=l7) yx A9 rh Tryz.func13 (by kernel_rfl) (by kernel_rfl) (by kernel_rfl) (by kernel_rfl) (by kernel_rfl) (by kernel_rfl) (by kernel_rfl) (by kernel_rfl) (wk:=fun y=>nocap (yw (.node [.node [.own 3 1,.own 3 1],.k]) y)) (Same.comp Same.nocap (Same.own (.node [.node [.own 3 1,.own 3 1],.k]))) ?_
 intro a out ho
 obtain ⟨r,h1,h2⟩:=Option.bind_eq_some_iff.mp ho
 obtain ⟨hp,rfl⟩:=zH h1
 obtain ⟨N,hN⟩:=Sv wJ (fun _ h=>zk h) yP (fun _ _ h=>zk h) xr (fun _ h=>zk h) yC (fun _ h=>zk h) vL (fun _ h=>zk h) yK (fun x a0 za zb h=>(t7 x a0 za zb).trans (zk h)) (fun f x y=>yh (yv f x y) (xq f x y)) (fun _ _ _ h=>zk h) a.1 a.2.1 a.2.2.1 a.2.2.2.1 a.2.2.2.2.1 a.2.2.2.2.2 hp
 refine ⟨N,?_⟩
 refine ((gZ (FD:=xI) (fun y=>some (nocap (yw (.node [.node [.own 3 1,.own 3 1],.k]) y))) 4 c_impl_Inner ua vY d_impl_Inner xG (l7 a) ⟨rfl,rfl,rfl⟩).trans (TO ⟨D70,[],[],[],N,xG,none,xI,fun y=>some (nocap (yw (.node [.node [.own 3 1,.own 3 1],.k]) y))⟩ ⟨rfl,rfl,rfl,rfl,rfl,fun _=>rfl,fun _=>rfl⟩ wJ ⟨rfl,(fun a0=>(show D70 39 _=_ from rfl).trans (js a0))⟩ yP ⟨rfl,(fun zg zh=>(show D70 40 _=_ from rfl).trans (tv zg zh))⟩ xr ⟨rfl,(fun a0=>(show D70 64 _=_ from rfl).trans (p7 a0))⟩ yC ⟨rfl,(fun a0=>(show D70 44 _=_ from rfl).trans (vh a0))⟩ vL ⟨rfl,(fun a0=>(show D70 65 _=_ from rfl).trans (gG a0))⟩ yK (fun x a0 za zb=>tw x a0 za zb) (fun f x y=>yh (yv f x y) (xq f x y)) AM a.1 a.2.1 a.2.2.1 a.2.2.2.1 a.2.2.2.2.1 a.2.2.2.2.2)).trans ?_
 show (kx wJ yP xr yC vL yK (fun f x y=>yh (yv f x y) (xq f x y)) N a.1 a.2.1 a.2.2.1 a.2.2.2.1 a.2.2.2.2.1 a.2.2.2.2.2).bind _=_
 rw [hN]; exact h2
theorem so71:SoundAll Tryz.prog G71:=so70.with (by have h:=AH 13; exact h)
noncomputable def D71:Ctx:=((((((((((((G0.with 117 wY).with 119 wT).with 120 wP).with 121 wV).with 123 uh).with 124 w4).with 125 wZ).with 126 wS).with 127 w6).with 128 wO).with 44 v7).with 54 wq)
theorem Ak:SoundAll Tryz.prog D71:=((((((((((((so0.with l6).with kl).with l9).with kf).with iA).with k7).with ka).with kr).with kP).with kK).with fY).with fT)
theorem zac (f:Nat) (x y:Int):D71 f [.d (.int .i64 x),.d (.int .i64 y)]=(yh (yv f x y) (xq f x y)).bind fun r=>r.on (fun r=>some (.ret (.d (.int .i64 r)) [])) (fun x=>some (.pan x [])):=by
 by_cases e0:f=117
 ·subst e0
  refine (show D71 117 _=_ from rfl).trans ((qQ x y).trans ?_)
  unfold vV
  by_cases h:uS x y
  ·rw [zk h,zk (show yv 117 x y from ⟨by simp,h⟩)] <;> first | rfl | simp [xq,Res.on]
  ·rw [zP h,zP (fun q=>h q.2)] <;> rfl
 by_cases e1:f=119
 ·subst e1
  refine (show D71 119 _=_ from rfl).trans ((qS x y).trans ?_)
  unfold vG
  by_cases h:uY x y
  ·rw [zk h,zk (show yv 119 x y from ⟨by simp,h⟩)] <;> first | rfl | simp [xq,Res.on]
  ·rw [zP h,zP (fun q=>h q.2)] <;> rfl
 by_cases e2:f=120
 ·subst e2
  refine (show D71 120 _=_ from rfl).trans ((qP x y).trans ?_)
  unfold vF
  by_cases h:uU x y
  ·rw [zk h,zk (show yv 120 x y from ⟨by simp,h⟩)] <;> first | rfl | simp [xq,Res.on]
  ·rw [zP h,zP (fun q=>h q.2)] <;> rfl
 by_cases e3:f=121
 ·subst e3
  refine (show D71 121 _=_ from rfl).trans ((qX x y).trans ?_)
  unfold vU
  by_cases h:uT x y
  ·rw [zk h,zk (show yv 121 x y from ⟨by simp,h⟩)] <;> first | rfl | simp [xq,Res.on]
  ·rw [zP h,zP (fun q=>h q.2)] <;> rfl
 by_cases e4:f=123
 ·subst e4
  refine (show D71 123 _=_ from rfl).trans ((p8 x y).trans ?_)
  unfold uQ
  by_cases h:t6 x y
  ·rw [zk h,zk (show yv 123 x y from ⟨by simp,h⟩)] <;> first | rfl | simp [xq,Res.on]
  ·rw [zP h,zP (fun q=>h q.2)] <;> rfl
 by_cases e5:f=124
 ·subst e5
  refine (show D71 124 _=_ from rfl).trans ((qT x y).trans ?_)
  unfold vK
  by_cases h:u2 x y
  ·rw [zk h,zk (show yv 124 x y from ⟨by simp,h⟩)] <;> first | rfl | simp [xq,Res.on]
  ·rw [zP h,zP (fun q=>h q.2)] <;> rfl
 by_cases e6:f=125
 ·subst e6
  refine (show D71 125 _=_ from rfl).trans ((qU x y).trans ?_)
  unfold vR
  by_cases h:uV x y
  ·rw [zk h,zk (show yv 125 x y from ⟨by simp,h⟩)] <;> first | rfl | simp [xq,Res.on]
  ·rw [zP h,zP (fun q=>h q.2)] <;> rfl
 by_cases e7:f=126
 ·subst e7
  refine (show D71 126 _=_ from rfl).trans ((qV x y).trans ?_)
  unfold vM
  by_cases h:u1 x y
  ·rw [zk h,zk (show yv 126 x y from ⟨by simp,h⟩)] <;> first | rfl | simp [xq,Res.on]
  ·rw [zP h,zP (fun q=>h q.2)] <;> rfl
 by_cases e8:f=127
 ·subst e8
  refine (show D71 127 _=_ from rfl).trans ((qR x y).trans ?_)
  unfold vH
  by_cases h:u0 x y
  ·rw [zk h,zk (show yv 127 x y from ⟨by simp,h⟩)] <;> first | rfl | simp [xq,Res.on]
  ·rw [zP h,zP (fun q=>h q.2)] <;> rfl
 by_cases e9:f=128
 ·subst e9
  refine (show D71 128 _=_ from rfl).trans ((qW x y).trans ?_)
  unfold vT
  by_cases h:uX x y
  ·rw [zk h,zk (show yv 128 x y from ⟨by simp,h⟩)] <;> first | rfl | simp [xq,Res.on]
  ·rw [zP h,zP (fun q=>h q.2)] <;> rfl
 by_cases e10:f=44
 ·subst e10
  refine (show D71 44 _=_ from rfl).trans ((show v7 [.d (.int .i64 x),.d (.int .i64 y)]=none from sJ (fun a h=>by simp [rf,zf] at h)).trans ?_)
  rw [zP (fun q=>by simp [yv] at q)] <;> rfl
 by_cases e11:f=54
 ·subst e11
  refine (show D71 54 _=_ from rfl).trans ((show wq [.d (.int .i64 x),.d (.int .i64 y)]=none from sJ (fun a h=>by simp [wr,zf] at h)).trans ?_)
  rw [zP (fun q=>by simp [yv] at q)] <;> rfl
 rw [zP (fun q=>by have:=q.1; omega)]
 show (if f=54 then wq [.d (.int .i64 x),.d (.int .i64 y)] else if f=44 then v7 [.d (.int .i64 x),.d (.int .i64 y)] else if f=128 then wO [.d (.int .i64 x),.d (.int .i64 y)] else if f=127 then w6 [.d (.int .i64 x),.d (.int .i64 y)] else if f=126 then wS [.d (.int .i64 x),.d (.int .i64 y)] else if f=125 then wZ [.d (.int .i64 x),.d (.int .i64 y)] else if f=124 then w4 [.d (.int .i64 x),.d (.int .i64 y)] else if f=123 then uh [.d (.int .i64 x),.d (.int .i64 y)] else if f=121 then wV [.d (.int .i64 x),.d (.int .i64 y)] else if f=120 then wP [.d (.int .i64 x),.d (.int .i64 y)] else if f=119 then wT [.d (.int .i64 x),.d (.int .i64 y)] else if f=117 then wY [.d (.int .i64 x),.d (.int .i64 y)] else G0 f [.d (.int .i64 x),.d (.int .i64 y)])=none
 rw [if_neg e11,if_neg e10,if_neg e9,if_neg e8,if_neg e7,if_neg e6,if_neg e5,if_neg e4,if_neg e3,if_neg e2,if_neg e1,if_neg e0]; rfl
noncomputable def j3 (a0:Nat) (za:List Int) (zb:List Int) (zt:List Int) (zA:List Int):Option (Res (List Int×List Int)):=yh (fW a0 za zb zt zA) (jH a0 za zb zt zA)
def lq (a:Nat×(List Int)×(List Int)×(List Int)×(List Int)):List X:=[.d (.fn a.1),.agg [.d (zf cI a.2.1),.d (zf cI a.2.2.1)],.agg [.d (zf cI a.2.2.2.1),.d (zf cI a.2.2.2.2)]]
noncomputable def fq:List X→Option XOut:=lay lq fun a=>((j3 a.1 a.2.1 a.2.2.1 a.2.2.2.1 a.2.2.2.2)).bind fun r=>r.on (fun r=>some (.ret (.agg [zo (cI) 3 none false r.1,zo (cI) 3 none false r.2]) [])) (fun x=>some (.pan x []))
theorem VW (a0:Nat) (za:List Int) (zb:List Int) (zt:List Int) (zA:List Int):fq [.d (.fn a0),.agg [.d (zf cI za),.d (zf cI zb)],.agg [.d (zf cI zt),.d (zf cI zA)]]=((j3 a0 za zb zt zA)).bind fun r=>r.on (fun r=>some (.ret (.agg [zo (cI) 3 none false r.1,zo (cI) 3 none false r.2]) [])) (fun x=>some (.pan x [])):=yi (enc:=lq) (by
 intro a b h
 simp only [lq,List.cons.injEq,X.d.injEq,X.res.injEq,RK.bld.injEq,X.agg.injEq,X.box.injEq,D.int.injEq,D.bool.injEq,D.fn.injEq,yk,zU,zS,and_true,true_and,and_assoc] at h
 simp only [Prod.ext_iff]; exact h) (a0,za,zb,zt,zA)
theorem XT (za:List Int) (zb:List Int) (zt:List Int) (zA:List Int):fq [.d (.nilf),.agg [.d (zf cI za),.d (zf cI zb)],.agg [.d (zf cI zt),.d (zf cI zA)]]=none:=sJ (fun a h=>by simp [lq] at h)
noncomputable def G72:Ctx:=G71.with 66 fq
theorem Ar:SoundAll Tryz.prog (D71.with 66 fq):=by
 refine yE (cuts:=[]) (k:=3) (cd:=c_impl_each) (rs:=uy) (enc:=lq) yx Ak Tryz.func66 (by kernel_rfl) (by kernel_rfl) (by kernel_rfl) (by kernel_rfl) (by kernel_rfl) (by kernel_rfl) (wk:=fun y=>nocap y) Same.nocap ?_
 intro a out ho
 obtain ⟨r,h1,h2⟩:=Option.bind_eq_some_iff.mp ho
 obtain ⟨hp,rfl⟩:=zH h1
 obtain ⟨N,hN⟩:=Qi yC (fun _ h=>zk h) yN (fun _ _ h=>zk h) (fun f x y=>yh (yv f x y) (xq f x y)) (fun _ _ _ h=>zk h) a.1 a.2.1 a.2.2.1 a.2.2.2.1 a.2.2.2.2 hp
 refine ⟨N,?_⟩
 refine ((z9 (fun y=>some (nocap y)) 3 c_impl_each uy (lq a) ⟨rfl,rfl,rfl⟩).trans (QB ⟨D71,[],[],[],N,uy,none,fun _ _=>none,fun y=>some (nocap y)⟩ ⟨rfl,rfl,rfl,rfl,rfl,fun _=>rfl,fun _=>rfl⟩ yC ⟨rfl,(fun a0=>(show D71 44 _=_ from rfl).trans (vh a0))⟩ yN ⟨rfl,(fun a0 a1=>(show D71 54 _=_ from rfl).trans (tP a0 a1))⟩ (fun f x y=>yh (yv f x y) (xq f x y)) zac a.1 a.2.1 a.2.2.1 a.2.2.2.1 a.2.2.2.2)).trans ?_
 show (j8 yC yN (fun f x y=>yh (yv f x y) (xq f x y)) N a.1 a.2.1 a.2.2.1 a.2.2.2.1 a.2.2.2.2).bind _=_
 rw [hN]; exact h2
theorem A4:SoundAll Tryz.prog G72:=so71.with (by have h:=Ar 66; exact h)
noncomputable def ko (a0:Int) (za:List Int) (zb:List Int) (zt:List Int) (zA:List Int):Option (List Int×List Int×Int):=yh (gW a0 za zb zt zA) (kJ a0 za zb zt zA)
def l4 (a:Int×(List Int)×(List Int)×(List Int)×(List Int)):List X:=[.d (.int .i64 a.1),.agg [.d (zf cI a.2.1),.d (zf cI a.2.2.1)],.agg [.d (zf cI a.2.2.2.1),.d (zf cI a.2.2.2.2)]]
noncomputable def ZQ:List X→Option XOut:=lay l4 fun a=>((ko a.1 a.2.1 a.2.2.1 a.2.2.2.1 a.2.2.2.2)).bind fun r=>some (.ret (.tup [.agg [zo (cI) 3 none false r.1,zo (cI) 3 none false r.2.1],.d (.int .i64 r.2.2)]) [])
theorem Wd (a0:Int) (za:List Int) (zb:List Int) (zt:List Int) (zA:List Int):ZQ [.d (.int .i64 a0),.agg [.d (zf cI za),.d (zf cI zb)],.agg [.d (zf cI zt),.d (zf cI zA)]]=((ko a0 za zb zt zA)).bind fun r=>some (.ret (.tup [.agg [zo (cI) 3 none false r.1,zo (cI) 3 none false r.2.1],.d (.int .i64 r.2.2)]) []):=yi (enc:=l4) (by
 intro a b h
 simp only [l4,List.cons.injEq,X.d.injEq,X.res.injEq,RK.bld.injEq,X.agg.injEq,X.box.injEq,D.int.injEq,D.bool.injEq,D.fn.injEq,yk,zU,zS,and_true,true_and,and_assoc] at h
 simp only [Prod.ext_iff]; exact h) (a0,za,zb,zt,zA)
noncomputable def G73:Ctx:=G72.with 14 ZQ
theorem AL:SoundAll Tryz.prog G73:=by
 refine eT (cuts:=[]) (k:=3) (A:=c_impl_Each2) (B:=d_impl_Each2) (da:=mc) (keep:=mj) (rs:=qi) (enc:=l4) yx A4 rh Tryz.func14 (by kernel_rfl) (by kernel_rfl) (by kernel_rfl) (by kernel_rfl) (by kernel_rfl) (by kernel_rfl) (by kernel_rfl) (by kernel_rfl) (wk:=fun y=>nocap (yw (.node [.node [.own 3 1,.own 3 1],.k]) y)) (Same.comp Same.nocap (Same.own (.node [.node [.own 3 1,.own 3 1],.k]))) ?_
 intro a out ho
 obtain ⟨r,h1,h2⟩:=Option.bind_eq_some_iff.mp ho
 obtain ⟨hp,rfl⟩:=zH h1
 obtain ⟨N,hN⟩:=SD wJ (fun _ h=>zk h) yP (fun _ _ h=>zk h) j3 (fun _ _ _ _ _ h=>zk h) yK (fun x a0 za zb h=>(t7 x a0 za zb).trans (zk h)) a.1 a.2.1 a.2.2.1 a.2.2.2.1 a.2.2.2.2 hp
 refine ⟨N,?_⟩
 refine ((gZ (FD:=xI) (fun y=>some (nocap (yw (.node [.node [.own 3 1,.own 3 1],.k]) y))) 3 c_impl_Each2 mc mj d_impl_Each2 qi (l4 a) ⟨rfl,rfl,rfl⟩).trans (Sj ⟨G72,[],[],[],N,qi,none,xI,fun y=>some (nocap (yw (.node [.node [.own 3 1,.own 3 1],.k]) y))⟩ ⟨rfl,rfl,rfl,rfl,rfl,fun _=>rfl,fun _=>rfl⟩ wJ ⟨rfl,(fun a0=>(show G72 39 _=_ from rfl).trans (js a0))⟩ yP ⟨rfl,(fun zg zh=>(show G72 40 _=_ from rfl).trans (tv zg zh))⟩ j3 ⟨rfl,(fun a0 za zb zt zA=>(show G72 66 _=_ from rfl).trans (VW a0 za zb zt zA)),(fun za zb zt zA=>(show G72 66 _=_ from rfl).trans (XT za zb zt zA))⟩ yK (fun x a0 za zb=>tw x a0 za zb) a.1 a.2.1 a.2.2.1 a.2.2.2.1 a.2.2.2.2)).trans ?_
 show (kC wJ yP j3 yK N a.1 a.2.1 a.2.2.1 a.2.2.2.1 a.2.2.2.2).bind _=_
 rw [hN]; exact h2
noncomputable def eb (a0:List Int):Option (Bool):=yh (pR a0) (eg a0)
def nJ (a:(List Int)):List X:=[.d (zf c8 a)]
noncomputable def iw:List X→Option XOut:=lay nJ fun a=>((eb a)).bind fun r=>some (.ret (.d (.bool r)) [])
theorem XG (a0:List Int):iw [.d (zf c8 a0)]=((eb a0)).bind fun r=>some (.ret (.d (.bool r)) []):=yi (enc:=nJ) (by
 intro a b h
 simp only [nJ,List.cons.injEq,X.d.injEq,X.res.injEq,RK.bld.injEq,X.agg.injEq,X.box.injEq,D.int.injEq,D.bool.injEq,D.fn.injEq,yk,zU,zS,and_true,true_and,and_assoc] at h
 exact h) a0
noncomputable def G74:Ctx:=G73.with 3 iw
theorem AF:SoundAll Tryz.prog G74:=by
 refine yE (cuts:=[]) (k:=1) (cd:=c_laws_FnSums) (rs:=nT) (enc:=nJ) yx AL Tryz.func3 (by kernel_rfl) (by kernel_rfl) (by kernel_rfl) (by kernel_rfl) (by kernel_rfl) (by kernel_rfl) (wk:=fun y=>nocap y) Same.nocap ?_
 intro a out ho
 obtain ⟨r,h1,h2⟩:=Option.bind_eq_some_iff.mp ho
 obtain ⟨hp,rfl⟩:=zH h1
 obtain ⟨N,hN⟩:=UP rM (fun _ h=>zk h) mZ (fun _ _ _ h=>zk h) jN (fun _ _ _ h=>zk h) mh (fun _ _ _ h=>zk h) jV (fun _ _ _ h=>zk h) j7 (fun _ _ _ _ _ h=>zk h) qv (fun _ _ _ _ h=>zk h) kY (fun _ _ h=>zk h) kD (fun _ _ _ _ _ _ h=>zk h) ko (fun _ _ _ _ _ h=>zk h) a hp
 refine ⟨N,?_⟩
 refine ((z9 (fun y=>some (nocap y)) 1 c_laws_FnSums nT (nJ a) ⟨rfl,rfl,rfl⟩).trans (To ⟨G73,[],[],[],N,nT,none,fun _ _=>none,fun y=>some (nocap y)⟩ ⟨rfl,rfl,rfl,rfl,rfl,fun _=>rfl,fun _=>rfl⟩ rM ⟨rfl,(fun a0=>(show G73 5 _=_ from rfl).trans (aQ a0))⟩ mZ ⟨rfl,(fun a0 za zb=>(show G73 6 _=_ from rfl).trans (Xc a0 za zb))⟩ jN ⟨rfl,(fun a0 za zb=>(show G73 7 _=_ from rfl).trans (VM a0 za zb))⟩ mh ⟨rfl,(fun a0 za zb=>(show G73 8 _=_ from rfl).trans (Y3 a0 za zb))⟩ jV ⟨rfl,(fun a0 za zb=>(show G73 9 _=_ from rfl).trans (VD a0 za zb))⟩ j7 ⟨rfl,(fun a0 za zb zt zA=>(show G73 10 _=_ from rfl).trans (Vo a0 za zb zt zA))⟩ qv ⟨rfl,(fun zg zh za zb=>(show G73 11 _=_ from rfl).trans (aK zg zh za zb))⟩ kY ⟨rfl,(fun za zb=>(show G73 12 _=_ from rfl).trans (WF za zb))⟩ kD ⟨rfl,(fun a0 a1 zt zA wU uW=>(show G73 13 _=_ from rfl).trans (Ws a0 a1 zt zA wU uW))⟩ ko ⟨rfl,(fun a0 za zb zt zA=>(show G73 14 _=_ from rfl).trans (Wd a0 za zb zt zA))⟩ a)).trans ?_
 show (lc rM mZ jN mh jV j7 qv kY kD ko N a).bind _=_
 rw [hN]; exact h2
theorem law:Sound Tryz.prog 3 iw:=by
 have h:=AF 3
 exact h
end Go.Proofs.YtafjdofgafppgaaGreat.TowSm
