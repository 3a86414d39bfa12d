/- The functions under laws_FnExactMonad: the abstract machine's codes, and what they come to in plain terms. Printed by a program of this session. -/
import Derived.Test.YtpjfklhaogdfeaaVmKind
set_option linter.all false
set_option maxRecDepth 100000
set_option maxHeartbeats 4000000
namespace Go.Vm
structure TFile where
 Name:List UInt8
 Data:List UInt8
 deriving DecidableEq
def Wj (x:TFile):List D:=[sD x.Name,sD x.Data]
def ax:List D→Option TFile
 | [.str a0,.str a1]=>some ⟨a0.data.toList,a1.data.toList⟩
 | _=>none
theorem Uc:∀ xs x,ax xs=some x→xs=Wj x:=by
 intro xs x h
 unfold ax at h
 split at h
 ·cases h; rfl
 ·cases h
def cFile:Enc TFile:=⟨2,Wj,ax,fun _=>rfl,by decide,Uc,fun _=>rfl⟩
theorem Tr (x:TFile):cFile.enc x=[sD x.Name,sD x.Data]:=rfl
theorem TJ (x_Name:List UInt8) (x_Data:List UInt8):cFile.dec [sD x_Name,sD x_Data]=some ⟨x_Name,x_Data⟩:=cFile.edc ⟨x_Name,x_Data⟩
theorem Vo (a:D):cFile.dec [a]=none:=by cases a <;> first | rfl | (rename_i k n; cases k <;> rfl)
def z9:=And.intro (Vo) <| And.intro (oS cFile 2 rfl) <| And.intro (Tr) <| And.intro (TJ) <| And.intro (nm cFile (fun _=>rfl)) <| And.intro ((fun l m=>vU cFile 2 l m 1 (by decide) rfl)) <| And.intro ((fun e cap l m xs z hz=>xP cFile 2 e cap l m 1 xs z hz rfl)) <| And.intro (wZ cFile 1 2 rfl) <| (wZ cFile 2 4 rfl)
structure TAct where
 Kind:Int
 Name:List UInt8
 To:List UInt8
 Data:List UInt8
 deriving DecidableEq
def SH (x:TAct):List D:=[.int .i64 x.Kind,sD x.Name,sD x.To,sD x.Data]
def YG:List D→Option TAct
 | [.int .i64 a0,.str a1,.str a2,.str a3]=>some ⟨a0,a1.data.toList,a2.data.toList,a3.data.toList⟩
 | _=>none
theorem Tb:∀ xs x,YG xs=some x→xs=SH x:=by
 intro xs x h
 unfold YG at h
 split at h
 ·cases h; rfl
 ·cases h
def cAct:Enc TAct:=⟨4,SH,YG,fun _=>rfl,by decide,Tb,fun _=>rfl⟩
theorem RQ (x:TAct):cAct.enc x=[.int .i64 x.Kind,sD x.Name,sD x.To,sD x.Data]:=rfl
theorem QE (x_Kind:Int) (x_Name:List UInt8) (x_To:List UInt8) (x_Data:List UInt8):cAct.dec [.int .i64 x_Kind,sD x_Name,sD x_To,sD x_Data]=some ⟨x_Kind,x_Name,x_To,x_Data⟩:=cAct.edc ⟨x_Kind,x_Name,x_To,x_Data⟩
theorem SQ (a:D):cAct.dec [a]=none:=by cases a <;> first | rfl | (rename_i k n; cases k <;> rfl)
def yr:=And.intro (SQ) <| And.intro (oS cAct 4 rfl) <| And.intro (RQ) <| And.intro (QE) <| And.intro (nm cAct (fun _=>rfl)) <| And.intro ((fun l m=>vU cAct 4 l m 1 (by decide) rfl)) <| And.intro ((fun e cap l m xs z hz=>xP cAct 4 e cap l m 1 xs z hz rfl)) <| And.intro ((fun l m=>vU cAct 4 l m 2 (by decide) rfl)) <| And.intro ((fun e cap l m xs z hz=>xP cAct 4 e cap l m 2 xs z hz rfl)) <| And.intro ((fun l m=>vU cAct 4 l m 3 (by decide) rfl)) <| And.intro ((fun e cap l m xs z hz=>xP cAct 4 e cap l m 3 xs z hz rfl)) <| And.intro (wZ cAct 1 4 rfl) <| (wZ cAct 2 8 rfl)
structure TStep where
 Kind:Int
 Nums:List Int
 Name:List UInt8
 Fn_Kind:Int
 Fn_A:Int
 Fn_B:Int
 Fn_Name:List UInt8
 deriving DecidableEq
def bI (x:TStep):List D:=[.int .i64 x.Kind,zf cI x.Nums,sD x.Name,.int .i64 x.Fn_Kind,.int .i64 x.Fn_A,.int .i64 x.Fn_B,sD x.Fn_Name]
def fE:List D→Option TStep
 | [.int .i64 a0,d1,.str a2,.int .i64 a3,.int .i64 a4,.int .i64 a5,.str a6]=>(lJ cI d1).bind fun a1=>some ⟨a0,a1,a2.data.toList,a3,a4,a5,a6.data.toList⟩
 | _=>none
theorem W7:∀ xs x,fE xs=some x→xs=bI x:=by
 intro xs x h
 unfold fE at h
 split at h
 ·have hh:=Option.bind_eq_some_iff.mp h; clear h; obtain ⟨a1,h1,h⟩:=hh; have e1:=lm h1; clear h1; subst e1; cases h; rfl
 ·cases h
def cStep:Enc TStep:=⟨7,bI,fE,fun _=>rfl,by decide,W7,fun x=>by simp only [bI,fE,sD,nH,Option.bind_some] <;> rfl⟩
theorem Rh (x:TStep):cStep.enc x=[.int .i64 x.Kind,zf cI x.Nums,sD x.Name,.int .i64 x.Fn_Kind,.int .i64 x.Fn_A,.int .i64 x.Fn_B,sD x.Fn_Name]:=rfl
theorem Td (x_Kind:Int) (x_Nums:List Int) (x_Name:List UInt8) (x_Fn_Kind:Int) (x_Fn_A:Int) (x_Fn_B:Int) (x_Fn_Name:List UInt8):cStep.dec [.int .i64 x_Kind,zf cI x_Nums,sD x_Name,.int .i64 x_Fn_Kind,.int .i64 x_Fn_A,.int .i64 x_Fn_B,sD x_Fn_Name]=some ⟨x_Kind,x_Nums,x_Name,x_Fn_Kind,x_Fn_A,x_Fn_B,x_Fn_Name⟩:=cStep.edc ⟨x_Kind,x_Nums,x_Name,x_Fn_Kind,x_Fn_A,x_Fn_B,x_Fn_Name⟩
theorem W4 (a:D):cStep.dec [a]=none:=by cases a <;> first | rfl | (rename_i k n; cases k <;> rfl)
def yd:=And.intro (W4) <| And.intro (oS cStep 7 rfl) <| And.intro (Rh) <| And.intro (Td) <| And.intro (fW cStep) <| And.intro ((fun l m=>vU cStep 7 l m 1 (by decide) rfl)) <| And.intro ((fun e cap l m xs z hz=>xP cStep 7 e cap l m 1 xs z hz rfl)) <| And.intro ((fun l m=>vU cStep 7 l m 2 (by decide) rfl)) <| And.intro ((fun e cap l m xs z hz=>xP cStep 7 e cap l m 2 xs z hz rfl)) <| And.intro ((fun l m=>vU cStep 7 l m 3 (by decide) rfl)) <| And.intro ((fun e cap l m xs z hz=>xP cStep 7 e cap l m 3 xs z hz rfl)) <| And.intro ((fun l m=>vU cStep 7 l m 4 (by decide) rfl)) <| And.intro ((fun e cap l m xs z hz=>xP cStep 7 e cap l m 4 xs z hz rfl)) <| And.intro ((fun l m=>vU cStep 7 l m 5 (by decide) rfl)) <| And.intro ((fun e cap l m xs z hz=>xP cStep 7 e cap l m 5 xs z hz rfl)) <| And.intro ((fun l m=>vU cStep 7 l m 6 (by decide) rfl)) <| And.intro ((fun e cap l m xs z hz=>xP cStep 7 e cap l m 6 xs z hz rfl)) <| And.intro (wZ cStep 1 7 rfl) <| (wZ cStep 2 14 rfl)
structure TGuard where
 Test:List TStep
 Then:List TStep
 deriving DecidableEq
def dl (x:TGuard):List D:=[zf cStep x.Test,zf cStep x.Then]
def j5:List D→Option TGuard
 | [d0,d1]=>(lJ cStep d0).bind fun a0=>(lJ cStep d1).bind fun a1=>some ⟨a0,a1⟩
 | _=>none
theorem XO:∀ xs x,j5 xs=some x→xs=dl x:=by
 intro xs x h
 unfold j5 at h
 split at h
 ·have hh:=Option.bind_eq_some_iff.mp h; clear h; obtain ⟨a0,h0,h⟩:=hh; have e0:=lm h0; clear h0; subst e0; have hh:=Option.bind_eq_some_iff.mp h; clear h; obtain ⟨a1,h1,h⟩:=hh; have e1:=lm h1; clear h1; subst e1; cases h; rfl
 ·cases h
def cGuard:Enc TGuard:=⟨2,dl,j5,fun _=>rfl,by decide,XO,fun x=>by simp only [dl,j5,nH,Option.bind_some]⟩
theorem Vd (x:TGuard):cGuard.enc x=[zf cStep x.Test,zf cStep x.Then]:=rfl
theorem UJ (x_Test:List TStep) (x_Then:List TStep):cGuard.dec [zf cStep x_Test,zf cStep x_Then]=some ⟨x_Test,x_Then⟩:=cGuard.edc ⟨x_Test,x_Then⟩
theorem XU (a:D):cGuard.dec [a]=none:=by cases a <;> first | rfl | (rename_i k n; cases k <;> rfl)
def zO:=And.intro (XU) <| And.intro (oS cGuard 2 rfl) <| And.intro (Vd) <| And.intro (UJ) <| And.intro (fW cGuard) <| And.intro ((fun l m=>vU cGuard 2 l m 1 (by decide) rfl)) <| And.intro ((fun e cap l m xs z hz=>xP cGuard 2 e cap l m 1 xs z hz rfl)) <| And.intro (wZ cGuard 1 2 rfl) <| (wZ cGuard 2 4 rfl)
structure TStmt where
 Kind:Int
 Name:List UInt8
 Code:List TStep
 Guards:List TGuard
 deriving DecidableEq
def aq (x:TStmt):List D:=[.int .i64 x.Kind,sD x.Name,zf cStep x.Code,zf cGuard x.Guards]
def fK:List D→Option TStmt
 | [.int .i64 a0,.str a1,d2,d3]=>(lJ cStep d2).bind fun a2=>(lJ cGuard d3).bind fun a3=>some ⟨a0,a1.data.toList,a2,a3⟩
 | _=>none
theorem VU:∀ xs x,fK xs=some x→xs=aq x:=by
 intro xs x h
 unfold fK at h
 split at h
 ·have hh:=Option.bind_eq_some_iff.mp h; clear h; obtain ⟨a2,h2,h⟩:=hh; have e2:=lm h2; clear h2; subst e2; have hh:=Option.bind_eq_some_iff.mp h; clear h; obtain ⟨a3,h3,h⟩:=hh; have e3:=lm h3; clear h3; subst e3; cases h; rfl
 ·cases h
def cStmt:Enc TStmt:=⟨4,aq,fK,fun _=>rfl,by decide,VU,fun x=>by simp only [aq,fK,sD,nH,Option.bind_some] <;> rfl⟩
theorem Su (x:TStmt):cStmt.enc x=[.int .i64 x.Kind,sD x.Name,zf cStep x.Code,zf cGuard x.Guards]:=rfl
theorem Sj (x_Kind:Int) (x_Name:List UInt8) (x_Code:List TStep) (x_Guards:List TGuard):cStmt.dec [.int .i64 x_Kind,sD x_Name,zf cStep x_Code,zf cGuard x_Guards]=some ⟨x_Kind,x_Name,x_Code,x_Guards⟩:=cStmt.edc ⟨x_Kind,x_Name,x_Code,x_Guards⟩
theorem VF (a:D):cStmt.dec [a]=none:=by cases a <;> first | rfl | (rename_i k n; cases k <;> rfl)
def yb:=And.intro (VF) <| And.intro (oS cStmt 4 rfl) <| And.intro (Su) <| And.intro (Sj) <| And.intro (fW cStmt) <| And.intro ((fun l m=>vU cStmt 4 l m 1 (by decide) rfl)) <| And.intro ((fun e cap l m xs z hz=>xP cStmt 4 e cap l m 1 xs z hz rfl)) <| And.intro ((fun l m=>vU cStmt 4 l m 2 (by decide) rfl)) <| And.intro ((fun e cap l m xs z hz=>xP cStmt 4 e cap l m 2 xs z hz rfl)) <| And.intro ((fun l m=>vU cStmt 4 l m 3 (by decide) rfl)) <| And.intro ((fun e cap l m xs z hz=>xP cStmt 4 e cap l m 3 xs z hz rfl)) <| And.intro (wZ cStmt 1 4 rfl) <| (wZ cStmt 2 8 rfl)
structure Tl3Tok where
 kind:Int
 text:List UInt8
 v:Int
 at0:Int
 deriving DecidableEq
def YS (x:Tl3Tok):List D:=[.int .u8 x.kind,sD x.text,.int .i64 x.v,.int .i64 x.at0]
def dH:List D→Option Tl3Tok
 | [.int .u8 a0,.str a1,.int .i64 a2,.int .i64 a3]=>some ⟨a0,a1.data.toList,a2,a3⟩
 | _=>none
theorem Xy:∀ xs x,dH xs=some x→xs=YS x:=by
 intro xs x h
 unfold dH at h
 split at h
 ·cases h; rfl
 ·cases h
def cl3Tok:Enc Tl3Tok:=⟨4,YS,dH,fun _=>rfl,by decide,Xy,fun _=>rfl⟩
theorem Uy (x:Tl3Tok):cl3Tok.enc x=[.int .u8 x.kind,sD x.text,.int .i64 x.v,.int .i64 x.at0]:=rfl
theorem Uv (x_kind:Int) (x_text:List UInt8) (x_v:Int) (x_at0:Int):cl3Tok.dec [.int .u8 x_kind,sD x_text,.int .i64 x_v,.int .i64 x_at0]=some ⟨x_kind,x_text,x_v,x_at0⟩:=cl3Tok.edc ⟨x_kind,x_text,x_v,x_at0⟩
theorem XV (a:D):cl3Tok.dec [a]=none:=by cases a <;> first | rfl | (rename_i k n; cases k <;> rfl)
def zR:=And.intro (XV) <| And.intro (oS cl3Tok 4 rfl) <| And.intro (Uy) <| And.intro (Uv) <| And.intro (nm cl3Tok (fun _=>rfl)) <| And.intro ((fun l m=>vU cl3Tok 4 l m 1 (by decide) rfl)) <| And.intro ((fun e cap l m xs z hz=>xP cl3Tok 4 e cap l m 1 xs z hz rfl)) <| And.intro ((fun l m=>vU cl3Tok 4 l m 2 (by decide) rfl)) <| And.intro ((fun e cap l m xs z hz=>xP cl3Tok 4 e cap l m 2 xs z hz rfl)) <| And.intro ((fun l m=>vU cl3Tok 4 l m 3 (by decide) rfl)) <| And.intro ((fun e cap l m xs z hz=>xP cl3Tok 4 e cap l m 3 xs z hz rfl)) <| And.intro (wZ cl3Tok 1 4 rfl) <| (wZ cl3Tok 2 8 rfl)
structure Ttoken where
 kind:Int
 text:List UInt8
 value:Int
 at0:Int
 deriving DecidableEq
def Y1 (x:Ttoken):List D:=[.int .i64 x.kind,sD x.text,.int .i64 x.value,.int .i64 x.at0]
def dr:List D→Option Ttoken
 | [.int .i64 a0,.str a1,.int .i64 a2,.int .i64 a3]=>some ⟨a0,a1.data.toList,a2,a3⟩
 | _=>none
theorem XX:∀ xs x,dr xs=some x→xs=Y1 x:=by
 intro xs x h
 unfold dr at h
 split at h
 ·cases h; rfl
 ·cases h
def ctoken:Enc Ttoken:=⟨4,Y1,dr,fun _=>rfl,by decide,XX,fun _=>rfl⟩
theorem WU (x:Ttoken):ctoken.enc x=[.int .i64 x.kind,sD x.text,.int .i64 x.value,.int .i64 x.at0]:=rfl
theorem Ub (x_kind:Int) (x_text:List UInt8) (x_value:Int) (x_at0:Int):ctoken.dec [.int .i64 x_kind,sD x_text,.int .i64 x_value,.int .i64 x_at0]=some ⟨x_kind,x_text,x_value,x_at0⟩:=ctoken.edc ⟨x_kind,x_text,x_value,x_at0⟩
theorem We (a:D):ctoken.dec [a]=none:=by cases a <;> first | rfl | (rename_i k n; cases k <;> rfl)
def zN:=And.intro (We) <| And.intro (oS ctoken 4 rfl) <| And.intro (WU) <| And.intro (Ub) <| And.intro (nm ctoken (fun _=>rfl)) <| And.intro ((fun l m=>vU ctoken 4 l m 1 (by decide) rfl)) <| And.intro ((fun e cap l m xs z hz=>xP ctoken 4 e cap l m 1 xs z hz rfl)) <| And.intro ((fun l m=>vU ctoken 4 l m 2 (by decide) rfl)) <| And.intro ((fun e cap l m xs z hz=>xP ctoken 4 e cap l m 2 xs z hz rfl)) <| And.intro ((fun l m=>vU ctoken 4 l m 3 (by decide) rfl)) <| And.intro ((fun e cap l m xs z hz=>xP ctoken 4 e cap l m 3 xs z hz rfl)) <| And.intro (wZ ctoken 1 4 rfl) <| (wZ ctoken 2 8 rfl)
def yc:=mM cI 3 1 rfl [iD 0] 0 rfl
def zF:=mM cFile 135 2 rfl [sD [],sD []] ⟨[],[]⟩ rfl
def zQ:=mM cAct 74 4 rfl [iD 0,sD [],sD [],sD []] ⟨0,[],[],[]⟩ rfl
def zC:=mM cFile 136 2 rfl [sD [],sD []] ⟨[],[]⟩ rfl
def zP:=mM cAct 78 4 rfl [iD 0,sD [],sD [],sD []] ⟨0,[],[],[]⟩ rfl
def zD:=mM cStep 192 7 rfl [iD 0,.lst 0 [],sD [],iD 0,iD 0,iD 0,sD []] ⟨0,[],[],0,0,0,[]⟩ rfl
def zA:=mM cGuard 194 2 rfl [.lst 0 [],.lst 0 []] ⟨[],[]⟩ rfl
def zz:=mM cStmt 100 4 rfl [iD 0,sD [],.lst 0 [],.lst 0 []] ⟨0,[],[],[]⟩ rfl
def zL:=mM cl3Tok 94 4 rfl [.int .u8 0,sD [],iD 0,iD 0] ⟨0,[],0,0⟩ rfl
def zE:=mM ctoken 111 4 rfl [iD 0,sD [],iD 0,iD 0] ⟨0,[],0,0⟩ rfl
def z7:=mM c8 5 1 rfl [.int .u8 0] 0 rfl
def ya:=mM cS 9 1 rfl [sD []] [] rfl
def zl (e:Nat):Bool:=e == 3||e == 135||e == 74||e == 136||e == 78||e == 94||e == 111||e == 5||e == 9
def c_laws_szIntS:Cd:=
 sq (r [0,1] [o 4 .mv [i 0]])
 (sq (r [1] [o 5 .mv [t 1],o 6 .mv [t 0],o 7 (.len false) [t 6],o 8 (.bin .sub) [t 5,t 7],o 1 .mv [t 8]])
  (sq (sq (r [1,10] [o 9 .mv [t 1],o 10 (.bin .lss) [t 9,i 0]])
    (.cond (t 10) (sq (r [4] [o 4 .mv [i (-1)]])
      (.ret)) (.skip)))
   (sq (r [4] [o 11 .mv [t 1],o 4 .mv [t 11]])
    (.ret))))
def qD:List RV:=[.tmp 4]
def qk (N:Nat) (a0:List Int) (a1:Int):Option (Int):=
 if w64 (a1 - (↑(List.length a0):Int)) < 0 then some (-1)
 else some (w64 (a1 - (↑(List.length a0):Int)))
theorem Zt (E:En) (hy:Hy E [] [] [] qD none (fun y=>nocap y) zl) (a0:List Int) (a1:Int):G E c_laws_szIntS [] ⟨zo [(0,.d (zf cI a0)),(1,.d (.int .i64 a1))],zw []⟩=(qk E.n a0 a1).bind fun r=>some (.ret (.d (.int .i64 r)) []):=by
 simp (config:={maxSteps:=40000000}) only [↓yq,z6,yn,yo,rI,rS,rB,r8,rLI,ym,yp,hy.p,hy.l,hy.k,hy.r,hy.d,hy.w,hy.f,zl,oid,qD,↓zk _ _ c_laws_szIntS.eq_1,zr,qk,yc,z9,zF,yr,zQ,zC,zP,yd,zD,zO,zA,yb,zz,zR,zL,zN,zE,z7,ya,yu,↓reduceIte,Nat.reduceMul,Nat.reduceAdd,Nat.reduceSub,Nat.reduceEqDiff,Nat.reduceBEq,Nat.reduceLeDiff,Nat.reduceLT,reduceCtorEq,Int.reduceAdd,Int.reduceSub,Int.reduceToNat,Int.reduceNeg,Int.reduceEq,Int.reduceLT,Int.reduceLE]
def Zx (E:En) (L:(List Int)→Int→Option (Int)):Prop:=E.Γ.mu 29=false∧(∀ (a0:List Int) (a1:Int),E.Γ 29 [.d (zf cI a0),.d (.int .i64 a1)]=(L a0 a1).bind fun r=>some (.ret (.d (.int .i64 r)) []))
def c_laws_szArray:Cd:=
 sq (r [1,2] [o 2 .box [t 0],o 4 .mv [i 0]])
 (sq (r [1,2] [o 5 (.fa 0) [t 2],o 6 (.ld none) [t 5],o 7 .mv [t 1],o 8 (.call 29) [t 6,t 7],o 1 .mv [t 8]])
  (sq (sq (r [1,2,10] [o 9 .mv [t 1],o 10 (.bin .lss) [t 9,i 0]])
    (.cond (t 10) (sq (r [4] [o 4 .mv [i (-1)]])
      (.ret)) (.skip)))
   (sq (r [1] [o 11 (.fa 1) [t 2],o 12 (.ld none) [t 11],o 13 .mv [t 1],o 14 (.call 29) [t 12,t 13],o 1 .mv [t 14]])
    (sq (sq (r [1,16] [o 15 .mv [t 1],o 16 (.bin .lss) [t 15,i 0]])
      (.cond (t 16) (sq (r [4] [o 4 .mv [i (-1)]])
        (.ret)) (.skip)))
     (sq (r [4] [o 17 .mv [t 1],o 4 .mv [t 17]])
      (.ret))))))
def sc:List RV:=[.tmp 4]
def rk (qG:(List Int)→Int→Option (Int)) (N:Nat) (za:List Int) (zb:List Int) (a1:Int):Option (Int):=
 (qG za a1).bind fun y0=>
 if y0 < 0 then some (-1)
 else ((qG zb y0).bind fun y1=>
  if y1 < 0 then some (-1)
  else some y1)
theorem bQ (E:En) (hy:Hy E [] [] [] sc none (fun y=>nocap y) zl) (qG:(List Int)→Int→Option (Int)) (h_laws_szIntS:Zx E qG) (za:List Int) (zb:List Int) (a1:Int):G E c_laws_szArray [] ⟨zo [(0,.agg [.d (zf cI za),.d (zf cI zb)]),(1,.d (.int .i64 a1))],zw []⟩=(rk qG E.n za zb a1).bind fun r=>some (.ret (.d (.int .i64 r)) []):=by
 simp (config:={maxSteps:=40000000}) only [↓yq,z6,yn,yo,rI,rS,rB,r8,rLI,ym,yp,hy.p,hy.l,hy.k,hy.r,hy.d,hy.w,hy.f,zl,oid,sc,↓zk _ _ c_laws_szArray.eq_1,h_laws_szIntS.2,h_laws_szIntS.1,zr,rk,yc,z9,zF,yr,zQ,zC,zP,yd,zD,zO,zA,yb,zz,zR,zL,zN,zE,z7,ya,yu,↓reduceIte,Nat.reduceMul,Nat.reduceAdd,Nat.reduceSub,Nat.reduceEqDiff,Nat.reduceBEq,Nat.reduceLeDiff,Nat.reduceLT,reduceCtorEq,Int.reduceAdd,Int.reduceSub,Int.reduceToNat,Int.reduceNeg,Int.reduceEq,Int.reduceLT,Int.reduceLE]
def bB (E:En) (L:(List Int)→(List Int)→Int→Option (Int)):Prop:=E.Γ.mu 6=false∧(∀ (za:List Int) (zb:List Int) (a1:Int),E.Γ 6 [.agg [.d (zf cI za),.d (zf cI zb)],.d (.int .i64 a1)]=(L za zb a1).bind fun r=>some (.ret (.d (.int .i64 r)) []))
def b0_laws_toIntS:Cd:=
 sq (sq (r [0,3,4,11] [o 8 .mv [t 4],o 9 .mv [t 0],o 10 (.len false) [t 9],o 11 (.bin .lss) [t 8,t 10]])
  (.cond (t 11) (.skip) (.exit 0)))
 (sq (.block 1 (r [0,3,4] [o 14 .mv [t 3],o 15 .mv [t 4],o 16 .mv [t 0],o 17 .mv [t 4],o 18 (.ia 1) [t 16,t 17],o 19 (.ld none) [t 18],o 20 (.ia 1) [t 14,t 15],e (.st 1) [t 20,t 19]]))
  (r [0,3,4] [o 12 .mv [t 4],o 13 (.bin .add) [t 12,i 1],o 4 .mv [t 13]]))
def k1_laws_toIntS:Cd:=
 sq (r [2] [o 21 .mv [t 3],o 2 .mv [t 21]])
 (.ret)
def c_laws_toIntS:Cd:=
 sq (r [0] [o 2 .mv [n]])
 (sq (r [0,3] [o 5 .mv [t 0],o 6 (.len false) [t 5],o 7 (.mkS 3 1 8 [(iD 0)]) [t 6,t 6],o 3 .mv [t 7]])
  (sq (sq (r [0,3,4] [o 4 .mv [i 0]])
    (.block 0 (.loop [0,3,4] b0_laws_toIntS))) k1_laws_toIntS))
def v9:List RV:=[.tmp 2]
def vD:Nat→(List Int)→Int→(List Int)→Option (List Int)
 | 0,_,_,_=>none
 | m0+1,x0,x4,o192=>
   if x4 < (↑(List.length x0):Int) then ((idx x0 x4).bind fun y0=>
    if 0 ≤ x4∧x4 < (↑(List.length o192):Int) then ((uM o192 (Int.toNat x4) y0).bind fun y1=>
     vD m0 x0 (w64 (x4+1)) y1)
    else none)
   else some o192
def rX (N:Nat) (a0:List Int):Option (List Int):=
 if mN 8 (↑(List.length a0):Int) (↑(List.length a0):Int) then vD N a0 0 (List.replicate (List.length a0) 0)
 else none
theorem eo (E:En) (hy:Hy E [] [] [] v9 none (fun y=>nocap y) zl):∀ (m0:Nat) (x0:List Int) (x4:Int) (o192:List Int),gH E [0,3,4] b0_laws_toIntS [KJ.b 0,KJ.c k1_laws_toIntS] m0 ⟨zo [(0,.d (zf (cI) x0)),(3,A.row 192 1),(4,.d (.int .i64 x4))],zw [(192,⟨1,zW (cI) 3 none o192,false⟩)]⟩=(vD m0 x0 x4 o192).bind fun r=>some (.ret (zj (cI) 3 none false r) []):=by
 intro m0
 induction m0 with
 | zero=>intros; rfl
 | succ m0 ih=>
   intros
   simp (config:={maxSteps:=40000000}) only [↓yq,z6,yn,yo,rI,rS,rB,r8,rLI,ym,yp,hy.p,hy.l,hy.k,hy.r,hy.d,hy.w,hy.f,zl,oid,v9,↓zk _ _ b0_laws_toIntS.eq_1,↓zk _ _ k1_laws_toIntS.eq_1,↓zk _ _ c_laws_toIntS.eq_1,xi,ih,zr,vD,yc,z9,zF,yr,zQ,zC,zP,yd,zD,zO,zA,yb,zz,zR,zL,zN,zE,z7,ya,yu,↓reduceIte,Nat.reduceMul,Nat.reduceAdd,Nat.reduceSub,Nat.reduceEqDiff,Nat.reduceBEq,Nat.reduceLeDiff,Nat.reduceLT,reduceCtorEq,Int.reduceAdd,Int.reduceSub,Int.reduceToNat,Int.reduceNeg,Int.reduceEq,Int.reduceLT,Int.reduceLE]
theorem Zp (E:En) (hy:Hy E [] [] [] v9 none (fun y=>nocap y) zl) (a0:List Int):G E c_laws_toIntS [] ⟨zo [(0,.d (zf cI a0))],zw []⟩=(rX E.n a0).bind fun r=>some (.ret (zj (cI) 3 none false r) []):=by
 simp (config:={maxSteps:=40000000}) only [↓yq,z6,yn,yo,rI,rS,rB,r8,rLI,ym,yp,hy.p,hy.l,hy.k,hy.r,hy.d,hy.w,hy.f,zl,oid,v9,↓zk _ _ b0_laws_toIntS.eq_1,↓zk _ _ k1_laws_toIntS.eq_1,↓zk _ _ c_laws_toIntS.eq_1,zr,rX,eo E hy,yc,z9,zF,yr,zQ,zC,zP,yd,zD,zO,zA,yb,zz,zR,zL,zN,zE,z7,ya,yu,↓reduceIte,Nat.reduceMul,Nat.reduceAdd,Nat.reduceSub,Nat.reduceEqDiff,Nat.reduceBEq,Nat.reduceLeDiff,Nat.reduceLT,reduceCtorEq,Int.reduceAdd,Int.reduceSub,Int.reduceToNat,Int.reduceNeg,Int.reduceEq,Int.reduceLT,Int.reduceLE]
def Zz (E:En) (L:(List Int)→Option (List Int)):Prop:=E.Γ.mu 37=false∧(∀ (a0:List Int),E.Γ 37 [.d (zf cI a0)]=(L a0).bind fun r=>some (.ret (zj (cI) 3 none false r) []))
def c_laws_toArray:Cd:=
 sq (r [1,2] [o 1 .box [t 0],o 2 (.alloc [.nil,.nil]) []])
 (sq (r [1,2,3] [o 3 (.alloc [.nil,.nil]) []])
  (sq (r [1,2,3] [o 4 (.fa 0) [t 1],o 5 (.ld none) [t 4],o 6 (.call 37) [t 5],o 7 (.fa 0) [t 3],e (.st 1) [t 7,t 6]])
   (sq (r [2,3] [o 8 (.fa 1) [t 1],o 9 (.ld none) [t 8],o 10 (.call 37) [t 9],o 11 (.fa 1) [t 3],e (.st 1) [t 11,t 10]])
    (sq (r [2] [o 12 (.ld (some 2)) [t 3],e (.st 2) [t 2,t 12]])
     (.ret)))))
def sy:List RV:=[.cell 2 (some 2)]
def se (qx:(List Int)→Option (List Int)) (N:Nat) (za:List Int) (zb:List Int):Option (List Int×List Int):=
 (qx za).bind fun y0=>
 (qx zb).bind fun y1=>
 some ((y0,y1))
theorem bY (E:En) (hy:Hy E [] [] [] sy none (fun y=>nocap y) zl) (qx:(List Int)→Option (List Int)) (h_laws_toIntS:Zz E qx) (za:List Int) (zb:List Int):G E c_laws_toArray [] ⟨zo [(0,.agg [.d (zf cI za),.d (zf cI zb)])],zw []⟩=(se qx E.n za zb).bind fun r=>some (.ret (.agg [zj (cI) 3 none false r.1,zj (cI) 3 none false r.2]) []):=by
 simp (config:={maxSteps:=40000000}) only [↓yq,z6,yn,yo,rI,rS,rB,r8,rLI,ym,yp,hy.p,hy.l,hy.k,hy.r,hy.d,hy.w,hy.f,zl,oid,sy,↓zk _ _ c_laws_toArray.eq_1,h_laws_toIntS.2,h_laws_toIntS.1,zr,se,yc,z9,zF,yr,zQ,zC,zP,yd,zD,zO,zA,yb,zz,zR,zL,zN,zE,z7,ya,yu,↓reduceIte,Nat.reduceMul,Nat.reduceAdd,Nat.reduceSub,Nat.reduceEqDiff,Nat.reduceBEq,Nat.reduceLeDiff,Nat.reduceLT,reduceCtorEq,Int.reduceAdd,Int.reduceSub,Int.reduceToNat,Int.reduceNeg,Int.reduceEq,Int.reduceLT,Int.reduceLE]
def bJ (E:En) (L:(List Int)→(List Int)→Option (List Int×List Int)):Prop:=E.Γ.mu 8=false∧(∀ (za:List Int) (zb:List Int),E.Γ 8 [.agg [.d (zf cI za),.d (zf cI zb)]]=(L za zb).bind fun r=>some (.ret (.agg [zj (cI) 3 none false r.1,zj (cI) 3 none false r.2]) []))
def b0_spec_l1Product:Cd:=
 sq (sq (r [0,3,4,8] [o 5 .mv [t 4],o 6 .mv [t 0],o 7 (.len false) [t 6],o 8 (.bin .lss) [t 5,t 7]])
  (.cond (t 8) (.skip) (.exit 0)))
 (sq (.block 1 (sq (r [0,3,4] [o 11 .mv [t 3],o 12 .mv [t 0],o 13 .mv [t 4],o 14 (.ia 1) [t 12,t 13],o 15 (.ld none) [t 14],o 16 (.bin .mul) [t 11,t 15],o 3 .mv [t 16]])
   (sq (r [0,3,4,18] [o 17 .mv [t 3],o 18 (.bin .gtr) [t 17,i 1000]])
    (.cond (t 18) (r [0,3,4] [o 3 .mv [i 1001]]) (.skip)))))
  (r [0,3,4] [o 9 .mv [t 4],o 10 (.bin .add) [t 9,i 1],o 4 .mv [t 10]]))
def k1_spec_l1Product:Cd:=
 sq (r [2] [o 19 .mv [t 3],o 2 .mv [t 19]])
 (.ret)
def c_spec_l1Product:Cd:=
 sq (r [0] [o 2 .mv [i 0]])
 (sq (r [0,3] [o 3 .mv [i 1]])
  (sq (sq (r [0,3,4] [o 4 .mv [i 0]])
    (.block 0 (.loop [0,3,4] b0_spec_l1Product))) k1_spec_l1Product))
def wB:List RV:=[.tmp 2]
def xJ:Nat→(List Int)→Int→Int→Option (Int)
 | 0,_,_,_=>none
 | m0+1,x0,x3,x4=>
   if x4 < (↑(List.length x0):Int) then ((idx x0 x4).bind fun y0=>
    if 1000 < w64 (x3 * y0) then xJ m0 x0 1001 (w64 (x4+1))
    else xJ m0 x0 (w64 (x3 * y0)) (w64 (x4+1)))
   else some x3
def rH (N:Nat) (a0:List Int):Option (Int):=
 xJ N a0 1 0
theorem jW (E:En) (hy:Hy E [] [] [] wB none (fun y=>nocap y) zl):∀ (m0:Nat) (x0:List Int) (x3:Int) (x4:Int),gH E [0,3,4] b0_spec_l1Product [KJ.b 0,KJ.c k1_spec_l1Product] m0 ⟨zo [(0,.d (zf (cI) x0)),(3,.d (.int .i64 x3)),(4,.d (.int .i64 x4))],zw []⟩=(xJ m0 x0 x3 x4).bind fun r=>some (.ret (.d (.int .i64 r)) []):=by
 intro m0
 induction m0 with
 | zero=>intros; rfl
 | succ m0 ih=>
   intros
   simp (config:={maxSteps:=40000000}) only [↓yq,z6,yn,yo,rI,rS,rB,r8,rLI,ym,yp,hy.p,hy.l,hy.k,hy.r,hy.d,hy.w,hy.f,zl,oid,wB,↓zk _ _ b0_spec_l1Product.eq_1,↓zk _ _ k1_spec_l1Product.eq_1,↓zk _ _ c_spec_l1Product.eq_1,xi,ih,zr,xJ,yc,z9,zF,yr,zQ,zC,zP,yd,zD,zO,zA,yb,zz,zR,zL,zN,zE,z7,ya,yu,↓reduceIte,Nat.reduceMul,Nat.reduceAdd,Nat.reduceSub,Nat.reduceEqDiff,Nat.reduceBEq,Nat.reduceLeDiff,Nat.reduceLT,reduceCtorEq,Int.reduceAdd,Int.reduceSub,Int.reduceToNat,Int.reduceNeg,Int.reduceEq,Int.reduceLT,Int.reduceLE]
theorem dw (E:En) (hy:Hy E [] [] [] wB none (fun y=>nocap y) zl) (a0:List Int):G E c_spec_l1Product [] ⟨zo [(0,.d (zf cI a0))],zw []⟩=(rH E.n a0).bind fun r=>some (.ret (.d (.int .i64 r)) []):=by
 simp (config:={maxSteps:=40000000}) only [↓yq,z6,yn,yo,rI,rS,rB,r8,rLI,ym,yp,hy.p,hy.l,hy.k,hy.r,hy.d,hy.w,hy.f,zl,oid,wB,↓zk _ _ b0_spec_l1Product.eq_1,↓zk _ _ k1_spec_l1Product.eq_1,↓zk _ _ c_spec_l1Product.eq_1,zr,rH,jW E hy,yc,z9,zF,yr,zQ,zC,zP,yd,zD,zO,zA,yb,zz,zR,zL,zN,zE,z7,ya,yu,↓reduceIte,Nat.reduceMul,Nat.reduceAdd,Nat.reduceSub,Nat.reduceEqDiff,Nat.reduceBEq,Nat.reduceLeDiff,Nat.reduceLT,reduceCtorEq,Int.reduceAdd,Int.reduceSub,Int.reduceToNat,Int.reduceNeg,Int.reduceEq,Int.reduceLT,Int.reduceLE]
def uE (E:En) (L:(List Int)→Option (Int)):Prop:=E.Γ.mu 80=false∧(∀ (a0:List Int),E.Γ 80 [.d (zf cI a0)]=(L a0).bind fun r=>some (.ret (.d (.int .i64 r)) []))
def b0_spec_l1Fits:Cd:=
 sq (sq (r [0,3,10] [o 7 .mv [t 3],o 8 .mv [t 0],o 9 (.len false) [t 8],o 10 (.bin .lss) [t 7,t 9]])
  (.cond (t 10) (.skip) (.exit 0)))
 (sq (.block 1 (sq (r [0,3,24] [o 13 .mv [t 0],o 14 .mv [t 3],o 15 (.ia 1) [t 13,t 14],o 16 (.ld none) [t 15],o 17 (.bin .lss) [t 16,i 0],o 18 .mv [t 17],g 18 false 19 .mv [t 0],g 18 false 20 .mv [t 3],g 18 false 21 (.ia 1) [t 19,t 20],g 18 false 22 (.ld none) [t 21],g 18 false 23 (.bin .gtr) [t 22,i 1000],o 24 .pick [t 18,b true,t 23]])
   (.cond (t 24) (sq (r [2] [o 2 .mv [b false]])
     (.ret)) (.skip))))
  (r [0,3] [o 11 .mv [t 3],o 12 (.bin .add) [t 11,i 1],o 3 .mv [t 12]]))
def k1_spec_l1Fits:Cd:=
 sq (r [2] [o 25 .mv [t 0],o 26 (.call 80) [t 25],o 27 (.bin .leq) [t 26,i 1000],o 2 .mv [t 27]])
 (.ret)
def c_spec_l1Fits:Cd:=
 sq (r [0] [o 2 .mv [b false]])
 (sq (sq (r [0,6] [o 4 .mv [t 0],o 5 (.len false) [t 4],o 6 (.bin .gtr) [t 5,i 3]])
   (.cond (t 6) (sq (r [2] [o 2 .mv [b false]])
     (.ret)) (.skip)))
  (sq (sq (r [0,3] [o 3 .mv [i 0]])
    (.block 0 (.loop [0,3] b0_spec_l1Fits))) k1_spec_l1Fits))
def ug:List RV:=[.tmp 2]
def vF (zG:(List Int)→Option (Int)):Nat→(List Int)→Int→Option (Bool)
 | 0,_,_=>none
 | m0+1,x0,x3=>
   if x3 < (↑(List.length x0):Int) then ((idx x0 x3).bind fun y0=>
    if y0 < 0 then some false
    else ((idx x0 x3).bind fun y1=>
     if 1000 < y1 then some false
     else vF zG m0 x0 (w64 (x3+1))))
   else ((zG x0).bind fun y2=>
    some (Decidable.decide (y2 ≤ 1000)))
def qc (zG:(List Int)→Option (Int)) (N:Nat) (a0:List Int):Option (Bool):=
 if 3 < (↑(List.length a0):Int) then some false
 else vF zG N a0 0
theorem ej (E:En) (hy:Hy E [] [] [] ug none (fun y=>nocap y) zl) (zG:(List Int)→Option (Int)) (h_spec_l1Product:uE E zG):∀ (m0:Nat) (x0:List Int) (x3:Int),gH E [0,3] b0_spec_l1Fits [KJ.b 0,KJ.c k1_spec_l1Fits] m0 ⟨zo [(0,.d (zf (cI) x0)),(3,.d (.int .i64 x3))],zw []⟩=(vF zG m0 x0 x3).bind fun r=>some (.ret (.d (.bool r)) []):=by
 intro m0
 induction m0 with
 | zero=>intros; rfl
 | succ m0 ih=>
   intros
   simp (config:={maxSteps:=40000000}) only [↓yq,z6,yn,yo,rI,rS,rB,r8,rLI,ym,yp,hy.p,hy.l,hy.k,hy.r,hy.d,hy.w,hy.f,zl,oid,ug,↓zk _ _ b0_spec_l1Fits.eq_1,↓zk _ _ k1_spec_l1Fits.eq_1,↓zk _ _ c_spec_l1Fits.eq_1,h_spec_l1Product.2,h_spec_l1Product.1,xi,ih,zr,vF,yc,z9,zF,yr,zQ,zC,zP,yd,zD,zO,zA,yb,zz,zR,zL,zN,zE,z7,ya,yu,↓reduceIte,Nat.reduceMul,Nat.reduceAdd,Nat.reduceSub,Nat.reduceEqDiff,Nat.reduceBEq,Nat.reduceLeDiff,Nat.reduceLT,reduceCtorEq,Int.reduceAdd,Int.reduceSub,Int.reduceToNat,Int.reduceNeg,Int.reduceEq,Int.reduceLT,Int.reduceLE]
theorem Zw (E:En) (hy:Hy E [] [] [] ug none (fun y=>nocap y) zl) (zG:(List Int)→Option (Int)) (h_spec_l1Product:uE E zG) (a0:List Int):G E c_spec_l1Fits [] ⟨zo [(0,.d (zf cI a0))],zw []⟩=(qc zG E.n a0).bind fun r=>some (.ret (.d (.bool r)) []):=by
 simp (config:={maxSteps:=40000000}) only [↓yq,z6,yn,yo,rI,rS,rB,r8,rLI,ym,yp,hy.p,hy.l,hy.k,hy.r,hy.d,hy.w,hy.f,zl,oid,ug,↓zk _ _ b0_spec_l1Fits.eq_1,↓zk _ _ k1_spec_l1Fits.eq_1,↓zk _ _ c_spec_l1Fits.eq_1,h_spec_l1Product.2,h_spec_l1Product.1,zr,qc,ej E hy zG h_spec_l1Product,yc,z9,zF,yr,zQ,zC,zP,yd,zD,zO,zA,yb,zz,zR,zL,zN,zE,z7,ya,yu,↓reduceIte,Nat.reduceMul,Nat.reduceAdd,Nat.reduceSub,Nat.reduceEqDiff,Nat.reduceBEq,Nat.reduceLeDiff,Nat.reduceLT,reduceCtorEq,Int.reduceAdd,Int.reduceSub,Int.reduceToNat,Int.reduceNeg,Int.reduceEq,Int.reduceLT,Int.reduceLE]
def ip (E:En) (L:(List Int)→Option (Bool)):Prop:=E.Γ.mu 79=false∧(∀ (a0:List Int),E.Γ 79 [.d (zf cI a0)]=(L a0).bind fun r=>some (.ret (.d (.bool r)) []))
def b0_spec_ArrayOk:Cd:=
 sq (sq (r [1,3,21] [o 17 .mv [t 3],o 18 (.fa 1) [t 1],o 19 (.ld none) [t 18],o 20 (.len false) [t 19],o 21 (.bin .lss) [t 17,t 20]])
  (.cond (t 21) (.skip) (.exit 0)))
 (sq (.block 1 (sq (r [1,3,37] [o 24 (.fa 1) [t 1],o 25 (.ld none) [t 24],o 26 .mv [t 3],o 27 (.ia 1) [t 25,t 26],o 28 (.ld none) [t 27],o 29 (.bin .lss) [t 28,i (-3000000000)],o 30 .mv [t 29],g 30 false 31 (.fa 1) [t 1],g 30 false 32 (.ld none) [t 31],g 30 false 33 .mv [t 3],g 30 false 34 (.ia 1) [t 32,t 33],g 30 false 35 (.ld none) [t 34],g 30 false 36 (.bin .gtr) [t 35,i 3000000000],o 37 .pick [t 30,b true,t 36]])
   (.cond (t 37) (sq (r [2] [o 2 .mv [b false]])
     (.ret)) (.skip))))
  (r [1,3] [o 22 .mv [t 3],o 23 (.bin .add) [t 22,i 1],o 3 .mv [t 23]]))
def k1_spec_ArrayOk:Cd:=
 sq (r [2] [o 2 .mv [b true]])
 (.ret)
def c_spec_ArrayOk:Cd:=
 sq (r [1] [o 1 .box [t 0],o 2 .mv [b false]])
 (sq (sq (rd [] [1,16] [o 4 (.fa 0) [t 1],o 5 (.ld none) [t 4],o 6 (.call 79) [t 5],o 7 .not [t 6],o 8 .mv [t 7],g 8 false 9 (.fa 1) [t 1],g 8 false 10 (.ld none) [t 9],g 8 false 11 (.len false) [t 10],g 8 false 12 (.fa 0) [t 1],g 8 false 13 (.ld none) [t 12],ap [] false [1,8,9,8,10,8] (g 8 false 14 (.call 80) [t 13]),g 8 false 15 (.bin .neq) [t 11,t 14],o 16 .pick [t 8,b true,t 15]])
   (.cond (t 16) (sq (r [2] [o 2 .mv [b false]])
     (.ret)) (.skip)))
  (sq (sq (r [1,3] [o 3 .mv [i 0]])
    (.block 0 (.loop [1,3] b0_spec_ArrayOk))) k1_spec_ArrayOk))
def vH:List RV:=[.tmp 2]
def wX (xA:(List Int)→Option (Bool)) (zG:(List Int)→Option (Int)):Nat→Int→(List Int)→(List Int)→Option (Bool)
 | 0,_,_,_=>none
 | m0+1,x3,o64_0,o64_1=>
   if x3 < (↑(List.length o64_1):Int) then ((idx o64_1 x3).bind fun y0=>
    if y0 < -3000000000 then some false
    else ((idx o64_1 x3).bind fun y1=>
     if 3000000000 < y1 then some false
     else wX xA zG m0 (w64 (x3+1)) o64_0 o64_1))
   else some true
def sh (xA:(List Int)→Option (Bool)) (zG:(List Int)→Option (Int)) (N:Nat) (za:List Int) (zb:List Int):Option (Bool):=
 (xA za).bind fun y0=>
 if y0=false then some false
 else ((zG za).bind fun y1=>
  if (↑(List.length zb):Int)=y1 then wX xA zG N 0 za zb
  else some false)
theorem hY (E:En) (hy:Hy E [] [] [] vH none (fun y=>nocap y) zl) (xA:(List Int)→Option (Bool)) (h_spec_l1Fits:ip E xA) (zG:(List Int)→Option (Int)) (h_spec_l1Product:uE E zG):∀ (m0:Nat) (x3:Int) (o64_0:List Int) (o64_1:List Int),gH E [1,3] b0_spec_ArrayOk [KJ.b 0,KJ.c k1_spec_ArrayOk] m0 ⟨zo [(1,A.adr 64 1 0),(3,.d (.int .i64 x3))],zw [(64,⟨1,.box [.d (zf (cI) o64_0),.d (zf (cI) o64_1)],false⟩)]⟩=(wX xA zG m0 x3 o64_0 o64_1).bind fun r=>some (.ret (.d (.bool r)) []):=by
 intro m0
 induction m0 with
 | zero=>intros; rfl
 | succ m0 ih=>
   intros
   simp (config:={maxSteps:=40000000}) only [↓yq,z6,yn,yo,rI,rS,rB,r8,rLI,ym,yp,hy.p,hy.l,hy.k,hy.r,hy.d,hy.w,hy.f,zl,oid,vH,↓zk _ _ b0_spec_ArrayOk.eq_1,↓zk _ _ k1_spec_ArrayOk.eq_1,↓zk _ _ c_spec_ArrayOk.eq_1,h_spec_l1Fits.2,h_spec_l1Fits.1,h_spec_l1Product.2,h_spec_l1Product.1,xi,ih,zr,wX,yc,z9,zF,yr,zQ,zC,zP,yd,zD,zO,zA,yb,zz,zR,zL,zN,zE,z7,ya,yu,↓reduceIte,Nat.reduceMul,Nat.reduceAdd,Nat.reduceSub,Nat.reduceEqDiff,Nat.reduceBEq,Nat.reduceLeDiff,Nat.reduceLT,reduceCtorEq,Int.reduceAdd,Int.reduceSub,Int.reduceToNat,Int.reduceNeg,Int.reduceEq,Int.reduceLT,Int.reduceLE]
theorem aa (E:En) (hy:Hy E [] [] [] vH none (fun y=>nocap y) zl) (xA:(List Int)→Option (Bool)) (h_spec_l1Fits:ip E xA) (zG:(List Int)→Option (Int)) (h_spec_l1Product:uE E zG) (za:List Int) (zb:List Int):G E c_spec_ArrayOk [] ⟨zo [(0,.agg [.d (zf cI za),.d (zf cI zb)])],zw []⟩=(sh xA zG E.n za zb).bind fun r=>some (.ret (.d (.bool r)) []):=by
 simp (config:={maxSteps:=40000000}) only [↓yq,z6,yn,yo,rI,rS,rB,r8,rLI,ym,yp,hy.p,hy.l,hy.k,hy.r,hy.d,hy.w,hy.f,zl,oid,vH,↓zk _ _ b0_spec_ArrayOk.eq_1,↓zk _ _ k1_spec_ArrayOk.eq_1,↓zk _ _ c_spec_ArrayOk.eq_1,h_spec_l1Fits.2,h_spec_l1Fits.1,h_spec_l1Product.2,h_spec_l1Product.1,zr,sh,hY E hy xA h_spec_l1Fits zG h_spec_l1Product,yc,z9,zF,yr,zQ,zC,zP,yd,zD,zO,zA,yb,zz,zR,zL,zN,zE,z7,ya,yu,↓reduceIte,Nat.reduceMul,Nat.reduceAdd,Nat.reduceSub,Nat.reduceEqDiff,Nat.reduceBEq,Nat.reduceLeDiff,Nat.reduceLT,reduceCtorEq,Int.reduceAdd,Int.reduceSub,Int.reduceToNat,Int.reduceNeg,Int.reduceEq,Int.reduceLT,Int.reduceLE]
def aw (E:En) (L:(List Int)→(List Int)→Option (Bool)):Prop:=E.Γ.mu 30=false∧(∀ (za:List Int) (zb:List Int),E.Γ 30 [.agg [.d (zf cI za),.d (zf cI zb)]]=(L za zb).bind fun r=>some (.ret (.d (.bool r)) []))
def c_spec_l2Copy:Cd:=
 sq (r [0] [o 2 .mv [n]])
 (sq (r [0,3] [o 4 (lit 3 1 0) [],o 3 .mv [t 4]])
  (sq (r [2] [o 5 .mv [t 3],o 6 .mv [t 0],o 7 (.app 3 1 8) [t 5,t 6],o 2 .mv [t 7]])
   (.ret)))
def qp:List RV:=[.tmp 2]
def qu (N:Nat) (a0:List Int):Option (List Int):=
 if v7 8 (List.length a0) then some a0
 else none
theorem ZH (E:En) (hy:Hy E [] [] [] qp none (fun y=>nocap y) zl) (a0:List Int):G E c_spec_l2Copy [] ⟨zo [(0,.d (zf cI a0))],zw []⟩=(qu E.n a0).bind fun r=>some (.ret (zj (cI) 3 none false r) []):=by
 simp (config:={maxSteps:=40000000}) only [↓yq,z6,yn,yo,rI,rS,rB,r8,rLI,ym,yp,hy.p,hy.l,hy.k,hy.r,hy.d,hy.w,hy.f,zl,oid,qp,↓zk _ _ c_spec_l2Copy.eq_1,zr,qu,yc,z9,zF,yr,zQ,zC,zP,yd,zD,zO,zA,yb,zz,zR,zL,zN,zE,z7,ya,yu,↓reduceIte,Nat.reduceMul,Nat.reduceAdd,Nat.reduceSub,Nat.reduceEqDiff,Nat.reduceBEq,Nat.reduceLeDiff,Nat.reduceLT,reduceCtorEq,Int.reduceAdd,Int.reduceSub,Int.reduceToNat,Int.reduceNeg,Int.reduceEq,Int.reduceLT,Int.reduceLE]
def ua (E:En) (L:(List Int)→Option (List Int)):Prop:=E.Γ.mu 81=false∧(∀ (a0:List Int),E.Γ 81 [.d (zf cI a0)]=(L a0).bind fun r=>some (.ret (zj (cI) 3 none false r) []))
def c_spec_l2Vector:Cd:=
 sq (r [0,2] [o 2 (.alloc [.nil,.nil]) []])
 (sq (r [2] [o 3 .mv [t 0],o 4 (.len false) [t 3],o 5 (lit 3 1 1) [t 4],o 6 .mv [t 0],o 7 (.call 81) [t 6],o 8 (.bld [.nil,.nil] [(0,1),(1,1)]) [t 5,t 7],e (.st 2) [t 2,t 8]])
  (.ret))
def u6:List RV:=[.cell 2 (some 2)]
def tf (zq:(List Int)→Option (List Int)) (N:Nat) (a0:List Int):Option (List Int×List Int):=
 (zq a0).bind fun y0=>
 some (([(↑(List.length a0):Int)],y0))
theorem d8 (E:En) (hy:Hy E [] [] [] u6 none (fun y=>nocap y) zl) (zq:(List Int)→Option (List Int)) (h_spec_l2Copy:ua E zq) (a0:List Int):G E c_spec_l2Vector [] ⟨zo [(0,.d (zf cI a0))],zw []⟩=(tf zq E.n a0).bind fun r=>some (.ret (.agg [zj (cI) 3 none false r.1,zj (cI) 3 none false r.2]) []):=by
 simp (config:={maxSteps:=40000000}) only [↓yq,z6,yn,yo,rI,rS,rB,r8,rLI,ym,yp,hy.p,hy.l,hy.k,hy.r,hy.d,hy.w,hy.f,zl,oid,u6,↓zk _ _ c_spec_l2Vector.eq_1,h_spec_l2Copy.2,h_spec_l2Copy.1,zr,tf,yc,z9,zF,yr,zQ,zC,zP,yd,zD,zO,zA,yb,zz,zR,zL,zN,zE,z7,ya,yu,↓reduceIte,Nat.reduceMul,Nat.reduceAdd,Nat.reduceSub,Nat.reduceEqDiff,Nat.reduceBEq,Nat.reduceLeDiff,Nat.reduceLT,reduceCtorEq,Int.reduceAdd,Int.reduceSub,Int.reduceToNat,Int.reduceNeg,Int.reduceEq,Int.reduceLT,Int.reduceLE]
def vZ (E:En) (L:(List Int)→Option (List Int×List Int)):Prop:=E.Γ.mu 32=false∧(∀ (a0:List Int),E.Γ 32 [.d (zf cI a0)]=(L a0).bind fun r=>some (.ret (.agg [zj (cI) 3 none false r.1,zj (cI) 3 none false r.2]) []))
def b0_spec_l2Iota:Cd:=
 sq (sq (r [1,2,4,5,29] [o 24 .mv [t 5],o 25 (.fa 1) [t 1],o 26 (.ld none) [t 25],o 27 (.ia 1) [t 26,i 0],o 28 (.ld none) [t 27],o 29 (.bin .lss) [t 24,t 28]])
  (.cond (t 29) (.skip) (.exit 0)))
 (sq (.block 1 (r [1,2,4,5] [o 32 .mv [t 4],o 33 .mv [t 5],o 34 (lit 3 1 1) [t 33],o 35 (.app 3 1 8) [t 32,t 34],o 4 .mv [t 35]]))
  (r [1,2,4,5] [o 30 .mv [t 5],o 31 (.bin .add) [t 30,i 1],o 5 .mv [t 31]]))
def k1_spec_l2Iota:Cd:=
 sq (r [2,3] [o 36 .mv [t 4],o 37 (.call 32) [t 36],e (.st 2) [t 2,t 37],o 3 .mv [i 0]])
 (.ret)
def c_spec_l2Iota:Cd:=
 sq (r [1,2] [o 1 .box [t 0],o 2 (.alloc [.nil,.nil]) [],o 3 .mv [i 0]])
 (sq (sq (r [1,2,9] [o 6 (.fa 0) [t 1],o 7 (.ld none) [t 6],o 8 (.len false) [t 7],o 9 (.bin .neq) [t 8,i 0]])
   (.cond (t 9) (sq (r [2,3] [o 10 (.bld [.nil,.nil] []) [],e (.st 2) [t 2,t 10],o 3 .mv [i 2]])
     (.ret)) (.skip)))
  (sq (sq (r [1,2,15] [o 11 (.fa 1) [t 1],o 12 (.ld none) [t 11],o 13 (.ia 1) [t 12,i 0],o 14 (.ld none) [t 13],o 15 (.bin .lss) [t 14,i 0]])
    (.cond (t 15) (sq (r [2,3] [o 16 (.bld [.nil,.nil] []) [],e (.st 2) [t 2,t 16],o 3 .mv [i 1]])
      (.ret)) (.skip)))
   (sq (sq (r [1,2,21] [o 17 (.fa 1) [t 1],o 18 (.ld none) [t 17],o 19 (.ia 1) [t 18,i 0],o 20 (.ld none) [t 19],o 21 (.bin .gtr) [t 20,i 1000]])
     (.cond (t 21) (sq (r [2,3] [o 22 (.bld [.nil,.nil] []) [],e (.st 2) [t 2,t 22],o 3 .mv [i 6]])
       (.ret)) (.skip)))
    (sq (r [1,2,4] [o 23 (lit 3 1 0) [],o 4 .mv [t 23]])
     (sq (sq (r [1,2,4,5] [o 5 .mv [i 0]])
       (.block 0 (.loop [1,2,4,5] b0_spec_l2Iota))) k1_spec_l2Iota)))))
def uc:List RV:=[.cell 2 (some 2),.tmp 3]
def vt (zu:(List Int)→Option (List Int×List Int)):Nat→Int→(List Int)→(List Int)→(List Int)→Option (List Int×List Int×Int)
 | 0,_,_,_,_=>none
 | m0+1,x5,o64_0,o64_1,o256=>
   (idx o64_1 0).bind fun y0=>
   if x5 < y0 then (if v7 8 (List.length (o256++[x5])) then vt zu m0 (w64 (x5+1)) o64_0 o64_1 (o256++[x5])
    else none)
   else ((zu o256).bind fun y1=>
    some ((y1.fst,y1.snd,0)))
def r9 (zu:(List Int)→Option (List Int×List Int)) (N:Nat) (za:List Int) (zb:List Int):Option (List Int×List Int×Int):=
 if (↑(List.length za):Int)=0 then ((idx zb 0).bind fun y0=>
  if y0 < 0 then some (([],[],1))
  else ((idx zb 0).bind fun y1=>
   if 1000 < y1 then some (([],[],6))
   else vt zu N 0 za zb []))
 else some (([],[],2))
theorem eb (E:En) (hy:Hy E [] [] [] uc none (fun y=>nocap (wK (.node [.node [.own 3 1,.own 3 1],.k]) y)) zl) (zu:(List Int)→Option (List Int×List Int)) (h_spec_l2Vector:vZ E zu):∀ (m0:Nat) (x5:Int) (o64_0:List Int) (o64_1:List Int) (o256:List Int),gH E [1,2,4,5] b0_spec_l2Iota [KJ.b 0,KJ.c k1_spec_l2Iota] m0 ⟨zo [(1,A.adr 64 1 0),(2,A.adr 128 1 0),(4,A.row 256 1),(5,.d (.int .i64 x5))],zw [(64,⟨1,.box [.d (zf (cI) o64_0),.d (zf (cI) o64_1)],false⟩),(128,⟨1,.box [A.nil,A.nil],false⟩),(256,⟨1,zW (cI) 3 none o256,false⟩)]⟩=(vt zu m0 x5 o64_0 o64_1 o256).bind fun r=>some (.ret (.tup [.agg [zj (cI) 3 none false r.1,zj (cI) 3 none false r.2.1],.d (.int .i64 r.2.2)]) []):=by
 intro m0
 induction m0 with
 | zero=>intros; rfl
 | succ m0 ih=>
   intros
   simp (config:={maxSteps:=40000000}) only [↓yq,z6,yn,yo,rI,rS,rB,r8,rLI,ym,yp,hy.p,hy.l,hy.k,hy.r,hy.d,hy.w,hy.f,zl,oid,uc,↓zk _ _ b0_spec_l2Iota.eq_1,↓zk _ _ k1_spec_l2Iota.eq_1,↓zk _ _ c_spec_l2Iota.eq_1,h_spec_l2Vector.2,h_spec_l2Vector.1,xi,ih,zr,vt,yc,z9,zF,yr,zQ,zC,zP,yd,zD,zO,zA,yb,zz,zR,zL,zN,zE,z7,ya,yu,↓reduceIte,Nat.reduceMul,Nat.reduceAdd,Nat.reduceSub,Nat.reduceEqDiff,Nat.reduceBEq,Nat.reduceLeDiff,Nat.reduceLT,reduceCtorEq,Int.reduceAdd,Int.reduceSub,Int.reduceToNat,Int.reduceNeg,Int.reduceEq,Int.reduceLT,Int.reduceLE]
theorem Zo (E:En) (hy:Hy E [] [] [] uc none (fun y=>nocap (wK (.node [.node [.own 3 1,.own 3 1],.k]) y)) zl) (zu:(List Int)→Option (List Int×List Int)) (h_spec_l2Vector:vZ E zu) (za:List Int) (zb:List Int):G E c_spec_l2Iota [] ⟨zo [(0,.agg [.d (zf cI za),.d (zf cI zb)])],zw []⟩=(r9 zu E.n za zb).bind fun r=>some (.ret (.tup [.agg [zj (cI) 3 none false r.1,zj (cI) 3 none false r.2.1],.d (.int .i64 r.2.2)]) []):=by
 simp (config:={maxSteps:=40000000}) only [↓yq,z6,yn,yo,rI,rS,rB,r8,rLI,ym,yp,hy.p,hy.l,hy.k,hy.r,hy.d,hy.w,hy.f,zl,oid,uc,↓zk _ _ b0_spec_l2Iota.eq_1,↓zk _ _ k1_spec_l2Iota.eq_1,↓zk _ _ c_spec_l2Iota.eq_1,h_spec_l2Vector.2,h_spec_l2Vector.1,zr,r9,eb E hy zu h_spec_l2Vector,yc,z9,zF,yr,zQ,zC,zP,yd,zD,zO,zA,yb,zz,zR,zL,zN,zE,z7,ya,yu,↓reduceIte,Nat.reduceMul,Nat.reduceAdd,Nat.reduceSub,Nat.reduceEqDiff,Nat.reduceBEq,Nat.reduceLeDiff,Nat.reduceLT,reduceCtorEq,Int.reduceAdd,Int.reduceSub,Int.reduceToNat,Int.reduceNeg,Int.reduceEq,Int.reduceLT,Int.reduceLE]
def Zl (E:En) (L:(List Int)→(List Int)→Option (List Int×List Int×Int)):Prop:=E.Γ.mu 31=false∧(∀ (za:List Int) (zb:List Int),E.Γ 31 [.agg [.d (zf cI za),.d (zf cI zb)]]=(L za zb).bind fun r=>some (.ret (.tup [.agg [zj (cI) 3 none false r.1,zj (cI) 3 none false r.2.1],.d (.int .i64 r.2.2)]) []))
def c_spec_l2Row:Cd:=
 sq (r [1,2,4] [o 2 .box [t 0],o 4 (.alloc [.nil,.nil]) []])
 (sq (.frz 2 (r [1,2,4,5] [o 7 (.fa 0) [t 2],o 8 (.ld none) [t 7],o 9 (.slc false 1 true false) [t 8,i 1],o 10 (.call 81) [t 9],o 5 .mv [t 10]]))
  (sq (r [1,2,4,5,6] [o 11 .mv [t 5],o 12 (.call 80) [t 11],o 6 .mv [t 12]])
   (sq (.frz 2 (r [4] [o 13 .mv [t 5],o 14 (.fa 1) [t 2],o 15 (.ld none) [t 14],o 16 .mv [t 1],o 17 .mv [t 6],o 18 (.bin .mul) [t 16,t 17],o 19 .mv [t 1],o 20 .mv [t 6],o 21 (.bin .mul) [t 19,t 20],o 22 .mv [t 6],o 23 (.bin .add) [t 21,t 22],o 24 (.slc false 1 true true) [t 15,t 18,t 23],o 25 (.call 81) [t 24],o 26 (.bld [.nil,.nil] [(0,1),(1,1)]) [t 13,t 25],e (.st 2) [t 4,t 26]]))
    (.ret))))
def pM:List RV:=[.cell 4 (some 2)]
def pz (zq:(List Int)→Option (List Int)) (zG:(List Int)→Option (Int)) (N:Nat) (za:List Int) (zb:List Int) (a1:Int):Option (List Int×List Int):=
 (cut za 1 (↑(List.length za):Int)).bind fun y0=>
 (zq y0).bind fun y1=>
 (zG y1).bind fun y2=>
 (cut zb (w64 (a1 * y2)) (w64 (w64 (a1 * y2)+y2))).bind fun y3=>
 (zq y3).bind fun y4=>
 some ((y1,y4))
theorem Xt (E:En) (hy:Hy E [] [] [] pM none (fun y=>nocap y) zl) (zq:(List Int)→Option (List Int)) (h_spec_l2Copy:ua E zq) (zG:(List Int)→Option (Int)) (h_spec_l1Product:uE E zG) (za:List Int) (zb:List Int) (a1:Int):G E c_spec_l2Row [] ⟨zo [(0,.agg [.d (zf cI za),.d (zf cI zb)]),(1,.d (.int .i64 a1))],zw []⟩=(pz zq zG E.n za zb a1).bind fun r=>some (.ret (.agg [zj (cI) 3 none false r.1,zj (cI) 3 none false r.2]) []):=by
 simp (config:={maxSteps:=40000000}) only [↓yq,z6,yn,yo,rI,rS,rB,r8,rLI,ym,yp,hy.p,hy.l,hy.k,hy.r,hy.d,hy.w,hy.f,zl,oid,pM,↓zk _ _ c_spec_l2Row.eq_1,h_spec_l2Copy.2,h_spec_l2Copy.1,h_spec_l1Product.2,h_spec_l1Product.1,zr,pz,yc,z9,zF,yr,zQ,zC,zP,yd,zD,zO,zA,yb,zz,zR,zL,zN,zE,z7,ya,yu,↓reduceIte,Nat.reduceMul,Nat.reduceAdd,Nat.reduceSub,Nat.reduceEqDiff,Nat.reduceBEq,Nat.reduceLeDiff,Nat.reduceLT,reduceCtorEq,Int.reduceAdd,Int.reduceSub,Int.reduceToNat,Int.reduceNeg,Int.reduceEq,Int.reduceLT,Int.reduceLE]
def fx (E:En) (L:(List Int)→(List Int)→Int→Option (List Int×List Int)):Prop:=E.Γ.mu 82=false∧(∀ (za:List Int) (zb:List Int) (a1:Int),E.Γ 82 [.agg [.d (zf cI za),.d (zf cI zb)],.d (.int .i64 a1)]=(L za zb a1).bind fun r=>some (.ret (.agg [zj (cI) 3 none false r.1,zj (cI) 3 none false r.2]) []))
def b0_spec_l2Rev:Cd:=
 sq (sq (r [1,2,3,4,21] [o 20 .mv [t 4],o 21 (.bin .geq) [t 20,i 0]])
  (.cond (t 21) (.skip) (.exit 0)))
 (sq (.block 1 (r [1,2,3,4] [o 24 .mv [t 3],o 25 (.ld (some 2)) [t 1],o 26 .mv [t 4],o 27 (.call 82) [t 25,t 26],o 28 (.fld 1 none) [t 27],o 29 (.app 3 1 8) [t 24,t 28],o 3 .mv [t 29]]))
  (r [1,2,3,4] [o 22 .mv [t 4],o 23 (.bin .sub) [t 22,i 1],o 4 .mv [t 23]]))
def k1_spec_l2Rev:Cd:=
 sq (r [2] [o 30 (.fa 0) [t 1],o 31 (.ld none) [t 30],o 32 (.call 81) [t 31],o 33 .mv [t 3],o 34 (.bld [.nil,.nil] [(0,1),(1,1)]) [t 32,t 33],e (.st 2) [t 2,t 34]])
 (.ret)
def c_spec_l2Rev:Cd:=
 sq (r [1,2] [o 1 .box [t 0],o 2 (.alloc [.nil,.nil]) []])
 (sq (sq (r [1,2,8] [o 5 (.fa 0) [t 1],o 6 (.ld none) [t 5],o 7 (.len false) [t 6],o 8 (.bin .eql) [t 7,i 0]])
   (.cond (t 8) (sq (r [2] [o 9 (lit 3 1 0) [],o 10 (.fa 1) [t 1],o 11 (.ld none) [t 10],o 12 (.call 81) [t 11],o 13 (.bld [.nil,.nil] [(0,1),(1,1)]) [t 9,t 12],e (.st 2) [t 2,t 13]])
     (.ret)) (.skip)))
  (sq (r [1,2,3] [o 14 (lit 3 1 0) [],o 3 .mv [t 14]])
   (sq (sq (r [1,2,3,4] [o 15 (.fa 0) [t 1],o 16 (.ld none) [t 15],o 17 (.ia 1) [t 16,i 0],o 18 (.ld none) [t 17],o 19 (.bin .sub) [t 18,i 1],o 4 .mv [t 19]])
     (.block 0 (.loop [1,2,3,4] b0_spec_l2Rev))) k1_spec_l2Rev)))
def uN:List RV:=[.cell 2 (some 2)]
def v8 (zq:(List Int)→Option (List Int)) (xU:(List Int)→(List Int)→Int→Option (List Int×List Int)):Nat→Int→(List Int)→(List Int)→(List Int)→Option (List Int×List Int)
 | 0,_,_,_,_=>none
 | m0+1,x4,o64_0,o64_1,o192=>
   if 0 ≤ x4 then ((xU o64_0 o64_1 x4).bind fun y0=>
    if v7 8 (List.length (o192++y0.snd)) then v8 zq xU m0 (w64 (x4 - 1)) o64_0 o64_1 (o192++y0.snd)
    else none)
   else ((zq o64_0).bind fun y1=>
    some ((y1,o192)))
def pn (zq:(List Int)→Option (List Int)) (xU:(List Int)→(List Int)→Int→Option (List Int×List Int)) (N:Nat) (za:List Int) (zb:List Int):Option (List Int×List Int):=
 if (↑(List.length za):Int)=0 then ((zq zb).bind fun y0=>
  some (([],y0)))
 else ((idx za 0).bind fun y1=>
  v8 zq xU N (w64 (y1 - 1)) za zb [])
theorem eS (E:En) (hy:Hy E [] [] [] uN none (fun y=>nocap y) zl) (zq:(List Int)→Option (List Int)) (h_spec_l2Copy:ua E zq) (xU:(List Int)→(List Int)→Int→Option (List Int×List Int)) (h_spec_l2Row:fx E xU):∀ (m0:Nat) (x4:Int) (o64_0:List Int) (o64_1:List Int) (o192:List Int),gH E [1,2,3,4] b0_spec_l2Rev [KJ.b 0,KJ.c k1_spec_l2Rev] m0 ⟨zo [(1,A.adr 64 1 0),(2,A.adr 128 1 0),(3,A.row 192 1),(4,.d (.int .i64 x4))],zw [(64,⟨1,.box [.d (zf (cI) o64_0),.d (zf (cI) o64_1)],false⟩),(128,⟨1,.box [A.nil,A.nil],false⟩),(192,⟨1,zW (cI) 3 none o192,false⟩)]⟩=(v8 zq xU m0 x4 o64_0 o64_1 o192).bind fun r=>some (.ret (.agg [zj (cI) 3 none false r.1,zj (cI) 3 none false r.2]) []):=by
 intro m0
 induction m0 with
 | zero=>intros; rfl
 | succ m0 ih=>
   intros
   simp (config:={maxSteps:=40000000}) only [↓yq,z6,yn,yo,rI,rS,rB,r8,rLI,ym,yp,hy.p,hy.l,hy.k,hy.r,hy.d,hy.w,hy.f,zl,oid,uN,↓zk _ _ b0_spec_l2Rev.eq_1,↓zk _ _ k1_spec_l2Rev.eq_1,↓zk _ _ c_spec_l2Rev.eq_1,h_spec_l2Copy.2,h_spec_l2Copy.1,h_spec_l2Row.2,h_spec_l2Row.1,xi,ih,zr,v8,yc,z9,zF,yr,zQ,zC,zP,yd,zD,zO,zA,yb,zz,zR,zL,zN,zE,z7,ya,yu,↓reduceIte,Nat.reduceMul,Nat.reduceAdd,Nat.reduceSub,Nat.reduceEqDiff,Nat.reduceBEq,Nat.reduceLeDiff,Nat.reduceLT,reduceCtorEq,Int.reduceAdd,Int.reduceSub,Int.reduceToNat,Int.reduceNeg,Int.reduceEq,Int.reduceLT,Int.reduceLE]
theorem Z6 (E:En) (hy:Hy E [] [] [] uN none (fun y=>nocap y) zl) (zq:(List Int)→Option (List Int)) (h_spec_l2Copy:ua E zq) (xU:(List Int)→(List Int)→Int→Option (List Int×List Int)) (h_spec_l2Row:fx E xU) (za:List Int) (zb:List Int):G E c_spec_l2Rev [] ⟨zo [(0,.agg [.d (zf cI za),.d (zf cI zb)])],zw []⟩=(pn zq xU E.n za zb).bind fun r=>some (.ret (.agg [zj (cI) 3 none false r.1,zj (cI) 3 none false r.2]) []):=by
 simp (config:={maxSteps:=40000000}) only [↓yq,z6,yn,yo,rI,rS,rB,r8,rLI,ym,yp,hy.p,hy.l,hy.k,hy.r,hy.d,hy.w,hy.f,zl,oid,uN,↓zk _ _ b0_spec_l2Rev.eq_1,↓zk _ _ k1_spec_l2Rev.eq_1,↓zk _ _ c_spec_l2Rev.eq_1,h_spec_l2Copy.2,h_spec_l2Copy.1,h_spec_l2Row.2,h_spec_l2Row.1,zr,pn,eS E hy zq h_spec_l2Copy xU h_spec_l2Row,yc,z9,zF,yr,zQ,zC,zP,yd,zD,zO,zA,yb,zz,zR,zL,zN,zE,z7,ya,yu,↓reduceIte,Nat.reduceMul,Nat.reduceAdd,Nat.reduceSub,Nat.reduceEqDiff,Nat.reduceBEq,Nat.reduceLeDiff,Nat.reduceLT,reduceCtorEq,Int.reduceAdd,Int.reduceSub,Int.reduceToNat,Int.reduceNeg,Int.reduceEq,Int.reduceLT,Int.reduceLE]
def YL (E:En) (L:(List Int)→(List Int)→Option (List Int×List Int)):Prop:=E.Γ.mu 33=false∧(∀ (za:List Int) (zb:List Int),E.Γ 33 [.agg [.d (zf cI za),.d (zf cI zb)]]=(L za zb).bind fun r=>some (.ret (.agg [zj (cI) 3 none false r.1,zj (cI) 3 none false r.2]) []))
def b0_spec_l2Turned:Cd:=
 sq (sq (r [0,3,4,10] [o 9 .mv [t 4],o 10 (.bin .geq) [t 9,i 0]])
  (.cond (t 10) (.skip) (.exit 0)))
 (sq (.block 1 (r [0,3,4] [o 13 .mv [t 3],o 14 .mv [t 0],o 15 .mv [t 4],o 16 (.ia 1) [t 14,t 15],o 17 (.ld none) [t 16],o 18 (lit 3 1 1) [t 17],o 19 (.app 3 1 8) [t 13,t 18],o 3 .mv [t 19]]))
  (r [0,3,4] [o 11 .mv [t 4],o 12 (.bin .sub) [t 11,i 1],o 4 .mv [t 12]]))
def k1_spec_l2Turned:Cd:=
 sq (r [2] [o 20 .mv [t 3],o 2 .mv [t 20]])
 (.ret)
def c_spec_l2Turned:Cd:=
 sq (r [0] [o 2 .mv [n]])
 (sq (r [0,3] [o 5 (lit 3 1 0) [],o 3 .mv [t 5]])
  (sq (sq (r [0,3,4] [o 6 .mv [t 0],o 7 (.len false) [t 6],o 8 (.bin .sub) [t 7,i 1],o 4 .mv [t 8]])
    (.block 0 (.loop [0,3,4] b0_spec_l2Turned))) k1_spec_l2Turned))
def wU:List RV:=[.tmp 2]
def wx:Nat→(List Int)→Int→(List Int)→Option (List Int)
 | 0,_,_,_=>none
 | m0+1,x0,x4,o192=>
   if 0 ≤ x4 then ((idx x0 x4).bind fun y0=>
    if v7 8 (List.length (o192++[y0])) then wx m0 x0 (w64 (x4 - 1)) (o192++[y0])
    else none)
   else some o192
def tL (N:Nat) (a0:List Int):Option (List Int):=
 wx N a0 (w64 ((↑(List.length a0):Int) - 1)) []
theorem iR (E:En) (hy:Hy E [] [] [] wU none (fun y=>nocap y) zl):∀ (m0:Nat) (x0:List Int) (x4:Int) (o192:List Int),gH E [0,3,4] b0_spec_l2Turned [KJ.b 0,KJ.c k1_spec_l2Turned] m0 ⟨zo [(0,.d (zf (cI) x0)),(3,A.row 192 1),(4,.d (.int .i64 x4))],zw [(192,⟨1,zW (cI) 3 none o192,false⟩)]⟩=(wx m0 x0 x4 o192).bind fun r=>some (.ret (zj (cI) 3 none false r) []):=by
 intro m0
 induction m0 with
 | zero=>intros; rfl
 | succ m0 ih=>
   intros
   simp (config:={maxSteps:=40000000}) only [↓yq,z6,yn,yo,rI,rS,rB,r8,rLI,ym,yp,hy.p,hy.l,hy.k,hy.r,hy.d,hy.w,hy.f,zl,oid,wU,↓zk _ _ b0_spec_l2Turned.eq_1,↓zk _ _ k1_spec_l2Turned.eq_1,↓zk _ _ c_spec_l2Turned.eq_1,xi,ih,zr,wx,yc,z9,zF,yr,zQ,zC,zP,yd,zD,zO,zA,yb,zz,zR,zL,zN,zE,z7,ya,yu,↓reduceIte,Nat.reduceMul,Nat.reduceAdd,Nat.reduceSub,Nat.reduceEqDiff,Nat.reduceBEq,Nat.reduceLeDiff,Nat.reduceLT,reduceCtorEq,Int.reduceAdd,Int.reduceSub,Int.reduceToNat,Int.reduceNeg,Int.reduceEq,Int.reduceLT,Int.reduceLE]
theorem cm (E:En) (hy:Hy E [] [] [] wU none (fun y=>nocap y) zl) (a0:List Int):G E c_spec_l2Turned [] ⟨zo [(0,.d (zf cI a0))],zw []⟩=(tL E.n a0).bind fun r=>some (.ret (zj (cI) 3 none false r) []):=by
 simp (config:={maxSteps:=40000000}) only [↓yq,z6,yn,yo,rI,rS,rB,r8,rLI,ym,yp,hy.p,hy.l,hy.k,hy.r,hy.d,hy.w,hy.f,zl,oid,wU,↓zk _ _ b0_spec_l2Turned.eq_1,↓zk _ _ k1_spec_l2Turned.eq_1,↓zk _ _ c_spec_l2Turned.eq_1,zr,tL,iR E hy,yc,z9,zF,yr,zQ,zC,zP,yd,zD,zO,zA,yb,zz,zR,zL,zN,zE,z7,ya,yu,↓reduceIte,Nat.reduceMul,Nat.reduceAdd,Nat.reduceSub,Nat.reduceEqDiff,Nat.reduceBEq,Nat.reduceLeDiff,Nat.reduceLT,reduceCtorEq,Int.reduceAdd,Int.reduceSub,Int.reduceToNat,Int.reduceNeg,Int.reduceEq,Int.reduceLT,Int.reduceLE]
def lY (E:En) (L:(List Int)→Option (List Int)):Prop:=E.Γ.mu 83=false∧(∀ (a0:List Int),E.Γ 83 [.d (zf cI a0)]=(L a0).bind fun r=>some (.ret (zj (cI) 3 none false r) []))
def b0_spec_l2Places:Cd:=
 sq (sq (r [0,1,5,6,14] [o 13 .mv [t 6],o 14 (.bin .geq) [t 13,i 0]])
  (.cond (t 14) (.skip) (.exit 0)))
 (sq (.block 1 (sq (r [0,1,5,6] [o 17 .mv [t 5],o 18 .mv [t 6],o 19 .mv [t 1],o 20 .mv [t 0],o 21 .mv [t 6],o 22 (.ia 1) [t 20,t 21],o 23 (.ld none) [t 22],o 24 (.bin .rem) [t 19,t 23],o 25 (.ia 1) [t 17,t 18],e (.st 1) [t 25,t 24]])
   (r [0,1,5,6] [o 26 .mv [t 1],o 27 .mv [t 0],o 28 .mv [t 6],o 29 (.ia 1) [t 27,t 28],o 30 (.ld none) [t 29],o 31 (.bin .quo) [t 26,t 30],o 1 .mv [t 31]])))
  (r [0,1,5,6] [o 15 .mv [t 6],o 16 (.bin .sub) [t 15,i 1],o 6 .mv [t 16]]))
def k1_spec_l2Places:Cd:=
 sq (r [4] [o 32 .mv [t 5],o 4 .mv [t 32]])
 (.ret)
def c_spec_l2Places:Cd:=
 sq (r [0,1] [o 4 .mv [n]])
 (sq (r [0,1,5] [o 7 .mv [t 0],o 8 (.len false) [t 7],o 9 (.mkS 3 1 8 [(iD 0)]) [t 8,t 8],o 5 .mv [t 9]])
  (sq (sq (r [0,1,5,6] [o 10 .mv [t 0],o 11 (.len false) [t 10],o 12 (.bin .sub) [t 11,i 1],o 6 .mv [t 12]])
    (.block 0 (.loop [0,1,5,6] b0_spec_l2Places))) k1_spec_l2Places))
def wP:List RV:=[.tmp 4]
def wD:Nat→(List Int)→Int→Int→(List Int)→Option (List Int)
 | 0,_,_,_,_=>none
 | m0+1,x0,x1,x6,o320=>
   if 0 ≤ x6 then ((idx x0 x6).bind fun y0=>
    if y0=0 then none
    else (if 0 ≤ x6∧x6 < (↑(List.length o320):Int) then ((uM o320 (Int.toNat x6) (Int.tmod x1 y0)).bind fun y1=>
     (idx x0 x6).bind fun y2=>
     if y2=0 then none
     else wD m0 x0 (w64 (Int.tdiv x1 y2)) (w64 (x6 - 1)) y1)
     else none))
   else some o320
def u7 (N:Nat) (a0:List Int) (a1:Int):Option (List Int):=
 if mN 8 (↑(List.length a0):Int) (↑(List.length a0):Int) then wD N a0 a1 (w64 ((↑(List.length a0):Int) - 1)) (List.replicate (List.length a0) 0)
 else none
theorem iM (E:En) (hy:Hy E [] [] [] wP none (fun y=>nocap y) zl):∀ (m0:Nat) (x0:List Int) (x1:Int) (x6:Int) (o320:List Int),gH E [0,1,5,6] b0_spec_l2Places [KJ.b 0,KJ.c k1_spec_l2Places] m0 ⟨zo [(0,.d (zf (cI) x0)),(1,.d (.int .i64 x1)),(5,A.row 320 1),(6,.d (.int .i64 x6))],zw [(320,⟨1,zW (cI) 3 none o320,false⟩)]⟩=(wD m0 x0 x1 x6 o320).bind fun r=>some (.ret (zj (cI) 3 none false r) []):=by
 intro m0
 induction m0 with
 | zero=>intros; rfl
 | succ m0 ih=>
   intros
   simp (config:={maxSteps:=40000000}) only [↓yq,z6,yn,yo,rI,rS,rB,r8,rLI,ym,yp,hy.p,hy.l,hy.k,hy.r,hy.d,hy.w,hy.f,zl,oid,wP,↓zk _ _ b0_spec_l2Places.eq_1,↓zk _ _ k1_spec_l2Places.eq_1,↓zk _ _ c_spec_l2Places.eq_1,xi,ih,zr,wD,yc,z9,zF,yr,zQ,zC,zP,yd,zD,zO,zA,yb,zz,zR,zL,zN,zE,z7,ya,yu,↓reduceIte,Nat.reduceMul,Nat.reduceAdd,Nat.reduceSub,Nat.reduceEqDiff,Nat.reduceBEq,Nat.reduceLeDiff,Nat.reduceLT,reduceCtorEq,Int.reduceAdd,Int.reduceSub,Int.reduceToNat,Int.reduceNeg,Int.reduceEq,Int.reduceLT,Int.reduceLE]
theorem dY (E:En) (hy:Hy E [] [] [] wP none (fun y=>nocap y) zl) (a0:List Int) (a1:Int):G E c_spec_l2Places [] ⟨zo [(0,.d (zf cI a0)),(1,.d (.int .i64 a1))],zw []⟩=(u7 E.n a0 a1).bind fun r=>some (.ret (zj (cI) 3 none false r) []):=by
 simp (config:={maxSteps:=40000000}) only [↓yq,z6,yn,yo,rI,rS,rB,r8,rLI,ym,yp,hy.p,hy.l,hy.k,hy.r,hy.d,hy.w,hy.f,zl,oid,wP,↓zk _ _ b0_spec_l2Places.eq_1,↓zk _ _ k1_spec_l2Places.eq_1,↓zk _ _ c_spec_l2Places.eq_1,zr,u7,iM E hy,yc,z9,zF,yr,zQ,zC,zP,yd,zD,zO,zA,yb,zz,zR,zL,zN,zE,z7,ya,yu,↓reduceIte,Nat.reduceMul,Nat.reduceAdd,Nat.reduceSub,Nat.reduceEqDiff,Nat.reduceBEq,Nat.reduceLeDiff,Nat.reduceLT,reduceCtorEq,Int.reduceAdd,Int.reduceSub,Int.reduceToNat,Int.reduceNeg,Int.reduceEq,Int.reduceLT,Int.reduceLE]
def kp (E:En) (L:(List Int)→Int→Option (List Int)):Prop:=E.Γ.mu 85=false∧(∀ (a0:List Int) (a1:Int),E.Γ 85 [.d (zf cI a0),.d (.int .i64 a1)]=(L a0 a1).bind fun r=>some (.ret (zj (cI) 3 none false r) []))
def b0_spec_l2Cell:Cd:=
 sq (sq (r [1,2,5,6,10] [o 7 .mv [t 6],o 8 .mv [t 1],o 9 (.len false) [t 8],o 10 (.bin .lss) [t 7,t 9]])
  (.cond (t 10) (.skip) (.exit 0)))
 (sq (.block 1 (rd [] [1,2,5,6] [o 13 .mv [t 5],o 14 (.fa 0) [t 2],o 15 (.ld none) [t 14],o 16 .mv [t 6],o 17 (.ia 1) [t 15,t 16],o 18 (.ld none) [t 17],o 19 (.bin .mul) [t 13,t 18],o 20 .mv [t 1],o 21 .mv [t 6],o 22 (.ia 1) [t 20,t 21],o 23 (.ld none) [t 22],o 24 (.bin .add) [t 19,t 23],o 5 .mv [t 24]]))
  (r [1,2,5,6] [o 11 .mv [t 6],o 12 (.bin .add) [t 11,i 1],o 6 .mv [t 12]]))
def k1_spec_l2Cell:Cd:=
 sq (r [4] [o 25 (.fa 1) [t 2],o 26 (.ld none) [t 25],o 27 .mv [t 5],o 28 (.ia 1) [t 26,t 27],o 29 (.ld none) [t 28],o 4 .mv [t 29]])
 (.ret)
def c_spec_l2Cell:Cd:=
 sq (r [1,2] [o 2 .box [t 0],o 4 .mv [i 0]])
 (sq (r [1,2,5] [o 5 .mv [i 0]])
  (sq (sq (r [1,2,5,6] [o 6 .mv [i 0]])
    (.block 0 (.loop [1,2,5,6] b0_spec_l2Cell))) k1_spec_l2Cell))
def uf:List RV:=[.tmp 4]
def vu:Nat→(List Int)→Int→Int→(List Int)→(List Int)→Option (Int)
 | 0,_,_,_,_,_=>none
 | m0+1,x1,x5,x6,o128_0,o128_1=>
   if x6 < (↑(List.length x1):Int) then ((idx o128_0 x6).bind fun y0=>
    (idx x1 x6).bind fun y1=>
    vu m0 x1 (w64 (w64 (x5 * y0)+y1)) (w64 (x6+1)) o128_0 o128_1)
   else ((idx o128_1 x5).bind fun y2=>
    some y2)
def qq (N:Nat) (za:List Int) (zb:List Int) (a1:List Int):Option (Int):=
 vu N a1 0 0 za zb
theorem ee (E:En) (hy:Hy E [] [] [] uf none (fun y=>nocap y) zl):∀ (m0:Nat) (x1:List Int) (x5:Int) (x6:Int) (o128_0:List Int) (o128_1:List Int),gH E [1,2,5,6] b0_spec_l2Cell [KJ.b 0,KJ.c k1_spec_l2Cell] m0 ⟨zo [(1,.d (zf (cI) x1)),(2,A.adr 128 1 0),(5,.d (.int .i64 x5)),(6,.d (.int .i64 x6))],zw [(128,⟨1,.box [.d (zf (cI) o128_0),.d (zf (cI) o128_1)],false⟩)]⟩=(vu m0 x1 x5 x6 o128_0 o128_1).bind fun r=>some (.ret (.d (.int .i64 r)) []):=by
 intro m0
 induction m0 with
 | zero=>intros; rfl
 | succ m0 ih=>
   intros
   simp (config:={maxSteps:=40000000}) only [↓yq,z6,yn,yo,rI,rS,rB,r8,rLI,ym,yp,hy.p,hy.l,hy.k,hy.r,hy.d,hy.w,hy.f,zl,oid,uf,↓zk _ _ b0_spec_l2Cell.eq_1,↓zk _ _ k1_spec_l2Cell.eq_1,↓zk _ _ c_spec_l2Cell.eq_1,xi,ih,zr,vu,yc,z9,zF,yr,zQ,zC,zP,yd,zD,zO,zA,yb,zz,zR,zL,zN,zE,z7,ya,yu,↓reduceIte,Nat.reduceMul,Nat.reduceAdd,Nat.reduceSub,Nat.reduceEqDiff,Nat.reduceBEq,Nat.reduceLeDiff,Nat.reduceLT,reduceCtorEq,Int.reduceAdd,Int.reduceSub,Int.reduceToNat,Int.reduceNeg,Int.reduceEq,Int.reduceLT,Int.reduceLE]
theorem Zs (E:En) (hy:Hy E [] [] [] uf none (fun y=>nocap y) zl) (za:List Int) (zb:List Int) (a1:List Int):G E c_spec_l2Cell [] ⟨zo [(0,.agg [.d (zf cI za),.d (zf cI zb)]),(1,.d (zf cI a1))],zw []⟩=(qq E.n za zb a1).bind fun r=>some (.ret (.d (.int .i64 r)) []):=by
 simp (config:={maxSteps:=40000000}) only [↓yq,z6,yn,yo,rI,rS,rB,r8,rLI,ym,yp,hy.p,hy.l,hy.k,hy.r,hy.d,hy.w,hy.f,zl,oid,uf,↓zk _ _ b0_spec_l2Cell.eq_1,↓zk _ _ k1_spec_l2Cell.eq_1,↓zk _ _ c_spec_l2Cell.eq_1,zr,qq,ee E hy,yc,z9,zF,yr,zQ,zC,zP,yd,zD,zO,zA,yb,zz,zR,zL,zN,zE,z7,ya,yu,↓reduceIte,Nat.reduceMul,Nat.reduceAdd,Nat.reduceSub,Nat.reduceEqDiff,Nat.reduceBEq,Nat.reduceLeDiff,Nat.reduceLT,reduceCtorEq,Int.reduceAdd,Int.reduceSub,Int.reduceToNat,Int.reduceNeg,Int.reduceEq,Int.reduceLT,Int.reduceLE]
def iB (E:En) (L:(List Int)→(List Int)→(List Int)→Option (Int)):Prop:=E.Γ.mu 84=false∧(∀ (za:List Int) (zb:List Int) (a1:List Int),E.Γ 84 [.agg [.d (zf cI za),.d (zf cI zb)],.d (zf cI a1)]=(L za zb a1).bind fun r=>some (.ret (.d (.int .i64 r)) []))
def b0_spec_l2Flip:Cd:=
 sq (sq (r [1,2,3,4,14] [o 10 .mv [t 4],o 11 (.fa 1) [t 1],o 12 (.ld none) [t 11],o 13 (.len false) [t 12],o 14 (.bin .lss) [t 10,t 13]])
  (.cond (t 14) (.skip) (.exit 0)))
 (sq (.block 1 (rd [] [1,2,3,4] [o 17 (.fa 1) [t 3],o 18 (.ld none) [t 17],o 19 (.ld (some 2)) [t 1],o 20 (.fa 0) [t 3],o 21 (.ld none) [t 20],o 22 .mv [t 4],ap [] false [3,17,1] (o 23 (.call 85) [t 21,t 22]),ap [] false [3,17,1] (o 24 (.call 83) [t 23]),ap [] false [3,17] (o 25 (.call 84) [t 19,t 24]),ap [] false [3,17] (o 26 (lit 3 1 1) [t 25]),o 27 (.app 3 1 8) [t 18,t 26],o 28 (.fa 1) [t 3],e (.st 1) [t 28,t 27]]))
  (r [1,2,3,4] [o 15 .mv [t 4],o 16 (.bin .add) [t 15,i 1],o 4 .mv [t 16]]))
def k1_spec_l2Flip:Cd:=
 sq (r [2] [o 29 (.ld (some 2)) [t 3],e (.st 2) [t 2,t 29]])
 (.ret)
def c_spec_l2Flip:Cd:=
 sq (r [1,2] [o 1 .box [t 0],o 2 (.alloc [.nil,.nil]) []])
 (sq (r [1,2,3] [o 5 (.fa 0) [t 1],o 6 (.ld none) [t 5],o 7 (.call 83) [t 6],o 8 (lit 3 1 0) [],o 9 (.bld [.nil,.nil] [(0,1),(1,1)]) [t 7,t 8],o 3 (.alloc [.nil,.nil]) [],e (.st 2) [t 3,t 9]])
  (sq (sq (r [1,2,3,4] [o 4 .mv [i 0]])
    (.block 0 (.loop [1,2,3,4] b0_spec_l2Flip))) k1_spec_l2Flip))
def ub:List RV:=[.cell 2 (some 2)]
def vI (xa:(List Int)→Option (List Int)) (xh:(List Int)→Int→Option (List Int)) (xx:(List Int)→(List Int)→(List Int)→Option (Int)):Nat→Int→(List Int)→(List Int)→(List Int)→(List Int)→Option (List Int×List Int)
 | 0,_,_,_,_,_=>none
 | m0+1,x4,o64_0,o64_1,o193,o194=>
   if x4 < (↑(List.length o64_1):Int) then ((xh o193 x4).bind fun y0=>
    (xa y0).bind fun y1=>
    (xx o64_0 o64_1 y1).bind fun y2=>
    if v7 8 (List.length (o194++[y2])) then vI xa xh xx m0 (w64 (x4+1)) o64_0 o64_1 o193 (o194++[y2])
    else none)
   else some ((o193,o194))
def rP (xa:(List Int)→Option (List Int)) (xh:(List Int)→Int→Option (List Int)) (xx:(List Int)→(List Int)→(List Int)→Option (Int)) (N:Nat) (za:List Int) (zb:List Int):Option (List Int×List Int):=
 (xa za).bind fun y0=>
 vI xa xh xx N 0 za zb y0 []
theorem ec (E:En) (hy:Hy E [] [] [] ub none (fun y=>nocap y) zl) (xa:(List Int)→Option (List Int)) (h_spec_l2Turned:lY E xa) (xh:(List Int)→Int→Option (List Int)) (h_spec_l2Places:kp E xh) (xx:(List Int)→(List Int)→(List Int)→Option (Int)) (h_spec_l2Cell:iB E xx):∀ (m0:Nat) (x4:Int) (o64_0:List Int) (o64_1:List Int) (o193:List Int) (o194:List Int),gH E [1,2,3,4] b0_spec_l2Flip [KJ.b 0,KJ.c k1_spec_l2Flip] m0 ⟨zo [(1,A.adr 64 1 0),(2,A.adr 128 1 0),(3,A.adr 192 1 0),(4,.d (.int .i64 x4))],zw [(64,⟨1,.box [.d (zf (cI) o64_0),.d (zf (cI) o64_1)],false⟩),(128,⟨1,.box [A.nil,A.nil],false⟩),(192,⟨1,.box [A.row 193 1,A.row 194 1],false⟩),(193,⟨1,zW (cI) 3 none o193,false⟩),(194,⟨1,zW (cI) 3 none o194,false⟩)]⟩=(vI xa xh xx m0 x4 o64_0 o64_1 o193 o194).bind fun r=>some (.ret (.agg [zj (cI) 3 none false r.1,zj (cI) 3 none false r.2]) []):=by
 intro m0
 induction m0 with
 | zero=>intros; rfl
 | succ m0 ih=>
   intros
   simp (config:={maxSteps:=40000000}) only [↓yq,z6,yn,yo,rI,rS,rB,r8,rLI,ym,yp,hy.p,hy.l,hy.k,hy.r,hy.d,hy.w,hy.f,zl,oid,ub,↓zk _ _ b0_spec_l2Flip.eq_1,↓zk _ _ k1_spec_l2Flip.eq_1,↓zk _ _ c_spec_l2Flip.eq_1,h_spec_l2Turned.2,h_spec_l2Turned.1,h_spec_l2Places.2,h_spec_l2Places.1,h_spec_l2Cell.2,h_spec_l2Cell.1,xi,ih,zr,vI,yc,z9,zF,yr,zQ,zC,zP,yd,zD,zO,zA,yb,zz,zR,zL,zN,zE,z7,ya,yu,↓reduceIte,Nat.reduceMul,Nat.reduceAdd,Nat.reduceSub,Nat.reduceEqDiff,Nat.reduceBEq,Nat.reduceLeDiff,Nat.reduceLT,reduceCtorEq,Int.reduceAdd,Int.reduceSub,Int.reduceToNat,Int.reduceNeg,Int.reduceEq,Int.reduceLT,Int.reduceLE]
theorem ZJ (E:En) (hy:Hy E [] [] [] ub none (fun y=>nocap y) zl) (xa:(List Int)→Option (List Int)) (h_spec_l2Turned:lY E xa) (xh:(List Int)→Int→Option (List Int)) (h_spec_l2Places:kp E xh) (xx:(List Int)→(List Int)→(List Int)→Option (Int)) (h_spec_l2Cell:iB E xx) (za:List Int) (zb:List Int):G E c_spec_l2Flip [] ⟨zo [(0,.agg [.d (zf cI za),.d (zf cI zb)])],zw []⟩=(rP xa xh xx E.n za zb).bind fun r=>some (.ret (.agg [zj (cI) 3 none false r.1,zj (cI) 3 none false r.2]) []):=by
 simp (config:={maxSteps:=40000000}) only [↓yq,z6,yn,yo,rI,rS,rB,r8,rLI,ym,yp,hy.p,hy.l,hy.k,hy.r,hy.d,hy.w,hy.f,zl,oid,ub,↓zk _ _ b0_spec_l2Flip.eq_1,↓zk _ _ k1_spec_l2Flip.eq_1,↓zk _ _ c_spec_l2Flip.eq_1,h_spec_l2Turned.2,h_spec_l2Turned.1,h_spec_l2Places.2,h_spec_l2Places.1,h_spec_l2Cell.2,h_spec_l2Cell.1,zr,rP,ec E hy xa h_spec_l2Turned xh h_spec_l2Places xx h_spec_l2Cell,yc,z9,zF,yr,zQ,zC,zP,yd,zD,zO,zA,yb,zz,zR,zL,zN,zE,z7,ya,yu,↓reduceIte,Nat.reduceMul,Nat.reduceAdd,Nat.reduceSub,Nat.reduceEqDiff,Nat.reduceBEq,Nat.reduceLeDiff,Nat.reduceLT,reduceCtorEq,Int.reduceAdd,Int.reduceSub,Int.reduceToNat,Int.reduceNeg,Int.reduceEq,Int.reduceLT,Int.reduceLE]
def Zf (E:En) (L:(List Int)→(List Int)→Option (List Int×List Int)):Prop:=E.Γ.mu 34=false∧(∀ (za:List Int) (zb:List Int),E.Γ 34 [.agg [.d (zf cI za),.d (zf cI zb)]]=(L za zb).bind fun r=>some (.ret (.agg [zj (cI) 3 none false r.1,zj (cI) 3 none false r.2]) []))
def c_spec_l2Count:Cd:=
 sq (r [1] [o 1 .box [t 0],o 2 .mv [i 0]])
 (sq (sq (r [1,6] [o 3 (.fa 0) [t 1],o 4 (.ld none) [t 3],o 5 (.len false) [t 4],o 6 (.bin .eql) [t 5,i 0]])
   (.cond (t 6) (sq (r [2] [o 2 .mv [i 1]])
     (.ret)) (.skip)))
  (sq (r [2] [o 7 (.fa 0) [t 1],o 8 (.ld none) [t 7],o 9 (.ia 1) [t 8,i 0],o 10 (.ld none) [t 9],o 2 .mv [t 10]])
   (.ret)))
def rn:List RV:=[.tmp 2]
def re (N:Nat) (za:List Int) (zb:List Int):Option (Int):=
 if (↑(List.length za):Int)=0 then some 1
 else ((idx za 0).bind fun y0=>
  some y0)
theorem bT (E:En) (hy:Hy E [] [] [] rn none (fun y=>nocap y) zl) (za:List Int) (zb:List Int):G E c_spec_l2Count [] ⟨zo [(0,.agg [.d (zf cI za),.d (zf cI zb)])],zw []⟩=(re E.n za zb).bind fun r=>some (.ret (.d (.int .i64 r)) []):=by
 simp (config:={maxSteps:=40000000}) only [↓yq,z6,yn,yo,rI,rS,rB,r8,rLI,ym,yp,hy.p,hy.l,hy.k,hy.r,hy.d,hy.w,hy.f,zl,oid,rn,↓zk _ _ c_spec_l2Count.eq_1,zr,re,yc,z9,zF,yr,zQ,zC,zP,yd,zD,zO,zA,yb,zz,zR,zL,zN,zE,z7,ya,yu,↓reduceIte,Nat.reduceMul,Nat.reduceAdd,Nat.reduceSub,Nat.reduceEqDiff,Nat.reduceBEq,Nat.reduceLeDiff,Nat.reduceLT,reduceCtorEq,Int.reduceAdd,Int.reduceSub,Int.reduceToNat,Int.reduceNeg,Int.reduceEq,Int.reduceLT,Int.reduceLE]
def bl (E:En) (L:(List Int)→(List Int)→Option (Int)):Prop:=E.Γ.mu 35=false∧(∀ (za:List Int) (zb:List Int),E.Γ 35 [.agg [.d (zf cI za),.d (zf cI zb)]]=(L za zb).bind fun r=>some (.ret (.d (.int .i64 r)) []))
def b0_spec_l2Grade:Cd:=
 sq (sq (rd [] [1,2,3,4,5,34] [o 15 .mv [t 5],o 16 .mv [t 3],o 17 (.len false) [t 16],o 18 (.bin .lss) [t 15,t 17],o 19 .mv [t 18],g 19 true 20 (.fa 1) [t 1],g 19 true 21 (.ld none) [t 20],g 19 true 22 .mv [t 3],g 19 true 23 .mv [t 5],g 19 true 24 (.ia 1) [t 22,t 23],g 19 true 25 (.ld none) [t 24],g 19 true 26 (.ia 1) [t 21,t 25],g 19 true 27 (.ld none) [t 26],g 19 true 28 (.fa 1) [t 1],g 19 true 29 (.ld none) [t 28],g 19 true 30 .mv [t 4],g 19 true 31 (.ia 1) [t 29,t 30],g 19 true 32 (.ld none) [t 31],g 19 true 33 (.bin .leq) [t 27,t 32],o 34 .pick [t 19,t 33,b false]])
  (.cond (t 34) (.skip) (.exit 2)))
 (.block 3 (r [1,2,3,4,5] [o 35 .mv [t 5],o 36 (.bin .add) [t 35,i 1],o 5 .mv [t 36]]))
def k1_spec_l2Grade:Cd:=
 sq (r [1,2,3,4,5,6] [o 37 .mv [t 3],o 38 .mv [t 5],o 39 (.slc false 1 false true) [t 37,t 38],o 40 (.call 81) [t 39],o 41 .mv [t 4],o 42 (lit 3 1 1) [t 41],o 43 (.app 3 1 8) [t 40,t 42],o 6 .mv [t 43]])
 (r [1,2,3,4] [o 44 .mv [t 6],o 45 .mv [t 3],o 46 .mv [t 5],o 47 (.slc false 1 true false) [t 45,t 46],o 48 (.app 3 1 8) [t 44,t 47],o 3 .mv [t 48]])
def k2_spec_l2Grade:Cd:=
 r [1,2,3,4] [o 13 .mv [t 4],o 14 (.bin .add) [t 13,i 1],o 4 .mv [t 14]]
def b3_spec_l2Grade:Cd:=
 sq (sq (r [1,2,3,4,12] [o 8 .mv [t 4],o 9 (.fa 1) [t 1],o 10 (.ld none) [t 9],o 11 (.len false) [t 10],o 12 (.bin .lss) [t 8,t 11]])
  (.cond (t 12) (.skip) (.exit 0)))
 (sq (.block 1 (sq (r [1,2,3,4,5] [o 5 .mv [i 0]])
   (sq (.block 2 (.loop [1,2,3,4,5] b0_spec_l2Grade)) k1_spec_l2Grade))) k2_spec_l2Grade)
def k4_spec_l2Grade:Cd:=
 sq (r [2] [o 49 .mv [t 3],o 50 (.call 32) [t 49],e (.st 2) [t 2,t 50]])
 (.ret)
def c_spec_l2Grade:Cd:=
 sq (r [1,2] [o 1 .box [t 0],o 2 (.alloc [.nil,.nil]) []])
 (sq (r [1,2,3] [o 7 (lit 3 1 0) [],o 3 .mv [t 7]])
  (sq (sq (r [1,2,3,4] [o 4 .mv [i 0]])
    (.block 0 (.loop [1,2,3,4] b3_spec_l2Grade))) k4_spec_l2Grade))
def xZ:List RV:=[.cell 2 (some 2)]
def wW (zq:(List Int)→Option (List Int)) (zu:(List Int)→Option (List Int×List Int)) (K0:Int→(List Int)→(List Int)→(List Int)→Option (List Int×List Int)):Nat→Int→Int→(List Int)→(List Int)→(List Int)→Option (List Int×List Int)
 | 0,_,_,_,_,_=>none
 | m1+1,x4,x5,o64_0,o64_1,o192=>
   if x5 < (↑(List.length o192):Int) then (if 0 ≤ x5∧x5 < (↑(List.length o192):Int) then ((o192[Int.toNat x5]?).bind fun y0=>
    (idx o64_1 y0).bind fun y1=>
    (idx o64_1 x4).bind fun y2=>
    if y1 ≤ y2 then wW zq zu K0 m1 x4 (w64 (x5+1)) o64_0 o64_1 o192
    else ((cut o192 0 x5).bind fun y3=>
     (zq y3).bind fun y4=>
     if v7 8 (List.length (y4++[x4])) then ((cut o192 x5 (↑(List.length o192):Int)).bind fun y5=>
      if v7 8 (List.length (y4++[x4]++y5)) then K0 (w64 (x4+1)) o64_0 o64_1 (y4++[x4]++y5)
      else none)
     else none))
    else none)
   else ((cut o192 0 x5).bind fun y6=>
    (zq y6).bind fun y7=>
    if v7 8 (List.length (y7++[x4])) then ((cut o192 x5 (↑(List.length o192):Int)).bind fun y8=>
     if v7 8 (List.length (y7++[x4]++y8)) then K0 (w64 (x4+1)) o64_0 o64_1 (y7++[x4]++y8)
     else none)
    else none)
def wi (zq:(List Int)→Option (List Int)) (zu:(List Int)→Option (List Int×List Int)) (N:Nat):Nat→Int→(List Int)→(List Int)→(List Int)→Option (List Int×List Int)
 | 0,_,_,_,_=>none
 | m0+1,x4,o64_0,o64_1,o192=>
   if x4 < (↑(List.length o64_1):Int) then wW zq zu (wi zq zu N m0) N x4 0 o64_0 o64_1 o192
   else ((zu o192).bind fun y0=>
    some ((y0.fst,y0.snd)))
def pO (zq:(List Int)→Option (List Int)) (zu:(List Int)→Option (List Int×List Int)) (N:Nat) (za:List Int) (zb:List Int):Option (List Int×List Int):=
 wi zq zu N N 0 za zb []
theorem gK (E:En) (hy:Hy E [] [] [] xZ none (fun y=>nocap y) zl) (zq:(List Int)→Option (List Int)) (h_spec_l2Copy:ua E zq) (zu:(List Int)→Option (List Int×List Int)) (h_spec_l2Vector:vZ E zu) (m0:Nat) (K0:Int→(List Int)→(List Int)→(List Int)→Option (List Int×List Int)) (hK0:∀ (x4:Int) (o64_0:List Int) (o64_1:List Int) (o192:List Int),gH E [1,2,3,4] b3_spec_l2Grade [KJ.b 0,KJ.c k4_spec_l2Grade] m0 ⟨zo [(1,A.adr 64 1 0),(2,A.adr 128 1 0),(3,A.row 192 1),(4,.d (.int .i64 x4))],zw [(64,⟨1,.box [.d (zf (cI) o64_0),.d (zf (cI) o64_1)],false⟩),(128,⟨1,.box [A.nil,A.nil],false⟩),(192,⟨1,zW (cI) 3 none o192,false⟩)]⟩=(K0 x4 o64_0 o64_1 o192).bind fun r=>some (.ret (.agg [zj (cI) 3 none false r.1,zj (cI) 3 none false r.2]) [])):∀ (m1:Nat) (x4:Int) (x5:Int) (o64_0:List Int) (o64_1:List Int) (o192:List Int),gH E [1,2,3,4,5] b0_spec_l2Grade [KJ.b 2,KJ.c k1_spec_l2Grade,KJ.b 1,KJ.c k2_spec_l2Grade,KJ.l [1,2,3,4] b3_spec_l2Grade m0,KJ.b 0,KJ.c k4_spec_l2Grade] m1 ⟨zo [(1,A.adr 64 1 0),(2,A.adr 128 1 0),(3,A.row 192 1),(4,.d (.int .i64 x4)),(5,.d (.int .i64 x5))],zw [(64,⟨1,.box [.d (zf (cI) o64_0),.d (zf (cI) o64_1)],false⟩),(128,⟨1,.box [A.nil,A.nil],false⟩),(192,⟨1,zW (cI) 3 none o192,false⟩)]⟩=(wW zq zu K0 m1 x4 x5 o64_0 o64_1 o192).bind fun r=>some (.ret (.agg [zj (cI) 3 none false r.1,zj (cI) 3 none false r.2]) []):=by
 intro m1
 induction m1 with
 | zero=>intros; rfl
 | succ m1 ih=>
   intros
   simp (config:={maxSteps:=40000000}) only [↓yq,z6,yn,yo,rI,rS,rB,r8,rLI,ym,yp,hy.p,hy.l,hy.k,hy.r,hy.d,hy.w,hy.f,zl,oid,xZ,↓zk _ _ b0_spec_l2Grade.eq_1,↓zk _ _ k1_spec_l2Grade.eq_1,↓zk _ _ k2_spec_l2Grade.eq_1,↓zk _ _ b3_spec_l2Grade.eq_1,↓zk _ _ k4_spec_l2Grade.eq_1,↓zk _ _ c_spec_l2Grade.eq_1,h_spec_l2Copy.2,h_spec_l2Copy.1,h_spec_l2Vector.2,h_spec_l2Vector.1,xi,ih,zr,wW,hK0,yc,z9,zF,yr,zQ,zC,zP,yd,zD,zO,zA,yb,zz,zR,zL,zN,zE,z7,ya,yu,↓reduceIte,Nat.reduceMul,Nat.reduceAdd,Nat.reduceSub,Nat.reduceEqDiff,Nat.reduceBEq,Nat.reduceLeDiff,Nat.reduceLT,reduceCtorEq,Int.reduceAdd,Int.reduceSub,Int.reduceToNat,Int.reduceNeg,Int.reduceEq,Int.reduceLT,Int.reduceLE]
theorem fk (E:En) (hy:Hy E [] [] [] xZ none (fun y=>nocap y) zl) (zq:(List Int)→Option (List Int)) (h_spec_l2Copy:ua E zq) (zu:(List Int)→Option (List Int×List Int)) (h_spec_l2Vector:vZ E zu):∀ (m0:Nat) (x4:Int) (o64_0:List Int) (o64_1:List Int) (o192:List Int),gH E [1,2,3,4] b3_spec_l2Grade [KJ.b 0,KJ.c k4_spec_l2Grade] m0 ⟨zo [(1,A.adr 64 1 0),(2,A.adr 128 1 0),(3,A.row 192 1),(4,.d (.int .i64 x4))],zw [(64,⟨1,.box [.d (zf (cI) o64_0),.d (zf (cI) o64_1)],false⟩),(128,⟨1,.box [A.nil,A.nil],false⟩),(192,⟨1,zW (cI) 3 none o192,false⟩)]⟩=(wi zq zu E.n m0 x4 o64_0 o64_1 o192).bind fun r=>some (.ret (.agg [zj (cI) 3 none false r.1,zj (cI) 3 none false r.2]) []):=by
 intro m0
 induction m0 with
 | zero=>intros; rfl
 | succ m0 ih=>
   intros
   simp (config:={maxSteps:=40000000}) only [↓yq,z6,yn,yo,rI,rS,rB,r8,rLI,ym,yp,hy.p,hy.l,hy.k,hy.r,hy.d,hy.w,hy.f,zl,oid,xZ,↓zk _ _ b0_spec_l2Grade.eq_1,↓zk _ _ k1_spec_l2Grade.eq_1,↓zk _ _ k2_spec_l2Grade.eq_1,↓zk _ _ b3_spec_l2Grade.eq_1,↓zk _ _ k4_spec_l2Grade.eq_1,↓zk _ _ c_spec_l2Grade.eq_1,h_spec_l2Copy.2,h_spec_l2Copy.1,h_spec_l2Vector.2,h_spec_l2Vector.1,xi,ih,zr,wi,gK E hy zq h_spec_l2Copy zu h_spec_l2Vector m0 _ ih,yc,z9,zF,yr,zQ,zC,zP,yd,zD,zO,zA,yb,zz,zR,zL,zN,zE,z7,ya,yu,↓reduceIte,Nat.reduceMul,Nat.reduceAdd,Nat.reduceSub,Nat.reduceEqDiff,Nat.reduceBEq,Nat.reduceLeDiff,Nat.reduceLT,reduceCtorEq,Int.reduceAdd,Int.reduceSub,Int.reduceToNat,Int.reduceNeg,Int.reduceEq,Int.reduceLT,Int.reduceLE]
theorem bw (E:En) (hy:Hy E [] [] [] xZ none (fun y=>nocap y) zl) (zq:(List Int)→Option (List Int)) (h_spec_l2Copy:ua E zq) (zu:(List Int)→Option (List Int×List Int)) (h_spec_l2Vector:vZ E zu) (za:List Int) (zb:List Int):G E c_spec_l2Grade [] ⟨zo [(0,.agg [.d (zf cI za),.d (zf cI zb)])],zw []⟩=(pO zq zu E.n za zb).bind fun r=>some (.ret (.agg [zj (cI) 3 none false r.1,zj (cI) 3 none false r.2]) []):=by
 simp (config:={maxSteps:=40000000}) only [↓yq,z6,yn,yo,rI,rS,rB,r8,rLI,ym,yp,hy.p,hy.l,hy.k,hy.r,hy.d,hy.w,hy.f,zl,oid,xZ,↓zk _ _ b0_spec_l2Grade.eq_1,↓zk _ _ k1_spec_l2Grade.eq_1,↓zk _ _ k2_spec_l2Grade.eq_1,↓zk _ _ b3_spec_l2Grade.eq_1,↓zk _ _ k4_spec_l2Grade.eq_1,↓zk _ _ c_spec_l2Grade.eq_1,h_spec_l2Copy.2,h_spec_l2Copy.1,h_spec_l2Vector.2,h_spec_l2Vector.1,zr,pO,fk E hy zq h_spec_l2Copy zu h_spec_l2Vector,yc,z9,zF,yr,zQ,zC,zP,yd,zD,zO,zA,yb,zz,zR,zL,zN,zE,z7,ya,yu,↓reduceIte,Nat.reduceMul,Nat.reduceAdd,Nat.reduceSub,Nat.reduceEqDiff,Nat.reduceBEq,Nat.reduceLeDiff,Nat.reduceLT,reduceCtorEq,Int.reduceAdd,Int.reduceSub,Int.reduceToNat,Int.reduceNeg,Int.reduceEq,Int.reduceLT,Int.reduceLE]
def aj (E:En) (L:(List Int)→(List Int)→Option (List Int×List Int)):Prop:=E.Γ.mu 36=false∧(∀ (za:List Int) (zb:List Int),E.Γ 36 [.agg [.d (zf cI za),.d (zf cI zb)]]=(L za zb).bind fun r=>some (.ret (.agg [zj (cI) 3 none false r.1,zj (cI) 3 none false r.2]) []))
def c_spec_Monad:Cd:=
 sq (r [0,3,4] [o 3 .box [t 1],o 4 (.alloc [.nil,.nil]) [],o 5 .mv [i 0]])
 (sq (sq (r [0,3,4,16] [o 6 .mv [t 0],o 7 (.bin .lss) [t 6,i 1],o 8 .mv [t 7],g 8 false 9 .mv [t 0],g 8 false 10 (.bin .gtr) [t 9,i 7],o 11 .pick [t 8,b true,t 10],o 12 .mv [t 11],g 12 false 13 (.ld (some 2)) [t 3],g 12 false 14 (.call 30) [t 13],g 12 false 15 .not [t 14],o 16 .pick [t 12,b true,t 15]])
   (.cond (t 16) (sq (r [4,5] [o 17 (.bld [.nil,.nil] []) [],e (.st 2) [t 4,t 17],o 5 .mv [i 9]])
     (.ret)) (.skip)))
  (sq (sq (r [0,3,4,19] [o 18 .mv [t 0],o 19 (.bin .eql) [t 18,i 1]])
    (.cond (t 19) (sq (r [4,5] [o 20 (.ld (some 2)) [t 3],o 21 (.call 31) [t 20],o 22 (.ext 0) [t 21],o 23 (.ext 1) [t 21],e (.st 2) [t 4,t 22],o 5 .mv [t 23]])
      (.ret)) (.skip)))
   (sq (sq (r [0,3,4,25] [o 24 .mv [t 0],o 25 (.bin .eql) [t 24,i 2]])
     (.cond (t 25) (sq (r [4,5] [o 26 (.fa 0) [t 3],o 27 (.ld none) [t 26],o 28 (.call 32) [t 27],e (.st 2) [t 4,t 28],o 5 .mv [i 0]])
       (.ret)) (.skip)))
    (sq (sq (r [0,3,4,30] [o 29 .mv [t 0],o 30 (.bin .eql) [t 29,i 3]])
      (.cond (t 30) (sq (r [4,5] [o 31 (.fa 1) [t 3],o 32 (.ld none) [t 31],o 33 (.call 32) [t 32],e (.st 2) [t 4,t 33],o 5 .mv [i 0]])
        (.ret)) (.skip)))
     (sq (sq (r [0,3,4,35] [o 34 .mv [t 0],o 35 (.bin .eql) [t 34,i 4]])
       (.cond (t 35) (sq (r [4,5] [o 36 (.ld (some 2)) [t 3],o 37 (.call 33) [t 36],e (.st 2) [t 4,t 37],o 5 .mv [i 0]])
         (.ret)) (.skip)))
      (sq (sq (r [0,3,4,39] [o 38 .mv [t 0],o 39 (.bin .eql) [t 38,i 5]])
        (.cond (t 39) (sq (r [4,5] [o 40 (.ld (some 2)) [t 3],o 41 (.call 34) [t 40],e (.st 2) [t 4,t 41],o 5 .mv [i 0]])
          (.ret)) (.skip)))
       (sq (sq (r [3,4,43] [o 42 .mv [t 0],o 43 (.bin .eql) [t 42,i 7]])
         (.cond (t 43) (sq (r [4,5] [o 44 (lit 3 1 0) [],o 45 (.ld (some 2)) [t 3],o 46 (.call 35) [t 45],o 47 (lit 3 1 1) [t 46],o 48 (.bld [.nil,.nil] [(0,1),(1,1)]) [t 44,t 47],e (.st 2) [t 4,t 48],o 5 .mv [i 0]])
           (.ret)) (.skip)))
        (sq (sq (r [3,4,52] [o 49 (.fa 0) [t 3],o 50 (.ld none) [t 49],o 51 (.len false) [t 50],o 52 (.bin .neq) [t 51,i 1]])
          (.cond (t 52) (sq (r [4,5] [o 53 (.bld [.nil,.nil] []) [],e (.st 2) [t 4,t 53],o 5 .mv [i 2]])
            (.ret)) (.skip)))
         (sq (r [4,5] [o 54 (.ld (some 2)) [t 3],o 55 (.call 36) [t 54],e (.st 2) [t 4,t 55],o 5 .mv [i 0]])
          (.ret))))))))))
def pp:List RV:=[.cell 4 (some 2),.tmp 5]
def pk (pN:(List Int)→(List Int)→Option (Bool)) (oJ:(List Int)→(List Int)→Option (List Int×List Int×Int)) (zu:(List Int)→Option (List Int×List Int)) (nD:(List Int)→(List Int)→Option (List Int×List Int)) (oM:(List Int)→(List Int)→Option (List Int×List Int)) (pV:(List Int)→(List Int)→Option (Int)) (oe:(List Int)→(List Int)→Option (List Int×List Int)) (N:Nat) (a0:Int) (a1_Shape:List Int) (a1_Data:List Int):Option (List Int×List Int×Int):=
 if a0 < 1 then some (([],[],9))
 else (if 7 < a0 then some (([],[],9))
  else ((pN a1_Shape a1_Data).bind fun y0=>
   if y0=false then some (([],[],9))
   else (if a0=1 then ((oJ a1_Shape a1_Data).bind fun y1=>
    some ((y1.fst,y1.snd.fst,y1.snd.snd)))
    else (if a0=2 then ((zu a1_Shape).bind fun y2=>
     some ((y2.fst,y2.snd,0)))
     else (if a0=3 then ((zu a1_Data).bind fun y3=>
      some ((y3.fst,y3.snd,0)))
      else (if a0=4 then ((nD a1_Shape a1_Data).bind fun y4=>
       some ((y4.fst,y4.snd,0)))
       else (if a0=5 then ((oM a1_Shape a1_Data).bind fun y5=>
        some ((y5.fst,y5.snd,0)))
        else (if a0=7 then ((pV a1_Shape a1_Data).bind fun y6=>
         some (([],[y6],0)))
         else (if (↑(List.length a1_Shape):Int)=1 then ((oe a1_Shape a1_Data).bind fun y7=>
          some ((y7.fst,y7.snd,0)))
          else some (([],[],2)))))))))))
theorem YW (E:En) (hy:Hy E [] [] [] pp none (fun y=>nocap (wK (.node [.node [.own 3 1,.own 3 1],.k]) y)) zl) (pN:(List Int)→(List Int)→Option (Bool)) (h_spec_ArrayOk:aw E pN) (oJ:(List Int)→(List Int)→Option (List Int×List Int×Int)) (h_spec_l2Iota:Zl E oJ) (zu:(List Int)→Option (List Int×List Int)) (h_spec_l2Vector:vZ E zu) (nD:(List Int)→(List Int)→Option (List Int×List Int)) (h_spec_l2Rev:YL E nD) (oM:(List Int)→(List Int)→Option (List Int×List Int)) (h_spec_l2Flip:Zf E oM) (pV:(List Int)→(List Int)→Option (Int)) (h_spec_l2Count:bl E pV) (oe:(List Int)→(List Int)→Option (List Int×List Int)) (h_spec_l2Grade:aj E oe) (a0:Int) (a1_Shape:List Int) (a1_Data:List Int):G E c_spec_Monad [] ⟨zo [(0,.d (.int .i64 a0)),(1,.agg [.d (zf cI a1_Shape),.d (zf cI a1_Data)])],zw []⟩=(pk pN oJ zu nD oM pV oe E.n a0 a1_Shape a1_Data).bind fun r=>some (.ret (.tup [.agg [zj (cI) 3 none false r.1,zj (cI) 3 none false r.2.1],.d (.int .i64 r.2.2)]) []):=by
 simp (config:={maxSteps:=40000000}) only [↓yq,z6,yn,yo,rI,rS,rB,r8,rLI,ym,yp,hy.p,hy.l,hy.k,hy.r,hy.d,hy.w,hy.f,zl,oid,pp,↓zk _ _ c_spec_Monad.eq_1,h_spec_ArrayOk.2,h_spec_ArrayOk.1,h_spec_l2Iota.2,h_spec_l2Iota.1,h_spec_l2Vector.2,h_spec_l2Vector.1,h_spec_l2Rev.2,h_spec_l2Rev.1,h_spec_l2Flip.2,h_spec_l2Flip.1,h_spec_l2Count.2,h_spec_l2Count.1,h_spec_l2Grade.2,h_spec_l2Grade.1,zr,pk,yc,z9,zF,yr,zQ,zC,zP,yd,zD,zO,zA,yb,zz,zR,zL,zN,zE,z7,ya,yu,↓reduceIte,Nat.reduceMul,Nat.reduceAdd,Nat.reduceSub,Nat.reduceEqDiff,Nat.reduceBEq,Nat.reduceLeDiff,Nat.reduceLT,reduceCtorEq,Int.reduceAdd,Int.reduceSub,Int.reduceToNat,Int.reduceNeg,Int.reduceEq,Int.reduceLT,Int.reduceLE]
def Xc (E:En) (L:Int→(List Int)→(List Int)→Option (List Int×List Int×Int)):Prop:=E.Γ.mu 7=false∧(∀ (a0:Int) (a1_Shape:List Int) (a1_Data:List Int),E.Γ 7 [.d (.int .i64 a0),.agg [.d (zf cI a1_Shape),.d (zf cI a1_Data)]]=(L a0 a1_Shape a1_Data).bind fun r=>some (.ret (.tup [.agg [zj (cI) 3 none false r.1,zj (cI) 3 none false r.2.1],.d (.int .i64 r.2.2)]) []))
def c_slices_Clone___int_int_:Cd:=
 sq (r [0] [o 2 .mv [n]])
 (sq (sq (r [0,4] [o 3 .mv [t 0],o 4 (.snil false) [t 3]])
   (.cond (t 4) (sq (r [2] [o 2 .mv [n]])
     (.ret)) (.skip)))
  (sq (r [2] [o 5 (lit 3 1 0) [],o 6 .mv [t 0],o 7 (.app 3 1 8) [t 5,t 6],o 2 .mv [t 7]])
   (.ret)))
def yF:List RV:=[.tmp 2]
def xu (N:Nat) (a0:List Int):Option (List Int):=
 if v7 8 (List.length a0) then some a0
 else none
theorem mB (E:En) (hy:Hy E [] [] [] yF none (fun y=>nocap (wK (.own 3 1) y)) zl) (a0:List Int):G E c_slices_Clone___int_int_ [] ⟨zo [(0,.d (j8 cI a0))],zw []⟩=(xu E.n a0).bind fun r=>some (.ret (zj (cI) 3 none false r) []):=by
 simp (config:={maxSteps:=40000000}) only [↓yq,z6,yn,yo,rI,rS,rB,r8,rLI,ym,yp,hy.p,hy.l,hy.k,hy.r,hy.d,hy.w,hy.f,zl,oid,yF,↓zk _ _ c_slices_Clone___int_int_.eq_1,zr,xu,yc,z9,zF,yr,zQ,zC,zP,yd,zD,zO,zA,yb,zz,zR,zL,zN,zE,z7,ya,yu,↓reduceIte,Nat.reduceMul,Nat.reduceAdd,Nat.reduceSub,Nat.reduceEqDiff,Nat.reduceBEq,Nat.reduceLeDiff,Nat.reduceLT,reduceCtorEq,Int.reduceAdd,Int.reduceSub,Int.reduceToNat,Int.reduceNeg,Int.reduceEq,Int.reduceLT,Int.reduceLE]
def wh (N:Nat):Option (List Int):=
 some []
theorem mG (E:En) (hy:Hy E [] [] [] yF none (fun y=>nocap (wK (.own 3 1) y)) zl):G E c_slices_Clone___int_int_ [] ⟨zo [(0,.nil)],zw []⟩=(wh E.n).bind fun r=>some (.ret (zj (cI) 3 none false r) []):=by
 simp (config:={maxSteps:=40000000}) only [↓yq,z6,yn,yo,rI,rS,rB,r8,rLI,ym,yp,hy.p,hy.l,hy.k,hy.r,hy.d,hy.w,hy.f,zl,oid,yF,↓zk _ _ c_slices_Clone___int_int_.eq_1,zr,wh,yc,z9,zF,yr,zQ,zC,zP,yd,zD,zO,zA,yb,zz,zR,zL,zN,zE,z7,ya,yu,↓reduceIte,Nat.reduceMul,Nat.reduceAdd,Nat.reduceSub,Nat.reduceEqDiff,Nat.reduceBEq,Nat.reduceLeDiff,Nat.reduceLT,reduceCtorEq,Int.reduceAdd,Int.reduceSub,Int.reduceToNat,Int.reduceNeg,Int.reduceEq,Int.reduceLT,Int.reduceLE]
def yM (E:En) (L:(List Int)→Option (List Int)):Prop:=E.Γ.mu 86=false∧(∀ (a0:List Int),E.Γ 86 [.d (zf cI a0)]=(L a0).bind fun r=>some (.ret (zj (cI) 3 none false r) []))
def c_impl_vectorOf:Cd:=
 sq (r [0,2] [o 2 (.alloc [.nil,.nil]) []])
 (sq (r [2] [o 3 .mv [t 0],o 4 (.len false) [t 3],o 5 (lit 3 1 1) [t 4],o 6 .mv [t 0],o 7 (.call 86) [t 6],o 8 (.bld [.nil,.nil] [(0,1),(1,1)]) [t 5,t 7],e (.st 2) [t 2,t 8]])
  (.ret))
def tq:List RV:=[.cell 2 (some 2)]
def ti (zg:(List Int)→Option (List Int)) (N:Nat) (a0:List Int):Option (List Int×List Int):=
 (zg a0).bind fun y0=>
 some (([(↑(List.length a0):Int)],y0))
theorem cW (E:En) (hy:Hy E [] [] [] tq none (fun y=>nocap y) zl) (zg:(List Int)→Option (List Int)) (h_slices_Clone___int_int_:yM E zg) (a0:List Int):G E c_impl_vectorOf [] ⟨zo [(0,.d (zf cI a0))],zw []⟩=(ti zg E.n a0).bind fun r=>some (.ret (.agg [zj (cI) 3 none false r.1,zj (cI) 3 none false r.2]) []):=by
 simp (config:={maxSteps:=40000000}) only [↓yq,z6,yn,yo,rI,rS,rB,r8,rLI,ym,yp,hy.p,hy.l,hy.k,hy.r,hy.d,hy.w,hy.f,zl,oid,tq,↓zk _ _ c_impl_vectorOf.eq_1,h_slices_Clone___int_int_.2,h_slices_Clone___int_int_.1,zr,ti,yc,z9,zF,yr,zQ,zC,zP,yd,zD,zO,zA,yb,zz,zR,zL,zN,zE,z7,ya,yu,↓reduceIte,Nat.reduceMul,Nat.reduceAdd,Nat.reduceSub,Nat.reduceEqDiff,Nat.reduceBEq,Nat.reduceLeDiff,Nat.reduceLT,reduceCtorEq,Int.reduceAdd,Int.reduceSub,Int.reduceToNat,Int.reduceNeg,Int.reduceEq,Int.reduceLT,Int.reduceLE]
def qS (E:En) (L:(List Int)→Option (List Int×List Int)):Prop:=E.Γ.mu 40=false∧(∀ (a0:List Int),E.Γ 40 [.d (zf cI a0)]=(L a0).bind fun r=>some (.ret (.agg [zj (cI) 3 none false r.1,zj (cI) 3 none false r.2]) []))
def b0_impl_counted:Cd:=
 sq (r [2,4,27,28,29] [o 29 (.bin .lss) [t 28,t 27]])
 (sq (.cond (t 29) (.skip) (.exit 0))
  (sq (.block 1 (sq (r [2,4,5,27,28] [o 30 .mv [t 28],o 5 .mv [t 30]])
    (r [2,4,27,28] [o 31 .mv [t 4],o 32 .mv [t 5],o 33 .mv [t 5],o 34 (.ia 1) [t 31,t 32],e (.st 1) [t 34,t 33]])))
   (r [2,4,27,28] [o 35 (.bin .add) [t 28,i 1],o 28 .mv [t 35]])))
def k1_impl_counted:Cd:=
 sq (r [2] [o 36 .mv [t 4],o 37 (.call 40) [t 36],e (.st 2) [t 2,t 37]])
 (.ret)
def c_impl_counted:Cd:=
 sq (r [1,2] [o 1 .box [t 0],o 2 (.alloc [.nil,.nil]) []])
 (sq (sq (r [1,2,9] [o 6 (.fa 0) [t 1],o 7 (.ld none) [t 6],o 8 (.len false) [t 7],o 9 (.bin .neq) [t 8,i 0]])
   (.cond (t 9) (r [1,2] [o 10 (.bld [(.d (iD 0))] [(0,1)]) [i 2],o 11 (.mkI 123) [t 10],e .pan [t 11]]) (.skip)))
  (sq (r [2,3] [o 12 (.fa 1) [t 1],o 13 (.ld none) [t 12],o 14 (.ia 1) [t 13,i 0],o 15 (.ld none) [t 14],o 3 .mv [t 15]])
   (sq (sq (r [2,3,17] [o 16 .mv [t 3],o 17 (.bin .lss) [t 16,i 0]])
     (.cond (t 17) (r [2,3] [o 18 (.bld [(.d (iD 0))] [(0,1)]) [i 1],o 19 (.mkI 123) [t 18],e .pan [t 19]]) (.skip)))
    (sq (sq (r [2,3,21] [o 20 .mv [t 3],o 21 (.bin .gtr) [t 20,i 1000]])
      (.cond (t 21) (r [2,3] [o 22 (.bld [(.d (iD 0))] [(0,1)]) [i 6],o 23 (.mkI 123) [t 22],e .pan [t 23]]) (.skip)))
     (sq (r [2,4] [o 24 .mv [t 3],o 25 (.mkS 3 1 8 [(iD 0)]) [t 24,t 24],o 4 .mv [t 25]])
      (sq (sq (r [2,4,27,28] [o 26 .mv [t 4],o 27 (.len false) [t 26],o 28 .mv [i 0]])
        (.block 0 (.loop [2,4,27,28] b0_impl_counted))) k1_impl_counted))))))
def vC:List RV:=[.cell 2 (some 2)]
def wR (ye:(List Int)→Option (List Int×List Int)):Nat→Int→Int→(List Int)→Option (Res (List Int×List Int))
 | 0,_,_,_=>none
 | m0+1,x27,x28,o256=>
   if x28 < x27 then (if 0 ≤ x28∧x28 < (↑(List.length o256):Int) then ((uM o256 (Int.toNat x28) x28).bind fun y0=>
    wR ye m0 x27 (w64 (x28+1)) y0)
    else none)
   else ((ye o256).bind fun y1=>
    some (.ok ((y1.fst,y1.snd))))
def rl (ye:(List Int)→Option (List Int×List Int)) (N:Nat) (za:List Int) (zb:List Int):Option (Res (List Int×List Int)):=
 if (↑(List.length za):Int)=0 then ((idx zb 0).bind fun y0=>
  if y0 < 0 then some (.pan (D.ifaceS 123 [D.int .i64 1]))
  else (if 1000 < y0 then some (.pan (D.ifaceS 123 [D.int .i64 6]))
   else (if mN 8 y0 y0 then wR ye N ((↑(Int.toNat y0):Int)) 0 (List.replicate (Int.toNat y0) 0)
    else none)))
 else some (.pan (D.ifaceS 123 [D.int .i64 2]))
theorem fw (E:En) (hy:Hy E [] [] [] vC none (fun y=>nocap y) zl) (ye:(List Int)→Option (List Int×List Int)) (h_impl_vectorOf:qS E ye):∀ (m0:Nat) (x27:Int) (x28:Int) (o256:List Int),gH E [2,4,27,28] b0_impl_counted [KJ.b 0,KJ.c k1_impl_counted] m0 ⟨zo [(2,A.adr 128 1 0),(4,A.row 256 1),(27,.d (.int .i64 x27)),(28,.d (.int .i64 x28))],zw [(128,⟨1,.box [A.nil,A.nil],false⟩),(256,⟨1,zW (cI) 3 none o256,false⟩)]⟩=(wR ye m0 x27 x28 o256).bind fun r=>r.on (fun r=>some (.ret (.agg [zj (cI) 3 none false r.1,zj (cI) 3 none false r.2]) [])) (fun x=>some (.pan x [])):=by
 intro m0
 induction m0 with
 | zero=>intros; rfl
 | succ m0 ih=>
   intros
   simp (config:={maxSteps:=40000000}) only [↓yq,z6,yn,yo,rI,rS,rB,r8,rLI,ym,yp,hy.p,hy.l,hy.k,hy.r,hy.d,hy.w,hy.f,zl,oid,vC,↓zk _ _ b0_impl_counted.eq_1,↓zk _ _ k1_impl_counted.eq_1,↓zk _ _ c_impl_counted.eq_1,h_impl_vectorOf.2,h_impl_vectorOf.1,xi,ih,zr,wR,yc,z9,zF,yr,zQ,zC,zP,yd,zD,zO,zA,yb,zz,zR,zL,zN,zE,z7,ya,yu,↓reduceIte,Nat.reduceMul,Nat.reduceAdd,Nat.reduceSub,Nat.reduceEqDiff,Nat.reduceBEq,Nat.reduceLeDiff,Nat.reduceLT,reduceCtorEq,Int.reduceAdd,Int.reduceSub,Int.reduceToNat,Int.reduceNeg,Int.reduceEq,Int.reduceLT,Int.reduceLE]
theorem bN (E:En) (hy:Hy E [] [] [] vC none (fun y=>nocap y) zl) (ye:(List Int)→Option (List Int×List Int)) (h_impl_vectorOf:qS E ye) (za:List Int) (zb:List Int):G E c_impl_counted [] ⟨zo [(0,.agg [.d (zf cI za),.d (zf cI zb)])],zw []⟩=(rl ye E.n za zb).bind fun r=>r.on (fun r=>some (.ret (.agg [zj (cI) 3 none false r.1,zj (cI) 3 none false r.2]) [])) (fun x=>some (.pan x [])):=by
 simp (config:={maxSteps:=40000000}) only [↓yq,z6,yn,yo,rI,rS,rB,r8,rLI,ym,yp,hy.p,hy.l,hy.k,hy.r,hy.d,hy.w,hy.f,zl,oid,vC,↓zk _ _ b0_impl_counted.eq_1,↓zk _ _ k1_impl_counted.eq_1,↓zk _ _ c_impl_counted.eq_1,h_impl_vectorOf.2,h_impl_vectorOf.1,zr,rl,fw E hy ye h_impl_vectorOf,yc,z9,zF,yr,zQ,zC,zP,yd,zD,zO,zA,yb,zz,zR,zL,zN,zE,z7,ya,yu,↓reduceIte,Nat.reduceMul,Nat.reduceAdd,Nat.reduceSub,Nat.reduceEqDiff,Nat.reduceBEq,Nat.reduceLeDiff,Nat.reduceLT,reduceCtorEq,Int.reduceAdd,Int.reduceSub,Int.reduceToNat,Int.reduceNeg,Int.reduceEq,Int.reduceLT,Int.reduceLE]
def jA (E:En) (L:(List Int)→(List Int)→Option (Res (List Int×List Int))):Prop:=E.Γ.mu 38=false∧(∀ (za:List Int) (zb:List Int),E.Γ 38 [.agg [.d (zf cI za),.d (zf cI zb)]]=(L za zb).bind fun r=>r.on (fun r=>some (.ret (.agg [zj (cI) 3 none false r.1,zj (cI) 3 none false r.2]) [])) (fun x=>some (.pan x [])))
def c_impl_Monad_1:Cd:=
 sq (r [1,2] [o 1 .box [t 0],o 2 (.alloc [.nil,.nil]) []])
 (sq (r [2] [o 3 (.fa 0) [t 1],o 4 (.ld none) [t 3],o 5 (.call 40) [t 4],e (.st 2) [t 2,t 5]])
  (.ret))
def rm:List RV:=[.cell 2 (some 2)]
def ra (ye:(List Int)→Option (List Int×List Int)) (N:Nat) (za:List Int) (zb:List Int):Option (List Int×List Int):=
 (ye za).bind fun y0=>
 some ((y0.fst,y0.snd))
theorem bz (E:En) (hy:Hy E [] [] [] rm none (fun y=>nocap y) zl) (ye:(List Int)→Option (List Int×List Int)) (h_impl_vectorOf:qS E ye) (za:List Int) (zb:List Int):G E c_impl_Monad_1 [] ⟨zo [(0,.agg [.d (zf cI za),.d (zf cI zb)])],zw []⟩=(ra ye E.n za zb).bind fun r=>some (.ret (.agg [zj (cI) 3 none false r.1,zj (cI) 3 none false r.2]) []):=by
 simp (config:={maxSteps:=40000000}) only [↓yq,z6,yn,yo,rI,rS,rB,r8,rLI,ym,yp,hy.p,hy.l,hy.k,hy.r,hy.d,hy.w,hy.f,zl,oid,rm,↓zk _ _ c_impl_Monad_1.eq_1,h_impl_vectorOf.2,h_impl_vectorOf.1,zr,ra,yc,z9,zF,yr,zQ,zC,zP,yd,zD,zO,zA,yb,zz,zR,zL,zN,zE,z7,ya,yu,↓reduceIte,Nat.reduceMul,Nat.reduceAdd,Nat.reduceSub,Nat.reduceEqDiff,Nat.reduceBEq,Nat.reduceLeDiff,Nat.reduceLT,reduceCtorEq,Int.reduceAdd,Int.reduceSub,Int.reduceToNat,Int.reduceNeg,Int.reduceEq,Int.reduceLT,Int.reduceLE]
def ju (E:En) (L:(List Int)→(List Int)→Option (List Int×List Int)):Prop:=E.Γ.mu 39=false∧(∀ (za:List Int) (zb:List Int),E.Γ 39 [.agg [.d (zf cI za),.d (zf cI zb)]]=(L za zb).bind fun r=>some (.ret (.agg [zj (cI) 3 none false r.1,zj (cI) 3 none false r.2]) []))
def c_impl_Monad_2:Cd:=
 sq (r [1,2] [o 1 .box [t 0],o 2 (.alloc [.nil,.nil]) []])
 (sq (r [2] [o 3 (.fa 1) [t 1],o 4 (.ld none) [t 3],o 5 (.call 40) [t 4],e (.st 2) [t 2,t 5]])
  (.ret))
def sM:List RV:=[.cell 2 (some 2)]
def s8 (ye:(List Int)→Option (List Int×List Int)) (N:Nat) (za:List Int) (zb:List Int):Option (List Int×List Int):=
 (ye zb).bind fun y0=>
 some ((y0.fst,y0.snd))
theorem bA (E:En) (hy:Hy E [] [] [] sM none (fun y=>nocap y) zl) (ye:(List Int)→Option (List Int×List Int)) (h_impl_vectorOf:qS E ye) (za:List Int) (zb:List Int):G E c_impl_Monad_2 [] ⟨zo [(0,.agg [.d (zf cI za),.d (zf cI zb)])],zw []⟩=(s8 ye E.n za zb).bind fun r=>some (.ret (.agg [zj (cI) 3 none false r.1,zj (cI) 3 none false r.2]) []):=by
 simp (config:={maxSteps:=40000000}) only [↓yq,z6,yn,yo,rI,rS,rB,r8,rLI,ym,yp,hy.p,hy.l,hy.k,hy.r,hy.d,hy.w,hy.f,zl,oid,sM,↓zk _ _ c_impl_Monad_2.eq_1,h_impl_vectorOf.2,h_impl_vectorOf.1,zr,s8,yc,z9,zF,yr,zQ,zC,zP,yd,zD,zO,zA,yb,zz,zR,zL,zN,zE,z7,ya,yu,↓reduceIte,Nat.reduceMul,Nat.reduceAdd,Nat.reduceSub,Nat.reduceEqDiff,Nat.reduceBEq,Nat.reduceLeDiff,Nat.reduceLT,reduceCtorEq,Int.reduceAdd,Int.reduceSub,Int.reduceToNat,Int.reduceNeg,Int.reduceEq,Int.reduceLT,Int.reduceLE]
def jD (E:En) (L:(List Int)→(List Int)→Option (List Int×List Int)):Prop:=E.Γ.mu 41=false∧(∀ (za:List Int) (zb:List Int),E.Γ 41 [.agg [.d (zf cI za),.d (zf cI zb)]]=(L za zb).bind fun r=>some (.ret (.agg [zj (cI) 3 none false r.1,zj (cI) 3 none false r.2]) []))
def c_impl_cloned:Cd:=
 sq (r [1,2] [o 1 .box [t 0],o 2 (.alloc [.nil,.nil]) []])
 (sq (rd [] [2] [o 3 (.fa 0) [t 1],o 4 (.ld none) [t 3],o 6 (.fa 1) [t 1],o 7 (.ld none) [t 6],ap [] false [1,6] (o 5 (.call 86) [t 4]),o 8 (.call 86) [t 7],o 9 (.bld [.nil,.nil] [(0,1),(1,1)]) [t 5,t 8],e (.st 2) [t 2,t 9]])
  (.ret))
def qg:List RV:=[.cell 2 (some 2)]
def rV (zg:(List Int)→Option (List Int)) (N:Nat) (za:List Int) (zb:List Int):Option (List Int×List Int):=
 (zg za).bind fun y0=>
 (zg zb).bind fun y1=>
 some ((y0,y1))
theorem Zc (E:En) (hy:Hy E [] [] [] qg none (fun y=>nocap y) zl) (zg:(List Int)→Option (List Int)) (h_slices_Clone___int_int_:yM E zg) (za:List Int) (zb:List Int):G E c_impl_cloned [] ⟨zo [(0,.agg [.d (zf cI za),.d (zf cI zb)])],zw []⟩=(rV zg E.n za zb).bind fun r=>some (.ret (.agg [zj (cI) 3 none false r.1,zj (cI) 3 none false r.2]) []):=by
 simp (config:={maxSteps:=40000000}) only [↓yq,z6,yn,yo,rI,rS,rB,r8,rLI,ym,yp,hy.p,hy.l,hy.k,hy.r,hy.d,hy.w,hy.f,zl,oid,qg,↓zk _ _ c_impl_cloned.eq_1,h_slices_Clone___int_int_.2,h_slices_Clone___int_int_.1,zr,rV,yc,z9,zF,yr,zQ,zC,zP,yd,zD,zO,zA,yb,zz,zR,zL,zN,zE,z7,ya,yu,↓reduceIte,Nat.reduceMul,Nat.reduceAdd,Nat.reduceSub,Nat.reduceEqDiff,Nat.reduceBEq,Nat.reduceLeDiff,Nat.reduceLT,reduceCtorEq,Int.reduceAdd,Int.reduceSub,Int.reduceToNat,Int.reduceNeg,Int.reduceEq,Int.reduceLT,Int.reduceLE]
def iq (E:En) (L:(List Int)→(List Int)→Option (List Int×List Int)):Prop:=E.Γ.mu 87=false∧(∀ (za:List Int) (zb:List Int),E.Γ 87 [.agg [.d (zf cI za),.d (zf cI zb)]]=(L za zb).bind fun r=>some (.ret (.agg [zj (cI) 3 none false r.1,zj (cI) 3 none false r.2]) []))
def b0_impl_cellsOf:Cd:=
 sq (r [4,10,11,12,13] [o 13 (.bin .lss) [t 12,t 11]])
 (sq (.cond (t 13) (.skip) (.exit 0))
  (sq (.block 1 (sq (r [4,6,10,11,12] [o 14 (.ia 1) [t 10,t 12],o 15 (.ld none) [t 14],o 6 .mv [t 15]])
    (sq (sq (r [4,6,10,11,12,21] [o 16 .mv [t 6],o 17 (.bin .lss) [t 16,i 0],o 18 .mv [t 17],g 18 false 19 .mv [t 6],g 18 false 20 (.bin .gtr) [t 19,i 1000],o 21 .pick [t 18,b true,t 20]])
      (.cond (t 21) (sq (r [2,3] [o 2 .mv [i 0],o 3 .mv [b false]])
        (.ret)) (.skip)))
     (r [4,10,11,12] [o 22 .mv [t 4],o 23 .mv [t 6],o 24 (.bin .mul) [t 22,t 23],o 4 .mv [t 24]]))))
   (r [4,10,11,12] [o 25 (.bin .add) [t 12,i 1],o 12 .mv [t 25]])))
def k1_impl_cellsOf:Cd:=
 sq (r [2,3] [o 26 .mv [t 4],o 27 .mv [t 4],o 28 (.bin .leq) [t 27,i 1000],o 2 .mv [t 26],o 3 .mv [t 28]])
 (.ret)
def c_impl_cellsOf:Cd:=
 sq (r [0] [o 2 .mv [i 0],o 3 .mv [b false]])
 (sq (sq (r [0,9] [o 7 .mv [t 0],o 8 (.len false) [t 7],o 9 (.bin .gtr) [t 8,i 3]])
   (.cond (t 9) (sq (r [2,3] [o 2 .mv [i 0],o 3 .mv [b false]])
     (.ret)) (.skip)))
  (sq (r [0,4] [o 4 .mv [i 1]])
   (sq (sq (r [4,10,11,12] [o 10 .mv [t 0],o 11 (.len false) [t 10],o 12 .mv [i 0]])
     (.block 0 (.loop [4,10,11,12] b0_impl_cellsOf))) k1_impl_cellsOf)))
def vr:List RV:=[.tmp 2,.tmp 3]
def w4:Nat→Int→(List Int)→Int→Int→Option (Int×Bool)
 | 0,_,_,_,_=>none
 | m0+1,x4,x10,x11,x12=>
   if x12 < x11 then ((idx x10 x12).bind fun y0=>
    if y0 < 0 then some ((0,false))
    else (if 1000 < y0 then some ((0,false))
     else w4 m0 (w64 (x4 * y0)) x10 x11 (w64 (x12+1))))
   else some ((x4,Decidable.decide (x4 ≤ 1000)))
def sH (N:Nat) (a0:List Int):Option (Int×Bool):=
 if 3 < (↑(List.length a0):Int) then some ((0,false))
 else w4 N 1 a0 ((↑(List.length a0):Int)) 0
theorem hZ (E:En) (hy:Hy E [] [] [] vr none (fun y=>nocap y) zl):∀ (m0:Nat) (x4:Int) (x10:List Int) (x11:Int) (x12:Int),gH E [4,10,11,12] b0_impl_cellsOf [KJ.b 0,KJ.c k1_impl_cellsOf] m0 ⟨zo [(4,.d (.int .i64 x4)),(10,.d (zf (cI) x10)),(11,.d (.int .i64 x11)),(12,.d (.int .i64 x12))],zw []⟩=(w4 m0 x4 x10 x11 x12).bind fun r=>some (.ret (.tup [.d (.int .i64 r.1),.d (.bool r.2)]) []):=by
 intro m0
 induction m0 with
 | zero=>intros; rfl
 | succ m0 ih=>
   intros
   simp (config:={maxSteps:=40000000}) only [↓yq,z6,yn,yo,rI,rS,rB,r8,rLI,ym,yp,hy.p,hy.l,hy.k,hy.r,hy.d,hy.w,hy.f,zl,oid,vr,↓zk _ _ b0_impl_cellsOf.eq_1,↓zk _ _ k1_impl_cellsOf.eq_1,↓zk _ _ c_impl_cellsOf.eq_1,xi,ih,zr,w4,yc,z9,zF,yr,zQ,zC,zP,yd,zD,zO,zA,yb,zz,zR,zL,zN,zE,z7,ya,yu,↓reduceIte,Nat.reduceMul,Nat.reduceAdd,Nat.reduceSub,Nat.reduceEqDiff,Nat.reduceBEq,Nat.reduceLeDiff,Nat.reduceLT,reduceCtorEq,Int.reduceAdd,Int.reduceSub,Int.reduceToNat,Int.reduceNeg,Int.reduceEq,Int.reduceLT,Int.reduceLE]
theorem bp (E:En) (hy:Hy E [] [] [] vr none (fun y=>nocap y) zl) (a0:List Int):G E c_impl_cellsOf [] ⟨zo [(0,.d (zf cI a0))],zw []⟩=(sH E.n a0).bind fun r=>some (.ret (.tup [.d (.int .i64 r.1),.d (.bool r.2)]) []):=by
 simp (config:={maxSteps:=40000000}) only [↓yq,z6,yn,yo,rI,rS,rB,r8,rLI,ym,yp,hy.p,hy.l,hy.k,hy.r,hy.d,hy.w,hy.f,zl,oid,vr,↓zk _ _ b0_impl_cellsOf.eq_1,↓zk _ _ k1_impl_cellsOf.eq_1,↓zk _ _ c_impl_cellsOf.eq_1,zr,sH,hZ E hy,yc,z9,zF,yr,zQ,zC,zP,yd,zD,zO,zA,yb,zz,zR,zL,zN,zE,z7,ya,yu,↓reduceIte,Nat.reduceMul,Nat.reduceAdd,Nat.reduceSub,Nat.reduceEqDiff,Nat.reduceBEq,Nat.reduceLeDiff,Nat.reduceLT,reduceCtorEq,Int.reduceAdd,Int.reduceSub,Int.reduceToNat,Int.reduceNeg,Int.reduceEq,Int.reduceLT,Int.reduceLE]
def n5 (E:En) (L:(List Int)→Option (Int×Bool)):Prop:=E.Γ.mu 93=false∧(∀ (a0:List Int),E.Γ 93 [.d (zf cI a0)]=(L a0).bind fun r=>some (.ret (.tup [.d (.int .i64 r.1),.d (.bool r.2)]) []))
def c_impl_made:Cd:=
 sq (r [0,2] [o 2 (.alloc [.nil,.nil]) []])
 (sq (r [0,2,3,4] [o 6 .mv [t 0],o 7 (.call 93) [t 6],o 5 .mv [t 7],o 8 (.ext 0) [t 5],o 9 (.ext 1) [t 5],o 3 .mv [t 8],o 4 .mv [t 9]])
  (sq (sq (r [0,2,3,11] [o 10 .mv [t 4],o 11 .not [t 10]])
    (.cond (t 11) (r [0,2,3] [o 12 (.bld [(.d (iD 0))] [(0,1)]) [i 6],o 13 (.mkI 123) [t 12],e .pan [t 13]]) (.skip)))
   (sq (rd [] [2] [ap [1088] false [] (o 14 .mv [t 0]),o 16 .mv [t 3],ap [] true [] (o 17 (.mkS 3 1 8 [(iD 0)]) [i 0,t 16]),ap [1088] false [] (o 15 (.call 86) [t 14]),o 18 (.bld [.nil,.nil] [(0,1),(1,1)]) [t 15,t 17],e (.st 2) [t 2,t 18]])
    (.ret))))
def oA:List RV:=[.cell 2 (some 2)]
def oz (yK:(List Int)→Option (Int×Bool)) (zg:(List Int)→Option (List Int)) (N:Nat) (a0:List Int):Option (Res (List Int×Option Nat×List Int)):=
 (yK a0).bind fun y0=>
 if y0.snd=false then some (.pan (D.ifaceS 123 [D.int .i64 6]))
 else (if mN 8 0 y0.fst then ((zg a0).bind fun y1=>
  some (.ok ((y1,some (Int.toNat y0.fst),List.replicate 0 0))))
  else none)
theorem XM (E:En) (hy:Hy E [] [] [] oA none (fun y=>y) zl) (yK:(List Int)→Option (Int×Bool)) (h_impl_cellsOf:n5 E yK) (zg:(List Int)→Option (List Int)) (h_slices_Clone___int_int_:yM E zg) (a0:List Int):G E c_impl_made [] ⟨zo [(0,.d (zf cI a0))],zw []⟩=(oz yK zg E.n a0).bind fun r=>r.on (fun r=>some (.ret (.agg [zj (cI) 3 none false r.1,zj (cI) 3 r.2.1 false r.2.2]) [])) (fun x=>some (.pan x [])):=by
 simp (config:={maxSteps:=40000000}) only [↓yq,z6,yn,yo,rI,rS,rB,r8,rLI,ym,yp,hy.p,hy.l,hy.k,hy.r,hy.d,hy.w,hy.f,zl,oid,oA,↓zk _ _ c_impl_made.eq_1,h_impl_cellsOf.2,h_impl_cellsOf.1,h_slices_Clone___int_int_.2,h_slices_Clone___int_int_.1,zr,oz,yc,z9,zF,yr,zQ,zC,zP,yd,zD,zO,zA,yb,zz,zR,zL,zN,zE,z7,ya,yu,↓reduceIte,Nat.reduceMul,Nat.reduceAdd,Nat.reduceSub,Nat.reduceEqDiff,Nat.reduceBEq,Nat.reduceLeDiff,Nat.reduceLT,reduceCtorEq,Int.reduceAdd,Int.reduceSub,Int.reduceToNat,Int.reduceNeg,Int.reduceEq,Int.reduceLT,Int.reduceLE]
def tN (E:En) (L:(List Int)→Option (Res (List Int×Option Nat×List Int))):Prop:=E.Γ.mu 88=false∧(∀ (a0:List Int),E.Γ 88 [.d (zf cI a0)]=(L a0).bind fun r=>r.on (fun r=>some (.ret (.agg [zj (cI) 3 none false r.1,zj (cI) 3 r.2.1 false r.2.2]) [])) (fun x=>some (.pan x [])))
def c_impl_rowsOf:Cd:=
 sq (r [1] [o 1 .box [t 0],o 2 .mv [i 0],o 3 .mv [i 0]])
 (sq (r [1,4] [o 5 (.fa 0) [t 1],o 6 (.ld none) [t 5],o 7 (.ia 1) [t 6,i 0],o 8 (.ld none) [t 7],o 4 .mv [t 8]])
  (sq (sq (r [1,4,10] [o 9 .mv [t 4],o 10 (.bin .eql) [t 9,i 0]])
    (.cond (t 10) (sq (r [2,3] [o 2 .mv [i 0],o 3 .mv [i 0]])
      (.ret)) (.skip)))
   (sq (rd [] [2,3] [o 11 .mv [t 4],o 12 (.fa 1) [t 1],o 13 (.ld none) [t 12],o 14 (.len false) [t 13],o 15 .mv [t 4],o 16 (.bin .quo) [t 14,t 15],o 2 .mv [t 11],o 3 .mv [t 16]])
    (.ret))))
def rW:List RV:=[.tmp 2,.tmp 3]
def qt (N:Nat) (za:List Int) (zb:List Int):Option (Int×Int):=
 (idx za 0).bind fun y0=>
 if y0=0 then some ((0,0))
 else (if y0=0 then none
  else some ((y0,w64 (Int.tdiv (↑(List.length zb):Int) y0))))
theorem ZD (E:En) (hy:Hy E [] [] [] rW none (fun y=>nocap y) zl) (za:List Int) (zb:List Int):G E c_impl_rowsOf [] ⟨zo [(0,.agg [.d (zf cI za),.d (zf cI zb)])],zw []⟩=(qt E.n za zb).bind fun r=>some (.ret (.tup [.d (.int .i64 r.1),.d (.int .i64 r.2)]) []):=by
 simp (config:={maxSteps:=40000000}) only [↓yq,z6,yn,yo,rI,rS,rB,r8,rLI,ym,yp,hy.p,hy.l,hy.k,hy.r,hy.d,hy.w,hy.f,zl,oid,rW,↓zk _ _ c_impl_rowsOf.eq_1,zr,qt,yc,z9,zF,yr,zQ,zC,zP,yd,zD,zO,zA,yb,zz,zR,zL,zN,zE,z7,ya,yu,↓reduceIte,Nat.reduceMul,Nat.reduceAdd,Nat.reduceSub,Nat.reduceEqDiff,Nat.reduceBEq,Nat.reduceLeDiff,Nat.reduceLT,reduceCtorEq,Int.reduceAdd,Int.reduceSub,Int.reduceToNat,Int.reduceNeg,Int.reduceEq,Int.reduceLT,Int.reduceLE]
def iw (E:En) (L:(List Int)→(List Int)→Option (Int×Int)):Prop:=E.Γ.mu 89=false∧(∀ (za:List Int) (zb:List Int),E.Γ 89 [.agg [.d (zf cI za),.d (zf cI zb)]]=(L za zb).bind fun r=>some (.ret (.tup [.d (.int .i64 r.1),.d (.int .i64 r.2)]) []))
def b0_impl_reversed:Cd:=
 sq (sq (r [1,2,3,5,6,24] [o 23 .mv [t 6],o 24 (.bin .geq) [t 23,i 0]])
  (.cond (t 24) (.skip) (.exit 0)))
 (sq (.block 1 (.frz 1 (rd [] [1,2,3,5,6] [o 27 (.fa 1) [t 3],o 28 (.ld none) [t 27],o 29 (.fa 1) [t 1],o 30 (.ld none) [t 29],o 31 .mv [t 6],o 32 .mv [t 5],o 33 (.bin .mul) [t 31,t 32],o 34 .mv [t 6],o 35 (.bin .add) [t 34,i 1],o 36 .mv [t 5],o 37 (.bin .mul) [t 35,t 36],o 38 (.slc false 1 true true) [t 30,t 33,t 37],o 39 (.app 3 1 8) [t 28,t 38],o 40 (.fa 1) [t 3],e (.st 1) [t 40,t 39]])))
  (r [1,2,3,5,6] [o 25 .mv [t 6],o 26 (.bin .sub) [t 25,i 1],o 6 .mv [t 26]]))
def k1_impl_reversed:Cd:=
 sq (r [2] [o 41 (.ld (some 2)) [t 3],e (.st 2) [t 2,t 41]])
 (.ret)
def c_impl_reversed:Cd:=
 sq (r [1,2] [o 1 .box [t 0],o 2 (.alloc [.nil,.nil]) []])
 (sq (sq (r [1,2,10] [o 7 (.fa 0) [t 1],o 8 (.ld none) [t 7],o 9 (.len false) [t 8],o 10 (.bin .eql) [t 9,i 0]])
   (.cond (t 10) (sq (r [2] [o 11 (.ld (some 2)) [t 1],o 12 (.call 87) [t 11],e (.st 2) [t 2,t 12]])
     (.ret)) (.skip)))
  (sq (r [1,2,3] [o 13 (.fa 0) [t 1],o 14 (.ld none) [t 13],o 15 (.call 88) [t 14],o 3 (.alloc [.nil,.nil]) [],e (.st 2) [t 3,t 15]])
   (sq (r [1,2,3,4,5] [o 17 (.ld (some 2)) [t 1],o 18 (.call 89) [t 17],o 16 .mv [t 18],o 19 (.ext 0) [t 16],o 20 (.ext 1) [t 16],o 4 .mv [t 19],o 5 .mv [t 20]])
    (sq (sq (r [1,2,3,5,6] [o 21 .mv [t 4],o 22 (.bin .sub) [t 21,i 1],o 6 .mv [t 22]])
      (.block 0 (.loop [1,2,3,5,6] b0_impl_reversed))) k1_impl_reversed))))
def wN:List RV:=[.cell 2 (some 2)]
def wz (xy:(List Int)→(List Int)→Option (List Int×List Int)) (zp:(List Int)→Option (Res (List Int×Option Nat×List Int))) (xz:(List Int)→(List Int)→Option (Int×Int)):Nat→Int→Int→(List Int)→(List Int)→(List Int)→(List Int)→Option (Res (List Int×List Int))
 | 0,_,_,_,_,_,_=>none
 | m0+1,x5,x6,o64_0,o64_1,o193,o194=>
   if 0 ≤ x6 then ((cut o64_1 (w64 (x6 * x5)) (w64 (w64 (x6+1) * x5))).bind fun y0=>
    if v7 8 (List.length (o194++y0)) then wz xy zp xz m0 x5 (w64 (x6 - 1)) o64_0 o64_1 o193 (o194++y0)
    else none)
   else some (.ok ((o193,o194)))
def tK (xy:(List Int)→(List Int)→Option (List Int×List Int)) (zp:(List Int)→Option (Res (List Int×Option Nat×List Int))) (xz:(List Int)→(List Int)→Option (Int×Int)) (N:Nat) (za:List Int) (zb:List Int):Option (Res (List Int×List Int)):=
 if (↑(List.length za):Int)=0 then ((xy za zb).bind fun y0=>
  some (.ok ((y0.fst,y0.snd))))
 else ((zp za).bind fun y1=>
  (y1).on (fun y2=>(xz za zb).bind fun y3=>
   wz xy zp xz N y3.snd (w64 (y3.fst - 1)) za zb y2.fst y2.snd.snd) (fun y2=>some (.pan (y2))))
theorem iU (E:En) (hy:Hy E [] [] [] wN none (fun y=>nocap y) zl) (xy:(List Int)→(List Int)→Option (List Int×List Int)) (h_impl_cloned:iq E xy) (zp:(List Int)→Option (Res (List Int×Option Nat×List Int))) (h_impl_made:tN E zp) (xz:(List Int)→(List Int)→Option (Int×Int)) (h_impl_rowsOf:iw E xz):∀ (m0:Nat) (x5:Int) (x6:Int) (o64_0:List Int) (o64_1:List Int) (o193:List Int) (o194:List Int),gH E [1,2,3,5,6] b0_impl_reversed [KJ.b 0,KJ.c k1_impl_reversed] m0 ⟨zo [(1,A.adr 64 1 0),(2,A.adr 128 1 0),(3,A.adr 192 1 0),(5,.d (.int .i64 x5)),(6,.d (.int .i64 x6))],zw [(64,⟨1,.box [.d (zf (cI) o64_0),.d (zf (cI) o64_1)],false⟩),(128,⟨1,.box [A.nil,A.nil],false⟩),(192,⟨1,.box [A.row 193 1,A.row 194 1],false⟩),(193,⟨1,zW (cI) 3 none o193,false⟩),(194,⟨1,zW (cI) 3 none o194,false⟩)]⟩=(wz xy zp xz m0 x5 x6 o64_0 o64_1 o193 o194).bind fun r=>r.on (fun r=>some (.ret (.agg [zj (cI) 3 none false r.1,zj (cI) 3 none false r.2]) [])) (fun x=>some (.pan x [])):=by
 intro m0
 induction m0 with
 | zero=>intros; rfl
 | succ m0 ih=>
   intros
   simp (config:={maxSteps:=40000000}) only [↓yq,z6,yn,yo,rI,rS,rB,r8,rLI,ym,yp,hy.p,hy.l,hy.k,hy.r,hy.d,hy.w,hy.f,zl,oid,wN,↓zk _ _ b0_impl_reversed.eq_1,↓zk _ _ k1_impl_reversed.eq_1,↓zk _ _ c_impl_reversed.eq_1,h_impl_cloned.2,h_impl_cloned.1,h_impl_made.2,h_impl_made.1,h_impl_rowsOf.2,h_impl_rowsOf.1,xi,ih,zr,wz,yc,z9,zF,yr,zQ,zC,zP,yd,zD,zO,zA,yb,zz,zR,zL,zN,zE,z7,ya,yu,↓reduceIte,Nat.reduceMul,Nat.reduceAdd,Nat.reduceSub,Nat.reduceEqDiff,Nat.reduceBEq,Nat.reduceLeDiff,Nat.reduceLT,reduceCtorEq,Int.reduceAdd,Int.reduceSub,Int.reduceToNat,Int.reduceNeg,Int.reduceEq,Int.reduceLT,Int.reduceLE]
theorem bj (E:En) (hy:Hy E [] [] [] wN none (fun y=>nocap y) zl) (xy:(List Int)→(List Int)→Option (List Int×List Int)) (h_impl_cloned:iq E xy) (zp:(List Int)→Option (Res (List Int×Option Nat×List Int))) (h_impl_made:tN E zp) (xz:(List Int)→(List Int)→Option (Int×Int)) (h_impl_rowsOf:iw E xz) (za:List Int) (zb:List Int):G E c_impl_reversed [] ⟨zo [(0,.agg [.d (zf cI za),.d (zf cI zb)])],zw []⟩=(tK xy zp xz E.n za zb).bind fun r=>r.on (fun r=>some (.ret (.agg [zj (cI) 3 none false r.1,zj (cI) 3 none false r.2]) [])) (fun x=>some (.pan x [])):=by
 simp (config:={maxSteps:=40000000}) only [↓yq,z6,yn,yo,rI,rS,rB,r8,rLI,ym,yp,hy.p,hy.l,hy.k,hy.r,hy.d,hy.w,hy.f,zl,oid,wN,↓zk _ _ b0_impl_reversed.eq_1,↓zk _ _ k1_impl_reversed.eq_1,↓zk _ _ c_impl_reversed.eq_1,h_impl_cloned.2,h_impl_cloned.1,h_impl_made.2,h_impl_made.1,h_impl_rowsOf.2,h_impl_rowsOf.1,zr,tK,iU E hy xy h_impl_cloned zp h_impl_made xz h_impl_rowsOf,yc,z9,zF,yr,zQ,zC,zP,yd,zD,zO,zA,yb,zz,zR,zL,zN,zE,z7,ya,yu,↓reduceIte,Nat.reduceMul,Nat.reduceAdd,Nat.reduceSub,Nat.reduceEqDiff,Nat.reduceBEq,Nat.reduceLeDiff,Nat.reduceLT,reduceCtorEq,Int.reduceAdd,Int.reduceSub,Int.reduceToNat,Int.reduceNeg,Int.reduceEq,Int.reduceLT,Int.reduceLE]
def kw (E:En) (L:(List Int)→(List Int)→Option (Res (List Int×List Int))):Prop:=E.Γ.mu 42=false∧(∀ (za:List Int) (zb:List Int),E.Γ 42 [.agg [.d (zf cI za),.d (zf cI zb)]]=(L za zb).bind fun r=>r.on (fun r=>some (.ret (.agg [zj (cI) 3 none false r.1,zj (cI) 3 none false r.2]) [])) (fun x=>some (.pan x [])))
def b0_slices_Reverse___int_int_:Cd:=
 sq (sq (r [0,2,3,9] [o 7 .mv [t 2],o 8 .mv [t 3],o 9 (.bin .lss) [t 7,t 8]])
  (.cond (t 9) (.skip) (.exit 0)))
 (sq (.block 1 (rd [] [0,2,3] [o 14 .mv [t 0],o 15 .mv [t 2],o 16 .mv [t 0],o 17 .mv [t 3],o 18 .mv [t 0],o 19 .mv [t 3],o 20 (.ia 1) [t 18,t 19],o 21 (.ld none) [t 20],o 22 .mv [t 0],o 23 .mv [t 2],o 24 (.ia 1) [t 22,t 23],o 25 (.ld none) [t 24],o 26 (.ia 1) [t 14,t 15],e (.st 1) [t 26,t 21],o 27 (.ia 1) [t 16,t 17],e (.st 1) [t 27,t 25]]))
  (r [0,2,3] [o 10 .mv [t 2],o 11 (.bin .add) [t 10,i 1],o 12 .mv [t 3],o 13 (.bin .sub) [t 12,i 1],o 2 .mv [t 11],o 3 .mv [t 13]]))
def c_slices_Reverse___int_int_:Cd:=
 sq (r [0,2,3] [o 4 .mv [t 0],o 5 (.len false) [t 4],o 6 (.bin .sub) [t 5,i 1],o 2 .mv [i 0],o 3 .mv [t 6]])
 (.block 0 (.loop [0,2,3] b0_slices_Reverse___int_int_))
def yP:List RV:=[]
def yE:Nat→Int→Int→(List Int)→Option (List Int)
 | 0,_,_,_=>none
 | m0+1,x2,x3,o0=>
   if x2 < x3 then (if 0 ≤ x3∧x3 < (↑(List.length o0):Int) then ((o0[Int.toNat x3]?).bind fun y0=>
    if 0 ≤ x2∧x2 < (↑(List.length o0):Int) then ((o0[Int.toNat x2]?).bind fun y1=>
     if 0 ≤ x2∧x2 < (↑(List.length o0):Int) then ((uM o0 (Int.toNat x2) y0).bind fun y2=>
      if 0 ≤ x3∧x3 < (↑(List.length y2):Int) then ((uM y2 (Int.toNat x3) y1).bind fun y3=>
       yE m0 (w64 (x2+1)) (w64 (x3 - 1)) y3)
      else none)
     else none)
    else none)
    else none)
   else some o0
def yJ (N:Nat) (a0:List Int):Option (List Int):=
 yE N 0 (w64 ((↑(List.length a0):Int) - 1)) a0
theorem nv (E:En) (hy:Hy E [0] [0] [(0,.row 3 1)] yP none (fun y=>nocap y) zl):∀ (m0:Nat) (x2:Int) (x3:Int) (o0:List Int),gH E [0,2,3] b0_slices_Reverse___int_int_ [KJ.b 0] m0 ⟨zo [(0,A.row 0 1),(2,.d (.int .i64 x2)),(3,.d (.int .i64 x3))],zw [(0,⟨1,zW (cI) 3 none o0,false⟩)]⟩=(yE m0 x2 x3 o0).bind fun r=>some (.ret (.tup []) [[zf (cI) r]]):=by
 intro m0
 induction m0 with
 | zero=>intros; rfl
 | succ m0 ih=>
   intros
   simp (config:={maxSteps:=40000000}) only [↓yq,z6,yn,yo,rI,rS,rB,r8,rLI,ym,yp,hy.p,hy.l,hy.k,hy.r,hy.d,hy.w,hy.f,zl,oid,yP,↓zk _ _ b0_slices_Reverse___int_int_.eq_1,↓zk _ _ c_slices_Reverse___int_int_.eq_1,xi,ih,zr,yE,yc,z9,zF,yr,zQ,zC,zP,yd,zD,zO,zA,yb,zz,zR,zL,zN,zE,z7,ya,yu,↓reduceIte,Nat.reduceMul,Nat.reduceAdd,Nat.reduceSub,Nat.reduceEqDiff,Nat.reduceBEq,Nat.reduceLeDiff,Nat.reduceLT,reduceCtorEq,Int.reduceAdd,Int.reduceSub,Int.reduceToNat,Int.reduceNeg,Int.reduceEq,Int.reduceLT,Int.reduceLE]
theorem mq (E:En) (hy:Hy E [0] [0] [(0,.row 3 1)] yP none (fun y=>nocap y) zl) (a0:List Int):G E c_slices_Reverse___int_int_ [] ⟨zo [(0,.row 0 1)],zw [(0,⟨1,zW cI 3 none a0,false⟩)]⟩=(yJ E.n a0).bind fun r=>some (.ret (.tup []) [[zf (cI) r]]):=by
 simp (config:={maxSteps:=40000000}) only [↓yq,z6,yn,yo,rI,rS,rB,r8,rLI,ym,yp,hy.p,hy.l,hy.k,hy.r,hy.d,hy.w,hy.f,zl,oid,yP,↓zk _ _ b0_slices_Reverse___int_int_.eq_1,↓zk _ _ c_slices_Reverse___int_int_.eq_1,zr,yJ,nv E hy,yc,z9,zF,yr,zQ,zC,zP,yd,zD,zO,zA,yb,zz,zR,zL,zN,zE,z7,ya,yu,↓reduceIte,Nat.reduceMul,Nat.reduceAdd,Nat.reduceSub,Nat.reduceEqDiff,Nat.reduceBEq,Nat.reduceLeDiff,Nat.reduceLT,reduceCtorEq,Int.reduceAdd,Int.reduceSub,Int.reduceToNat,Int.reduceNeg,Int.reduceEq,Int.reduceLT,Int.reduceLE]
def xp (E:En) (L:(List Int)→Option (List Int)):Prop:=E.Γ.mu 90=true∧(∀ (a0:List Int),E.Γ 90 [zj cI 3 none false a0]=(L a0).bind fun r=>some (.ret (.tup []) [[zf (cI) r]]))
def b0_impl_flipped:Cd:=
 sq (sq (r [1,2,3,4,5,6,7,8,24] [o 23 .mv [t 8],o 24 (.bin .geq) [t 23,i 0]])
  (.cond (t 24) (.skip) (.exit 0)))
 (sq (.block 1 (sq (r [1,2,3,4,5,6,7,8] [o 27 (.fa 0) [t 1],o 28 (.ld none) [t 27],o 29 (.len false) [t 28],o 30 (.bin .sub) [t 29,i 1],o 31 .mv [t 8],o 32 (.bin .sub) [t 30,t 31],o 33 .mv [t 7],o 34 (.iaa 3 1) [t 5,t 32],e (.st 1) [t 34,t 33]])
   (r [1,2,3,4,5,6,7,8] [o 35 .mv [t 7],o 36 (.fa 0) [t 1],o 37 (.ld none) [t 36],o 38 .mv [t 8],o 39 (.ia 1) [t 37,t 38],o 40 (.ld none) [t 39],o 41 (.bin .mul) [t 35,t 40],o 7 .mv [t 41]])))
  (r [1,2,3,4,5,6,7,8] [o 25 .mv [t 8],o 26 (.bin .sub) [t 25,i 1],o 8 .mv [t 26]]))
def b1_impl_flipped:Cd:=
 sq (r [1,2,3,4,5,6,9,44,45,48,49,50] [o 50 (.bin .lss) [t 49,t 48]])
 (sq (.cond (t 50) (.skip) (.exit 4))
  (sq (.block 5 (sq (r [1,2,3,4,5,6,9,10,44,45,48,49] [o 51 .mv [t 49],o 10 .mv [t 51]])
    (rd [] [1,2,3,4,5,6,9,44,45,48,49] [o 52 .mv [t 9],o 53 .mv [t 10],o 54 (.iaa 3 1) [t 6,t 53],o 55 (.ld none) [t 54],o 56 .mv [t 10],o 57 (.iaa 3 1) [t 5,t 56],o 58 (.ld none) [t 57],o 59 (.bin .mul) [t 55,t 58],o 60 (.bin .add) [t 52,t 59],o 9 .mv [t 60]])))
   (r [1,2,3,4,5,6,9,44,45,48,49] [o 61 (.bin .add) [t 49,i 1],o 49 .mv [t 61]])))
def b2_impl_flipped:Cd:=
 sq (sq (r [1,2,3,4,5,6,11,44,45,76] [o 75 .mv [t 11],o 76 (.bin .geq) [t 75,i 0]])
  (.cond (t 76) (.skip) (.exit 6)))
 (sq (.block 7 (sq (r [1,2,3,4,5,6,11,44,45] [o 79 .mv [t 11],o 80 (.iaa 3 1) [t 6,t 79],o 81 (.ld none) [t 80],o 82 (.bin .add) [t 81,i 1],o 83 (.iaa 3 1) [t 6,t 79],e (.st 1) [t 83,t 82]])
   (sq (sq (rd [] [1,2,3,4,5,6,11,44,45,91] [o 84 .mv [t 11],o 85 (.iaa 3 1) [t 6,t 84],o 86 (.ld none) [t 85],o 87 .mv [t 3],o 88 .mv [t 11],o 89 (.ia 1) [t 87,t 88],o 90 (.ld none) [t 89],o 91 (.bin .lss) [t 86,t 90]])
     (.cond (t 91) (.exit 3) (.skip)))
    (r [1,2,3,4,5,6,11,44,45] [o 92 .mv [t 11],o 93 (.iaa 3 1) [t 6,t 92],e (.st 1) [t 93,i 0]]))))
  (r [1,2,3,4,5,6,11,44,45] [o 77 .mv [t 11],o 78 (.bin .sub) [t 77,i 1],o 11 .mv [t 78]]))
def k3_impl_flipped:Cd:=
 sq (rd [] [1,2,3,4,5,6,44,45] [o 62 (.fa 1) [t 4],o 63 (.ld none) [t 62],o 64 (.fa 1) [t 1],o 65 (.ld none) [t 64],o 66 .mv [t 9],o 67 (.ia 1) [t 65,t 66],o 68 (.ld none) [t 67],ap [] false [4,62] (o 69 (lit 3 1 1) [t 68]),o 70 (.app 3 1 8) [t 63,t 69],o 71 (.fa 1) [t 4],e (.st 1) [t 71,t 70]])
 (sq (r [1,2,3,4,5,6,11,44,45] [o 72 .mv [t 3],o 73 (.len false) [t 72],o 74 (.bin .sub) [t 73,i 1],o 11 .mv [t 74]])
  (.block 6 (.loop [1,2,3,4,5,6,11,44,45] b2_impl_flipped)))
def k4_impl_flipped:Cd:=
 r [1,2,3,4,5,6,44,45] [o 94 (.bin .add) [t 45,i 1],o 45 .mv [t 94]]
def b5_impl_flipped:Cd:=
 sq (r [1,2,3,4,5,6,44,45,46] [o 46 (.bin .lss) [t 45,t 44]])
 (sq (.cond (t 46) (.skip) (.exit 2))
  (sq (.block 3 (sq (r [1,2,3,4,5,6,9,44,45] [o 9 .mv [i 0]])
    (sq (sq (r [1,2,3,4,5,6,9,44,45,48,49] [o 47 .mv [t 3],o 48 (.len false) [t 47],o 49 .mv [i 0]])
      (.block 4 (.loop [1,2,3,4,5,6,9,44,45,48,49] b1_impl_flipped))) k3_impl_flipped))) k4_impl_flipped))
def k6_impl_flipped:Cd:=
 sq (r [2] [o 95 (.ld (some 2)) [t 4],e (.st 2) [t 2,t 95]])
 (.ret)
def k7_impl_flipped:Cd:=
 sq (.skip)
 (sq (sq (r [1,2,3,4,5,6,44,45] [o 42 (.fa 1) [t 1],o 43 (.ld none) [t 42],o 44 (.len false) [t 43],o 45 .mv [i 0]])
   (.block 2 (.loop [1,2,3,4,5,6,44,45] b5_impl_flipped))) k6_impl_flipped)
def c_impl_flipped:Cd:=
 sq (r [1,2] [o 1 .box [t 0],o 2 (.alloc [.nil,.nil]) []])
 (.scope (sq (r [1,2,3] [o 12 (.fa 0) [t 1],o 13 (.ld none) [t 12],o 14 (.call 86) [t 13],o 3 .mv [t 14]])
   (sq (r [1,2,3] [o 15 .mv [t 3],o 16 (.call 90) [t 15]])
    (sq (r [1,2,3,4] [o 17 .mv [t 3],o 18 (.call 88) [t 17],o 4 (.alloc [.nil,.nil]) [],e (.st 2) [t 4,t 18]])
     (sq (r [1,2,3,4,5,6] [o 5 (.alloc [(.d (iD 0)),(.d (iD 0)),(.d (iD 0))]) [],o 6 (.alloc [(.d (iD 0)),(.d (iD 0)),(.d (iD 0))]) []])
      (sq (r [1,2,3,4,5,6,7] [o 7 .mv [i 1]])
       (sq (sq (r [1,2,3,4,5,6,7,8] [o 19 (.fa 0) [t 1],o 20 (.ld none) [t 19],o 21 (.len false) [t 20],o 22 (.bin .sub) [t 21,i 1],o 8 .mv [t 22]])
         (.block 0 (.loop [1,2,3,4,5,6,7,8] b0_impl_flipped))) k7_impl_flipped)))))))
def yZ:List RV:=[.cell 2 (some 2)]
def zU (zg:(List Int)→Option (List Int)) (zi:(List Int)→Option (List Int)) (zp:(List Int)→Option (Res (List Int×Option Nat×List Int))) (K1:Int→Int→(List Int)→(List Int)→(List Int)→(List Int)→(List Int)→Int→Int→Int→Int→Int→Int→Option (Res (List Int×List Int))):Nat→Int→Int→Int→(List Int)→(List Int)→(List Int)→(List Int)→(List Int)→Int→Int→Int→Int→Int→Int→Option (Res (List Int×List Int))
 | 0,_,_,_,_,_,_,_,_,_,_,_,_,_,_=>none
 | m3+1,x11,x44,x45,o64_0,o64_1,o192,o257,o258,o320_0,o320_1,o320_2,o384_0,o384_1,o384_2=>
   if 0 ≤ x11 then (if 0 ≤ x11∧x11 < 3 then (if Int.toNat x11 * 1=0 then (if 0 ≤ x11∧x11 < 3 then (if Int.toNat x11 * 1 < 3 then (if 0 ≤ x11∧x11 < 3 then (if Int.toNat x11 * 1=0 then (if 0 ≤ x11∧x11 < (↑(List.length o192):Int) then ((o192[Int.toNat x11]?).bind fun y0=>
           if (if Int.toNat x11 * 1=0 then w64 (o384_0+1) else o384_0) < y0 then (K1 x44 (w64 (x45+1)) o64_0 o64_1 o192 o257 o258 o320_0 o320_1 o320_2 (if Int.toNat x11 * 1=0 then w64 (o384_0+1) else o384_0) (if Int.toNat x11 * 1=1 then w64 (o384_0+1) else o384_1) (if Int.toNat x11 * 1=2 then w64 (o384_0+1) else o384_2))
           else (if 0 ≤ x11∧x11 < 3 then (if Int.toNat x11 * 1 < 3 then (zU zg zi zp K1 m3 (w64 (x11 - 1)) x44 x45 o64_0 o64_1 o192 o257 o258 o320_0 o320_1 o320_2 (if Int.toNat x11 * 1=0 then 0 else if Int.toNat x11 * 1=0 then w64 (o384_0+1) else o384_0) (if Int.toNat x11 * 1=1 then 0 else if Int.toNat x11 * 1=1 then w64 (o384_0+1) else o384_1) (if Int.toNat x11 * 1=2 then 0 else if Int.toNat x11 * 1=2 then w64 (o384_0+1) else o384_2))
            else none)
            else none))
          else none)
         else (if Int.toNat x11 * 1=1 then (if 0 ≤ x11∧x11 < (↑(List.length o192):Int) then ((o192[Int.toNat x11]?).bind fun y1=>
           if (if Int.toNat x11 * 1=1 then w64 (o384_0+1) else o384_1) < y1 then (K1 x44 (w64 (x45+1)) o64_0 o64_1 o192 o257 o258 o320_0 o320_1 o320_2 (if Int.toNat x11 * 1=0 then w64 (o384_0+1) else o384_0) (if Int.toNat x11 * 1=1 then w64 (o384_0+1) else o384_1) (if Int.toNat x11 * 1=2 then w64 (o384_0+1) else o384_2))
           else (if 0 ≤ x11∧x11 < 3 then (if Int.toNat x11 * 1 < 3 then (zU zg zi zp K1 m3 (w64 (x11 - 1)) x44 x45 o64_0 o64_1 o192 o257 o258 o320_0 o320_1 o320_2 (if Int.toNat x11 * 1=0 then 0 else if Int.toNat x11 * 1=0 then w64 (o384_0+1) else o384_0) (if Int.toNat x11 * 1=1 then 0 else if Int.toNat x11 * 1=1 then w64 (o384_0+1) else o384_1) (if Int.toNat x11 * 1=2 then 0 else if Int.toNat x11 * 1=2 then w64 (o384_0+1) else o384_2))
            else none)
            else none))
          else none)
          else (if Int.toNat x11 * 1=2 then (if 0 ≤ x11∧x11 < (↑(List.length o192):Int) then ((o192[Int.toNat x11]?).bind fun y2=>
            if (if Int.toNat x11 * 1=2 then w64 (o384_0+1) else o384_2) < y2 then (K1 x44 (w64 (x45+1)) o64_0 o64_1 o192 o257 o258 o320_0 o320_1 o320_2 (if Int.toNat x11 * 1=0 then w64 (o384_0+1) else o384_0) (if Int.toNat x11 * 1=1 then w64 (o384_0+1) else o384_1) (if Int.toNat x11 * 1=2 then w64 (o384_0+1) else o384_2))
            else (if 0 ≤ x11∧x11 < 3 then (if Int.toNat x11 * 1 < 3 then (zU zg zi zp K1 m3 (w64 (x11 - 1)) x44 x45 o64_0 o64_1 o192 o257 o258 o320_0 o320_1 o320_2 (if Int.toNat x11 * 1=0 then 0 else if Int.toNat x11 * 1=0 then w64 (o384_0+1) else o384_0) (if Int.toNat x11 * 1=1 then 0 else if Int.toNat x11 * 1=1 then w64 (o384_0+1) else o384_1) (if Int.toNat x11 * 1=2 then 0 else if Int.toNat x11 * 1=2 then w64 (o384_0+1) else o384_2))
             else none)
             else none))
           else none)
           else none)))
        else none)
       else none)
      else none)
    else (if Int.toNat x11 * 1=1 then (if 0 ≤ x11∧x11 < 3 then (if Int.toNat x11 * 1 < 3 then (if 0 ≤ x11∧x11 < 3 then (if Int.toNat x11 * 1=0 then (if 0 ≤ x11∧x11 < (↑(List.length o192):Int) then ((o192[Int.toNat x11]?).bind fun y3=>
           if (if Int.toNat x11 * 1=0 then w64 (o384_1+1) else o384_0) < y3 then (K1 x44 (w64 (x45+1)) o64_0 o64_1 o192 o257 o258 o320_0 o320_1 o320_2 (if Int.toNat x11 * 1=0 then w64 (o384_1+1) else o384_0) (if Int.toNat x11 * 1=1 then w64 (o384_1+1) else o384_1) (if Int.toNat x11 * 1=2 then w64 (o384_1+1) else o384_2))
           else (if 0 ≤ x11∧x11 < 3 then (if Int.toNat x11 * 1 < 3 then (zU zg zi zp K1 m3 (w64 (x11 - 1)) x44 x45 o64_0 o64_1 o192 o257 o258 o320_0 o320_1 o320_2 (if Int.toNat x11 * 1=0 then 0 else if Int.toNat x11 * 1=0 then w64 (o384_1+1) else o384_0) (if Int.toNat x11 * 1=1 then 0 else if Int.toNat x11 * 1=1 then w64 (o384_1+1) else o384_1) (if Int.toNat x11 * 1=2 then 0 else if Int.toNat x11 * 1=2 then w64 (o384_1+1) else o384_2))
            else none)
            else none))
          else none)
         else (if Int.toNat x11 * 1=1 then (if 0 ≤ x11∧x11 < (↑(List.length o192):Int) then ((o192[Int.toNat x11]?).bind fun y4=>
           if (if Int.toNat x11 * 1=1 then w64 (o384_1+1) else o384_1) < y4 then (K1 x44 (w64 (x45+1)) o64_0 o64_1 o192 o257 o258 o320_0 o320_1 o320_2 (if Int.toNat x11 * 1=0 then w64 (o384_1+1) else o384_0) (if Int.toNat x11 * 1=1 then w64 (o384_1+1) else o384_1) (if Int.toNat x11 * 1=2 then w64 (o384_1+1) else o384_2))
           else (if 0 ≤ x11∧x11 < 3 then (if Int.toNat x11 * 1 < 3 then (zU zg zi zp K1 m3 (w64 (x11 - 1)) x44 x45 o64_0 o64_1 o192 o257 o258 o320_0 o320_1 o320_2 (if Int.toNat x11 * 1=0 then 0 else if Int.toNat x11 * 1=0 then w64 (o384_1+1) else o384_0) (if Int.toNat x11 * 1=1 then 0 else if Int.toNat x11 * 1=1 then w64 (o384_1+1) else o384_1) (if Int.toNat x11 * 1=2 then 0 else if Int.toNat x11 * 1=2 then w64 (o384_1+1) else o384_2))
            else none)
            else none))
          else none)
          else (if Int.toNat x11 * 1=2 then (if 0 ≤ x11∧x11 < (↑(List.length o192):Int) then ((o192[Int.toNat x11]?).bind fun y5=>
            if (if Int.toNat x11 * 1=2 then w64 (o384_1+1) else o384_2) < y5 then (K1 x44 (w64 (x45+1)) o64_0 o64_1 o192 o257 o258 o320_0 o320_1 o320_2 (if Int.toNat x11 * 1=0 then w64 (o384_1+1) else o384_0) (if Int.toNat x11 * 1=1 then w64 (o384_1+1) else o384_1) (if Int.toNat x11 * 1=2 then w64 (o384_1+1) else o384_2))
            else (if 0 ≤ x11∧x11 < 3 then (if Int.toNat x11 * 1 < 3 then (zU zg zi zp K1 m3 (w64 (x11 - 1)) x44 x45 o64_0 o64_1 o192 o257 o258 o320_0 o320_1 o320_2 (if Int.toNat x11 * 1=0 then 0 else if Int.toNat x11 * 1=0 then w64 (o384_1+1) else o384_0) (if Int.toNat x11 * 1=1 then 0 else if Int.toNat x11 * 1=1 then w64 (o384_1+1) else o384_1) (if Int.toNat x11 * 1=2 then 0 else if Int.toNat x11 * 1=2 then w64 (o384_1+1) else o384_2))
             else none)
             else none))
           else none)
           else none)))
      else none)
      else none)
     else none)
     else (if Int.toNat x11 * 1=2 then (if 0 ≤ x11∧x11 < 3 then (if Int.toNat x11 * 1 < 3 then (if 0 ≤ x11∧x11 < 3 then (if Int.toNat x11 * 1=0 then (if 0 ≤ x11∧x11 < (↑(List.length o192):Int) then ((o192[Int.toNat x11]?).bind fun y6=>
            if (if Int.toNat x11 * 1=0 then w64 (o384_2+1) else o384_0) < y6 then (K1 x44 (w64 (x45+1)) o64_0 o64_1 o192 o257 o258 o320_0 o320_1 o320_2 (if Int.toNat x11 * 1=0 then w64 (o384_2+1) else o384_0) (if Int.toNat x11 * 1=1 then w64 (o384_2+1) else o384_1) (if Int.toNat x11 * 1=2 then w64 (o384_2+1) else o384_2))
            else (if 0 ≤ x11∧x11 < 3 then (if Int.toNat x11 * 1 < 3 then (zU zg zi zp K1 m3 (w64 (x11 - 1)) x44 x45 o64_0 o64_1 o192 o257 o258 o320_0 o320_1 o320_2 (if Int.toNat x11 * 1=0 then 0 else if Int.toNat x11 * 1=0 then w64 (o384_2+1) else o384_0) (if Int.toNat x11 * 1=1 then 0 else if Int.toNat x11 * 1=1 then w64 (o384_2+1) else o384_1) (if Int.toNat x11 * 1=2 then 0 else if Int.toNat x11 * 1=2 then w64 (o384_2+1) else o384_2))
             else none)
             else none))
           else none)
          else (if Int.toNat x11 * 1=1 then (if 0 ≤ x11∧x11 < (↑(List.length o192):Int) then ((o192[Int.toNat x11]?).bind fun y7=>
            if (if Int.toNat x11 * 1=1 then w64 (o384_2+1) else o384_1) < y7 then (K1 x44 (w64 (x45+1)) o64_0 o64_1 o192 o257 o258 o320_0 o320_1 o320_2 (if Int.toNat x11 * 1=0 then w64 (o384_2+1) else o384_0) (if Int.toNat x11 * 1=1 then w64 (o384_2+1) else o384_1) (if Int.toNat x11 * 1=2 then w64 (o384_2+1) else o384_2))
            else (if 0 ≤ x11∧x11 < 3 then (if Int.toNat x11 * 1 < 3 then (zU zg zi zp K1 m3 (w64 (x11 - 1)) x44 x45 o64_0 o64_1 o192 o257 o258 o320_0 o320_1 o320_2 (if Int.toNat x11 * 1=0 then 0 else if Int.toNat x11 * 1=0 then w64 (o384_2+1) else o384_0) (if Int.toNat x11 * 1=1 then 0 else if Int.toNat x11 * 1=1 then w64 (o384_2+1) else o384_1) (if Int.toNat x11 * 1=2 then 0 else if Int.toNat x11 * 1=2 then w64 (o384_2+1) else o384_2))
             else none)
             else none))
           else none)
           else (if Int.toNat x11 * 1=2 then (if 0 ≤ x11∧x11 < (↑(List.length o192):Int) then ((o192[Int.toNat x11]?).bind fun y8=>
             if (if Int.toNat x11 * 1=2 then w64 (o384_2+1) else o384_2) < y8 then (K1 x44 (w64 (x45+1)) o64_0 o64_1 o192 o257 o258 o320_0 o320_1 o320_2 (if Int.toNat x11 * 1=0 then w64 (o384_2+1) else o384_0) (if Int.toNat x11 * 1=1 then w64 (o384_2+1) else o384_1) (if Int.toNat x11 * 1=2 then w64 (o384_2+1) else o384_2))
             else (if 0 ≤ x11∧x11 < 3 then (if Int.toNat x11 * 1 < 3 then (zU zg zi zp K1 m3 (w64 (x11 - 1)) x44 x45 o64_0 o64_1 o192 o257 o258 o320_0 o320_1 o320_2 (if Int.toNat x11 * 1=0 then 0 else if Int.toNat x11 * 1=0 then w64 (o384_2+1) else o384_0) (if Int.toNat x11 * 1=1 then 0 else if Int.toNat x11 * 1=1 then w64 (o384_2+1) else o384_1) (if Int.toNat x11 * 1=2 then 0 else if Int.toNat x11 * 1=2 then w64 (o384_2+1) else o384_2))
              else none)
              else none))
            else none)
            else none)))
       else none)
       else none)
      else none)
      else none)))
    else none)
   else K1 x44 (w64 (x45+1)) o64_0 o64_1 o192 o257 o258 o320_0 o320_1 o320_2 o384_0 o384_1 o384_2
def zM (zg:(List Int)→Option (List Int)) (zi:(List Int)→Option (List Int)) (zp:(List Int)→Option (Res (List Int×Option Nat×List Int))) (N:Nat) (K1:Int→Int→(List Int)→(List Int)→(List Int)→(List Int)→(List Int)→Int→Int→Int→Int→Int→Int→Option (Res (List Int×List Int))):Nat→Int→Int→Int→Int→Int→(List Int)→(List Int)→(List Int)→(List Int)→(List Int)→Int→Int→Int→Int→Int→Int→Option (Res (List Int×List Int))
 | 0,_,_,_,_,_,_,_,_,_,_,_,_,_,_,_,_=>none
 | m2+1,x9,x44,x45,x48,x49,o64_0,o64_1,o192,o257,o258,o320_0,o320_1,o320_2,o384_0,o384_1,o384_2=>
   if x49 < x48 then (if 0 ≤ x49∧x49 < 3 then (if Int.toNat x49 * 1=0 then (if 0 ≤ x49∧x49 < 3 then (if Int.toNat x49 * 1=0 then zM zg zi zp N K1 m2 (w64 (x9+w64 (o384_0 * o320_0))) x44 x45 x48 (w64 (x49+1)) o64_0 o64_1 o192 o257 o258 o320_0 o320_1 o320_2 o384_0 o384_1 o384_2
       else (if Int.toNat x49 * 1=1 then zM zg zi zp N K1 m2 (w64 (x9+w64 (o384_0 * o320_1))) x44 x45 x48 (w64 (x49+1)) o64_0 o64_1 o192 o257 o258 o320_0 o320_1 o320_2 o384_0 o384_1 o384_2
        else (if Int.toNat x49 * 1=2 then zM zg zi zp N K1 m2 (w64 (x9+w64 (o384_0 * o320_2))) x44 x45 x48 (w64 (x49+1)) o64_0 o64_1 o192 o257 o258 o320_0 o320_1 o320_2 o384_0 o384_1 o384_2
         else none)))
      else none)
    else (if Int.toNat x49 * 1=1 then (if 0 ≤ x49∧x49 < 3 then (if Int.toNat x49 * 1=0 then zM zg zi zp N K1 m2 (w64 (x9+w64 (o384_1 * o320_0))) x44 x45 x48 (w64 (x49+1)) o64_0 o64_1 o192 o257 o258 o320_0 o320_1 o320_2 o384_0 o384_1 o384_2
      else (if Int.toNat x49 * 1=1 then zM zg zi zp N K1 m2 (w64 (x9+w64 (o384_1 * o320_1))) x44 x45 x48 (w64 (x49+1)) o64_0 o64_1 o192 o257 o258 o320_0 o320_1 o320_2 o384_0 o384_1 o384_2
       else (if Int.toNat x49 * 1=2 then zM zg zi zp N K1 m2 (w64 (x9+w64 (o384_1 * o320_2))) x44 x45 x48 (w64 (x49+1)) o64_0 o64_1 o192 o257 o258 o320_0 o320_1 o320_2 o384_0 o384_1 o384_2
        else none)))
     else none)
     else (if Int.toNat x49 * 1=2 then (if 0 ≤ x49∧x49 < 3 then (if Int.toNat x49 * 1=0 then zM zg zi zp N K1 m2 (w64 (x9+w64 (o384_2 * o320_0))) x44 x45 x48 (w64 (x49+1)) o64_0 o64_1 o192 o257 o258 o320_0 o320_1 o320_2 o384_0 o384_1 o384_2
       else (if Int.toNat x49 * 1=1 then zM zg zi zp N K1 m2 (w64 (x9+w64 (o384_2 * o320_1))) x44 x45 x48 (w64 (x49+1)) o64_0 o64_1 o192 o257 o258 o320_0 o320_1 o320_2 o384_0 o384_1 o384_2
        else (if Int.toNat x49 * 1=2 then zM zg zi zp N K1 m2 (w64 (x9+w64 (o384_2 * o320_2))) x44 x45 x48 (w64 (x49+1)) o64_0 o64_1 o192 o257 o258 o320_0 o320_1 o320_2 o384_0 o384_1 o384_2
         else none)))
      else none)
      else none)))
    else none)
   else ((idx o64_1 x9).bind fun y0=>
    if v7 8 (List.length (o258++[y0])) then zU zg zi zp K1 N (w64 ((↑(List.length o192):Int) - 1)) x44 x45 o64_0 o64_1 o192 o257 (o258++[y0]) o320_0 o320_1 o320_2 o384_0 o384_1 o384_2
    else none)
def yg (zg:(List Int)→Option (List Int)) (zi:(List Int)→Option (List Int)) (zp:(List Int)→Option (Res (List Int×Option Nat×List Int))) (N:Nat):Nat→Int→Int→(List Int)→(List Int)→(List Int)→(List Int)→(List Int)→Int→Int→Int→Int→Int→Int→Option (Res (List Int×List Int))
 | 0,_,_,_,_,_,_,_,_,_,_,_,_,_=>none
 | m1+1,x44,x45,o64_0,o64_1,o192,o257,o258,o320_0,o320_1,o320_2,o384_0,o384_1,o384_2=>
   if x45 < x44 then zM zg zi zp N (yg zg zi zp N m1) N 0 x44 x45 ((↑(List.length o192):Int)) 0 o64_0 o64_1 o192 o257 o258 o320_0 o320_1 o320_2 o384_0 o384_1 o384_2
   else some (.ok ((o257,o258)))
def yl (zg:(List Int)→Option (List Int)) (zi:(List Int)→Option (List Int)) (zp:(List Int)→Option (Res (List Int×Option Nat×List Int))) (N:Nat):Nat→Int→Int→(List Int)→(List Int)→(List Int)→(List Int)→(List Int)→Int→Int→Int→Int→Int→Int→Option (Res (List Int×List Int))
 | 0,_,_,_,_,_,_,_,_,_,_,_,_,_=>none
 | m0+1,x7,x8,o64_0,o64_1,o192,o257,o258,o320_0,o320_1,o320_2,o384_0,o384_1,o384_2=>
   if 0 ≤ x8 then (if 0 ≤ w64 (w64 ((↑(List.length o64_0):Int) - 1) - x8)∧w64 (w64 ((↑(List.length o64_0):Int) - 1) - x8) < 3 then (if Int.toNat (w64 (w64 ((↑(List.length o64_0):Int) - 1) - x8)) * 1 < 3 then ((idx o64_0 x8).bind fun y0=>
      yl zg zi zp N m0 (w64 (x7 * y0)) (w64 (x8 - 1)) o64_0 o64_1 o192 o257 o258 (if Int.toNat (w64 (w64 ((↑(List.length o64_0):Int) - 1) - x8)) * 1=0 then x7 else o320_0) (if Int.toNat (w64 (w64 ((↑(List.length o64_0):Int) - 1) - x8)) * 1=1 then x7 else o320_1) (if Int.toNat (w64 (w64 ((↑(List.length o64_0):Int) - 1) - x8)) * 1=2 then x7 else o320_2) o384_0 o384_1 o384_2)
    else none)
    else none)
   else yg zg zi zp N N ((↑(List.length o64_1):Int)) 0 o64_0 o64_1 o192 o257 o258 o320_0 o320_1 o320_2 o384_0 o384_1 o384_2
def su (zg:(List Int)→Option (List Int)) (zi:(List Int)→Option (List Int)) (zp:(List Int)→Option (Res (List Int×Option Nat×List Int))) (N:Nat) (za:List Int) (zb:List Int):Option (Res (List Int×List Int)):=
 (zg za).bind fun y0=>
 (zi y0).bind fun y1=>
 (zp y1).bind fun y2=>
 (y2).on (fun y3=>yl zg zi zp N N 1 (w64 ((↑(List.length za):Int) - 1)) za zb y1 y3.fst y3.snd.snd 0 0 0 0 0 0) (fun y3=>some (.pan (y3)))
theorem iZ (E:En) (hy:Hy E [] [] [] yZ none (fun y=>nocap y) zl) (zg:(List Int)→Option (List Int)) (h_slices_Clone___int_int_:yM E zg) (zi:(List Int)→Option (List Int)) (h_slices_Reverse___int_int_:xp E zi) (zp:(List Int)→Option (Res (List Int×Option Nat×List Int))) (h_impl_made:tN E zp) (m1:Nat) (K1:Int→Int→(List Int)→(List Int)→(List Int)→(List Int)→(List Int)→Int→Int→Int→Int→Int→Int→Option (Res (List Int×List Int))) (hK1:∀ (x44:Int) (x45:Int) (o64_0:List Int) (o64_1:List Int) (o192:List Int) (o257:List Int) (o258:List Int) (o320_0:Int) (o320_1:Int) (o320_2:Int) (o384_0:Int) (o384_1:Int) (o384_2:Int),gH E [1,2,3,4,5,6,44,45] b5_impl_flipped [KJ.b 2,KJ.c k6_impl_flipped] m1 ⟨zo [(1,A.adr 64 1 0),(2,A.adr 128 1 0),(3,A.row 192 1),(4,A.adr 256 1 0),(5,A.adr 320 1 0),(6,A.adr 384 1 0),(44,.d (.int .i64 x44)),(45,.d (.int .i64 x45))],zw [(64,⟨1,.box [.d (zf (cI) o64_0),.d (zf (cI) o64_1)],false⟩),(128,⟨1,.box [A.nil,A.nil],false⟩),(192,⟨1,zW (cI) 3 none o192,false⟩),(256,⟨1,.box [A.row 257 1,A.row 258 1],false⟩),(257,⟨1,zW (cI) 3 none o257,false⟩),(258,⟨1,zW (cI) 3 none o258,false⟩),(320,⟨1,.box [.d (.int .i64 o320_0),.d (.int .i64 o320_1),.d (.int .i64 o320_2)],false⟩),(384,⟨1,.box [.d (.int .i64 o384_0),.d (.int .i64 o384_1),.d (.int .i64 o384_2)],false⟩)]⟩=(K1 x44 x45 o64_0 o64_1 o192 o257 o258 o320_0 o320_1 o320_2 o384_0 o384_1 o384_2).bind fun r=>r.on (fun r=>some (.ret (.agg [zj (cI) 3 none false r.1,zj (cI) 3 none false r.2]) [])) (fun x=>some (.pan x []))):∀ (m3:Nat) (x11:Int) (x44:Int) (x45:Int) (o64_0:List Int) (o64_1:List Int) (o192:List Int) (o257:List Int) (o258:List Int) (o320_0:Int) (o320_1:Int) (o320_2:Int) (o384_0:Int) (o384_1:Int) (o384_2:Int),gH E [1,2,3,4,5,6,11,44,45] b2_impl_flipped [KJ.b 6,KJ.b 3,KJ.c k4_impl_flipped,KJ.l [1,2,3,4,5,6,44,45] b5_impl_flipped m1,KJ.b 2,KJ.c k6_impl_flipped] m3 ⟨zo [(1,A.adr 64 1 0),(2,A.adr 128 1 0),(3,A.row 192 1),(4,A.adr 256 1 0),(5,A.adr 320 1 0),(6,A.adr 384 1 0),(11,.d (.int .i64 x11)),(44,.d (.int .i64 x44)),(45,.d (.int .i64 x45))],zw [(64,⟨1,.box [.d (zf (cI) o64_0),.d (zf (cI) o64_1)],false⟩),(128,⟨1,.box [A.nil,A.nil],false⟩),(192,⟨1,zW (cI) 3 none o192,false⟩),(256,⟨1,.box [A.row 257 1,A.row 258 1],false⟩),(257,⟨1,zW (cI) 3 none o257,false⟩),(258,⟨1,zW (cI) 3 none o258,false⟩),(320,⟨1,.box [.d (.int .i64 o320_0),.d (.int .i64 o320_1),.d (.int .i64 o320_2)],false⟩),(384,⟨1,.box [.d (.int .i64 o384_0),.d (.int .i64 o384_1),.d (.int .i64 o384_2)],false⟩)]⟩=(zU zg zi zp K1 m3 x11 x44 x45 o64_0 o64_1 o192 o257 o258 o320_0 o320_1 o320_2 o384_0 o384_1 o384_2).bind fun r=>r.on (fun r=>some (.ret (.agg [zj (cI) 3 none false r.1,zj (cI) 3 none false r.2]) [])) (fun x=>some (.pan x [])):=by
 intro m3
 induction m3 with
 | zero=>intros; rfl
 | succ m3 ih=>
   intros
   simp (config:={maxSteps:=40000000}) only [↓yq,z6,yn,yo,rI,rS,rB,r8,rLI,ym,yp,hy.p,hy.l,hy.k,hy.r,hy.d,hy.w,hy.f,zl,oid,yZ,↓zk _ _ b0_impl_flipped.eq_1,↓zk _ _ b1_impl_flipped.eq_1,↓zk _ _ b2_impl_flipped.eq_1,↓zk _ _ k3_impl_flipped.eq_1,↓zk _ _ k4_impl_flipped.eq_1,↓zk _ _ b5_impl_flipped.eq_1,↓zk _ _ k6_impl_flipped.eq_1,↓zk _ _ k7_impl_flipped.eq_1,↓zk _ _ c_impl_flipped.eq_1,h_slices_Clone___int_int_.2,h_slices_Clone___int_int_.1,h_slices_Reverse___int_int_.2,h_slices_Reverse___int_int_.1,h_impl_made.2,h_impl_made.1,xi,ih,zr,zU,hK1,yc,z9,zF,yr,zQ,zC,zP,yd,zD,zO,zA,yb,zz,zR,zL,zN,zE,z7,ya,yu,↓reduceIte,Nat.reduceMul,Nat.reduceAdd,Nat.reduceSub,Nat.reduceEqDiff,Nat.reduceBEq,Nat.reduceLeDiff,Nat.reduceLT,reduceCtorEq,Int.reduceAdd,Int.reduceSub,Int.reduceToNat,Int.reduceNeg,Int.reduceEq,Int.reduceLT,Int.reduceLE]
theorem g8 (E:En) (hy:Hy E [] [] [] yZ none (fun y=>nocap y) zl) (zg:(List Int)→Option (List Int)) (h_slices_Clone___int_int_:yM E zg) (zi:(List Int)→Option (List Int)) (h_slices_Reverse___int_int_:xp E zi) (zp:(List Int)→Option (Res (List Int×Option Nat×List Int))) (h_impl_made:tN E zp) (m1:Nat) (K1:Int→Int→(List Int)→(List Int)→(List Int)→(List Int)→(List Int)→Int→Int→Int→Int→Int→Int→Option (Res (List Int×List Int))) (hK1:∀ (x44:Int) (x45:Int) (o64_0:List Int) (o64_1:List Int) (o192:List Int) (o257:List Int) (o258:List Int) (o320_0:Int) (o320_1:Int) (o320_2:Int) (o384_0:Int) (o384_1:Int) (o384_2:Int),gH E [1,2,3,4,5,6,44,45] b5_impl_flipped [KJ.b 2,KJ.c k6_impl_flipped] m1 ⟨zo [(1,A.adr 64 1 0),(2,A.adr 128 1 0),(3,A.row 192 1),(4,A.adr 256 1 0),(5,A.adr 320 1 0),(6,A.adr 384 1 0),(44,.d (.int .i64 x44)),(45,.d (.int .i64 x45))],zw [(64,⟨1,.box [.d (zf (cI) o64_0),.d (zf (cI) o64_1)],false⟩),(128,⟨1,.box [A.nil,A.nil],false⟩),(192,⟨1,zW (cI) 3 none o192,false⟩),(256,⟨1,.box [A.row 257 1,A.row 258 1],false⟩),(257,⟨1,zW (cI) 3 none o257,false⟩),(258,⟨1,zW (cI) 3 none o258,false⟩),(320,⟨1,.box [.d (.int .i64 o320_0),.d (.int .i64 o320_1),.d (.int .i64 o320_2)],false⟩),(384,⟨1,.box [.d (.int .i64 o384_0),.d (.int .i64 o384_1),.d (.int .i64 o384_2)],false⟩)]⟩=(K1 x44 x45 o64_0 o64_1 o192 o257 o258 o320_0 o320_1 o320_2 o384_0 o384_1 o384_2).bind fun r=>r.on (fun r=>some (.ret (.agg [zj (cI) 3 none false r.1,zj (cI) 3 none false r.2]) [])) (fun x=>some (.pan x []))):∀ (m2:Nat) (x9:Int) (x44:Int) (x45:Int) (x48:Int) (x49:Int) (o64_0:List Int) (o64_1:List Int) (o192:List Int) (o257:List Int) (o258:List Int) (o320_0:Int) (o320_1:Int) (o320_2:Int) (o384_0:Int) (o384_1:Int) (o384_2:Int),gH E [1,2,3,4,5,6,9,44,45,48,49] b1_impl_flipped [KJ.b 4,KJ.c k3_impl_flipped,KJ.b 3,KJ.c k4_impl_flipped,KJ.l [1,2,3,4,5,6,44,45] b5_impl_flipped m1,KJ.b 2,KJ.c k6_impl_flipped] m2 ⟨zo [(1,A.adr 64 1 0),(2,A.adr 128 1 0),(3,A.row 192 1),(4,A.adr 256 1 0),(5,A.adr 320 1 0),(6,A.adr 384 1 0),(9,.d (.int .i64 x9)),(44,.d (.int .i64 x44)),(45,.d (.int .i64 x45)),(48,.d (.int .i64 x48)),(49,.d (.int .i64 x49))],zw [(64,⟨1,.box [.d (zf (cI) o64_0),.d (zf (cI) o64_1)],false⟩),(128,⟨1,.box [A.nil,A.nil],false⟩),(192,⟨1,zW (cI) 3 none o192,false⟩),(256,⟨1,.box [A.row 257 1,A.row 258 1],false⟩),(257,⟨1,zW (cI) 3 none o257,false⟩),(258,⟨1,zW (cI) 3 none o258,false⟩),(320,⟨1,.box [.d (.int .i64 o320_0),.d (.int .i64 o320_1),.d (.int .i64 o320_2)],false⟩),(384,⟨1,.box [.d (.int .i64 o384_0),.d (.int .i64 o384_1),.d (.int .i64 o384_2)],false⟩)]⟩=(zM zg zi zp E.n K1 m2 x9 x44 x45 x48 x49 o64_0 o64_1 o192 o257 o258 o320_0 o320_1 o320_2 o384_0 o384_1 o384_2).bind fun r=>r.on (fun r=>some (.ret (.agg [zj (cI) 3 none false r.1,zj (cI) 3 none false r.2]) [])) (fun x=>some (.pan x [])):=by
 intro m2
 induction m2 with
 | zero=>intros; rfl
 | succ m2 ih=>
   intros
   simp (config:={maxSteps:=40000000}) only [↓yq,z6,yn,yo,rI,rS,rB,r8,rLI,ym,yp,hy.p,hy.l,hy.k,hy.r,hy.d,hy.w,hy.f,zl,oid,yZ,↓zk _ _ b0_impl_flipped.eq_1,↓zk _ _ b1_impl_flipped.eq_1,↓zk _ _ b2_impl_flipped.eq_1,↓zk _ _ k3_impl_flipped.eq_1,↓zk _ _ k4_impl_flipped.eq_1,↓zk _ _ b5_impl_flipped.eq_1,↓zk _ _ k6_impl_flipped.eq_1,↓zk _ _ k7_impl_flipped.eq_1,↓zk _ _ c_impl_flipped.eq_1,h_slices_Clone___int_int_.2,h_slices_Clone___int_int_.1,h_slices_Reverse___int_int_.2,h_slices_Reverse___int_int_.1,h_impl_made.2,h_impl_made.1,xi,ih,zr,zM,hK1,iZ E hy zg h_slices_Clone___int_int_ zi h_slices_Reverse___int_int_ zp h_impl_made m1 K1 hK1,yc,z9,zF,yr,zQ,zC,zP,yd,zD,zO,zA,yb,zz,zR,zL,zN,zE,z7,ya,yu,↓reduceIte,Nat.reduceMul,Nat.reduceAdd,Nat.reduceSub,Nat.reduceEqDiff,Nat.reduceBEq,Nat.reduceLeDiff,Nat.reduceLT,reduceCtorEq,Int.reduceAdd,Int.reduceSub,Int.reduceToNat,Int.reduceNeg,Int.reduceEq,Int.reduceLT,Int.reduceLE]
theorem gr (E:En) (hy:Hy E [] [] [] yZ none (fun y=>nocap y) zl) (zg:(List Int)→Option (List Int)) (h_slices_Clone___int_int_:yM E zg) (zi:(List Int)→Option (List Int)) (h_slices_Reverse___int_int_:xp E zi) (zp:(List Int)→Option (Res (List Int×Option Nat×List Int))) (h_impl_made:tN E zp):∀ (m1:Nat) (x44:Int) (x45:Int) (o64_0:List Int) (o64_1:List Int) (o192:List Int) (o257:List Int) (o258:List Int) (o320_0:Int) (o320_1:Int) (o320_2:Int) (o384_0:Int) (o384_1:Int) (o384_2:Int),gH E [1,2,3,4,5,6,44,45] b5_impl_flipped [KJ.b 2,KJ.c k6_impl_flipped] m1 ⟨zo [(1,A.adr 64 1 0),(2,A.adr 128 1 0),(3,A.row 192 1),(4,A.adr 256 1 0),(5,A.adr 320 1 0),(6,A.adr 384 1 0),(44,.d (.int .i64 x44)),(45,.d (.int .i64 x45))],zw [(64,⟨1,.box [.d (zf (cI) o64_0),.d (zf (cI) o64_1)],false⟩),(128,⟨1,.box [A.nil,A.nil],false⟩),(192,⟨1,zW (cI) 3 none o192,false⟩),(256,⟨1,.box [A.row 257 1,A.row 258 1],false⟩),(257,⟨1,zW (cI) 3 none o257,false⟩),(258,⟨1,zW (cI) 3 none o258,false⟩),(320,⟨1,.box [.d (.int .i64 o320_0),.d (.int .i64 o320_1),.d (.int .i64 o320_2)],false⟩),(384,⟨1,.box [.d (.int .i64 o384_0),.d (.int .i64 o384_1),.d (.int .i64 o384_2)],false⟩)]⟩=(yg zg zi zp E.n m1 x44 x45 o64_0 o64_1 o192 o257 o258 o320_0 o320_1 o320_2 o384_0 o384_1 o384_2).bind fun r=>r.on (fun r=>some (.ret (.agg [zj (cI) 3 none false r.1,zj (cI) 3 none false r.2]) [])) (fun x=>some (.pan x [])):=by
 intro m1
 induction m1 with
 | zero=>intros; rfl
 | succ m1 ih=>
   intros
   simp (config:={maxSteps:=40000000}) only [↓yq,z6,yn,yo,rI,rS,rB,r8,rLI,ym,yp,hy.p,hy.l,hy.k,hy.r,hy.d,hy.w,hy.f,zl,oid,yZ,↓zk _ _ b0_impl_flipped.eq_1,↓zk _ _ b1_impl_flipped.eq_1,↓zk _ _ b2_impl_flipped.eq_1,↓zk _ _ k3_impl_flipped.eq_1,↓zk _ _ k4_impl_flipped.eq_1,↓zk _ _ b5_impl_flipped.eq_1,↓zk _ _ k6_impl_flipped.eq_1,↓zk _ _ k7_impl_flipped.eq_1,↓zk _ _ c_impl_flipped.eq_1,h_slices_Clone___int_int_.2,h_slices_Clone___int_int_.1,h_slices_Reverse___int_int_.2,h_slices_Reverse___int_int_.1,h_impl_made.2,h_impl_made.1,xi,ih,zr,yg,g8 E hy zg h_slices_Clone___int_int_ zi h_slices_Reverse___int_int_ zp h_impl_made m1 _ ih,yc,z9,zF,yr,zQ,zC,zP,yd,zD,zO,zA,yb,zz,zR,zL,zN,zE,z7,ya,yu,↓reduceIte,Nat.reduceMul,Nat.reduceAdd,Nat.reduceSub,Nat.reduceEqDiff,Nat.reduceBEq,Nat.reduceLeDiff,Nat.reduceLT,reduceCtorEq,Int.reduceAdd,Int.reduceSub,Int.reduceToNat,Int.reduceNeg,Int.reduceEq,Int.reduceLT,Int.reduceLE]
theorem gI (E:En) (hy:Hy E [] [] [] yZ none (fun y=>nocap y) zl) (zg:(List Int)→Option (List Int)) (h_slices_Clone___int_int_:yM E zg) (zi:(List Int)→Option (List Int)) (h_slices_Reverse___int_int_:xp E zi) (zp:(List Int)→Option (Res (List Int×Option Nat×List Int))) (h_impl_made:tN E zp):∀ (m0:Nat) (x7:Int) (x8:Int) (o64_0:List Int) (o64_1:List Int) (o192:List Int) (o257:List Int) (o258:List Int) (o320_0:Int) (o320_1:Int) (o320_2:Int) (o384_0:Int) (o384_1:Int) (o384_2:Int),gH E [1,2,3,4,5,6,7,8] b0_impl_flipped [KJ.b 0,KJ.c k7_impl_flipped] m0 ⟨zo [(1,A.adr 64 1 0),(2,A.adr 128 1 0),(3,A.row 192 1),(4,A.adr 256 1 0),(5,A.adr 320 1 0),(6,A.adr 384 1 0),(7,.d (.int .i64 x7)),(8,.d (.int .i64 x8))],zw [(64,⟨1,.box [.d (zf (cI) o64_0),.d (zf (cI) o64_1)],false⟩),(128,⟨1,.box [A.nil,A.nil],false⟩),(192,⟨1,zW (cI) 3 none o192,false⟩),(256,⟨1,.box [A.row 257 1,A.row 258 1],false⟩),(257,⟨1,zW (cI) 3 none o257,false⟩),(258,⟨1,zW (cI) 3 none o258,false⟩),(320,⟨1,.box [.d (.int .i64 o320_0),.d (.int .i64 o320_1),.d (.int .i64 o320_2)],false⟩),(384,⟨1,.box [.d (.int .i64 o384_0),.d (.int .i64 o384_1),.d (.int .i64 o384_2)],false⟩)]⟩=(yl zg zi zp E.n m0 x7 x8 o64_0 o64_1 o192 o257 o258 o320_0 o320_1 o320_2 o384_0 o384_1 o384_2).bind fun r=>r.on (fun r=>some (.ret (.agg [zj (cI) 3 none false r.1,zj (cI) 3 none false r.2]) [])) (fun x=>some (.pan x [])):=by
 intro m0
 induction m0 with
 | zero=>intros; rfl
 | succ m0 ih=>
   intros
   simp (config:={maxSteps:=40000000}) only [↓yq,z6,yn,yo,rI,rS,rB,r8,rLI,ym,yp,hy.p,hy.l,hy.k,hy.r,hy.d,hy.w,hy.f,zl,oid,yZ,↓zk _ _ b0_impl_flipped.eq_1,↓zk _ _ b1_impl_flipped.eq_1,↓zk _ _ b2_impl_flipped.eq_1,↓zk _ _ k3_impl_flipped.eq_1,↓zk _ _ k4_impl_flipped.eq_1,↓zk _ _ b5_impl_flipped.eq_1,↓zk _ _ k6_impl_flipped.eq_1,↓zk _ _ k7_impl_flipped.eq_1,↓zk _ _ c_impl_flipped.eq_1,h_slices_Clone___int_int_.2,h_slices_Clone___int_int_.1,h_slices_Reverse___int_int_.2,h_slices_Reverse___int_int_.1,h_impl_made.2,h_impl_made.1,xi,ih,zr,yl,gr E hy zg h_slices_Clone___int_int_ zi h_slices_Reverse___int_int_ zp h_impl_made,yc,z9,zF,yr,zQ,zC,zP,yd,zD,zO,zA,yb,zz,zR,zL,zN,zE,z7,ya,yu,↓reduceIte,Nat.reduceMul,Nat.reduceAdd,Nat.reduceSub,Nat.reduceEqDiff,Nat.reduceBEq,Nat.reduceLeDiff,Nat.reduceLT,reduceCtorEq,Int.reduceAdd,Int.reduceSub,Int.reduceToNat,Int.reduceNeg,Int.reduceEq,Int.reduceLT,Int.reduceLE]
theorem b9 (E:En) (hy:Hy E [] [] [] yZ none (fun y=>nocap y) zl) (zg:(List Int)→Option (List Int)) (h_slices_Clone___int_int_:yM E zg) (zi:(List Int)→Option (List Int)) (h_slices_Reverse___int_int_:xp E zi) (zp:(List Int)→Option (Res (List Int×Option Nat×List Int))) (h_impl_made:tN E zp) (za:List Int) (zb:List Int):G E c_impl_flipped [] ⟨zo [(0,.agg [.d (zf cI za),.d (zf cI zb)])],zw []⟩=(su zg zi zp E.n za zb).bind fun r=>r.on (fun r=>some (.ret (.agg [zj (cI) 3 none false r.1,zj (cI) 3 none false r.2]) [])) (fun x=>some (.pan x [])):=by
 simp (config:={maxSteps:=40000000}) only [↓yq,z6,yn,yo,rI,rS,rB,r8,rLI,ym,yp,hy.p,hy.l,hy.k,hy.r,hy.d,hy.w,hy.f,zl,oid,yZ,↓zk _ _ b0_impl_flipped.eq_1,↓zk _ _ b1_impl_flipped.eq_1,↓zk _ _ b2_impl_flipped.eq_1,↓zk _ _ k3_impl_flipped.eq_1,↓zk _ _ k4_impl_flipped.eq_1,↓zk _ _ b5_impl_flipped.eq_1,↓zk _ _ k6_impl_flipped.eq_1,↓zk _ _ k7_impl_flipped.eq_1,↓zk _ _ c_impl_flipped.eq_1,h_slices_Clone___int_int_.2,h_slices_Clone___int_int_.1,h_slices_Reverse___int_int_.2,h_slices_Reverse___int_int_.1,h_impl_made.2,h_impl_made.1,zr,su,gI E hy zg h_slices_Clone___int_int_ zi h_slices_Reverse___int_int_ zp h_impl_made,yc,z9,zF,yr,zQ,zC,zP,yd,zD,zO,zA,yb,zz,zR,zL,zN,zE,z7,ya,yu,↓reduceIte,Nat.reduceMul,Nat.reduceAdd,Nat.reduceSub,Nat.reduceEqDiff,Nat.reduceBEq,Nat.reduceLeDiff,Nat.reduceLT,reduceCtorEq,Int.reduceAdd,Int.reduceSub,Int.reduceToNat,Int.reduceNeg,Int.reduceEq,Int.reduceLT,Int.reduceLE]
def jp (E:En) (L:(List Int)→(List Int)→Option (Res (List Int×List Int))):Prop:=E.Γ.mu 43=false∧(∀ (za:List Int) (zb:List Int),E.Γ 43 [.agg [.d (zf cI za),.d (zf cI zb)]]=(L za zb).bind fun r=>r.on (fun r=>some (.ret (.agg [zj (cI) 3 none false r.1,zj (cI) 3 none false r.2]) [])) (fun x=>some (.pan x [])))
def iz (E:En) (L:(List Int)→(List Int)→Option (Res (List Int×List Int))):Prop:=E.Γ.mu 44=false∧(∀ (za:List Int) (zb:List Int),E.Γ 44 [.agg [.d (zf cI za),.d (zf cI zb)]]=(L za zb).bind fun r=>r.on (fun r=>some (.ret (.agg [zj (cI) 3 none false r.1,zj (cI) 3 none false r.2]) [])) (fun x=>some (.pan x [])))
def c_impl_scalarOf:Cd:=
 sq (r [0,2] [o 2 (.alloc [.nil,.nil]) []])
 (sq (r [2] [o 3 (lit 3 1 0) [],o 4 .mv [t 0],o 5 (lit 3 1 1) [t 4],o 6 (.bld [.nil,.nil] [(0,1),(1,1)]) [t 3,t 5],e (.st 2) [t 2,t 6]])
  (.ret))
def u9:List RV:=[.cell 2 (some 2)]
def pc (N:Nat) (a0:Int):Option (List Int×List Int):=
 some (([],[a0]))
theorem bh (E:En) (hy:Hy E [] [] [] u9 none (fun y=>nocap y) zl) (a0:Int):G E c_impl_scalarOf [] ⟨zo [(0,.d (.int .i64 a0))],zw []⟩=(pc E.n a0).bind fun r=>some (.ret (.agg [zj (cI) 3 none false r.1,zj (cI) 3 none false r.2]) []):=by
 simp (config:={maxSteps:=40000000}) only [↓yq,z6,yn,yo,rI,rS,rB,r8,rLI,ym,yp,hy.p,hy.l,hy.k,hy.r,hy.d,hy.w,hy.f,zl,oid,u9,↓zk _ _ c_impl_scalarOf.eq_1,zr,pc,yc,z9,zF,yr,zQ,zC,zP,yd,zD,zO,zA,yb,zz,zR,zL,zN,zE,z7,ya,yu,↓reduceIte,Nat.reduceMul,Nat.reduceAdd,Nat.reduceSub,Nat.reduceEqDiff,Nat.reduceBEq,Nat.reduceLeDiff,Nat.reduceLT,reduceCtorEq,Int.reduceAdd,Int.reduceSub,Int.reduceToNat,Int.reduceNeg,Int.reduceEq,Int.reduceLT,Int.reduceLE]
def cG (E:En) (L:Int→Option (List Int×List Int)):Prop:=E.Γ.mu 46=false∧(∀ (a0:Int),E.Γ 46 [.d (.int .i64 a0)]=(L a0).bind fun r=>some (.ret (.agg [zj (cI) 3 none false r.1,zj (cI) 3 none false r.2]) []))
def c_impl_Monad_3:Cd:=
 sq (r [1,2] [o 1 .box [t 0],o 2 (.alloc [.nil,.nil]) []])
 (sq (sq (r [1,2,6] [o 3 (.fa 0) [t 1],o 4 (.ld none) [t 3],o 5 (.len false) [t 4],o 6 (.bin .eql) [t 5,i 0]])
   (.cond (t 6) (sq (r [2] [o 7 (.call 46) [i 1],e (.st 2) [t 2,t 7]])
     (.ret)) (.skip)))
  (sq (r [2] [o 8 (.fa 0) [t 1],o 9 (.ld none) [t 8],o 10 (.ia 1) [t 9,i 0],o 11 (.ld none) [t 10],o 12 (.call 46) [t 11],e (.st 2) [t 2,t 12]])
   (.ret)))
def sR:List RV:=[.cell 2 (some 2)]
def ri (tb:Int→Option (List Int×List Int)) (N:Nat) (za:List Int) (zb:List Int):Option (List Int×List Int):=
 if (↑(List.length za):Int)=0 then ((tb 1).bind fun y0=>
  some ((y0.fst,y0.snd)))
 else ((idx za 0).bind fun y1=>
  (tb y1).bind fun y2=>
  some ((y2.fst,y2.snd)))
theorem bm (E:En) (hy:Hy E [] [] [] sR none (fun y=>nocap y) zl) (tb:Int→Option (List Int×List Int)) (h_impl_scalarOf:cG E tb) (za:List Int) (zb:List Int):G E c_impl_Monad_3 [] ⟨zo [(0,.agg [.d (zf cI za),.d (zf cI zb)])],zw []⟩=(ri tb E.n za zb).bind fun r=>some (.ret (.agg [zj (cI) 3 none false r.1,zj (cI) 3 none false r.2]) []):=by
 simp (config:={maxSteps:=40000000}) only [↓yq,z6,yn,yo,rI,rS,rB,r8,rLI,ym,yp,hy.p,hy.l,hy.k,hy.r,hy.d,hy.w,hy.f,zl,oid,sR,↓zk _ _ c_impl_Monad_3.eq_1,h_impl_scalarOf.2,h_impl_scalarOf.1,zr,ri,yc,z9,zF,yr,zQ,zC,zP,yd,zD,zO,zA,yb,zz,zR,zL,zN,zE,z7,ya,yu,↓reduceIte,Nat.reduceMul,Nat.reduceAdd,Nat.reduceSub,Nat.reduceEqDiff,Nat.reduceBEq,Nat.reduceLeDiff,Nat.reduceLT,reduceCtorEq,Int.reduceAdd,Int.reduceSub,Int.reduceToNat,Int.reduceNeg,Int.reduceEq,Int.reduceLT,Int.reduceLE]
def jt (E:En) (L:(List Int)→(List Int)→Option (List Int×List Int)):Prop:=E.Γ.mu 45=false∧(∀ (za:List Int) (zb:List Int),E.Γ 45 [.agg [.d (zf cI za),.d (zf cI zb)]]=(L za zb).bind fun r=>some (.ret (.agg [zj (cI) 3 none false r.1,zj (cI) 3 none false r.2]) []))
def b0_impl_ArrayOk:Cd:=
 sq (r [23,24,25,26] [o 26 (.bin .lss) [t 25,t 24]])
 (sq (.cond (t 26) (.skip) (.exit 0))
  (sq (.block 1 (sq (r [6,23,24,25] [o 27 (.ia 1) [t 23,t 25],o 28 (.ld none) [t 27],o 6 .mv [t 28]])
    (sq (r [23,24,25,34] [o 29 .mv [t 6],o 30 (.bin .lss) [t 29,i (-3000000000)],o 31 .mv [t 30],g 31 false 32 .mv [t 6],g 31 false 33 (.bin .gtr) [t 32,i 3000000000],o 34 .pick [t 31,b true,t 33]])
     (.cond (t 34) (sq (r [2] [o 2 .mv [b false]])
       (.ret)) (.skip)))))
   (r [23,24,25] [o 35 (.bin .add) [t 25,i 1],o 25 .mv [t 35]])))
def k1_impl_ArrayOk:Cd:=
 sq (r [2] [o 2 .mv [b true]])
 (.ret)
def c_impl_ArrayOk:Cd:=
 sq (r [1] [o 1 .box [t 0],o 2 .mv [b false]])
 (sq (r [1,3,4] [o 8 (.fa 0) [t 1],o 9 (.ld none) [t 8],o 10 (.call 93) [t 9],o 7 .mv [t 10],o 11 (.ext 0) [t 7],o 12 (.ext 1) [t 7],o 3 .mv [t 11],o 4 .mv [t 12]])
  (sq (sq (r [1,21] [o 13 .mv [t 4],o 14 .not [t 13],o 15 .mv [t 14],g 15 false 16 .mv [t 3],g 15 false 17 (.fa 1) [t 1],g 15 false 18 (.ld none) [t 17],g 15 false 19 (.len false) [t 18],g 15 false 20 (.bin .neq) [t 16,t 19],o 21 .pick [t 15,b true,t 20]])
    (.cond (t 21) (sq (r [2] [o 2 .mv [b false]])
      (.ret)) (.skip)))
   (sq (sq (r [23,24,25] [o 22 (.fa 1) [t 1],o 23 (.ld none) [t 22],o 24 (.len false) [t 23],o 25 .mv [i 0]])
     (.block 0 (.loop [23,24,25] b0_impl_ArrayOk))) k1_impl_ArrayOk)))
def vE:List RV:=[.tmp 2]
def wQ (yK:(List Int)→Option (Int×Bool)):Nat→(List Int)→Int→Int→Option (Bool)
 | 0,_,_,_=>none
 | m0+1,x23,x24,x25=>
   if x25 < x24 then ((idx x23 x25).bind fun y0=>
    if y0 < -3000000000 then some false
    else (if 3000000000 < y0 then some false
     else wQ yK m0 x23 x24 (w64 (x25+1))))
   else some true
def sn (yK:(List Int)→Option (Int×Bool)) (N:Nat) (za:List Int) (zb:List Int):Option (Bool):=
 (yK za).bind fun y0=>
 if y0.snd=false then some false
 else (if y0.fst=(↑(List.length zb):Int) then wQ yK N zb ((↑(List.length zb):Int)) 0
  else some false)
theorem g9 (E:En) (hy:Hy E [] [] [] vE none (fun y=>nocap y) zl) (yK:(List Int)→Option (Int×Bool)) (h_impl_cellsOf:n5 E yK):∀ (m0:Nat) (x23:List Int) (x24:Int) (x25:Int),gH E [23,24,25] b0_impl_ArrayOk [KJ.b 0,KJ.c k1_impl_ArrayOk] m0 ⟨zo [(23,.d (zf (cI) x23)),(24,.d (.int .i64 x24)),(25,.d (.int .i64 x25))],zw []⟩=(wQ yK m0 x23 x24 x25).bind fun r=>some (.ret (.d (.bool r)) []):=by
 intro m0
 induction m0 with
 | zero=>intros; rfl
 | succ m0 ih=>
   intros
   simp (config:={maxSteps:=40000000}) only [↓yq,z6,yn,yo,rI,rS,rB,r8,rLI,ym,yp,hy.p,hy.l,hy.k,hy.r,hy.d,hy.w,hy.f,zl,oid,vE,↓zk _ _ b0_impl_ArrayOk.eq_1,↓zk _ _ k1_impl_ArrayOk.eq_1,↓zk _ _ c_impl_ArrayOk.eq_1,h_impl_cellsOf.2,h_impl_cellsOf.1,xi,ih,zr,wQ,yc,z9,zF,yr,zQ,zC,zP,yd,zD,zO,zA,yb,zz,zR,zL,zN,zE,z7,ya,yu,↓reduceIte,Nat.reduceMul,Nat.reduceAdd,Nat.reduceSub,Nat.reduceEqDiff,Nat.reduceBEq,Nat.reduceLeDiff,Nat.reduceLT,reduceCtorEq,Int.reduceAdd,Int.reduceSub,Int.reduceToNat,Int.reduceNeg,Int.reduceEq,Int.reduceLT,Int.reduceLE]
theorem bo (E:En) (hy:Hy E [] [] [] vE none (fun y=>nocap y) zl) (yK:(List Int)→Option (Int×Bool)) (h_impl_cellsOf:n5 E yK) (za:List Int) (zb:List Int):G E c_impl_ArrayOk [] ⟨zo [(0,.agg [.d (zf cI za),.d (zf cI zb)])],zw []⟩=(sn yK E.n za zb).bind fun r=>some (.ret (.d (.bool r)) []):=by
 simp (config:={maxSteps:=40000000}) only [↓yq,z6,yn,yo,rI,rS,rB,r8,rLI,ym,yp,hy.p,hy.l,hy.k,hy.r,hy.d,hy.w,hy.f,zl,oid,vE,↓zk _ _ b0_impl_ArrayOk.eq_1,↓zk _ _ k1_impl_ArrayOk.eq_1,↓zk _ _ c_impl_ArrayOk.eq_1,h_impl_cellsOf.2,h_impl_cellsOf.1,zr,sn,g9 E hy yK h_impl_cellsOf,yc,z9,zF,yr,zQ,zC,zP,yd,zD,zO,zA,yb,zz,zR,zL,zN,zE,z7,ya,yu,↓reduceIte,Nat.reduceMul,Nat.reduceAdd,Nat.reduceSub,Nat.reduceEqDiff,Nat.reduceBEq,Nat.reduceLeDiff,Nat.reduceLT,reduceCtorEq,Int.reduceAdd,Int.reduceSub,Int.reduceToNat,Int.reduceNeg,Int.reduceEq,Int.reduceLT,Int.reduceLE]
def jH (E:En) (L:(List Int)→(List Int)→Option (Bool)):Prop:=E.Γ.mu 47=false∧(∀ (za:List Int) (zb:List Int),E.Γ 47 [.agg [.d (zf cI za),.d (zf cI zb)]]=(L za zb).bind fun r=>some (.ret (.d (.bool r)) []))
def c_impl_caught:Cd:=
 sq (r [0,1,4,9] [o 8 .mv [t 4],o 9 (.inil true) [t 8]])
 (.cond (t 9) (sq (r [0,1,4,5,6] [o 11 .mv [t 4],o 12 (.ta 123) [t 11],o 10 .mv [t 12],o 13 (.ext 0) [t 10],o 14 (.ext 1) [t 10],o 5 (.alloc [(.d (iD 0))]) [],e (.st 1) [t 5,t 13],o 6 .mv [t 14]])
   (sq (sq (r [0,1,4,5,16] [o 15 .mv [t 6],o 16 .not [t 15]])
     (.cond (t 16) (r [0,1,5] [o 17 .mv [t 4],e .pan [t 17]]) (.skip)))
    (sq (r [0,1] [o 18 .mv [t 0],o 19 (.fa 0) [t 5],o 20 (.ld none) [t 19],o 21 .nilck [t 18],e (.st 1) [t 21,t 20]])
     (r [0,1] [o 22 .mv [t 1],o 23 (.bld [.nil,.nil] []) [],o 24 .nilck [t 22],e (.st 2) [t 24,t 23]])))) (.skip))
def Lp:List RV:=[]
def oT (N:Nat) (x:Int) (a0:Int) (a1_Shape:List Int) (a1_Data:List Int):Option (Int):=
 some x
theorem ZG (E:En) (hy:Hy E [0,64] [0,64] [(0,.box),(64,.box)] [] none (fun y=>y) zl) (x:Int) (a0:Int) (a1_Shape:List Int) (a1_Data:List Int):G E c_impl_caught [] ⟨zo [(4,.d (.ifaceS 123 [.int .i64 x])),(0,.adr 0 1 0),(1,.adr 64 1 0)],zw [(0,⟨1,.box [.d (.int .i64 a0)],false⟩),(64,⟨1,.box [.d (zf cI a1_Shape),.d (zf cI a1_Data)],false⟩)]⟩=(oT E.n x a0 a1_Shape a1_Data).bind fun r=>some (.ret (.tup []) [[.int .i64 r],[D.nils,D.nils]]):=by
 simp (config:={maxSteps:=40000000}) only [↓yq,z6,yn,yo,rI,rS,rB,r8,rLI,ym,yp,hy.p,hy.l,hy.k,hy.r,hy.d,hy.w,hy.f,zl,oid,↓zk _ _ c_impl_caught.eq_1,zr,oT,yc,z9,zF,yr,zQ,zC,zP,yd,zD,zO,zA,yb,zz,zR,zL,zN,zE,z7,ya,yu,↓reduceIte,Nat.reduceMul,Nat.reduceAdd,Nat.reduceSub,Nat.reduceEqDiff,Nat.reduceBEq,Nat.reduceLeDiff,Nat.reduceLT,reduceCtorEq,Int.reduceAdd,Int.reduceSub,Int.reduceToNat,Int.reduceNeg,Int.reduceEq,Int.reduceLT,Int.reduceLE]
def od (x:D):Option Int:=match x with
 | .ifaceS t [.int .i64 c]=>if t=123 then some c else none
 | _=>none
def c_impl_Monad:Cd:=
 sq (r [0,3,4,5] [o 3 .box [t 1],o 4 (.alloc [.nil,.nil]) [],o 5 (.alloc [(.d (iD 0))]) []])
 (sq (r [0,3,4,5,6] [o 7 (.bld [(.d .nilf),(.d .nilf),(.d .nilf),(.d .nilf),(.d .nilf),(.d .nilf),(.d .nilf),(.d .nilf)] [(1,1),(2,1),(3,1),(4,1),(5,1),(6,1),(7,1)]) [.k (.d (.fn 38)),.k (.d (.fn 39)),.k (.d (.fn 41)),.k (.d (.fn 42)),.k (.d (.fn 43)),.k (.d (.fn 44)),.k (.d (.fn 45))],o 6 (.alloc [(.d .nilf),(.d .nilf),(.d .nilf),(.d .nilf),(.d .nilf),(.d .nilf),(.d .nilf),(.d .nilf)]) [],e (.st 8) [t 6,t 7]])
  (sq (sq (r [0,3,4,5,6,18] [o 8 .mv [t 0],o 9 (.bin .lss) [t 8,i 1],o 10 .mv [t 9],g 10 false 11 .mv [t 0],g 10 false 12 (.bin .gtr) [t 11,i 7],o 13 .pick [t 10,b true,t 12],o 14 .mv [t 13],g 14 false 15 (.ld (some 2)) [t 3],g 14 false 16 (.call 47) [t 15],g 14 false 17 .not [t 16],o 18 .pick [t 14,b true,t 17]])
    (.cond (t 18) (sq (r [4,5] [o 19 (.bld [.nil,.nil] []) [],e (.st 2) [t 4,t 19],e (.st 1) [t 5,i 9]])
      (.ret)) (.skip)))
   (.skip)))
def uA:List RV:=[.cell 4 (some 2),.cell 5 none]
def d_impl_Monad:Cd:=
 sq (rd [] [4,5] [o 20 .mv [t 0],o 21 (.iaa 8 1) [t 6,t 20],o 22 (.ld none) [t 21],o 23 (.ld (some 2)) [t 3],o 24 .dyn [t 22,t 23],e (.st 2) [t 4,t 24],e (.st 1) [t 5,i 0]])
 (.ret)
def rY:List Nat:=[5,4]
def qi:List Nat:=[0,3,4,5,6]
def p8 (xG:(List Int)→(List Int)→Option (Res (List Int×List Int))) (xC:(List Int)→(List Int)→Option (List Int×List Int)) (xF:(List Int)→(List Int)→Option (List Int×List Int)) (xm:(List Int)→(List Int)→Option (Res (List Int×List Int))) (xI:(List Int)→(List Int)→Option (Res (List Int×List Int))) (xW:(List Int)→(List Int)→Option (Res (List Int×List Int))) (xH:(List Int)→(List Int)→Option (List Int×List Int)) (xE:(List Int)→(List Int)→Option (Bool)) (rr:D→Int→(List Int)→(List Int)→Option (Int)) (N:Nat) (x0:Int) (o192_0:List Int) (o192_1:List Int) (o320_0:Int):Option (List Int×List Int×Int):=
 if 0 ≤ x0∧x0 < 8 then (if Int.toNat x0 * 1=0 then none
  else (if Int.toNat x0 * 1=1 then ((xG o192_0 o192_1).bind fun y0=>
   (y0).on (fun y1=>some ((y1.fst,y1.snd,0))) (fun y1=>(rr y1 o320_0 [] []).bind fun y2=>
    some (([],[],y2))))
   else (if Int.toNat x0 * 1=2 then ((xC o192_0 o192_1).bind fun y3=>
    some ((y3.fst,y3.snd,0)))
    else (if Int.toNat x0 * 1=3 then ((xF o192_0 o192_1).bind fun y4=>
     some ((y4.fst,y4.snd,0)))
     else (if Int.toNat x0 * 1=4 then ((xm o192_0 o192_1).bind fun y5=>
      (y5).on (fun y6=>some ((y6.fst,y6.snd,0))) (fun y6=>(rr y6 o320_0 [] []).bind fun y7=>
       some (([],[],y7))))
      else (if Int.toNat x0 * 1=5 then ((xI o192_0 o192_1).bind fun y8=>
       (y8).on (fun y9=>some ((y9.fst,y9.snd,0))) (fun y9=>(rr y9 o320_0 [] []).bind fun y10=>
        some (([],[],y10))))
       else (if Int.toNat x0 * 1=6 then ((xW o192_0 o192_1).bind fun y11=>
        (y11).on (fun y12=>some ((y12.fst,y12.snd,0))) (fun y12=>(rr y12 o320_0 [] []).bind fun y13=>
         some (([],[],y13))))
        else (if Int.toNat x0 * 1=7 then ((xH o192_0 o192_1).bind fun y14=>
         some ((y14.fst,y14.snd,0)))
         else none))))))))
 else none
theorem bZ (E:En) (hy:Hy E [320,256] [] [] uA (some ([320,256],[5,4])) (fun y=>nocap (wK (.node [.node [.own 3 1,.own 3 1],.k]) y)) zl) (xG:(List Int)→(List Int)→Option (Res (List Int×List Int))) (h_impl_counted:jA E xG) (xC:(List Int)→(List Int)→Option (List Int×List Int)) (h_impl_Monad_1:ju E xC) (xF:(List Int)→(List Int)→Option (List Int×List Int)) (h_impl_Monad_2:jD E xF) (xm:(List Int)→(List Int)→Option (Res (List Int×List Int))) (h_impl_reversed:kw E xm) (xI:(List Int)→(List Int)→Option (Res (List Int×List Int))) (h_impl_flipped:jp E xI) (xW:(List Int)→(List Int)→Option (Res (List Int×List Int))) (h_impl_graded:iz E xW) (xH:(List Int)→(List Int)→Option (List Int×List Int)) (h_impl_Monad_3:jt E xH) (xE:(List Int)→(List Int)→Option (Bool)) (h_impl_ArrayOk:jH E xE) (rr:D→Int→(List Int)→(List Int)→Option (Int)) (kK:∀ (x:D) (a0:Int) (a1_Shape:List Int) (a1_Data:List Int),E.fd x [.box [.d (.int .i64 a0)],.box [.d (zf cI a1_Shape),.d (zf cI a1_Data)]]=(rr x a0 a1_Shape a1_Data).bind fun r=>some [[.int .i64 r],[D.nils,D.nils]]) (x0:Int) (o192_0:List Int) (o192_1:List Int) (o320_0:Int):gB E d_impl_Monad ⟨zo [(0,.d (.int .i64 x0)),(3,A.adr 192 1 0),(4,A.adr 256 1 0),(5,A.adr 320 1 0),(6,A.adr 384 1 0)],zw [(192,⟨1,.box [.d (zf (cI) o192_0),.d (zf (cI) o192_1)],false⟩),(256,⟨1,.box [A.nil,A.nil],false⟩),(320,⟨1,.box [.d (.int .i64 o320_0)],false⟩),(384,⟨1,.box [.d (D.nilf),A.d (D.fn 38),A.d (D.fn 39),A.d (D.fn 41),A.d (D.fn 42),A.d (D.fn 43),A.d (D.fn 44),A.d (D.fn 45)],false⟩)]⟩=(p8 xG xC xF xm xI xW xH xE rr E.n x0 o192_0 o192_1 o320_0).bind fun r=>some (.ret (.tup [.agg [zj (cI) 3 none false r.1,zj (cI) 3 none false r.2.1],.d (.int .i64 r.2.2)]) []):=by
 simp (config:={maxSteps:=40000000}) only [↓yq,z6,yn,yo,rI,rS,rB,r8,rLI,ym,yp,hy.p,hy.l,hy.k,hy.r,hy.d,hy.w,hy.f,zl,oid,uA,↓zk _ _ c_impl_Monad.eq_1,rY,qi,h_impl_counted.2,h_impl_counted.1,h_impl_Monad_1.2,h_impl_Monad_1.1,h_impl_Monad_2.2,h_impl_Monad_2.1,h_impl_reversed.2,h_impl_reversed.1,h_impl_flipped.2,h_impl_flipped.1,h_impl_graded.2,h_impl_graded.1,h_impl_Monad_3.2,h_impl_Monad_3.1,h_impl_ArrayOk.2,h_impl_ArrayOk.1,kK,(show ∀ (x:D) (a0:Int) (a1_Data:List Int),E.fd x [.box [.d (.int .i64 a0)],.box [.d (.lst 0 []),.d (zf cI a1_Data)]]=(rr x a0 [] a1_Data).bind fun r=>some [[.int .i64 r],[D.nils,D.nils]] from fun x a0 a1_Data=>kK x a0 [] a1_Data),(show ∀ (x:D) (a0:Int) (a1_Shape:List Int),E.fd x [.box [.d (.int .i64 a0)],.box [.d (zf cI a1_Shape),.d (.lst 0 [])]]=(rr x a0 a1_Shape []).bind fun r=>some [[.int .i64 r],[D.nils,D.nils]] from fun x a0 a1_Shape=>kK x a0 a1_Shape []),(show ∀ (x:D) (a0:Int),E.fd x [.box [.d (.int .i64 a0)],.box [.d (.lst 0 []),.d (.lst 0 [])]]=(rr x a0 [] []).bind fun r=>some [[.int .i64 r],[D.nils,D.nils]] from fun x a0=>kK x a0 [] []),HQ,↓zk _ _ d_impl_Monad.eq_1,zr,p8,yc,z9,zF,yr,zQ,zC,zP,yd,zD,zO,zA,yb,zz,zR,zL,zN,zE,z7,ya,yu,↓reduceIte,Nat.reduceMul,Nat.reduceAdd,Nat.reduceSub,Nat.reduceEqDiff,Nat.reduceBEq,Nat.reduceLeDiff,Nat.reduceLT,reduceCtorEq,Int.reduceAdd,Int.reduceSub,Int.reduceToNat,Int.reduceNeg,Int.reduceEq,Int.reduceLT,Int.reduceLE]
def pj (xG:(List Int)→(List Int)→Option (Res (List Int×List Int))) (xC:(List Int)→(List Int)→Option (List Int×List Int)) (xF:(List Int)→(List Int)→Option (List Int×List Int)) (xm:(List Int)→(List Int)→Option (Res (List Int×List Int))) (xI:(List Int)→(List Int)→Option (Res (List Int×List Int))) (xW:(List Int)→(List Int)→Option (Res (List Int×List Int))) (xH:(List Int)→(List Int)→Option (List Int×List Int)) (xE:(List Int)→(List Int)→Option (Bool)) (rr:D→Int→(List Int)→(List Int)→Option (Int)) (N:Nat) (a0:Int) (a1_Shape:List Int) (a1_Data:List Int):Option (List Int×List Int×Int):=
 if a0 < 1 then some (([],[],9))
 else (if 7 < a0 then some (([],[],9))
  else ((xE a1_Shape a1_Data).bind fun y0=>
   if y0=false then some (([],[],9))
   else p8 xG xC xF xm xI xW xH xE rr N a0 a1_Shape a1_Data 0))
theorem Xu (E:En) (hy:Hy E [] [] [] uA none (fun y=>nocap (wK (.node [.node [.own 3 1,.own 3 1],.k]) y)) zl) (xG:(List Int)→(List Int)→Option (Res (List Int×List Int))) (h_impl_counted:jA E xG) (xC:(List Int)→(List Int)→Option (List Int×List Int)) (h_impl_Monad_1:ju E xC) (xF:(List Int)→(List Int)→Option (List Int×List Int)) (h_impl_Monad_2:jD E xF) (xm:(List Int)→(List Int)→Option (Res (List Int×List Int))) (h_impl_reversed:kw E xm) (xI:(List Int)→(List Int)→Option (Res (List Int×List Int))) (h_impl_flipped:jp E xI) (xW:(List Int)→(List Int)→Option (Res (List Int×List Int))) (h_impl_graded:iz E xW) (xH:(List Int)→(List Int)→Option (List Int×List Int)) (h_impl_Monad_3:jt E xH) (xE:(List Int)→(List Int)→Option (Bool)) (h_impl_ArrayOk:jH E xE) (rr:D→Int→(List Int)→(List Int)→Option (Int)) (kK:∀ (x:D) (a0:Int) (a1_Shape:List Int) (a1_Data:List Int),E.fd x [.box [.d (.int .i64 a0)],.box [.d (zf cI a1_Shape),.d (zf cI a1_Data)]]=(rr x a0 a1_Shape a1_Data).bind fun r=>some [[.int .i64 r],[D.nils,D.nils]]) (a0:Int) (a1_Shape:List Int) (a1_Data:List Int):G E c_impl_Monad [.df rY qi d_impl_Monad] ⟨zo [(0,.d (.int .i64 a0)),(1,.agg [.d (zf cI a1_Shape),.d (zf cI a1_Data)])],zw []⟩=(pj xG xC xF xm xI xW xH xE rr E.n a0 a1_Shape a1_Data).bind fun r=>some (.ret (.tup [.agg [zj (cI) 3 none false r.1,zj (cI) 3 none false r.2.1],.d (.int .i64 r.2.2)]) []):=by
 simp (config:={maxSteps:=40000000}) only [↓yq,z6,yn,yo,rI,rS,rB,r8,rLI,ym,yp,hy.p,hy.l,hy.k,hy.r,hy.d,hy.w,hy.f,zl,oid,uA,↓zk _ _ c_impl_Monad.eq_1,rY,qi,h_impl_counted.2,h_impl_counted.1,h_impl_Monad_1.2,h_impl_Monad_1.1,h_impl_Monad_2.2,h_impl_Monad_2.1,h_impl_reversed.2,h_impl_reversed.1,h_impl_flipped.2,h_impl_flipped.1,h_impl_graded.2,h_impl_graded.1,h_impl_Monad_3.2,h_impl_Monad_3.1,h_impl_ArrayOk.2,h_impl_ArrayOk.1,kK,(show ∀ (x:D) (a0:Int) (a1_Data:List Int),E.fd x [.box [.d (.int .i64 a0)],.box [.d (.lst 0 []),.d (zf cI a1_Data)]]=(rr x a0 [] a1_Data).bind fun r=>some [[.int .i64 r],[D.nils,D.nils]] from fun x a0 a1_Data=>kK x a0 [] a1_Data),(show ∀ (x:D) (a0:Int) (a1_Shape:List Int),E.fd x [.box [.d (.int .i64 a0)],.box [.d (zf cI a1_Shape),.d (.lst 0 [])]]=(rr x a0 a1_Shape []).bind fun r=>some [[.int .i64 r],[D.nils,D.nils]] from fun x a0 a1_Shape=>kK x a0 a1_Shape []),(show ∀ (x:D) (a0:Int),E.fd x [.box [.d (.int .i64 a0)],.box [.d (.lst 0 []),.d (.lst 0 [])]]=(rr x a0 [] []).bind fun r=>some [[.int .i64 r],[D.nils,D.nils]] from fun x a0=>kK x a0 [] []),zr,pj,bZ (E.behind [320,256] [5,4]) ⟨by rw [show (E.behind [320,256] [5,4]).ps=E.ps++[320,256] from rfl,hy.p]; rfl,hy.l,hy.k,hy.r,rfl,hy.w,hy.f⟩ xG h_impl_counted xC h_impl_Monad_1 xF h_impl_Monad_2 xm h_impl_reversed xI h_impl_flipped xW h_impl_graded xH h_impl_Monad_3 xE h_impl_ArrayOk rr kK,Pu,yc,z9,zF,yr,zQ,zC,zP,yd,zD,zO,zA,yb,zz,zR,zL,zN,zE,z7,ya,yu,↓reduceIte,Nat.reduceMul,Nat.reduceAdd,Nat.reduceSub,Nat.reduceEqDiff,Nat.reduceBEq,Nat.reduceLeDiff,Nat.reduceLT,reduceCtorEq,Int.reduceAdd,Int.reduceSub,Int.reduceToNat,Int.reduceNeg,Int.reduceEq,Int.reduceLT,Int.reduceLE]
def Xo (E:En) (L:Int→(List Int)→(List Int)→Option (List Int×List Int×Int)):Prop:=E.Γ.mu 9=false∧(∀ (a0:Int) (a1_Shape:List Int) (a1_Data:List Int),E.Γ 9 [.d (.int .i64 a0),.agg [.d (zf cI a1_Shape),.d (zf cI a1_Data)]]=(L a0 a1_Shape a1_Data).bind fun r=>some (.ret (.tup [.agg [zj (cI) 3 none false r.1,zj (cI) 3 none false r.2.1],.d (.int .i64 r.2.2)]) []))
def b0_laws_eqIntS:Cd:=
 sq (sq (r [0,1,5,14] [o 11 .mv [t 5],o 12 .mv [t 0],o 13 (.len false) [t 12],o 14 (.bin .lss) [t 11,t 13]])
  (.cond (t 14) (.skip) (.exit 0)))
 (sq (.block 1 (sq (rd [] [0,1,5,25] [o 17 .mv [t 0],o 18 .mv [t 5],o 19 (.ia 1) [t 17,t 18],o 20 (.ld none) [t 19],o 21 .mv [t 1],o 22 .mv [t 5],o 23 (.ia 1) [t 21,t 22],o 24 (.ld none) [t 23],o 25 (.bin .neq) [t 20,t 24]])
   (.cond (t 25) (sq (r [4] [o 4 .mv [b false]])
     (.ret)) (.skip))))
  (r [0,1,5] [o 15 .mv [t 5],o 16 (.bin .add) [t 15,i 1],o 5 .mv [t 16]]))
def k1_laws_eqIntS:Cd:=
 sq (r [4] [o 4 .mv [b true]])
 (.ret)
def c_laws_eqIntS:Cd:=
 sq (r [0,1] [o 4 .mv [b false]])
 (sq (sq (r [0,1,10] [o 6 .mv [t 0],o 7 (.len false) [t 6],o 8 .mv [t 1],o 9 (.len false) [t 8],o 10 (.bin .neq) [t 7,t 9]])
   (.cond (t 10) (sq (r [4] [o 4 .mv [b false]])
     (.ret)) (.skip)))
  (sq (sq (r [0,1,5] [o 5 .mv [i 0]])
    (.block 0 (.loop [0,1,5] b0_laws_eqIntS))) k1_laws_eqIntS))
def v6:List RV:=[.tmp 4]
def vA:Nat→(List Int)→(List Int)→Int→Option (Bool)
 | 0,_,_,_=>none
 | m0+1,x0,x1,x5=>
   if x5 < (↑(List.length x0):Int) then ((idx x0 x5).bind fun y0=>
    (idx x1 x5).bind fun y1=>
    if y0=y1 then vA m0 x0 x1 (w64 (x5+1))
    else some false)
   else some true
def qz (N:Nat) (a0:List Int) (a1:List Int):Option (Bool):=
 if (↑(List.length a0):Int)=(↑(List.length a1):Int) then vA N a0 a1 0
 else some false
theorem ep (E:En) (hy:Hy E [] [] [] v6 none (fun y=>nocap y) zl):∀ (m0:Nat) (x0:List Int) (x1:List Int) (x5:Int),gH E [0,1,5] b0_laws_eqIntS [KJ.b 0,KJ.c k1_laws_eqIntS] m0 ⟨zo [(0,.d (zf (cI) x0)),(1,.d (zf (cI) x1)),(5,.d (.int .i64 x5))],zw []⟩=(vA m0 x0 x1 x5).bind fun r=>some (.ret (.d (.bool r)) []):=by
 intro m0
 induction m0 with
 | zero=>intros; rfl
 | succ m0 ih=>
   intros
   simp (config:={maxSteps:=40000000}) only [↓yq,z6,yn,yo,rI,rS,rB,r8,rLI,ym,yp,hy.p,hy.l,hy.k,hy.r,hy.d,hy.w,hy.f,zl,oid,v6,↓zk _ _ b0_laws_eqIntS.eq_1,↓zk _ _ k1_laws_eqIntS.eq_1,↓zk _ _ c_laws_eqIntS.eq_1,xi,ih,zr,vA,yc,z9,zF,yr,zQ,zC,zP,yd,zD,zO,zA,yb,zz,zR,zL,zN,zE,z7,ya,yu,↓reduceIte,Nat.reduceMul,Nat.reduceAdd,Nat.reduceSub,Nat.reduceEqDiff,Nat.reduceBEq,Nat.reduceLeDiff,Nat.reduceLT,reduceCtorEq,Int.reduceAdd,Int.reduceSub,Int.reduceToNat,Int.reduceNeg,Int.reduceEq,Int.reduceLT,Int.reduceLE]
theorem ZI (E:En) (hy:Hy E [] [] [] v6 none (fun y=>nocap y) zl) (a0:List Int) (a1:List Int):G E c_laws_eqIntS [] ⟨zo [(0,.d (zf cI a0)),(1,.d (zf cI a1))],zw []⟩=(qz E.n a0 a1).bind fun r=>some (.ret (.d (.bool r)) []):=by
 simp (config:={maxSteps:=40000000}) only [↓yq,z6,yn,yo,rI,rS,rB,r8,rLI,ym,yp,hy.p,hy.l,hy.k,hy.r,hy.d,hy.w,hy.f,zl,oid,v6,↓zk _ _ b0_laws_eqIntS.eq_1,↓zk _ _ k1_laws_eqIntS.eq_1,↓zk _ _ c_laws_eqIntS.eq_1,zr,qz,ep E hy,yc,z9,zF,yr,zQ,zC,zP,yd,zD,zO,zA,yb,zz,zR,zL,zN,zE,z7,ya,yu,↓reduceIte,Nat.reduceMul,Nat.reduceAdd,Nat.reduceSub,Nat.reduceEqDiff,Nat.reduceBEq,Nat.reduceLeDiff,Nat.reduceLT,reduceCtorEq,Int.reduceAdd,Int.reduceSub,Int.reduceToNat,Int.reduceNeg,Int.reduceEq,Int.reduceLT,Int.reduceLE]
def Zi (E:En) (L:(List Int)→(List Int)→Option (Bool)):Prop:=E.Γ.mu 49=false∧(∀ (a0:List Int) (a1:List Int),E.Γ 49 [.d (zf cI a0),.d (zf cI a1)]=(L a0 a1).bind fun r=>some (.ret (.d (.bool r)) []))
def c_laws_eqArray:Cd:=
 sq (r [2,3] [o 2 .box [t 0],o 3 .box [t 1],o 4 .mv [b false]])
 (sq (sq (r [2,3,10] [o 5 (.fa 0) [t 2],o 6 (.ld none) [t 5],o 7 (.fa 0) [t 3],o 8 (.ld none) [t 7],o 9 (.call 49) [t 6,t 8],o 10 .not [t 9]])
   (.cond (t 10) (sq (r [4] [o 4 .mv [b false]])
     (.ret)) (.skip)))
  (sq (sq (r [16] [o 11 (.fa 1) [t 2],o 12 (.ld none) [t 11],o 13 (.fa 1) [t 3],o 14 (.ld none) [t 13],o 15 (.call 49) [t 12,t 14],o 16 .not [t 15]])
    (.cond (t 16) (sq (r [4] [o 4 .mv [b false]])
      (.ret)) (.skip)))
   (sq (r [4] [o 4 .mv [b true]])
    (.ret))))
def sP:List RV:=[.tmp 4]
def sE (rO:(List Int)→(List Int)→Option (Bool)) (N:Nat) (za:List Int) (zb:List Int) (a1_Shape:List Int) (a1_Data:List Int):Option (Bool):=
 (rO za a1_Shape).bind fun y0=>
 if y0=false then some false
 else ((rO zb a1_Data).bind fun y1=>
  if y1=false then some false
  else some true)
theorem bW (E:En) (hy:Hy E [] [] [] sP none (fun y=>nocap y) zl) (rO:(List Int)→(List Int)→Option (Bool)) (h_laws_eqIntS:Zi E rO) (za:List Int) (zb:List Int) (a1_Shape:List Int) (a1_Data:List Int):G E c_laws_eqArray [] ⟨zo [(0,.agg [.d (zf cI za),.d (zf cI zb)]),(1,.agg [.d (zf cI a1_Shape),.d (zf cI a1_Data)])],zw []⟩=(sE rO E.n za zb a1_Shape a1_Data).bind fun r=>some (.ret (.d (.bool r)) []):=by
 simp (config:={maxSteps:=40000000}) only [↓yq,z6,yn,yo,rI,rS,rB,r8,rLI,ym,yp,hy.p,hy.l,hy.k,hy.r,hy.d,hy.w,hy.f,zl,oid,sP,↓zk _ _ c_laws_eqArray.eq_1,h_laws_eqIntS.2,h_laws_eqIntS.1,zr,sE,yc,z9,zF,yr,zQ,zC,zP,yd,zD,zO,zA,yb,zz,zR,zL,zN,zE,z7,ya,yu,↓reduceIte,Nat.reduceMul,Nat.reduceAdd,Nat.reduceSub,Nat.reduceEqDiff,Nat.reduceBEq,Nat.reduceLeDiff,Nat.reduceLT,reduceCtorEq,Int.reduceAdd,Int.reduceSub,Int.reduceToNat,Int.reduceNeg,Int.reduceEq,Int.reduceLT,Int.reduceLE]
def bF (E:En) (L:(List Int)→(List Int)→(List Int)→(List Int)→Option (Bool)):Prop:=E.Γ.mu 10=false∧(∀ (za:List Int) (zb:List Int) (a1_Shape:List Int) (a1_Data:List Int),E.Γ 10 [.agg [.d (zf cI za),.d (zf cI zb)],.agg [.d (zf cI a1_Shape),.d (zf cI a1_Data)]]=(L za zb a1_Shape a1_Data).bind fun r=>some (.ret (.d (.bool r)) []))
def b0_laws_markIntS:Cd:=
 sq (sq (r [0,1,5,9] [o 6 .mv [t 5],o 7 .mv [t 0],o 8 (.len false) [t 7],o 9 (.bin .lss) [t 6,t 8]])
  (.cond (t 9) (.skip) (.exit 0)))
 (sq (.block 1 (sq (r [0,1,5] [o 12 .mv [t 0],o 13 .mv [t 5],o 14 .mv [t 1],o 15 (.ia 1) [t 12,t 13],e (.st 1) [t 15,t 14]])
   (r [0,1,5] [o 16 .mv [t 1],o 17 (.bin .add) [t 16,i 1],o 1 .mv [t 17]])))
  (r [0,1,5] [o 10 .mv [t 5],o 11 (.bin .add) [t 10,i 1],o 5 .mv [t 11]]))
def k1_laws_markIntS:Cd:=
 sq (r [4] [o 18 .mv [t 1],o 4 .mv [t 18]])
 (.ret)
def c_laws_markIntS:Cd:=
 sq (r [0,1] [o 4 .mv [i 0]])
 (sq (sq (r [0,1,5] [o 5 .mv [i 0]])
   (.block 0 (.loop [0,1,5] b0_laws_markIntS))) k1_laws_markIntS)
def wV:List RV:=[.tmp 4]
def wA:Nat→Int→Int→(List Int)→Option (Int×List Int)
 | 0,_,_,_=>none
 | m0+1,x1,x5,o0=>
   if x5 < (↑(List.length o0):Int) then (if 0 ≤ x5∧x5 < (↑(List.length o0):Int) then ((uM o0 (Int.toNat x5) x1).bind fun y0=>
    wA m0 (w64 (x1+1)) (w64 (x5+1)) y0)
    else none)
   else some ((x1,o0))
def tx (N:Nat) (a0:List Int) (a1:Int):Option (Int×List Int):=
 wA N a1 0 a0
theorem iL (E:En) (hy:Hy E [0] [0] [(0,.row 3 1)] wV none (fun y=>nocap y) zl):∀ (m0:Nat) (x1:Int) (x5:Int) (o0:List Int),gH E [0,1,5] b0_laws_markIntS [KJ.b 0,KJ.c k1_laws_markIntS] m0 ⟨zo [(0,A.row 0 1),(1,.d (.int .i64 x1)),(5,.d (.int .i64 x5))],zw [(0,⟨1,zW (cI) 3 none o0,false⟩)]⟩=(wA m0 x1 x5 o0).bind fun r=>some (.ret (.d (.int .i64 r.1)) [[zf (cI) r.2]]):=by
 intro m0
 induction m0 with
 | zero=>intros; rfl
 | succ m0 ih=>
   intros
   simp (config:={maxSteps:=40000000}) only [↓yq,z6,yn,yo,rI,rS,rB,r8,rLI,ym,yp,hy.p,hy.l,hy.k,hy.r,hy.d,hy.w,hy.f,zl,oid,wV,↓zk _ _ b0_laws_markIntS.eq_1,↓zk _ _ k1_laws_markIntS.eq_1,↓zk _ _ c_laws_markIntS.eq_1,xi,ih,zr,wA,yc,z9,zF,yr,zQ,zC,zP,yd,zD,zO,zA,yb,zz,zR,zL,zN,zE,z7,ya,yu,↓reduceIte,Nat.reduceMul,Nat.reduceAdd,Nat.reduceSub,Nat.reduceEqDiff,Nat.reduceBEq,Nat.reduceLeDiff,Nat.reduceLT,reduceCtorEq,Int.reduceAdd,Int.reduceSub,Int.reduceToNat,Int.reduceNeg,Int.reduceEq,Int.reduceLT,Int.reduceLE]
theorem ba (E:En) (hy:Hy E [0] [0] [(0,.row 3 1)] wV none (fun y=>nocap y) zl) (a0:List Int) (a1:Int):G E c_laws_markIntS [] ⟨zo [(0,.row 0 1),(1,.d (.int .i64 a1))],zw [(0,⟨1,zW cI 3 none a0,false⟩)]⟩=(tx E.n a0 a1).bind fun r=>some (.ret (.d (.int .i64 r.1)) [[zf (cI) r.2]]):=by
 simp (config:={maxSteps:=40000000}) only [↓yq,z6,yn,yo,rI,rS,rB,r8,rLI,ym,yp,hy.p,hy.l,hy.k,hy.r,hy.d,hy.w,hy.f,zl,oid,wV,↓zk _ _ b0_laws_markIntS.eq_1,↓zk _ _ k1_laws_markIntS.eq_1,↓zk _ _ c_laws_markIntS.eq_1,zr,tx,iL E hy,yc,z9,zF,yr,zQ,zC,zP,yd,zD,zO,zA,yb,zz,zR,zL,zN,zE,z7,ya,yu,↓reduceIte,Nat.reduceMul,Nat.reduceAdd,Nat.reduceSub,Nat.reduceEqDiff,Nat.reduceBEq,Nat.reduceLeDiff,Nat.reduceLT,reduceCtorEq,Int.reduceAdd,Int.reduceSub,Int.reduceToNat,Int.reduceNeg,Int.reduceEq,Int.reduceLT,Int.reduceLE]
def dO (E:En) (L:(List Int)→Int→Option (Int×List Int)):Prop:=E.Γ.mu 50=true∧(∀ (a0:List Int) (a1:Int),E.Γ 50 [zj cI 3 none false a0,.d (.int .i64 a1)]=(L a0 a1).bind fun r=>some (.ret (.d (.int .i64 r.1)) [[zf (cI) r.2]]))
def c_laws_markArray:Cd:=
 sq (r [1,2] [o 2 .box [t 0],o 4 .mv [i 0]])
 (sq (r [1,2] [o 5 (.fa 0) [t 2],o 6 (.ld none) [t 5],o 7 .mv [t 1],o 8 (.call 50) [t 6,t 7],o 1 .mv [t 8]])
  (sq (r [1] [o 9 (.fa 1) [t 2],o 10 (.ld none) [t 9],o 11 .mv [t 1],o 12 (.call 50) [t 10,t 11],o 1 .mv [t 12]])
   (sq (r [4] [o 13 .mv [t 1],o 4 .mv [t 13]])
    (.ret))))
def uF:List RV:=[.tmp 4]
def uL (tu:(List Int)→Int→Option (Int×List Int)) (N:Nat) (za:List Int) (zb:List Int) (a1:Int):Option (Int×List Int×List Int):=
 (tu za a1).bind fun y0=>
 (tu zb y0.fst).bind fun y1=>
 some ((y1.fst,y0.snd,y1.snd))
theorem dG (E:En) (hy:Hy E [0,1] [0,1] [(0,.row 3 1),(1,.row 3 1)] uF none (fun y=>nocap y) zl) (tu:(List Int)→Int→Option (Int×List Int)) (h_laws_markIntS:dO E tu) (za:List Int) (zb:List Int) (a1:Int):G E c_laws_markArray [] ⟨zo [(0,.agg [.row 0 1,.row 1 1]),(1,.d (.int .i64 a1))],zw [(0,⟨1,zW cI 3 none za,false⟩),(1,⟨1,zW cI 3 none zb,false⟩)]⟩=(uL tu E.n za zb a1).bind fun r=>some (.ret (.d (.int .i64 r.1)) [[zf (cI) r.2.1],[zf (cI) r.2.2]]):=by
 simp (config:={maxSteps:=40000000}) only [↓yq,z6,yn,yo,rI,rS,rB,r8,rLI,ym,yp,hy.p,hy.l,hy.k,hy.r,hy.d,hy.w,hy.f,zl,oid,uF,↓zk _ _ c_laws_markArray.eq_1,h_laws_markIntS.2,h_laws_markIntS.1,zr,uL,yc,z9,zF,yr,zQ,zC,zP,yd,zD,zO,zA,yb,zz,zR,zL,zN,zE,z7,ya,yu,↓reduceIte,Nat.reduceMul,Nat.reduceAdd,Nat.reduceSub,Nat.reduceEqDiff,Nat.reduceBEq,Nat.reduceLeDiff,Nat.reduceLT,reduceCtorEq,Int.reduceAdd,Int.reduceSub,Int.reduceToNat,Int.reduceNeg,Int.reduceEq,Int.reduceLT,Int.reduceLE]
def dg (E:En) (L:(List Int)→(List Int)→Int→Option (Int×List Int×List Int)):Prop:=E.Γ.mu 11=true∧(∀ (za:List Int) (zb:List Int) (a1:Int),E.Γ 11 [.agg [zj cI 3 none false za,zj cI 3 none false zb],.d (.int .i64 a1)]=(L za zb a1).bind fun r=>some (.ret (.d (.int .i64 r.1)) [[zf (cI) r.2.1],[zf (cI) r.2.2]]))
def b0_laws_heldIntS:Cd:=
 sq (sq (r [0,1,5,9] [o 6 .mv [t 5],o 7 .mv [t 0],o 8 (.len false) [t 7],o 9 (.bin .lss) [t 6,t 8]])
  (.cond (t 9) (.skip) (.exit 0)))
 (sq (.block 1 (sq (sq (r [0,1,5,17] [o 12 .mv [t 0],o 13 .mv [t 5],o 14 (.ia 1) [t 12,t 13],o 15 (.ld none) [t 14],o 16 .mv [t 1],o 17 (.bin .neq) [t 15,t 16]])
     (.cond (t 17) (sq (r [4] [o 4 .mv [i (-1)]])
       (.ret)) (.skip)))
   (r [0,1,5] [o 18 .mv [t 1],o 19 (.bin .add) [t 18,i 1],o 1 .mv [t 19]])))
  (r [0,1,5] [o 10 .mv [t 5],o 11 (.bin .add) [t 10,i 1],o 5 .mv [t 11]]))
def k1_laws_heldIntS:Cd:=
 sq (r [4] [o 20 .mv [t 1],o 4 .mv [t 20]])
 (.ret)
def c_laws_heldIntS:Cd:=
 sq (r [0,1] [o 4 .mv [i 0]])
 (sq (sq (r [0,1,5] [o 5 .mv [i 0]])
   (.block 0 (.loop [0,1,5] b0_laws_heldIntS))) k1_laws_heldIntS)
def wO:List RV:=[.tmp 4]
def wy:Nat→(List Int)→Int→Int→Option (Int)
 | 0,_,_,_=>none
 | m0+1,x0,x1,x5=>
   if x5 < (↑(List.length x0):Int) then ((idx x0 x5).bind fun y0=>
    if y0=x1 then wy m0 x0 (w64 (x1+1)) (w64 (x5+1))
    else some (-1))
   else some x1
def tp (N:Nat) (a0:List Int) (a1:Int):Option (Int):=
 wy N a0 a1 0
theorem iN (E:En) (hy:Hy E [] [] [] wO none (fun y=>nocap y) zl):∀ (m0:Nat) (x0:List Int) (x1:Int) (x5:Int),gH E [0,1,5] b0_laws_heldIntS [KJ.b 0,KJ.c k1_laws_heldIntS] m0 ⟨zo [(0,.d (zf (cI) x0)),(1,.d (.int .i64 x1)),(5,.d (.int .i64 x5))],zw []⟩=(wy m0 x0 x1 x5).bind fun r=>some (.ret (.d (.int .i64 r)) []):=by
 intro m0
 induction m0 with
 | zero=>intros; rfl
 | succ m0 ih=>
   intros
   simp (config:={maxSteps:=40000000}) only [↓yq,z6,yn,yo,rI,rS,rB,r8,rLI,ym,yp,hy.p,hy.l,hy.k,hy.r,hy.d,hy.w,hy.f,zl,oid,wO,↓zk _ _ b0_laws_heldIntS.eq_1,↓zk _ _ k1_laws_heldIntS.eq_1,↓zk _ _ c_laws_heldIntS.eq_1,xi,ih,zr,wy,yc,z9,zF,yr,zQ,zC,zP,yd,zD,zO,zA,yb,zz,zR,zL,zN,zE,z7,ya,yu,↓reduceIte,Nat.reduceMul,Nat.reduceAdd,Nat.reduceSub,Nat.reduceEqDiff,Nat.reduceBEq,Nat.reduceLeDiff,Nat.reduceLT,reduceCtorEq,Int.reduceAdd,Int.reduceSub,Int.reduceToNat,Int.reduceNeg,Int.reduceEq,Int.reduceLT,Int.reduceLE]
theorem bk (E:En) (hy:Hy E [] [] [] wO none (fun y=>nocap y) zl) (a0:List Int) (a1:Int):G E c_laws_heldIntS [] ⟨zo [(0,.d (zf cI a0)),(1,.d (.int .i64 a1))],zw []⟩=(tp E.n a0 a1).bind fun r=>some (.ret (.d (.int .i64 r)) []):=by
 simp (config:={maxSteps:=40000000}) only [↓yq,z6,yn,yo,rI,rS,rB,r8,rLI,ym,yp,hy.p,hy.l,hy.k,hy.r,hy.d,hy.w,hy.f,zl,oid,wO,↓zk _ _ b0_laws_heldIntS.eq_1,↓zk _ _ k1_laws_heldIntS.eq_1,↓zk _ _ c_laws_heldIntS.eq_1,zr,tp,iN E hy,yc,z9,zF,yr,zQ,zC,zP,yd,zD,zO,zA,yb,zz,zR,zL,zN,zE,z7,ya,yu,↓reduceIte,Nat.reduceMul,Nat.reduceAdd,Nat.reduceSub,Nat.reduceEqDiff,Nat.reduceBEq,Nat.reduceLeDiff,Nat.reduceLT,reduceCtorEq,Int.reduceAdd,Int.reduceSub,Int.reduceToNat,Int.reduceNeg,Int.reduceEq,Int.reduceLT,Int.reduceLE]
def dU (E:En) (L:(List Int)→Int→Option (Int)):Prop:=E.Γ.mu 51=false∧(∀ (a0:List Int) (a1:Int),E.Γ 51 [.d (zf cI a0),.d (.int .i64 a1)]=(L a0 a1).bind fun r=>some (.ret (.d (.int .i64 r)) []))
def c_laws_heldArray:Cd:=
 sq (r [1,2] [o 2 .box [t 0],o 4 .mv [i 0]])
 (sq (r [1,2] [o 5 (.fa 0) [t 2],o 6 (.ld none) [t 5],o 7 .mv [t 1],o 8 (.call 51) [t 6,t 7],o 1 .mv [t 8]])
  (sq (sq (r [1,2,10] [o 9 .mv [t 1],o 10 (.bin .lss) [t 9,i 0]])
    (.cond (t 10) (sq (r [4] [o 4 .mv [i (-1)]])
      (.ret)) (.skip)))
   (sq (r [1] [o 11 (.fa 1) [t 2],o 12 (.ld none) [t 11],o 13 .mv [t 1],o 14 (.call 51) [t 12,t 13],o 1 .mv [t 14]])
    (sq (sq (r [1,16] [o 15 .mv [t 1],o 16 (.bin .lss) [t 15,i 0]])
      (.cond (t 16) (sq (r [4] [o 4 .mv [i (-1)]])
        (.ret)) (.skip)))
     (sq (r [4] [o 17 .mv [t 1],o 4 .mv [t 17]])
      (.ret))))))
def uz:List RV:=[.tmp 4]
def uO (tB:(List Int)→Int→Option (Int)) (N:Nat) (za:List Int) (zb:List Int) (a1:Int):Option (Int):=
 (tB za a1).bind fun y0=>
 if y0 < 0 then some (-1)
 else ((tB zb y0).bind fun y1=>
  if y1 < 0 then some (-1)
  else some y1)
theorem eR (E:En) (hy:Hy E [] [] [] uz none (fun y=>nocap y) zl) (tB:(List Int)→Int→Option (Int)) (h_laws_heldIntS:dU E tB) (za:List Int) (zb:List Int) (a1:Int):G E c_laws_heldArray [] ⟨zo [(0,.agg [.d (zf cI za),.d (zf cI zb)]),(1,.d (.int .i64 a1))],zw []⟩=(uO tB E.n za zb a1).bind fun r=>some (.ret (.d (.int .i64 r)) []):=by
 simp (config:={maxSteps:=40000000}) only [↓yq,z6,yn,yo,rI,rS,rB,r8,rLI,ym,yp,hy.p,hy.l,hy.k,hy.r,hy.d,hy.w,hy.f,zl,oid,uz,↓zk _ _ c_laws_heldArray.eq_1,h_laws_heldIntS.2,h_laws_heldIntS.1,zr,uO,yc,z9,zF,yr,zQ,zC,zP,yd,zD,zO,zA,yb,zz,zR,zL,zN,zE,z7,ya,yu,↓reduceIte,Nat.reduceMul,Nat.reduceAdd,Nat.reduceSub,Nat.reduceEqDiff,Nat.reduceBEq,Nat.reduceLeDiff,Nat.reduceLT,reduceCtorEq,Int.reduceAdd,Int.reduceSub,Int.reduceToNat,Int.reduceNeg,Int.reduceEq,Int.reduceLT,Int.reduceLE]
def eU (E:En) (L:(List Int)→(List Int)→Int→Option (Int)):Prop:=E.Γ.mu 12=false∧(∀ (za:List Int) (zb:List Int) (a1:Int),E.Γ 12 [.agg [.d (zf cI za),.d (zf cI zb)],.d (.int .i64 a1)]=(L za zb a1).bind fun r=>some (.ret (.d (.int .i64 r)) []))
def c_laws_FnExactMonad:Cd:=
 sq (r [0,3] [o 3 .box [t 1],o 4 .mv [b false]])
 (sq (r [0,3,5] [o 5 .mv [i 1048576]])
  (sq (r [0,3,5] [o 16 (.ld (some 2)) [t 3],o 17 .mv [t 5],o 18 (.call 6) [t 16,t 17],o 5 .mv [t 18]])
   (sq (sq (r [0,3,20] [o 19 .mv [t 5],o 20 (.bin .lss) [t 19,i 0]])
     (.cond (t 20) (sq (r [4] [o 4 .mv [b true]])
       (.ret)) (.skip)))
    (sq (r [0,3,6,7] [o 22 .mv [t 0],o 23 (.ld (some 2)) [t 3],o 24 (.call 8) [t 23],o 25 (.call 7) [t 22,t 24],o 21 .mv [t 25],o 26 (.ext 0) [t 21],o 27 (.ext 1) [t 21],o 6 (.alloc [.nil,.nil]) [],e (.st 2) [t 6,t 26],o 7 .mv [t 27]])
     (sq (r [0,3,6,7,8] [o 28 (.ld (some 2)) [t 3],o 29 (.call 8) [t 28],o 8 (.alloc [.nil,.nil]) [],e (.st 2) [t 8,t 29]])
      (sq (r [0,3,6,7,8,9,10] [o 31 .mv [t 0],o 32 (.ld (some 2)) [t 8],o 33 (.call 9) [t 31,t 32],o 30 .mv [t 33],o 34 (.ext 0) [t 30],o 35 (.ext 1) [t 30],o 9 (.alloc [.nil,.nil]) [],e (.st 2) [t 9,t 34],o 10 .mv [t 35]])
       (sq (sq (r [0,3,6,7,8,9,10,44] [o 36 (.ld (some 2)) [t 9],o 37 (.ld (some 2)) [t 6],o 38 (.call 10) [t 36,t 37],o 39 .not [t 38],o 40 .mv [t 39],g 40 false 41 .mv [t 10],g 40 false 42 .mv [t 7],g 40 false 43 (.bin .neq) [t 41,t 42],o 44 .pick [t 40,b true,t 43]])
         (.cond (t 44) (sq (r [4] [o 4 .mv [b false]])
           (.ret)) (.skip)))
        (sq (sq (rd [] [0,3,6,7,8,9,10,49] [o 45 (.ld (some 2)) [t 8],o 46 (.ld (some 2)) [t 3],ap [] false [8] (o 47 (.call 8) [t 46]),o 48 (.call 10) [t 45,t 47],o 49 .not [t 48]])
          (.cond (t 49) (sq (r [4] [o 4 .mv [b false]])
            (.ret)) (.skip)))
         (sq (r [0,3,6,7,8,9,10,11] [o 11 .mv [i 1]])
          (sq (r [0,3,6,7,9,10,11] [o 50 (.ld (some 2)) [t 8],o 51 .mv [t 11],o 52 (.call 11) [t 50,t 51],o 11 .mv [t 52]])
           (sq (sq (r [0,3,6,7,9,65] [o 53 .mv [t 11],o 54 (.bin .lss) [t 53,i 0],o 55 .mv [t 54],g 55 false 56 (.ld (some 2)) [t 9],g 55 false 57 (.ld (some 2)) [t 6],g 55 false 58 (.call 10) [t 56,t 57],g 55 false 59 .not [t 58],o 60 .pick [t 55,b true,t 59],o 61 .mv [t 60],g 61 false 62 .mv [t 10],g 61 false 63 .mv [t 7],g 61 false 64 (.bin .neq) [t 62,t 63],o 65 .pick [t 61,b true,t 64]])
             (.cond (t 65) (sq (r [4] [o 4 .mv [b false]])
               (.ret)) (.skip)))
            (sq (r [0,3,6,7,9,12] [o 12 .mv [i 1]])
             (sq (r [0,3,6,7,9,12] [o 66 (.ld (some 2)) [t 9],o 67 .mv [t 12],o 68 (.call 11) [t 66,t 67],o 12 .mv [t 68]])
              (sq (r [0,3,6,7,9,12,13] [o 13 .mv [i 1]])
               (sq (r [0,3,6,7,9,12,13] [o 69 (.ld (some 2)) [t 9],o 70 .mv [t 13],o 71 (.call 12) [t 69,t 70],o 13 .mv [t 71]])
                (sq (sq (r [0,3,6,7,9,12,13,73] [o 72 .mv [t 13],o 73 (.bin .lss) [t 72,i 0]])
                  (.cond (t 73) (sq (r [4] [o 4 .mv [b false]])
                    (.ret)) (.skip)))
                 (sq (sq (r [0,3,6,7,9,12,76] [o 74 .mv [t 13],o 75 .mv [t 12],o 76 (.bin .neq) [t 74,t 75]])
                   (.cond (t 76) (sq (r [4] [o 4 .mv [b false]])
                     (.ret)) (.skip)))
                  (sq (r [6,7,9,12,14,15] [o 78 .mv [t 0],o 79 (.ld (some 2)) [t 3],o 80 (.call 8) [t 79],o 81 (.call 9) [t 78,t 80],o 77 .mv [t 81],o 82 (.ext 0) [t 77],o 83 (.ext 1) [t 77],o 14 (.alloc [.nil,.nil]) [],e (.st 2) [t 14,t 82],o 15 .mv [t 83]])
                   (sq (sq (r [9,12,92] [o 84 (.ld (some 2)) [t 14],o 85 (.ld (some 2)) [t 6],o 86 (.call 10) [t 84,t 85],o 87 .not [t 86],o 88 .mv [t 87],g 88 false 89 .mv [t 15],g 88 false 90 .mv [t 7],g 88 false 91 (.bin .neq) [t 89,t 90],o 92 .pick [t 88,b true,t 91]])
                     (.cond (t 92) (sq (r [4] [o 4 .mv [b false]])
                       (.ret)) (.skip)))
                    (sq (r [9,12,13] [o 13 .mv [i 1]])
                     (sq (r [12,13] [o 93 (.ld (some 2)) [t 9],o 94 .mv [t 13],o 95 (.call 12) [t 93,t 94],o 13 .mv [t 95]])
                      (sq (sq (r [12,13,97] [o 96 .mv [t 13],o 97 (.bin .lss) [t 96,i 0]])
                        (.cond (t 97) (sq (r [4] [o 4 .mv [b false]])
                          (.ret)) (.skip)))
                       (sq (sq (r [100] [o 98 .mv [t 13],o 99 .mv [t 12],o 100 (.bin .neq) [t 98,t 99]])
                         (.cond (t 100) (sq (r [4] [o 4 .mv [b false]])
                           (.ret)) (.skip)))
                        (sq (r [4] [o 4 .mv [b true]])
                         (.ret)))))))))))))))))))))))))
def vq:List RV:=[.tmp 4]
def vo (pU:(List Int)→(List Int)→Int→Option (Int)) (vz:(List Int)→(List Int)→Option (List Int×List Int)) (nI:Int→(List Int)→(List Int)→Option (List Int×List Int×Int)) (pe:Int→(List Int)→(List Int)→Option (List Int×List Int×Int)) (vv:(List Int)→(List Int)→(List Int)→(List Int)→Option (Bool)) (uC:(List Int)→(List Int)→Int→Option (Int×List Int×List Int)) (uK:(List Int)→(List Int)→Int→Option (Int)) (N:Nat) (a0:Int) (a1_Shape:List Int) (a1_Data:List Int):Option (Bool):=
 (pU a1_Shape a1_Data 1048576).bind fun y0=>
 if y0 < 0 then some true
 else ((vz a1_Shape a1_Data).bind fun y1=>
  (nI a0 y1.fst y1.snd).bind fun y2=>
  (vz a1_Shape a1_Data).bind fun y3=>
  (pe a0 y3.fst y3.snd).bind fun y4=>
  (vv y4.fst y4.snd.fst y2.fst y2.snd.fst).bind fun y5=>
  if y5=false then some false
  else (if y4.snd.snd=y2.snd.snd then ((vz a1_Shape a1_Data).bind fun y6=>
   (vv y3.fst y3.snd y6.fst y6.snd).bind fun y7=>
   if y7=false then some false
   else ((uC y3.fst y3.snd 1).bind fun y8=>
    if y8.fst < 0 then some false
    else ((vv y4.fst y4.snd.fst y2.fst y2.snd.fst).bind fun y9=>
     if y9=false then some false
     else (if y4.snd.snd=y2.snd.snd then ((uC y4.fst y4.snd.fst 1).bind fun y10=>
      (uK y10.snd.fst y10.snd.snd 1).bind fun y11=>
      if y11 < 0 then some false
      else (if y11=y10.fst then ((vz a1_Shape a1_Data).bind fun y12=>
       (pe a0 y12.fst y12.snd).bind fun y13=>
       (vv y13.fst y13.snd.fst y2.fst y2.snd.fst).bind fun y14=>
       if y14=false then some false
       else (if y13.snd.snd=y2.snd.snd then ((uK y10.snd.fst y10.snd.snd 1).bind fun y15=>
        if y15 < 0 then some false
        else (if y15=y10.fst then some true
         else some false))
        else some false))
       else some false))
      else some false))))
   else some false))
theorem iO (E:En) (hy:Hy E [] [] [] vq none (fun y=>nocap y) zl) (pU:(List Int)→(List Int)→Int→Option (Int)) (h_laws_szArray:bB E pU) (vz:(List Int)→(List Int)→Option (List Int×List Int)) (h_laws_toArray:bJ E vz) (nI:Int→(List Int)→(List Int)→Option (List Int×List Int×Int)) (h_spec_Monad:Xc E nI) (pe:Int→(List Int)→(List Int)→Option (List Int×List Int×Int)) (h_impl_Monad:Xo E pe) (vv:(List Int)→(List Int)→(List Int)→(List Int)→Option (Bool)) (h_laws_eqArray:bF E vv) (uC:(List Int)→(List Int)→Int→Option (Int×List Int×List Int)) (h_laws_markArray:dg E uC) (uK:(List Int)→(List Int)→Int→Option (Int)) (h_laws_heldArray:eU E uK) (a0:Int) (a1_Shape:List Int) (a1_Data:List Int):G E c_laws_FnExactMonad [] ⟨zo [(0,.d (.int .i64 a0)),(1,.agg [.d (zf cI a1_Shape),.d (zf cI a1_Data)])],zw []⟩=(vo pU vz nI pe vv uC uK E.n a0 a1_Shape a1_Data).bind fun r=>some (.ret (.d (.bool r)) []):=by
 simp (config:={maxSteps:=40000000}) only [↓yq,z6,yn,yo,rI,rS,rB,r8,rLI,ym,yp,hy.p,hy.l,hy.k,hy.r,hy.d,hy.w,hy.f,zl,oid,vq,↓zk _ _ c_laws_FnExactMonad.eq_1,h_laws_szArray.2,h_laws_szArray.1,h_laws_toArray.2,h_laws_toArray.1,h_spec_Monad.2,h_spec_Monad.1,h_impl_Monad.2,h_impl_Monad.1,h_laws_eqArray.2,h_laws_eqArray.1,h_laws_markArray.2,h_laws_markArray.1,h_laws_heldArray.2,h_laws_heldArray.1,zr,vo,yc,z9,zF,yr,zQ,zC,zP,yd,zD,zO,zA,yb,zz,zR,zL,zN,zE,z7,ya,yu,↓reduceIte,Nat.reduceMul,Nat.reduceAdd,Nat.reduceSub,Nat.reduceEqDiff,Nat.reduceBEq,Nat.reduceLeDiff,Nat.reduceLT,reduceCtorEq,Int.reduceAdd,Int.reduceSub,Int.reduceToNat,Int.reduceNeg,Int.reduceEq,Int.reduceLT,Int.reduceLE]
def US (E:En) (L:Int→(List Int)→(List Int)→Option (Bool)):Prop:=E.Γ.mu 3=false∧(∀ (a0:Int) (a1_Shape:List Int) (a1_Data:List Int),E.Γ 3 [.d (.int .i64 a0),.agg [.d (zf cI a1_Shape),.d (zf cI a1_Data)]]=(L a0 a1_Shape a1_Data).bind fun r=>some (.ret (.d (.bool r)) []))
end Go.Vm
