/- The functions under laws_FnExactPlay: the abstract machine's codes, and what they come to in plain terms. Printed by a program of this session. -/
import Derived.Test.YtpjfklhaogdfeaaVmKind
set_option linter.all false
set_option maxRecDepth 100000
set_option maxHeartbeats 4000000
namespace Go.Vm
structure TFile where
 Name:List UInt8
 Data:List UInt8
 deriving DecidableEq
def Xa (x:TFile):List D:=[sD x.Name,sD x.Data]
def dn:List D→Option TFile
 | [.str a0,.str a1]=>some ⟨a0.data.toList,a1.data.toList⟩
 | _=>none
theorem WY:∀ xs x,dn xs=some x→xs=Xa x:=by
 intro xs x h
 unfold dn at h
 split at h
 ·cases h; rfl
 ·cases h
def cFile:Enc TFile:=⟨2,Xa,dn,fun _=>rfl,by decide,WY,fun _=>rfl⟩
theorem V5 (x:TFile):cFile.enc x=[sD x.Name,sD x.Data]:=rfl
theorem Vq (x_Name:List UInt8) (x_Data:List UInt8):cFile.dec [sD x_Name,sD x_Data]=some ⟨x_Name,x_Data⟩:=cFile.edc ⟨x_Name,x_Data⟩
theorem WM (a:D):cFile.dec [a]=none:=by cases a <;> first | rfl | (rename_i k n; cases k <;> rfl)
def yb:=And.intro (WM) <| And.intro (pD cFile 2 rfl) <| And.intro (V5) <| And.intro (Vq) <| And.intro (pV cFile (fun _=>rfl)) <| And.intro ((fun l m=>vr cFile 2 l m 1 (by decide) rfl)) <| And.intro ((fun e cap l m xs z hz=>xu cFile 2 e cap l m 1 xs z hz rfl)) <| And.intro (wv cFile 1 2 rfl) <| (wv cFile 2 4 rfl)
structure TAct where
 Kind:Int
 Name:List UInt8
 To:List UInt8
 Data:List UInt8
 deriving DecidableEq
def Ta (x:TAct):List D:=[.int .i64 x.Kind,sD x.Name,sD x.To,sD x.Data]
def a7:List D→Option TAct
 | [.int .i64 a0,.str a1,.str a2,.str a3]=>some ⟨a0,a1.data.toList,a2.data.toList,a3.data.toList⟩
 | _=>none
theorem Uc:∀ xs x,a7 xs=some x→xs=Ta x:=by
 intro xs x h
 unfold a7 at h
 split at h
 ·cases h; rfl
 ·cases h
def cAct:Enc TAct:=⟨4,Ta,a7,fun _=>rfl,by decide,Uc,fun _=>rfl⟩
theorem RC (x:TAct):cAct.enc x=[.int .i64 x.Kind,sD x.Name,sD x.To,sD x.Data]:=rfl
theorem SD (x_Kind:Int) (x_Name:List UInt8) (x_To:List UInt8) (x_Data:List UInt8):cAct.dec [.int .i64 x_Kind,sD x_Name,sD x_To,sD x_Data]=some ⟨x_Kind,x_Name,x_To,x_Data⟩:=cAct.edc ⟨x_Kind,x_Name,x_To,x_Data⟩
theorem Up (a:D):cAct.dec [a]=none:=by cases a <;> first | rfl | (rename_i k n; cases k <;> rfl)
def yu:=And.intro (Up) <| And.intro (pD cAct 4 rfl) <| And.intro (RC) <| And.intro (SD) <| And.intro (pV cAct (fun _=>rfl)) <| And.intro ((fun l m=>vr cAct 4 l m 1 (by decide) rfl)) <| And.intro ((fun e cap l m xs z hz=>xu cAct 4 e cap l m 1 xs z hz rfl)) <| And.intro ((fun l m=>vr cAct 4 l m 2 (by decide) rfl)) <| And.intro ((fun e cap l m xs z hz=>xu cAct 4 e cap l m 2 xs z hz rfl)) <| And.intro ((fun l m=>vr cAct 4 l m 3 (by decide) rfl)) <| And.intro ((fun e cap l m xs z hz=>xu cAct 4 e cap l m 3 xs z hz rfl)) <| And.intro (wv cAct 1 4 rfl) <| (wv cAct 2 8 rfl)
structure TStep where
 Kind:Int
 Nums:List Int
 Name:List UInt8
 Fn_Kind:Int
 Fn_A:Int
 Fn_B:Int
 Fn_Name:List UInt8
 deriving DecidableEq
def dm (x:TStep):List D:=[.int .i64 x.Kind,zb cI x.Nums,sD x.Name,.int .i64 x.Fn_Kind,.int .i64 x.Fn_A,.int .i64 x.Fn_B,sD x.Fn_Name]
def iy:List D→Option TStep
 | [.int .i64 a0,d1,.str a2,.int .i64 a3,.int .i64 a4,.int .i64 a5,.str a6]=>(mJ cI d1).bind fun a1=>some ⟨a0,a1,a2.data.toList,a3,a4,a5,a6.data.toList⟩
 | _=>none
theorem WL:∀ xs x,iy xs=some x→xs=dm x:=by
 intro xs x h
 unfold iy at h
 split at h
 ·have hh:=Option.bind_eq_some_iff.mp h; clear h; obtain ⟨a1,h1,h⟩:=hh; have e1:=md h1; clear h1; subst e1; cases h; rfl
 ·cases h
def cStep:Enc TStep:=⟨7,dm,iy,fun _=>rfl,by decide,WL,fun x=>by simp only [dm,iy,sD,ov,Option.bind_some] <;> rfl⟩
theorem VX (x:TStep):cStep.enc x=[.int .i64 x.Kind,zb cI x.Nums,sD x.Name,.int .i64 x.Fn_Kind,.int .i64 x.Fn_A,.int .i64 x.Fn_B,sD x.Fn_Name]:=rfl
theorem UO (x_Kind:Int) (x_Nums:List Int) (x_Name:List UInt8) (x_Fn_Kind:Int) (x_Fn_A:Int) (x_Fn_B:Int) (x_Fn_Name:List UInt8):cStep.dec [.int .i64 x_Kind,zb cI x_Nums,sD x_Name,.int .i64 x_Fn_Kind,.int .i64 x_Fn_A,.int .i64 x_Fn_B,sD x_Fn_Name]=some ⟨x_Kind,x_Nums,x_Name,x_Fn_Kind,x_Fn_A,x_Fn_B,x_Fn_Name⟩:=cStep.edc ⟨x_Kind,x_Nums,x_Name,x_Fn_Kind,x_Fn_A,x_Fn_B,x_Fn_Name⟩
theorem XH (a:D):cStep.dec [a]=none:=by cases a <;> first | rfl | (rename_i k n; cases k <;> rfl)
def z7:=And.intro (XH) <| And.intro (pD cStep 7 rfl) <| And.intro (VX) <| And.intro (UO) <| And.intro (iz cStep) <| And.intro ((fun l m=>vr cStep 7 l m 1 (by decide) rfl)) <| And.intro ((fun e cap l m xs z hz=>xu cStep 7 e cap l m 1 xs z hz rfl)) <| And.intro ((fun l m=>vr cStep 7 l m 2 (by decide) rfl)) <| And.intro ((fun e cap l m xs z hz=>xu cStep 7 e cap l m 2 xs z hz rfl)) <| And.intro ((fun l m=>vr cStep 7 l m 3 (by decide) rfl)) <| And.intro ((fun e cap l m xs z hz=>xu cStep 7 e cap l m 3 xs z hz rfl)) <| And.intro ((fun l m=>vr cStep 7 l m 4 (by decide) rfl)) <| And.intro ((fun e cap l m xs z hz=>xu cStep 7 e cap l m 4 xs z hz rfl)) <| And.intro ((fun l m=>vr cStep 7 l m 5 (by decide) rfl)) <| And.intro ((fun e cap l m xs z hz=>xu cStep 7 e cap l m 5 xs z hz rfl)) <| And.intro ((fun l m=>vr cStep 7 l m 6 (by decide) rfl)) <| And.intro ((fun e cap l m xs z hz=>xu cStep 7 e cap l m 6 xs z hz rfl)) <| And.intro (wv cStep 1 7 rfl) <| (wv cStep 2 14 rfl)
structure TGuard where
 Test:List TStep
 Then:List TStep
 deriving DecidableEq
def gO (x:TGuard):List D:=[zb cStep x.Test,zb cStep x.Then]
def ky:List D→Option TGuard
 | [d0,d1]=>(mJ cStep d0).bind fun a0=>(mJ cStep d1).bind fun a1=>some ⟨a0,a1⟩
 | _=>none
theorem Yb:∀ xs x,ky xs=some x→xs=gO x:=by
 intro xs x h
 unfold ky at h
 split at h
 ·have hh:=Option.bind_eq_some_iff.mp h; clear h; obtain ⟨a0,h0,h⟩:=hh; have e0:=md h0; clear h0; subst e0; have hh:=Option.bind_eq_some_iff.mp h; clear h; obtain ⟨a1,h1,h⟩:=hh; have e1:=md h1; clear h1; subst e1; cases h; rfl
 ·cases h
def cGuard:Enc TGuard:=⟨2,gO,ky,fun _=>rfl,by decide,Yb,fun x=>by simp only [gO,ky,ov,Option.bind_some]⟩
theorem XS (x:TGuard):cGuard.enc x=[zb cStep x.Test,zb cStep x.Then]:=rfl
theorem WH (x_Test:List TStep) (x_Then:List TStep):cGuard.dec [zb cStep x_Test,zb cStep x_Then]=some ⟨x_Test,x_Then⟩:=cGuard.edc ⟨x_Test,x_Then⟩
theorem Yf (a:D):cGuard.dec [a]=none:=by cases a <;> first | rfl | (rename_i k n; cases k <;> rfl)
def zM:=And.intro (Yf) <| And.intro (pD cGuard 2 rfl) <| And.intro (XS) <| And.intro (WH) <| And.intro (iz cGuard) <| And.intro ((fun l m=>vr cGuard 2 l m 1 (by decide) rfl)) <| And.intro ((fun e cap l m xs z hz=>xu cGuard 2 e cap l m 1 xs z hz rfl)) <| And.intro (wv cGuard 1 2 rfl) <| (wv cGuard 2 4 rfl)
structure TStmt where
 Kind:Int
 Name:List UInt8
 Code:List TStep
 Guards:List TGuard
 deriving DecidableEq
def dU (x:TStmt):List D:=[.int .i64 x.Kind,sD x.Name,zb cStep x.Code,zb cGuard x.Guards]
def iu:List D→Option TStmt
 | [.int .i64 a0,.str a1,d2,d3]=>(mJ cStep d2).bind fun a2=>(mJ cGuard d3).bind fun a3=>some ⟨a0,a1.data.toList,a2,a3⟩
 | _=>none
theorem XX:∀ xs x,iu xs=some x→xs=dU x:=by
 intro xs x h
 unfold iu at h
 split at h
 ·have hh:=Option.bind_eq_some_iff.mp h; clear h; obtain ⟨a2,h2,h⟩:=hh; have e2:=md h2; clear h2; subst e2; have hh:=Option.bind_eq_some_iff.mp h; clear h; obtain ⟨a3,h3,h⟩:=hh; have e3:=md h3; clear h3; subst e3; cases h; rfl
 ·cases h
def cStmt:Enc TStmt:=⟨4,dU,iu,fun _=>rfl,by decide,XX,fun x=>by simp only [dU,iu,sD,ov,Option.bind_some] <;> rfl⟩
theorem Vl (x:TStmt):cStmt.enc x=[.int .i64 x.Kind,sD x.Name,zb cStep x.Code,zb cGuard x.Guards]:=rfl
theorem Te (x_Kind:Int) (x_Name:List UInt8) (x_Code:List TStep) (x_Guards:List TGuard):cStmt.dec [.int .i64 x_Kind,sD x_Name,zb cStep x_Code,zb cGuard x_Guards]=some ⟨x_Kind,x_Name,x_Code,x_Guards⟩:=cStmt.edc ⟨x_Kind,x_Name,x_Code,x_Guards⟩
theorem Wu (a:D):cStmt.dec [a]=none:=by cases a <;> first | rfl | (rename_i k n; cases k <;> rfl)
def ya:=And.intro (Wu) <| And.intro (pD cStmt 4 rfl) <| And.intro (Vl) <| And.intro (Te) <| And.intro (iz cStmt) <| And.intro ((fun l m=>vr cStmt 4 l m 1 (by decide) rfl)) <| And.intro ((fun e cap l m xs z hz=>xu cStmt 4 e cap l m 1 xs z hz rfl)) <| And.intro ((fun l m=>vr cStmt 4 l m 2 (by decide) rfl)) <| And.intro ((fun e cap l m xs z hz=>xu cStmt 4 e cap l m 2 xs z hz rfl)) <| And.intro ((fun l m=>vr cStmt 4 l m 3 (by decide) rfl)) <| And.intro ((fun e cap l m xs z hz=>xu cStmt 4 e cap l m 3 xs z hz rfl)) <| And.intro (wv cStmt 1 4 rfl) <| (wv cStmt 2 8 rfl)
structure Tl3Tok where
 kind:Int
 text:List UInt8
 v:Int
 at0:Int
 deriving DecidableEq
def az (x:Tl3Tok):List D:=[.int .u8 x.kind,sD x.text,.int .i64 x.v,.int .i64 x.at0]
def fD:List D→Option Tl3Tok
 | [.int .u8 a0,.str a1,.int .i64 a2,.int .i64 a3]=>some ⟨a0,a1.data.toList,a2,a3⟩
 | _=>none
theorem Yd:∀ xs x,fD xs=some x→xs=az x:=by
 intro xs x h
 unfold fD at h
 split at h
 ·cases h; rfl
 ·cases h
def cl3Tok:Enc Tl3Tok:=⟨4,az,fD,fun _=>rfl,by decide,Yd,fun _=>rfl⟩
theorem Xu (x:Tl3Tok):cl3Tok.enc x=[.int .u8 x.kind,sD x.text,.int .i64 x.v,.int .i64 x.at0]:=rfl
theorem WS (x_kind:Int) (x_text:List UInt8) (x_v:Int) (x_at0:Int):cl3Tok.dec [.int .u8 x_kind,sD x_text,.int .i64 x_v,.int .i64 x_at0]=some ⟨x_kind,x_text,x_v,x_at0⟩:=cl3Tok.edc ⟨x_kind,x_text,x_v,x_at0⟩
theorem Z4 (a:D):cl3Tok.dec [a]=none:=by cases a <;> first | rfl | (rename_i k n; cases k <;> rfl)
def zL:=And.intro (Z4) <| And.intro (pD cl3Tok 4 rfl) <| And.intro (Xu) <| And.intro (WS) <| And.intro (pV cl3Tok (fun _=>rfl)) <| And.intro ((fun l m=>vr cl3Tok 4 l m 1 (by decide) rfl)) <| And.intro ((fun e cap l m xs z hz=>xu cl3Tok 4 e cap l m 1 xs z hz rfl)) <| And.intro ((fun l m=>vr cl3Tok 4 l m 2 (by decide) rfl)) <| And.intro ((fun e cap l m xs z hz=>xu cl3Tok 4 e cap l m 2 xs z hz rfl)) <| And.intro ((fun l m=>vr cl3Tok 4 l m 3 (by decide) rfl)) <| And.intro ((fun e cap l m xs z hz=>xu cl3Tok 4 e cap l m 3 xs z hz rfl)) <| And.intro (wv cl3Tok 1 4 rfl) <| (wv cl3Tok 2 8 rfl)
structure Ttoken where
 kind:Int
 text:List UInt8
 value:Int
 at0:Int
 deriving DecidableEq
def aM (x:Ttoken):List D:=[.int .i64 x.kind,sD x.text,.int .i64 x.value,.int .i64 x.at0]
def gQ:List D→Option Ttoken
 | [.int .i64 a0,.str a1,.int .i64 a2,.int .i64 a3]=>some ⟨a0,a1.data.toList,a2,a3⟩
 | _=>none
theorem YL:∀ xs x,gQ xs=some x→xs=aM x:=by
 intro xs x h
 unfold gQ at h
 split at h
 ·cases h; rfl
 ·cases h
def ctoken:Enc Ttoken:=⟨4,aM,gQ,fun _=>rfl,by decide,YL,fun _=>rfl⟩
theorem Vd (x:Ttoken):ctoken.enc x=[.int .i64 x.kind,sD x.text,.int .i64 x.value,.int .i64 x.at0]:=rfl
theorem Va (x_kind:Int) (x_text:List UInt8) (x_value:Int) (x_at0:Int):ctoken.dec [.int .i64 x_kind,sD x_text,.int .i64 x_value,.int .i64 x_at0]=some ⟨x_kind,x_text,x_value,x_at0⟩:=ctoken.edc ⟨x_kind,x_text,x_value,x_at0⟩
theorem Yy (a:D):ctoken.dec [a]=none:=by cases a <;> first | rfl | (rename_i k n; cases k <;> rfl)
def zO:=And.intro (Yy) <| And.intro (pD ctoken 4 rfl) <| And.intro (Vd) <| And.intro (Va) <| And.intro (pV ctoken (fun _=>rfl)) <| And.intro ((fun l m=>vr ctoken 4 l m 1 (by decide) rfl)) <| And.intro ((fun e cap l m xs z hz=>xu ctoken 4 e cap l m 1 xs z hz rfl)) <| And.intro ((fun l m=>vr ctoken 4 l m 2 (by decide) rfl)) <| And.intro ((fun e cap l m xs z hz=>xu ctoken 4 e cap l m 2 xs z hz rfl)) <| And.intro ((fun l m=>vr ctoken 4 l m 3 (by decide) rfl)) <| And.intro ((fun e cap l m xs z hz=>xu ctoken 4 e cap l m 3 xs z hz rfl)) <| And.intro (wv ctoken 1 4 rfl) <| (wv ctoken 2 8 rfl)
def zF:=nC cFile 135 2 rfl [sD [],sD []] ⟨[],[]⟩ rfl
def zQ:=nC cAct 74 4 rfl [iD 0,sD [],sD [],sD []] ⟨0,[],[],[]⟩ rfl
def zE:=nC cFile 136 2 rfl [sD [],sD []] ⟨[],[]⟩ rfl
def zN:=nC cAct 78 4 rfl [iD 0,sD [],sD [],sD []] ⟨0,[],[],[]⟩ rfl
def z6:=nC cI 3 1 rfl [iD 0] 0 rfl
def zG:=nC cStep 192 7 rfl [iD 0,.lst 0 [],sD [],iD 0,iD 0,iD 0,sD []] ⟨0,[],[],0,0,0,[]⟩ rfl
def zH:=nC cGuard 194 2 rfl [.lst 0 [],.lst 0 []] ⟨[],[]⟩ rfl
def zC:=nC cStmt 100 4 rfl [iD 0,sD [],.lst 0 [],.lst 0 []] ⟨0,[],[],[]⟩ rfl
def zP:=nC cl3Tok 94 4 rfl [.int .u8 0,sD [],iD 0,iD 0] ⟨0,[],0,0⟩ rfl
def zD:=nC ctoken 111 4 rfl [iD 0,sD [],iD 0,iD 0] ⟨0,[],0,0⟩ rfl
def zZ:=nC c8 5 1 rfl [.int .u8 0] 0 rfl
def zY:=nC cS 9 1 rfl [sD []] [] rfl
def zi (e:Nat):Bool:=e == 135||e == 74||e == 136||e == 78||e == 3||e == 94||e == 111||e == 5||e == 9
def c_laws_szFile:Cd:=
 sq (r [1,2] [o 2 .box [t 0],o 4 .mv [i 0]])
 (sq (r [1,2] [o 5 .mv [t 1],o 6 (.fa 0) [t 2],o 7 (.ld none) [t 6],o 8 (.len true) [t 7],o 9 (.bin .sub) [t 5,t 8],o 1 .mv [t 9]])
  (sq (sq (r [1,2,11] [o 10 .mv [t 1],o 11 (.bin .lss) [t 10,i 0]])
    (.cond (t 11) (sq (r [4] [o 4 .mv [i (-1)]])
      (.ret)) (.skip)))
   (sq (r [1] [o 12 .mv [t 1],o 13 (.fa 1) [t 2],o 14 (.ld none) [t 13],o 15 (.len true) [t 14],o 16 (.bin .sub) [t 12,t 15],o 1 .mv [t 16]])
    (sq (sq (r [1,18] [o 17 .mv [t 1],o 18 (.bin .lss) [t 17,i 0]])
      (.cond (t 18) (sq (r [4] [o 4 .mv [i (-1)]])
        (.ret)) (.skip)))
     (sq (r [4] [o 19 .mv [t 1],o 4 .mv [t 19]])
      (.ret))))))
def sw:List RV:=[.tmp 4]
def sV (N:Nat) (zf:List UInt8) (zg:List UInt8) (a1:Int):Option (Int):=
 if w64 (a1 - (↑(List.length zf):Int)) < 0 then some (-1)
 else (if w64 (w64 (a1 - (↑(List.length zf):Int)) - (↑(List.length zg):Int)) < 0 then some (-1)
  else some (w64 (w64 (a1 - (↑(List.length zf):Int)) - (↑(List.length zg):Int))))
theorem bG (E:En) (hy:Hy E [] [] [] sw none (fun y=>nocap y) zi) (zf:List UInt8) (zg:List UInt8) (a1:Int):G E c_laws_szFile [] ⟨zk [(0,.agg [.d (sD zf),.d (sD zg)]),(1,.d (.int .i64 a1))],zw []⟩=(sV E.n zf zg a1).bind fun r=>some (.ret (.d (.int .i64 r)) []):=by
 simp (config:={maxSteps:=40000000}) only [↓yw,zX,yv,yy,rI,rS,rB,r8,rLI,yr,yz,hy.p,hy.l,hy.k,hy.r,hy.d,hy.w,hy.f,zi,oid,sw,↓zj _ _ c_laws_szFile.eq_1,zu,sV,yb,zF,yu,zQ,zE,zN,z6,z7,zG,zM,zH,ya,zC,zL,zP,zO,zD,zZ,zY,yq,↓reduceIte,Nat.reduceMul,Nat.reduceAdd,Nat.reduceSub,Nat.reduceEqDiff,Nat.reduceBEq,Nat.reduceLeDiff,Nat.reduceLT,reduceCtorEq,Int.reduceAdd,Int.reduceSub,Int.reduceToNat,Int.reduceNeg,Int.reduceEq,Int.reduceLT,Int.reduceLE]
def jj (E:En) (L:(List UInt8)→(List UInt8)→Int→Option (Int)):Prop:=E.Γ.mu 94=false∧(∀ (zf:List UInt8) (zg:List UInt8) (a1:Int),E.Γ 94 [.agg [.d (sD zf),.d (sD zg)],.d (.int .i64 a1)]=(L zf zg a1).bind fun r=>some (.ret (.d (.int .i64 r)) []))
def b0_laws_szFileS:Cd:=
 sq (sq (r [0,1,5,15] [o 12 .mv [t 5],o 13 .mv [t 0],o 14 (.len false) [t 13],o 15 (.bin .lss) [t 12,t 14]])
  (.cond (t 15) (.skip) (.exit 0)))
 (sq (.block 1 (sq (r [0,1,5] [o 18 .mv [t 0],o 19 .mv [t 5],o 20 (.ia 2) [t 18,t 19],o 21 (.ld (some 2)) [t 20],o 22 .mv [t 1],o 23 (.call 94) [t 21,t 22],o 1 .mv [t 23]])
   (sq (r [0,1,5,25] [o 24 .mv [t 1],o 25 (.bin .lss) [t 24,i 0]])
    (.cond (t 25) (sq (r [4] [o 4 .mv [i (-1)]])
      (.ret)) (.skip)))))
  (r [0,1,5] [o 16 .mv [t 5],o 17 (.bin .add) [t 16,i 1],o 5 .mv [t 17]]))
def k1_laws_szFileS:Cd:=
 sq (r [4] [o 26 .mv [t 1],o 4 .mv [t 26]])
 (.ret)
def c_laws_szFileS:Cd:=
 sq (r [0,1] [o 4 .mv [i 0]])
 (sq (r [0,1] [o 6 .mv [t 1],o 7 .mv [t 0],o 8 (.len false) [t 7],o 9 (.bin .sub) [t 6,t 8],o 1 .mv [t 9]])
  (sq (sq (r [0,1,11] [o 10 .mv [t 1],o 11 (.bin .lss) [t 10,i 0]])
    (.cond (t 11) (sq (r [4] [o 4 .mv [i (-1)]])
      (.ret)) (.skip)))
   (sq (sq (r [0,1,5] [o 5 .mv [i 0]])
     (.block 0 (.loop [0,1,5] b0_laws_szFileS))) k1_laws_szFileS)))
def wW:List RV:=[.tmp 4]
def ww (xj:(List UInt8)→(List UInt8)→Int→Option (Int)):Nat→(List TFile)→Int→Int→Option (Int)
 | 0,_,_,_=>none
 | m0+1,x0,x1,x5=>
   if x5 < (↑(List.length x0):Int) then ((idx x0 x5).bind fun y0=>
    (xj y0.Name y0.Data x1).bind fun y1=>
    if y1 < 0 then some (-1)
    else ww xj m0 x0 y1 (w64 (x5+1)))
   else some x1
def tv (xj:(List UInt8)→(List UInt8)→Int→Option (Int)) (N:Nat) (a0:List TFile) (a1:Int):Option (Int):=
 if w64 (a1 - (↑(List.length a0):Int)) < 0 then some (-1)
 else ww xj N a0 (w64 (a1 - (↑(List.length a0):Int))) 0
theorem jM (E:En) (hy:Hy E [] [] [] wW none (fun y=>nocap y) zi) (xj:(List UInt8)→(List UInt8)→Int→Option (Int)) (h_laws_szFile:jj E xj):∀ (m0:Nat) (x0:List TFile) (x1:Int) (x5:Int),gH E [0,1,5] b0_laws_szFileS [KJ.b 0,KJ.c k1_laws_szFileS] m0 ⟨zk [(0,.d (zb (cFile) x0)),(1,.d (.int .i64 x1)),(5,.d (.int .i64 x5))],zw []⟩=(ww xj m0 x0 x1 x5).bind fun r=>some (.ret (.d (.int .i64 r)) []):=by
 intro m0
 induction m0 with
 | zero=>intros; rfl
 | succ m0 ih=>
   intros
   simp (config:={maxSteps:=40000000}) only [↓yw,zX,yv,yy,rI,rS,rB,r8,rLI,yr,yz,hy.p,hy.l,hy.k,hy.r,hy.d,hy.w,hy.f,zi,oid,wW,↓zj _ _ b0_laws_szFileS.eq_1,↓zj _ _ k1_laws_szFileS.eq_1,↓zj _ _ c_laws_szFileS.eq_1,h_laws_szFile.2,h_laws_szFile.1,xF,ih,zu,ww,yb,zF,yu,zQ,zE,zN,z6,z7,zG,zM,zH,ya,zC,zL,zP,zO,zD,zZ,zY,yq,↓reduceIte,Nat.reduceMul,Nat.reduceAdd,Nat.reduceSub,Nat.reduceEqDiff,Nat.reduceBEq,Nat.reduceLeDiff,Nat.reduceLT,reduceCtorEq,Int.reduceAdd,Int.reduceSub,Int.reduceToNat,Int.reduceNeg,Int.reduceEq,Int.reduceLT,Int.reduceLE]
theorem dy (E:En) (hy:Hy E [] [] [] wW none (fun y=>nocap y) zi) (xj:(List UInt8)→(List UInt8)→Int→Option (Int)) (h_laws_szFile:jj E xj) (a0:List TFile) (a1:Int):G E c_laws_szFileS [] ⟨zk [(0,.d (zb cFile a0)),(1,.d (.int .i64 a1))],zw []⟩=(tv xj E.n a0 a1).bind fun r=>some (.ret (.d (.int .i64 r)) []):=by
 simp (config:={maxSteps:=40000000}) only [↓yw,zX,yv,yy,rI,rS,rB,r8,rLI,yr,yz,hy.p,hy.l,hy.k,hy.r,hy.d,hy.w,hy.f,zi,oid,wW,↓zj _ _ b0_laws_szFileS.eq_1,↓zj _ _ k1_laws_szFileS.eq_1,↓zj _ _ c_laws_szFileS.eq_1,h_laws_szFile.2,h_laws_szFile.1,zu,tv,jM E hy xj h_laws_szFile,yb,zF,yu,zQ,zE,zN,z6,z7,zG,zM,zH,ya,zC,zL,zP,zO,zD,zZ,zY,yq,↓reduceIte,Nat.reduceMul,Nat.reduceAdd,Nat.reduceSub,Nat.reduceEqDiff,Nat.reduceBEq,Nat.reduceLeDiff,Nat.reduceLT,reduceCtorEq,Int.reduceAdd,Int.reduceSub,Int.reduceToNat,Int.reduceNeg,Int.reduceEq,Int.reduceLT,Int.reduceLE]
def dB (E:En) (L:(List TFile)→Int→Option (Int)):Prop:=E.Γ.mu 52=false∧(∀ (a0:List TFile) (a1:Int),E.Γ 52 [.d (zb cFile a0),.d (.int .i64 a1)]=(L a0 a1).bind fun r=>some (.ret (.d (.int .i64 r)) []))
def c_laws_szDisk:Cd:=
 sq (r [1,2] [o 2 .box [t 0],o 4 .mv [i 0]])
 (sq (r [1] [o 5 (.fa 0) [t 2],o 6 (.ld none) [t 5],o 7 .mv [t 1],o 8 (.call 52) [t 6,t 7],o 1 .mv [t 8]])
  (sq (sq (r [1,10] [o 9 .mv [t 1],o 10 (.bin .lss) [t 9,i 0]])
    (.cond (t 10) (sq (r [4] [o 4 .mv [i (-1)]])
      (.ret)) (.skip)))
   (sq (r [4] [o 11 .mv [t 1],o 4 .mv [t 11]])
    (.ret))))
def ry:List RV:=[.tmp 4]
def sJ (qY:(List TFile)→Int→Option (Int)) (N:Nat) (a0_Files:List TFile) (a1:Int):Option (Int):=
 (qY a0_Files a1).bind fun y0=>
 if y0 < 0 then some (-1)
 else some y0
theorem bd (E:En) (hy:Hy E [] [] [] ry none (fun y=>nocap y) zi) (qY:(List TFile)→Int→Option (Int)) (h_laws_szFileS:dB E qY) (a0_Files:List TFile) (a1:Int):G E c_laws_szDisk [] ⟨zk [(0,.agg [.d (zb cFile a0_Files)]),(1,.d (.int .i64 a1))],zw []⟩=(sJ qY E.n a0_Files a1).bind fun r=>some (.ret (.d (.int .i64 r)) []):=by
 simp (config:={maxSteps:=40000000}) only [↓yw,zX,yv,yy,rI,rS,rB,r8,rLI,yr,yz,hy.p,hy.l,hy.k,hy.r,hy.d,hy.w,hy.f,zi,oid,ry,↓zj _ _ c_laws_szDisk.eq_1,h_laws_szFileS.2,h_laws_szFileS.1,zu,sJ,yb,zF,yu,zQ,zE,zN,z6,z7,zG,zM,zH,ya,zC,zL,zP,zO,zD,zZ,zY,yq,↓reduceIte,Nat.reduceMul,Nat.reduceAdd,Nat.reduceSub,Nat.reduceEqDiff,Nat.reduceBEq,Nat.reduceLeDiff,Nat.reduceLT,reduceCtorEq,Int.reduceAdd,Int.reduceSub,Int.reduceToNat,Int.reduceNeg,Int.reduceEq,Int.reduceLT,Int.reduceLE]
def cV (E:En) (L:(List TFile)→Int→Option (Int)):Prop:=E.Γ.mu 13=false∧(∀ (a0_Files:List TFile) (a1:Int),E.Γ 13 [.agg [.d (zb cFile a0_Files)],.d (.int .i64 a1)]=(L a0_Files a1).bind fun r=>some (.ret (.d (.int .i64 r)) []))
def c_laws_szAct:Cd:=
 sq (r [1,2] [o 2 .box [t 0],o 4 .mv [i 0]])
 (sq (r [1,2] [o 5 .mv [t 1],o 6 (.fa 1) [t 2],o 7 (.ld none) [t 6],o 8 (.len true) [t 7],o 9 (.bin .sub) [t 5,t 8],o 1 .mv [t 9]])
  (sq (sq (r [1,2,11] [o 10 .mv [t 1],o 11 (.bin .lss) [t 10,i 0]])
    (.cond (t 11) (sq (r [4] [o 4 .mv [i (-1)]])
      (.ret)) (.skip)))
   (sq (r [1,2] [o 12 .mv [t 1],o 13 (.fa 2) [t 2],o 14 (.ld none) [t 13],o 15 (.len true) [t 14],o 16 (.bin .sub) [t 12,t 15],o 1 .mv [t 16]])
    (sq (sq (r [1,2,18] [o 17 .mv [t 1],o 18 (.bin .lss) [t 17,i 0]])
      (.cond (t 18) (sq (r [4] [o 4 .mv [i (-1)]])
        (.ret)) (.skip)))
     (sq (r [1] [o 19 .mv [t 1],o 20 (.fa 3) [t 2],o 21 (.ld none) [t 20],o 22 (.len true) [t 21],o 23 (.bin .sub) [t 19,t 22],o 1 .mv [t 23]])
      (sq (sq (r [1,25] [o 24 .mv [t 1],o 25 (.bin .lss) [t 24,i 0]])
        (.cond (t 25) (sq (r [4] [o 4 .mv [i (-1)]])
          (.ret)) (.skip)))
       (sq (r [4] [o 26 .mv [t 1],o 4 .mv [t 26]])
        (.ret))))))))
def qk:List RV:=[.tmp 4]
def qd (N:Nat) (zl:Int) (zf:List UInt8) (zx:List UInt8) (zg:List UInt8) (a1:Int):Option (Int):=
 if w64 (a1 - (↑(List.length zf):Int)) < 0 then some (-1)
 else (if w64 (w64 (a1 - (↑(List.length zf):Int)) - (↑(List.length zx):Int)) < 0 then some (-1)
  else (if w64 (w64 (w64 (a1 - (↑(List.length zf):Int)) - (↑(List.length zx):Int)) - (↑(List.length zg):Int)) < 0 then some (-1)
   else some (w64 (w64 (w64 (a1 - (↑(List.length zf):Int)) - (↑(List.length zx):Int)) - (↑(List.length zg):Int)))))
theorem aY (E:En) (hy:Hy E [] [] [] qk none (fun y=>nocap y) zi) (zl:Int) (zf:List UInt8) (zx:List UInt8) (zg:List UInt8) (a1:Int):G E c_laws_szAct [] ⟨zk [(0,.agg [.d (.int .i64 zl),.d (sD zf),.d (sD zx),.d (sD zg)]),(1,.d (.int .i64 a1))],zw []⟩=(qd E.n zl zf zx zg a1).bind fun r=>some (.ret (.d (.int .i64 r)) []):=by
 simp (config:={maxSteps:=40000000}) only [↓yw,zX,yv,yy,rI,rS,rB,r8,rLI,yr,yz,hy.p,hy.l,hy.k,hy.r,hy.d,hy.w,hy.f,zi,oid,qk,↓zj _ _ c_laws_szAct.eq_1,zu,qd,yb,zF,yu,zQ,zE,zN,z6,z7,zG,zM,zH,ya,zC,zL,zP,zO,zD,zZ,zY,yq,↓reduceIte,Nat.reduceMul,Nat.reduceAdd,Nat.reduceSub,Nat.reduceEqDiff,Nat.reduceBEq,Nat.reduceLeDiff,Nat.reduceLT,reduceCtorEq,Int.reduceAdd,Int.reduceSub,Int.reduceToNat,Int.reduceNeg,Int.reduceEq,Int.reduceLT,Int.reduceLE]
def jQ (E:En) (L:Int→(List UInt8)→(List UInt8)→(List UInt8)→Int→Option (Int)):Prop:=E.Γ.mu 53=false∧(∀ (zl:Int) (zf:List UInt8) (zx:List UInt8) (zg:List UInt8) (a1:Int),E.Γ 53 [.agg [.d (.int .i64 zl),.d (sD zf),.d (sD zx),.d (sD zg)],.d (.int .i64 a1)]=(L zl zf zx zg a1).bind fun r=>some (.ret (.d (.int .i64 r)) []))
def b0_laws_szActS:Cd:=
 sq (sq (r [0,1,5,15] [o 12 .mv [t 5],o 13 .mv [t 0],o 14 (.len false) [t 13],o 15 (.bin .lss) [t 12,t 14]])
  (.cond (t 15) (.skip) (.exit 0)))
 (sq (.block 1 (sq (r [0,1,5] [o 18 .mv [t 0],o 19 .mv [t 5],o 20 (.ia 4) [t 18,t 19],o 21 (.ld (some 4)) [t 20],o 22 .mv [t 1],o 23 (.call 53) [t 21,t 22],o 1 .mv [t 23]])
   (sq (r [0,1,5,25] [o 24 .mv [t 1],o 25 (.bin .lss) [t 24,i 0]])
    (.cond (t 25) (sq (r [4] [o 4 .mv [i (-1)]])
      (.ret)) (.skip)))))
  (r [0,1,5] [o 16 .mv [t 5],o 17 (.bin .add) [t 16,i 1],o 5 .mv [t 17]]))
def k1_laws_szActS:Cd:=
 sq (r [4] [o 26 .mv [t 1],o 4 .mv [t 26]])
 (.ret)
def c_laws_szActS:Cd:=
 sq (r [0,1] [o 4 .mv [i 0]])
 (sq (r [0,1] [o 6 .mv [t 1],o 7 .mv [t 0],o 8 (.len false) [t 7],o 9 (.bin .sub) [t 6,t 8],o 1 .mv [t 9]])
  (sq (sq (r [0,1,11] [o 10 .mv [t 1],o 11 (.bin .lss) [t 10,i 0]])
    (.cond (t 11) (sq (r [4] [o 4 .mv [i (-1)]])
      (.ret)) (.skip)))
   (sq (sq (r [0,1,5] [o 5 .mv [i 0]])
     (.block 0 (.loop [0,1,5] b0_laws_szActS))) k1_laws_szActS)))
def vB:List RV:=[.tmp 4]
def wV (xA:Int→(List UInt8)→(List UInt8)→(List UInt8)→Int→Option (Int)):Nat→(List TAct)→Int→Int→Option (Int)
 | 0,_,_,_=>none
 | m0+1,x0,x1,x5=>
   if x5 < (↑(List.length x0):Int) then ((idx x0 x5).bind fun y0=>
    (xA y0.Kind y0.Name y0.To y0.Data x1).bind fun y1=>
    if y1 < 0 then some (-1)
    else wV xA m0 x0 y1 (w64 (x5+1)))
   else some x1
def rl (xA:Int→(List UInt8)→(List UInt8)→(List UInt8)→Int→Option (Int)) (N:Nat) (a0:List TAct) (a1:Int):Option (Int):=
 if w64 (a1 - (↑(List.length a0):Int)) < 0 then some (-1)
 else wV xA N a0 (w64 (a1 - (↑(List.length a0):Int))) 0
theorem iL (E:En) (hy:Hy E [] [] [] vB none (fun y=>nocap y) zi) (xA:Int→(List UInt8)→(List UInt8)→(List UInt8)→Int→Option (Int)) (h_laws_szAct:jQ E xA):∀ (m0:Nat) (x0:List TAct) (x1:Int) (x5:Int),gH E [0,1,5] b0_laws_szActS [KJ.b 0,KJ.c k1_laws_szActS] m0 ⟨zk [(0,.d (zb (cAct) x0)),(1,.d (.int .i64 x1)),(5,.d (.int .i64 x5))],zw []⟩=(wV xA m0 x0 x1 x5).bind fun r=>some (.ret (.d (.int .i64 r)) []):=by
 intro m0
 induction m0 with
 | zero=>intros; rfl
 | succ m0 ih=>
   intros
   simp (config:={maxSteps:=40000000}) only [↓yw,zX,yv,yy,rI,rS,rB,r8,rLI,yr,yz,hy.p,hy.l,hy.k,hy.r,hy.d,hy.w,hy.f,zi,oid,vB,↓zj _ _ b0_laws_szActS.eq_1,↓zj _ _ k1_laws_szActS.eq_1,↓zj _ _ c_laws_szActS.eq_1,h_laws_szAct.2,h_laws_szAct.1,xF,ih,zu,wV,yb,zF,yu,zQ,zE,zN,z6,z7,zG,zM,zH,ya,zC,zL,zP,zO,zD,zZ,zY,yq,↓reduceIte,Nat.reduceMul,Nat.reduceAdd,Nat.reduceSub,Nat.reduceEqDiff,Nat.reduceBEq,Nat.reduceLeDiff,Nat.reduceLT,reduceCtorEq,Int.reduceAdd,Int.reduceSub,Int.reduceToNat,Int.reduceNeg,Int.reduceEq,Int.reduceLT,Int.reduceLE]
theorem bu (E:En) (hy:Hy E [] [] [] vB none (fun y=>nocap y) zi) (xA:Int→(List UInt8)→(List UInt8)→(List UInt8)→Int→Option (Int)) (h_laws_szAct:jQ E xA) (a0:List TAct) (a1:Int):G E c_laws_szActS [] ⟨zk [(0,.d (zb cAct a0)),(1,.d (.int .i64 a1))],zw []⟩=(rl xA E.n a0 a1).bind fun r=>some (.ret (.d (.int .i64 r)) []):=by
 simp (config:={maxSteps:=40000000}) only [↓yw,zX,yv,yy,rI,rS,rB,r8,rLI,yr,yz,hy.p,hy.l,hy.k,hy.r,hy.d,hy.w,hy.f,zi,oid,vB,↓zj _ _ b0_laws_szActS.eq_1,↓zj _ _ k1_laws_szActS.eq_1,↓zj _ _ c_laws_szActS.eq_1,h_laws_szAct.2,h_laws_szAct.1,zu,rl,iL E hy xA h_laws_szAct,yb,zF,yu,zQ,zE,zN,z6,z7,zG,zM,zH,ya,zC,zL,zP,zO,zD,zZ,zY,yq,↓reduceIte,Nat.reduceMul,Nat.reduceAdd,Nat.reduceSub,Nat.reduceEqDiff,Nat.reduceBEq,Nat.reduceLeDiff,Nat.reduceLT,reduceCtorEq,Int.reduceAdd,Int.reduceSub,Int.reduceToNat,Int.reduceNeg,Int.reduceEq,Int.reduceLT,Int.reduceLE]
def ba (E:En) (L:(List TAct)→Int→Option (Int)):Prop:=E.Γ.mu 14=false∧(∀ (a0:List TAct) (a1:Int),E.Γ 14 [.d (zb cAct a0),.d (.int .i64 a1)]=(L a0 a1).bind fun r=>some (.ret (.d (.int .i64 r)) []))
def c_laws_toFile:Cd:=
 sq (r [1,2] [o 1 .box [t 0],o 2 (.alloc [(.d (sD [])),(.d (sD []))]) []])
 (sq (r [1,2,3] [o 3 (.alloc [(.d (sD [])),(.d (sD []))]) []])
  (sq (r [1,2,3] [o 4 (.fa 0) [t 1],o 5 (.ld none) [t 4],o 6 (.fa 0) [t 3],e (.st 1) [t 6,t 5]])
   (sq (r [2,3] [o 7 (.fa 1) [t 1],o 8 (.ld none) [t 7],o 9 (.fa 1) [t 3],e (.st 1) [t 9,t 8]])
    (sq (r [2] [o 10 (.ld (some 2)) [t 3],e (.st 2) [t 2,t 10]])
     (.ret)))))
def rf:List RV:=[.cell 2 (some 2)]
def pF (N:Nat) (zf:List UInt8) (zg:List UInt8):Option (List UInt8×List UInt8):=
 some ((zf,zg))
theorem bw (E:En) (hy:Hy E [] [] [] rf none (fun y=>nocap y) zi) (zf:List UInt8) (zg:List UInt8):G E c_laws_toFile [] ⟨zk [(0,.agg [.d (sD zf),.d (sD zg)])],zw []⟩=(pF E.n zf zg).bind fun r=>some (.ret (.agg [.d (sD r.1),.d (sD r.2)]) []):=by
 simp (config:={maxSteps:=40000000}) only [↓yw,zX,yv,yy,rI,rS,rB,r8,rLI,yr,yz,hy.p,hy.l,hy.k,hy.r,hy.d,hy.w,hy.f,zi,oid,rf,↓zj _ _ c_laws_toFile.eq_1,zu,pF,yb,zF,yu,zQ,zE,zN,z6,z7,zG,zM,zH,ya,zC,zL,zP,zO,zD,zZ,zY,yq,↓reduceIte,Nat.reduceMul,Nat.reduceAdd,Nat.reduceSub,Nat.reduceEqDiff,Nat.reduceBEq,Nat.reduceLeDiff,Nat.reduceLT,reduceCtorEq,Int.reduceAdd,Int.reduceSub,Int.reduceToNat,Int.reduceNeg,Int.reduceEq,Int.reduceLT,Int.reduceLE]
def jf (E:En) (L:(List UInt8)→(List UInt8)→Option (List UInt8×List UInt8)):Prop:=E.Γ.mu 100=false∧(∀ (zf:List UInt8) (zg:List UInt8),E.Γ 100 [.agg [.d (sD zf),.d (sD zg)]]=(L zf zg).bind fun r=>some (.ret (.agg [.d (sD r.1),.d (sD r.2)]) []))
def b0_laws_toFileS:Cd:=
 sq (sq (r [0,3,4,11] [o 8 .mv [t 4],o 9 .mv [t 0],o 10 (.len false) [t 9],o 11 (.bin .lss) [t 8,t 10]])
  (.cond (t 11) (.skip) (.exit 0)))
 (sq (.block 1 (r [0,3,4] [o 14 .mv [t 3],o 15 .mv [t 4],o 16 .mv [t 0],o 17 .mv [t 4],o 18 (.ia 2) [t 16,t 17],o 19 (.ld (some 2)) [t 18],o 20 (.call 100) [t 19],o 21 (.ia 2) [t 14,t 15],e (.st 2) [t 21,t 20]]))
  (r [0,3,4] [o 12 .mv [t 4],o 13 (.bin .add) [t 12,i 1],o 4 .mv [t 13]]))
def k1_laws_toFileS:Cd:=
 sq (r [2] [o 22 .mv [t 3],o 2 .mv [t 22]])
 (.ret)
def c_laws_toFileS:Cd:=
 sq (r [0] [o 2 .mv [n]])
 (sq (r [0,3] [o 5 .mv [t 0],o 6 (.len false) [t 5],o 7 (.mkS 136 2 32 [(sD []),(sD [])]) [t 6,t 6],o 3 .mv [t 7]])
  (sq (sq (r [0,3,4] [o 4 .mv [i 0]])
    (.block 0 (.loop [0,3,4] b0_laws_toFileS))) k1_laws_toFileS))
def wU:List RV:=[.tmp 2]
def wA (xk:(List UInt8)→(List UInt8)→Option (List UInt8×List UInt8)):Nat→(List TFile)→Int→(List TFile)→Option (List TFile)
 | 0,_,_,_=>none
 | m0+1,x0,x4,o192=>
   if x4 < (↑(List.length x0):Int) then ((idx x0 x4).bind fun y0=>
    (xk y0.Name y0.Data).bind fun y1=>
    if 0 ≤ x4∧x4 < (↑(List.length o192):Int) then ((oM o192 (Int.toNat x4) { Name:=y1.fst,Data:=y1.snd }).bind fun y2=>
     wA xk m0 x0 (w64 (x4+1)) y2)
    else none)
   else some o192
def tz (xk:(List UInt8)→(List UInt8)→Option (List UInt8×List UInt8)) (N:Nat) (a0:List TFile):Option (List TFile):=
 if j3 32 (↑(List.length a0):Int) (↑(List.length a0):Int) then wA xk N a0 0 (List.replicate (List.length a0) { Name:=[],Data:=[] })
 else none
theorem jG (E:En) (hy:Hy E [] [] [] wU none (fun y=>nocap y) zi) (xk:(List UInt8)→(List UInt8)→Option (List UInt8×List UInt8)) (h_laws_toFile:jf E xk):∀ (m0:Nat) (x0:List TFile) (x4:Int) (o192:List TFile),gH E [0,3,4] b0_laws_toFileS [KJ.b 0,KJ.c k1_laws_toFileS] m0 ⟨zk [(0,.d (zb (cFile) x0)),(3,A.row 192 1),(4,.d (.int .i64 x4))],zw [(192,⟨1,yl (cFile) 136 none o192,false⟩)]⟩=(wA xk m0 x0 x4 o192).bind fun r=>some (.ret (ye (cFile) 136 none false r) []):=by
 intro m0
 induction m0 with
 | zero=>intros; rfl
 | succ m0 ih=>
   intros
   simp (config:={maxSteps:=40000000}) only [↓yw,zX,yv,yy,rI,rS,rB,r8,rLI,yr,yz,hy.p,hy.l,hy.k,hy.r,hy.d,hy.w,hy.f,zi,oid,wU,↓zj _ _ b0_laws_toFileS.eq_1,↓zj _ _ k1_laws_toFileS.eq_1,↓zj _ _ c_laws_toFileS.eq_1,h_laws_toFile.2,h_laws_toFile.1,xF,ih,zu,wA,yb,zF,yu,zQ,zE,zN,z6,z7,zG,zM,zH,ya,zC,zL,zP,zO,zD,zZ,zY,yq,↓reduceIte,Nat.reduceMul,Nat.reduceAdd,Nat.reduceSub,Nat.reduceEqDiff,Nat.reduceBEq,Nat.reduceLeDiff,Nat.reduceLT,reduceCtorEq,Int.reduceAdd,Int.reduceSub,Int.reduceToNat,Int.reduceNeg,Int.reduceEq,Int.reduceLT,Int.reduceLE]
theorem e9 (E:En) (hy:Hy E [] [] [] wU none (fun y=>nocap y) zi) (xk:(List UInt8)→(List UInt8)→Option (List UInt8×List UInt8)) (h_laws_toFile:jf E xk) (a0:List TFile):G E c_laws_toFileS [] ⟨zk [(0,.d (zb cFile a0))],zw []⟩=(tz xk E.n a0).bind fun r=>some (.ret (ye (cFile) 136 none false r) []):=by
 simp (config:={maxSteps:=40000000}) only [↓yw,zX,yv,yy,rI,rS,rB,r8,rLI,yr,yz,hy.p,hy.l,hy.k,hy.r,hy.d,hy.w,hy.f,zi,oid,wU,↓zj _ _ b0_laws_toFileS.eq_1,↓zj _ _ k1_laws_toFileS.eq_1,↓zj _ _ c_laws_toFileS.eq_1,h_laws_toFile.2,h_laws_toFile.1,zu,tz,jG E hy xk h_laws_toFile,yb,zF,yu,zQ,zE,zN,z6,z7,zG,zM,zH,ya,zC,zL,zP,zO,zD,zZ,zY,yq,↓reduceIte,Nat.reduceMul,Nat.reduceAdd,Nat.reduceSub,Nat.reduceEqDiff,Nat.reduceBEq,Nat.reduceLeDiff,Nat.reduceLT,reduceCtorEq,Int.reduceAdd,Int.reduceSub,Int.reduceToNat,Int.reduceNeg,Int.reduceEq,Int.reduceLT,Int.reduceLE]
def eZ (E:En) (L:(List TFile)→Option (List TFile)):Prop:=E.Γ.mu 57=false∧(∀ (a0:List TFile),E.Γ 57 [.d (zb cFile a0)]=(L a0).bind fun r=>some (.ret (ye (cFile) 136 none false r) []))
def c_laws_toDisk:Cd:=
 sq (r [1,2] [o 1 .box [t 0],o 2 (.alloc [.nil]) []])
 (sq (r [1,2,3] [o 3 (.alloc [.nil]) []])
  (sq (r [2,3] [o 4 (.fa 0) [t 1],o 5 (.ld none) [t 4],o 6 (.call 57) [t 5],o 7 (.fa 0) [t 3],e (.st 1) [t 7,t 6]])
   (sq (r [2] [o 8 (.ld (some 1)) [t 3],e (.st 1) [t 2,t 8]])
    (.ret))))
def sS:List RV:=[.cell 2 (some 1)]
def sy (qR:(List TFile)→Option (List TFile)) (N:Nat) (a0_Files:List TFile):Option (List TFile):=
 (qR a0_Files).bind fun y0=>
 some y0
theorem cX (E:En) (hy:Hy E [] [] [] sS none (fun y=>nocap y) zi) (qR:(List TFile)→Option (List TFile)) (h_laws_toFileS:eZ E qR) (a0_Files:List TFile):G E c_laws_toDisk [] ⟨zk [(0,.agg [.d (zb cFile a0_Files)])],zw []⟩=(sy qR E.n a0_Files).bind fun r=>some (.ret (.agg [ye (cFile) 136 none false r]) []):=by
 simp (config:={maxSteps:=40000000}) only [↓yw,zX,yv,yy,rI,rS,rB,r8,rLI,yr,yz,hy.p,hy.l,hy.k,hy.r,hy.d,hy.w,hy.f,zi,oid,sS,↓zj _ _ c_laws_toDisk.eq_1,h_laws_toFileS.2,h_laws_toFileS.1,zu,sy,yb,zF,yu,zQ,zE,zN,z6,z7,zG,zM,zH,ya,zC,zL,zP,zO,zD,zZ,zY,yq,↓reduceIte,Nat.reduceMul,Nat.reduceAdd,Nat.reduceSub,Nat.reduceEqDiff,Nat.reduceBEq,Nat.reduceLeDiff,Nat.reduceLT,reduceCtorEq,Int.reduceAdd,Int.reduceSub,Int.reduceToNat,Int.reduceNeg,Int.reduceEq,Int.reduceLT,Int.reduceLE]
def bJ (E:En) (L:(List TFile)→Option (List TFile)):Prop:=E.Γ.mu 16=false∧(∀ (a0_Files:List TFile),E.Γ 16 [.agg [.d (zb cFile a0_Files)]]=(L a0_Files).bind fun r=>some (.ret (.agg [ye (cFile) 136 none false r]) []))
def c_laws_toAct:Cd:=
 sq (r [1,2] [o 1 .box [t 0],o 2 (.alloc [(.d (iD 0)),(.d (sD [])),(.d (sD [])),(.d (sD []))]) []])
 (sq (r [1,2,3] [o 3 (.alloc [(.d (iD 0)),(.d (sD [])),(.d (sD [])),(.d (sD []))]) []])
  (sq (r [1,2,3] [o 4 (.fa 0) [t 1],o 5 (.ld none) [t 4],o 6 (.fa 0) [t 3],e (.st 1) [t 6,t 5]])
   (sq (r [1,2,3] [o 7 (.fa 1) [t 1],o 8 (.ld none) [t 7],o 9 (.fa 1) [t 3],e (.st 1) [t 9,t 8]])
    (sq (r [1,2,3] [o 10 (.fa 2) [t 1],o 11 (.ld none) [t 10],o 12 (.fa 2) [t 3],e (.st 1) [t 12,t 11]])
     (sq (r [2,3] [o 13 (.fa 3) [t 1],o 14 (.ld none) [t 13],o 15 (.fa 3) [t 3],e (.st 1) [t 15,t 14]])
      (sq (r [2] [o 16 (.ld (some 4)) [t 3],e (.st 4) [t 2,t 16]])
       (.ret)))))))
def qF:List RV:=[.cell 2 (some 4)]
def oz (N:Nat) (zl:Int) (zf:List UInt8) (zx:List UInt8) (zg:List UInt8):Option (Int×List UInt8×List UInt8×List UInt8):=
 some ((zl,zf,zx,zg))
theorem Zl (E:En) (hy:Hy E [] [] [] qF none (fun y=>nocap y) zi) (zl:Int) (zf:List UInt8) (zx:List UInt8) (zg:List UInt8):G E c_laws_toAct [] ⟨zk [(0,.agg [.d (.int .i64 zl),.d (sD zf),.d (sD zx),.d (sD zg)])],zw []⟩=(oz E.n zl zf zx zg).bind fun r=>some (.ret (.agg [.d (.int .i64 r.1),.d (sD r.2.1),.d (sD r.2.2.1),.d (sD r.2.2.2)]) []):=by
 simp (config:={maxSteps:=40000000}) only [↓yw,zX,yv,yy,rI,rS,rB,r8,rLI,yr,yz,hy.p,hy.l,hy.k,hy.r,hy.d,hy.w,hy.f,zi,oid,qF,↓zj _ _ c_laws_toAct.eq_1,zu,oz,yb,zF,yu,zQ,zE,zN,z6,z7,zG,zM,zH,ya,zC,zL,zP,zO,zD,zZ,zY,yq,↓reduceIte,Nat.reduceMul,Nat.reduceAdd,Nat.reduceSub,Nat.reduceEqDiff,Nat.reduceBEq,Nat.reduceLeDiff,Nat.reduceLT,reduceCtorEq,Int.reduceAdd,Int.reduceSub,Int.reduceToNat,Int.reduceNeg,Int.reduceEq,Int.reduceLT,Int.reduceLE]
def ik (E:En) (L:Int→(List UInt8)→(List UInt8)→(List UInt8)→Option (Int×List UInt8×List UInt8×List UInt8)):Prop:=E.Γ.mu 58=false∧(∀ (zl:Int) (zf:List UInt8) (zx:List UInt8) (zg:List UInt8),E.Γ 58 [.agg [.d (.int .i64 zl),.d (sD zf),.d (sD zx),.d (sD zg)]]=(L zl zf zx zg).bind fun r=>some (.ret (.agg [.d (.int .i64 r.1),.d (sD r.2.1),.d (sD r.2.2.1),.d (sD r.2.2.2)]) []))
def b0_laws_toActS:Cd:=
 sq (sq (r [0,3,4,11] [o 8 .mv [t 4],o 9 .mv [t 0],o 10 (.len false) [t 9],o 11 (.bin .lss) [t 8,t 10]])
  (.cond (t 11) (.skip) (.exit 0)))
 (sq (.block 1 (r [0,3,4] [o 14 .mv [t 3],o 15 .mv [t 4],o 16 .mv [t 0],o 17 .mv [t 4],o 18 (.ia 4) [t 16,t 17],o 19 (.ld (some 4)) [t 18],o 20 (.call 58) [t 19],o 21 (.ia 4) [t 14,t 15],e (.st 4) [t 21,t 20]]))
  (r [0,3,4] [o 12 .mv [t 4],o 13 (.bin .add) [t 12,i 1],o 4 .mv [t 13]]))
def k1_laws_toActS:Cd:=
 sq (r [2] [o 22 .mv [t 3],o 2 .mv [t 22]])
 (.ret)
def c_laws_toActS:Cd:=
 sq (r [0] [o 2 .mv [n]])
 (sq (r [0,3] [o 5 .mv [t 0],o 6 (.len false) [t 5],o 7 (.mkS 78 4 56 [(iD 0),(sD []),(sD []),(sD [])]) [t 6,t 6],o 3 .mv [t 7]])
  (sq (sq (r [0,3,4] [o 4 .mv [i 0]])
    (.block 0 (.loop [0,3,4] b0_laws_toActS))) k1_laws_toActS))
def vz:List RV:=[.tmp 2]
def wP (xD:Int→(List UInt8)→(List UInt8)→(List UInt8)→Option (Int×List UInt8×List UInt8×List UInt8)):Nat→(List TAct)→Int→(List TAct)→Option (List TAct)
 | 0,_,_,_=>none
 | m0+1,x0,x4,o192=>
   if x4 < (↑(List.length x0):Int) then ((idx x0 x4).bind fun y0=>
    (xD y0.Kind y0.Name y0.To y0.Data).bind fun y1=>
    if 0 ≤ x4∧x4 < (↑(List.length o192):Int) then ((oM o192 (Int.toNat x4) { Kind:=y1.fst,Name:=y1.snd.fst,To:=y1.snd.snd.fst,Data:=y1.snd.snd.snd }).bind fun y2=>
     wP xD m0 x0 (w64 (x4+1)) y2)
    else none)
   else some o192
def ra (xD:Int→(List UInt8)→(List UInt8)→(List UInt8)→Option (Int×List UInt8×List UInt8×List UInt8)) (N:Nat) (a0:List TAct):Option (List TAct):=
 if j3 56 (↑(List.length a0):Int) (↑(List.length a0):Int) then wP xD N a0 0 (List.replicate (List.length a0) { Kind:=0,Name:=[],To:=[],Data:=[] })
 else none
theorem iQ (E:En) (hy:Hy E [] [] [] vz none (fun y=>nocap y) zi) (xD:Int→(List UInt8)→(List UInt8)→(List UInt8)→Option (Int×List UInt8×List UInt8×List UInt8)) (h_laws_toAct:ik E xD):∀ (m0:Nat) (x0:List TAct) (x4:Int) (o192:List TAct),gH E [0,3,4] b0_laws_toActS [KJ.b 0,KJ.c k1_laws_toActS] m0 ⟨zk [(0,.d (zb (cAct) x0)),(3,A.row 192 1),(4,.d (.int .i64 x4))],zw [(192,⟨1,yl (cAct) 78 none o192,false⟩)]⟩=(wP xD m0 x0 x4 o192).bind fun r=>some (.ret (ye (cAct) 78 none false r) []):=by
 intro m0
 induction m0 with
 | zero=>intros; rfl
 | succ m0 ih=>
   intros
   simp (config:={maxSteps:=40000000}) only [↓yw,zX,yv,yy,rI,rS,rB,r8,rLI,yr,yz,hy.p,hy.l,hy.k,hy.r,hy.d,hy.w,hy.f,zi,oid,vz,↓zj _ _ b0_laws_toActS.eq_1,↓zj _ _ k1_laws_toActS.eq_1,↓zj _ _ c_laws_toActS.eq_1,h_laws_toAct.2,h_laws_toAct.1,xF,ih,zu,wP,yb,zF,yu,zQ,zE,zN,z6,z7,zG,zM,zH,ya,zC,zL,zP,zO,zD,zZ,zY,yq,↓reduceIte,Nat.reduceMul,Nat.reduceAdd,Nat.reduceSub,Nat.reduceEqDiff,Nat.reduceBEq,Nat.reduceLeDiff,Nat.reduceLT,reduceCtorEq,Int.reduceAdd,Int.reduceSub,Int.reduceToNat,Int.reduceNeg,Int.reduceEq,Int.reduceLT,Int.reduceLE]
theorem bN (E:En) (hy:Hy E [] [] [] vz none (fun y=>nocap y) zi) (xD:Int→(List UInt8)→(List UInt8)→(List UInt8)→Option (Int×List UInt8×List UInt8×List UInt8)) (h_laws_toAct:ik E xD) (a0:List TAct):G E c_laws_toActS [] ⟨zk [(0,.d (zb cAct a0))],zw []⟩=(ra xD E.n a0).bind fun r=>some (.ret (ye (cAct) 78 none false r) []):=by
 simp (config:={maxSteps:=40000000}) only [↓yw,zX,yv,yy,rI,rS,rB,r8,rLI,yr,yz,hy.p,hy.l,hy.k,hy.r,hy.d,hy.w,hy.f,zi,oid,vz,↓zj _ _ b0_laws_toActS.eq_1,↓zj _ _ k1_laws_toActS.eq_1,↓zj _ _ c_laws_toActS.eq_1,h_laws_toAct.2,h_laws_toAct.1,zu,ra,iQ E hy xD h_laws_toAct,yb,zF,yu,zQ,zE,zN,z6,z7,zG,zM,zH,ya,zC,zL,zP,zO,zD,zZ,zY,yq,↓reduceIte,Nat.reduceMul,Nat.reduceAdd,Nat.reduceSub,Nat.reduceEqDiff,Nat.reduceBEq,Nat.reduceLeDiff,Nat.reduceLT,reduceCtorEq,Int.reduceAdd,Int.reduceSub,Int.reduceToNat,Int.reduceNeg,Int.reduceEq,Int.reduceLT,Int.reduceLE]
def bz (E:En) (L:(List TAct)→Option (List TAct)):Prop:=E.Γ.mu 17=false∧(∀ (a0:List TAct),E.Γ 17 [.d (zb cAct a0)]=(L a0).bind fun r=>some (.ret (ye (cAct) 78 none false r) []))
def c_spec_l7Copy:Cd:=
 sq (r [1,2] [o 1 .box [t 0],o 2 (.alloc [.nil]) []])
 (sq (r [1,2,3] [o 4 (lit 136 2 0) [],o 3 .mv [t 4]])
  (sq (r [2] [o 5 .mv [t 3],o 6 (.fa 0) [t 1],o 7 (.ld none) [t 6],o 8 (.app 136 2 32) [t 5,t 7],o 9 (.bld [.nil] [(0,1)]) [t 8],e (.st 1) [t 2,t 9]])
   (.ret)))
def rt:List RV:=[.cell 2 (some 1)]
def rn (N:Nat) (a0_Files:List TFile):Option (List TFile):=
 if ub 32 (List.length a0_Files) then some a0_Files
 else none
theorem bt (E:En) (hy:Hy E [] [] [] rt none (fun y=>nocap y) zi) (a0_Files:List TFile):G E c_spec_l7Copy [] ⟨zk [(0,.agg [.d (zb cFile a0_Files)])],zw []⟩=(rn E.n a0_Files).bind fun r=>some (.ret (.agg [ye (cFile) 136 none false r]) []):=by
 simp (config:={maxSteps:=40000000}) only [↓yw,zX,yv,yy,rI,rS,rB,r8,rLI,yr,yz,hy.p,hy.l,hy.k,hy.r,hy.d,hy.w,hy.f,zi,oid,rt,↓zj _ _ c_spec_l7Copy.eq_1,zu,rn,yb,zF,yu,zQ,zE,zN,z6,z7,zG,zM,zH,ya,zC,zL,zP,zO,zD,zZ,zY,yq,↓reduceIte,Nat.reduceMul,Nat.reduceAdd,Nat.reduceSub,Nat.reduceEqDiff,Nat.reduceBEq,Nat.reduceLeDiff,Nat.reduceLT,reduceCtorEq,Int.reduceAdd,Int.reduceSub,Int.reduceToNat,Int.reduceNeg,Int.reduceEq,Int.reduceLT,Int.reduceLE]
def k9 (E:En) (L:(List TFile)→Option (List TFile)):Prop:=E.Γ.mu 54=false∧(∀ (a0_Files:List TFile),E.Γ 54 [.agg [.d (zb cFile a0_Files)]]=(L a0_Files).bind fun r=>some (.ret (.agg [.d (zb (cFile) r)]) []))
def c_spec_l3Digit:Cd:=
 sq (r [0] [o 2 .mv [b false]])
 (sq (r [2] [o 3 .mv [t 0],o 4 (.bin .geq) [t 3,.k (.d (.int .u8 48))],o 5 .mv [t 4],g 5 true 6 .mv [t 0],g 5 true 7 (.bin .leq) [t 6,.k (.d (.int .u8 57))],o 8 .pick [t 5,t 7,b false],o 2 .mv [t 8]])
  (.ret))
def tQ:List RV:=[.tmp 2]
def tI (N:Nat) (a0:Int):Option (Bool):=
 if 48 ≤ a0 then some (Decidable.decide (a0 ≤ 57))
 else some false
theorem dO (E:En) (hy:Hy E [] [] [] tQ none (fun y=>nocap y) zi) (a0:Int):G E c_spec_l3Digit [] ⟨zk [(0,.d (.int .u8 a0))],zw []⟩=(tI E.n a0).bind fun r=>some (.ret (.d (.bool r)) []):=by
 simp (config:={maxSteps:=40000000}) only [↓yw,zX,yv,yy,rI,rS,rB,r8,rLI,yr,yz,hy.p,hy.l,hy.k,hy.r,hy.d,hy.w,hy.f,zi,oid,tQ,↓zj _ _ c_spec_l3Digit.eq_1,zu,tI,yb,zF,yu,zQ,zE,zN,z6,z7,zG,zM,zH,ya,zC,zL,zP,zO,zD,zZ,zY,yq,↓reduceIte,Nat.reduceMul,Nat.reduceAdd,Nat.reduceSub,Nat.reduceEqDiff,Nat.reduceBEq,Nat.reduceLeDiff,Nat.reduceLT,reduceCtorEq,Int.reduceAdd,Int.reduceSub,Int.reduceToNat,Int.reduceNeg,Int.reduceEq,Int.reduceLT,Int.reduceLE]
def l8 (E:En) (L:Int→Option (Bool)):Prop:=E.Γ.mu 112=false∧(∀ (a0:Int),E.Γ 112 [.d (.int .u8 a0)]=(L a0).bind fun r=>some (.ret (.d (.bool r)) []))
def c_spec_l3Letter:Cd:=
 sq (r [0] [o 2 .mv [b false]])
 (sq (r [2] [o 3 .mv [t 0],o 4 (.bin .geq) [t 3,.k (.d (.int .u8 97))],o 5 .mv [t 4],g 5 true 6 .mv [t 0],g 5 true 7 (.bin .leq) [t 6,.k (.d (.int .u8 122))],o 8 .pick [t 5,t 7,b false],o 9 .mv [t 8],g 9 false 10 .mv [t 0],g 9 false 11 (.bin .geq) [t 10,.k (.d (.int .u8 65))],g 9 false 12 .mv [t 11],g 12 true 13 .mv [t 0],g 12 true 14 (.bin .leq) [t 13,.k (.d (.int .u8 90))],g 9 false 15 .pick [t 12,t 14,b false],o 16 .pick [t 9,b true,t 15],o 2 .mv [t 16]])
  (.ret))
def uV:List RV:=[.tmp 2]
def u3 (N:Nat) (a0:Int):Option (Bool):=
 if 97 ≤ a0 then (if a0 ≤ 122 then some true
  else (if 65 ≤ a0 then some (Decidable.decide (a0 ≤ 90))
   else some false))
 else (if 65 ≤ a0 then some (Decidable.decide (a0 ≤ 90))
  else some false)
theorem fZ (E:En) (hy:Hy E [] [] [] uV none (fun y=>nocap y) zi) (a0:Int):G E c_spec_l3Letter [] ⟨zk [(0,.d (.int .u8 a0))],zw []⟩=(u3 E.n a0).bind fun r=>some (.ret (.d (.bool r)) []):=by
 simp (config:={maxSteps:=40000000}) only [↓yw,zX,yv,yy,rI,rS,rB,r8,rLI,yr,yz,hy.p,hy.l,hy.k,hy.r,hy.d,hy.w,hy.f,zi,oid,uV,↓zj _ _ c_spec_l3Letter.eq_1,zu,u3,yb,zF,yu,zQ,zE,zN,z6,z7,zG,zM,zH,ya,zC,zL,zP,zO,zD,zZ,zY,yq,↓reduceIte,Nat.reduceMul,Nat.reduceAdd,Nat.reduceSub,Nat.reduceEqDiff,Nat.reduceBEq,Nat.reduceLeDiff,Nat.reduceLT,reduceCtorEq,Int.reduceAdd,Int.reduceSub,Int.reduceToNat,Int.reduceNeg,Int.reduceEq,Int.reduceLT,Int.reduceLE]
def mZ (E:En) (L:Int→Option (Bool)):Prop:=E.Γ.mu 115=false∧(∀ (a0:Int),E.Γ 115 [.d (.int .u8 a0)]=(L a0).bind fun r=>some (.ret (.d (.bool r)) []))
def b0_spec_l7NameOk:Cd:=
 sq (sq (r [0,3,7] [o 4 .mv [t 3],o 5 .mv [t 0],o 6 (.len true) [t 5],o 7 (.bin .lss) [t 4,t 6]])
  (.cond (t 7) (.skip) (.exit 0)))
 (sq (.block 1 (sq (r [0,3,33] [o 10 .mv [t 0],o 11 .mv [t 3],o 12 .ixs [t 10,t 11],o 13 (.call 112) [t 12],o 14 .not [t 13],o 15 .mv [t 14],g 15 true 16 .mv [t 0],g 15 true 17 .mv [t 3],g 15 true 18 .ixs [t 16,t 17],g 15 true 19 (.call 115) [t 18],g 15 true 20 .not [t 19],o 21 .pick [t 15,t 20,b false],o 22 .mv [t 21],g 22 true 23 .mv [t 0],g 22 true 24 .mv [t 3],g 22 true 25 .ixs [t 23,t 24],g 22 true 26 (.bin .neq) [t 25,.k (.d (.int .u8 46))],o 27 .pick [t 22,t 26,b false],o 28 .mv [t 27],g 28 true 29 .mv [t 0],g 28 true 30 .mv [t 3],g 28 true 31 .ixs [t 29,t 30],g 28 true 32 (.bin .neq) [t 31,.k (.d (.int .u8 95))],o 33 .pick [t 28,t 32,b false]])
   (.cond (t 33) (sq (r [2] [o 2 .mv [b false]])
     (.ret)) (.skip))))
  (r [0,3] [o 8 .mv [t 3],o 9 (.bin .add) [t 8,i 1],o 3 .mv [t 9]]))
def k1_spec_l7NameOk:Cd:=
 sq (r [2] [o 34 .mv [t 0],o 35 (.len true) [t 34],o 36 (.bin .geq) [t 35,i 1],o 37 .mv [t 36],g 37 true 38 .mv [t 0],g 37 true 39 (.len true) [t 38],g 37 true 40 (.bin .leq) [t 39,i 40],o 41 .pick [t 37,t 40,b false],o 2 .mv [t 41]])
 (.ret)
def c_spec_l7NameOk:Cd:=
 sq (r [0] [o 2 .mv [b false]])
 (sq (sq (r [0,3] [o 3 .mv [i 0]])
   (.block 0 (.loop [0,3] b0_spec_l7NameOk))) k1_spec_l7NameOk)
def wD:List RV:=[.tmp 2]
def xb (yK:Int→Option (Bool)) (yD:Int→Option (Bool)):Nat→(List UInt8)→Int→Option (Bool)
 | 0,_,_=>none
 | m0+1,x0,x3=>
   if x3 < (↑(List.length x0):Int) then ((nB x0 x3).bind fun y0=>
    (yK y0).bind fun y1=>
    if y1=false then ((nB x0 x3).bind fun y2=>
     (yD y2).bind fun y3=>
     if y3=false then ((nB x0 x3).bind fun y4=>
      if y4=46 then xb yK yD m0 x0 (w64 (x3+1))
      else ((nB x0 x3).bind fun y5=>
       if y5=95 then xb yK yD m0 x0 (w64 (x3+1))
       else some false))
     else xb yK yD m0 x0 (w64 (x3+1)))
    else xb yK yD m0 x0 (w64 (x3+1)))
   else (if 1 ≤ (↑(List.length x0):Int) then some (Decidable.decide ((↑(List.length x0):Int) ≤ 40))
    else some false)
def rQ (yK:Int→Option (Bool)) (yD:Int→Option (Bool)) (N:Nat) (a0:List UInt8):Option (Bool):=
 xb yK yD N a0 0
theorem js (E:En) (hy:Hy E [] [] [] wD none (fun y=>nocap y) zi) (yK:Int→Option (Bool)) (h_spec_l3Digit:l8 E yK) (yD:Int→Option (Bool)) (h_spec_l3Letter:mZ E yD):∀ (m0:Nat) (x0:List UInt8) (x3:Int),gH E [0,3] b0_spec_l7NameOk [KJ.b 0,KJ.c k1_spec_l7NameOk] m0 ⟨zk [(0,.d (sD x0)),(3,.d (.int .i64 x3))],zw []⟩=(xb yK yD m0 x0 x3).bind fun r=>some (.ret (.d (.bool r)) []):=by
 intro m0
 induction m0 with
 | zero=>intros; rfl
 | succ m0 ih=>
   intros
   simp (config:={maxSteps:=40000000}) only [↓yw,zX,yv,yy,rI,rS,rB,r8,rLI,yr,yz,hy.p,hy.l,hy.k,hy.r,hy.d,hy.w,hy.f,zi,oid,wD,↓zj _ _ b0_spec_l7NameOk.eq_1,↓zj _ _ k1_spec_l7NameOk.eq_1,↓zj _ _ c_spec_l7NameOk.eq_1,h_spec_l3Digit.2,h_spec_l3Digit.1,h_spec_l3Letter.2,h_spec_l3Letter.1,xF,ih,zu,xb,yb,zF,yu,zQ,zE,zN,z6,z7,zG,zM,zH,ya,zC,zL,zP,zO,zD,zZ,zY,yq,↓reduceIte,Nat.reduceMul,Nat.reduceAdd,Nat.reduceSub,Nat.reduceEqDiff,Nat.reduceBEq,Nat.reduceLeDiff,Nat.reduceLT,reduceCtorEq,Int.reduceAdd,Int.reduceSub,Int.reduceToNat,Int.reduceNeg,Int.reduceEq,Int.reduceLT,Int.reduceLE]
theorem ek (E:En) (hy:Hy E [] [] [] wD none (fun y=>nocap y) zi) (yK:Int→Option (Bool)) (h_spec_l3Digit:l8 E yK) (yD:Int→Option (Bool)) (h_spec_l3Letter:mZ E yD) (a0:List UInt8):G E c_spec_l7NameOk [] ⟨zk [(0,.d (sD a0))],zw []⟩=(rQ yK yD E.n a0).bind fun r=>some (.ret (.d (.bool r)) []):=by
 simp (config:={maxSteps:=40000000}) only [↓yw,zX,yv,yy,rI,rS,rB,r8,rLI,yr,yz,hy.p,hy.l,hy.k,hy.r,hy.d,hy.w,hy.f,zi,oid,wD,↓zj _ _ b0_spec_l7NameOk.eq_1,↓zj _ _ k1_spec_l7NameOk.eq_1,↓zj _ _ c_spec_l7NameOk.eq_1,h_spec_l3Digit.2,h_spec_l3Digit.1,h_spec_l3Letter.2,h_spec_l3Letter.1,zu,rQ,js E hy yK h_spec_l3Digit yD h_spec_l3Letter,yb,zF,yu,zQ,zE,zN,z6,z7,zG,zM,zH,ya,zC,zL,zP,zO,zD,zZ,zY,yq,↓reduceIte,Nat.reduceMul,Nat.reduceAdd,Nat.reduceSub,Nat.reduceEqDiff,Nat.reduceBEq,Nat.reduceLeDiff,Nat.reduceLT,reduceCtorEq,Int.reduceAdd,Int.reduceSub,Int.reduceToNat,Int.reduceNeg,Int.reduceEq,Int.reduceLT,Int.reduceLE]
def p9 (E:En) (L:(List UInt8)→Option (Bool)):Prop:=E.Γ.mu 95=false∧(∀ (a0:List UInt8),E.Γ 95 [.d (sD a0)]=(L a0).bind fun r=>some (.ret (.d (.bool r)) []))
def b0_spec_DiskOk:Cd:=
 sq (sq (r [1,3,13] [o 9 .mv [t 3],o 10 (.fa 0) [t 1],o 11 (.ld none) [t 10],o 12 (.len false) [t 11],o 13 (.bin .lss) [t 9,t 12]])
  (.cond (t 13) (.skip) (.exit 0)))
 (sq (.block 1 (sq (r [1,3,4] [o 16 (.fa 0) [t 1],o 17 (.ld none) [t 16],o 18 .mv [t 3],o 19 (.ia 2) [t 17,t 18],o 20 (.ld (some 2)) [t 19],o 4 (.alloc [(.d (sD [])),(.d (sD []))]) [],e (.st 2) [t 4,t 20]])
   (sq (rd [] [1,3,46] [o 21 (.fa 0) [t 4],o 22 (.ld none) [t 21],o 23 (.call 95) [t 22],o 24 .not [t 23],o 25 .mv [t 24],g 25 false 26 (.fa 1) [t 4],g 25 false 27 (.ld none) [t 26],g 25 false 28 (.len true) [t 27],g 25 false 29 (.bin .gtr) [t 28,i 100000],o 30 .pick [t 25,b true,t 29],o 31 .mv [t 30],g 31 false 32 .mv [t 3],g 31 false 33 (.bin .gtr) [t 32,i 0],g 31 false 34 .mv [t 33],g 34 true 35 (.fa 0) [t 1],g 34 true 36 (.ld none) [t 35],g 34 true 37 .mv [t 3],g 34 true 38 (.bin .sub) [t 37,i 1],g 34 true 39 (.ia 2) [t 36,t 38],g 34 true 40 (.fa 0) [t 39],g 34 true 41 (.ld none) [t 40],g 34 true 42 (.fa 0) [t 4],g 34 true 43 (.ld none) [t 42],g 34 true 44 (.bin .geq) [t 41,t 43],g 31 false 45 .pick [t 34,t 44,b false],o 46 .pick [t 31,b true,t 45]])
    (.cond (t 46) (sq (r [2] [o 2 .mv [b false]])
      (.ret)) (.skip)))))
  (r [1,3] [o 14 .mv [t 3],o 15 (.bin .add) [t 14,i 1],o 3 .mv [t 15]]))
def k1_spec_DiskOk:Cd:=
 sq (r [2] [o 2 .mv [b true]])
 (.ret)
def c_spec_DiskOk:Cd:=
 sq (r [1] [o 1 .box [t 0],o 2 .mv [b false]])
 (sq (sq (r [1,8] [o 5 (.fa 0) [t 1],o 6 (.ld none) [t 5],o 7 (.len false) [t 6],o 8 (.bin .gtr) [t 7,i 400]])
   (.cond (t 8) (sq (r [2] [o 2 .mv [b false]])
     (.ret)) (.skip)))
  (sq (sq (r [1,3] [o 3 .mv [i 0]])
    (.block 0 (.loop [1,3] b0_spec_DiskOk))) k1_spec_DiskOk))
def vA:List RV:=[.tmp 2]
def wg (yc:(List UInt8)→Option (Bool)):Nat→Int→(List TFile)→Option (Bool)
 | 0,_,_=>none
 | m0+1,x3,o64_0=>
   if x3 < (↑(List.length o64_0):Int) then ((idx o64_0 x3).bind fun y0=>
    (yc y0.Name).bind fun y1=>
    if y1=false then some false
    else (if 100000 < (↑(List.length y0.Data):Int) then some false
     else (if 0 < x3 then ((idx o64_0 (w64 (x3 - 1))).bind fun y2=>
      if wL y2.Name y0.Name=false then some false
      else wg yc m0 (w64 (x3+1)) o64_0)
      else wg yc m0 (w64 (x3+1)) o64_0)))
   else some true
def sT (yc:(List UInt8)→Option (Bool)) (N:Nat) (a0_Files:List TFile):Option (Bool):=
 if 400 < (↑(List.length a0_Files):Int) then some false
 else wg yc N 0 a0_Files
theorem iZ (E:En) (hy:Hy E [] [] [] vA none (fun y=>nocap y) zi) (yc:(List UInt8)→Option (Bool)) (h_spec_l7NameOk:p9 E yc):∀ (m0:Nat) (x3:Int) (o64_0:List TFile),gH E [1,3] b0_spec_DiskOk [KJ.b 0,KJ.c k1_spec_DiskOk] m0 ⟨zk [(1,A.adr 64 1 0),(3,.d (.int .i64 x3))],zw [(64,⟨1,.box [.d (zb (cFile) o64_0)],false⟩)]⟩=(wg yc m0 x3 o64_0).bind fun r=>some (.ret (.d (.bool r)) []):=by
 intro m0
 induction m0 with
 | zero=>intros; rfl
 | succ m0 ih=>
   intros
   simp (config:={maxSteps:=40000000}) only [↓yw,zX,yv,yy,rI,rS,rB,r8,rLI,yr,yz,hy.p,hy.l,hy.k,hy.r,hy.d,hy.w,hy.f,zi,oid,vA,↓zj _ _ b0_spec_DiskOk.eq_1,↓zj _ _ k1_spec_DiskOk.eq_1,↓zj _ _ c_spec_DiskOk.eq_1,h_spec_l7NameOk.2,h_spec_l7NameOk.1,xF,ih,zu,wg,yb,zF,yu,zQ,zE,zN,z6,z7,zG,zM,zH,ya,zC,zL,zP,zO,zD,zZ,zY,yq,↓reduceIte,Nat.reduceMul,Nat.reduceAdd,Nat.reduceSub,Nat.reduceEqDiff,Nat.reduceBEq,Nat.reduceLeDiff,Nat.reduceLT,reduceCtorEq,Int.reduceAdd,Int.reduceSub,Int.reduceToNat,Int.reduceNeg,Int.reduceEq,Int.reduceLT,Int.reduceLE]
theorem cU (E:En) (hy:Hy E [] [] [] vA none (fun y=>nocap y) zi) (yc:(List UInt8)→Option (Bool)) (h_spec_l7NameOk:p9 E yc) (a0_Files:List TFile):G E c_spec_DiskOk [] ⟨zk [(0,.agg [.d (zb cFile a0_Files)])],zw []⟩=(sT yc E.n a0_Files).bind fun r=>some (.ret (.d (.bool r)) []):=by
 simp (config:={maxSteps:=40000000}) only [↓yw,zX,yv,yy,rI,rS,rB,r8,rLI,yr,yz,hy.p,hy.l,hy.k,hy.r,hy.d,hy.w,hy.f,zi,oid,vA,↓zj _ _ b0_spec_DiskOk.eq_1,↓zj _ _ k1_spec_DiskOk.eq_1,↓zj _ _ c_spec_DiskOk.eq_1,h_spec_l7NameOk.2,h_spec_l7NameOk.1,zu,sT,iZ E hy yc h_spec_l7NameOk,yb,zF,yu,zQ,zE,zN,z6,z7,zG,zM,zH,ya,zC,zL,zP,zO,zD,zZ,zY,yq,↓reduceIte,Nat.reduceMul,Nat.reduceAdd,Nat.reduceSub,Nat.reduceEqDiff,Nat.reduceBEq,Nat.reduceLeDiff,Nat.reduceLT,reduceCtorEq,Int.reduceAdd,Int.reduceSub,Int.reduceToNat,Int.reduceNeg,Int.reduceEq,Int.reduceLT,Int.reduceLE]
def jo (E:En) (L:(List TFile)→Option (Bool)):Prop:=E.Γ.mu 55=false∧(∀ (a0_Files:List TFile),E.Γ 55 [.agg [.d (zb cFile a0_Files)]]=(L a0_Files).bind fun r=>some (.ret (.d (.bool r)) []))
def c_spec_l7ActOk:Cd:=
 sq (r [1] [o 1 .box [t 0],o 2 .mv [b false]])
 (sq (sq (r [1,26] [o 3 (.fa 0) [t 1],o 4 (.ld none) [t 3],o 5 (.bin .lss) [t 4,i 1],o 6 .mv [t 5],g 6 false 7 (.fa 0) [t 1],g 6 false 8 (.ld none) [t 7],g 6 false 9 (.bin .gtr) [t 8,i 4],o 10 .pick [t 6,b true,t 9],o 11 .mv [t 10],g 11 false 12 (.fa 1) [t 1],g 11 false 13 (.ld none) [t 12],g 11 false 14 (.call 95) [t 13],g 11 false 15 .not [t 14],o 16 .pick [t 11,b true,t 15],o 17 .mv [t 16],g 17 false 18 (.fa 0) [t 1],g 17 false 19 (.ld none) [t 18],g 17 false 20 (.bin .neq) [t 19,i 2],g 17 false 21 .mv [t 20],g 21 true 22 (.fa 3) [t 1],g 21 true 23 (.ld none) [t 22],g 21 true 24 (.bin .neq) [t 23,s []],g 17 false 25 .pick [t 21,t 24,b false],o 26 .pick [t 17,b true,t 25]])
   (.cond (t 26) (sq (r [2] [o 2 .mv [b false]])
     (.ret)) (.skip)))
  (sq (sq (r [1,29] [o 27 (.fa 0) [t 1],o 28 (.ld none) [t 27],o 29 (.bin .eql) [t 28,i 3]])
    (.cond (t 29) (sq (r [2] [o 30 (.fa 2) [t 1],o 31 (.ld none) [t 30],o 32 (.call 95) [t 31],o 2 .mv [t 32]])
      (.ret)) (.skip)))
   (sq (r [2] [o 33 (.fa 2) [t 1],o 34 (.ld none) [t 33],o 35 (.bin .eql) [t 34,s []],o 2 .mv [t 35]])
    (.ret))))
def tK:List RV:=[.tmp 2]
def tT (yc:(List UInt8)→Option (Bool)) (N:Nat) (zl:Int) (zf:List UInt8) (zx:List UInt8) (zg:List UInt8):Option (Bool):=
 if zl < 1 then some false
 else (if 4 < zl then some false
  else ((yc zf).bind fun y0=>
   if y0=false then some false
   else (if zl=2 then (if zl=3 then ((yc zx).bind fun y1=>
     some y1)
    else some (Decidable.decide (zx=[])))
    else (if zg=[] then (if zl=3 then ((yc zx).bind fun y2=>
      some y2)
     else some (Decidable.decide (zx=[])))
     else some false))))
theorem d4 (E:En) (hy:Hy E [] [] [] tK none (fun y=>nocap y) zi) (yc:(List UInt8)→Option (Bool)) (h_spec_l7NameOk:p9 E yc) (zl:Int) (zf:List UInt8) (zx:List UInt8) (zg:List UInt8):G E c_spec_l7ActOk [] ⟨zk [(0,.agg [.d (.int .i64 zl),.d (sD zf),.d (sD zx),.d (sD zg)])],zw []⟩=(tT yc E.n zl zf zx zg).bind fun r=>some (.ret (.d (.bool r)) []):=by
 simp (config:={maxSteps:=40000000}) only [↓yw,zX,yv,yy,rI,rS,rB,r8,rLI,yr,yz,hy.p,hy.l,hy.k,hy.r,hy.d,hy.w,hy.f,zi,oid,tK,↓zj _ _ c_spec_l7ActOk.eq_1,h_spec_l7NameOk.2,h_spec_l7NameOk.1,zu,tT,yb,zF,yu,zQ,zE,zN,z6,z7,zG,zM,zH,ya,zC,zL,zP,zO,zD,zZ,zY,yq,↓reduceIte,Nat.reduceMul,Nat.reduceAdd,Nat.reduceSub,Nat.reduceEqDiff,Nat.reduceBEq,Nat.reduceLeDiff,Nat.reduceLT,reduceCtorEq,Int.reduceAdd,Int.reduceSub,Int.reduceToNat,Int.reduceNeg,Int.reduceEq,Int.reduceLT,Int.reduceLE]
def dM (E:En) (L:Int→(List UInt8)→(List UInt8)→(List UInt8)→Option (Bool)):Prop:=E.Γ.mu 96=false∧(∀ (zl:Int) (zf:List UInt8) (zx:List UInt8) (zg:List UInt8),E.Γ 96 [.agg [.d (.int .i64 zl),.d (sD zf),.d (sD zx),.d (sD zg)]]=(L zl zf zx zg).bind fun r=>some (.ret (.d (.bool r)) []))
def b0_spec_l7At:Cd:=
 sq (sq (r [1,2,5,10] [o 6 .mv [t 5],o 7 (.fa 0) [t 2],o 8 (.ld none) [t 7],o 9 (.len false) [t 8],o 10 (.bin .lss) [t 6,t 9]])
  (.cond (t 10) (.skip) (.exit 0)))
 (sq (.block 1 (sq (r [1,2,5,20] [o 13 (.fa 0) [t 2],o 14 (.ld none) [t 13],o 15 .mv [t 5],o 16 (.ia 2) [t 14,t 15],o 17 (.fa 0) [t 16],o 18 (.ld none) [t 17],o 19 .mv [t 1],o 20 (.bin .eql) [t 18,t 19]])
   (.cond (t 20) (sq (r [4] [o 21 .mv [t 5],o 4 .mv [t 21]])
     (.ret)) (.skip))))
  (r [1,2,5] [o 11 .mv [t 5],o 12 (.bin .add) [t 11,i 1],o 5 .mv [t 12]]))
def k1_spec_l7At:Cd:=
 sq (r [4] [o 4 .mv [i (-1)]])
 (.ret)
def c_spec_l7At:Cd:=
 sq (r [1,2] [o 2 .box [t 0],o 4 .mv [i 0]])
 (sq (sq (r [1,2,5] [o 5 .mv [i 0]])
   (.block 0 (.loop [1,2,5] b0_spec_l7At))) k1_spec_l7At)
def te:List RV:=[.tmp 4]
def uk:Nat→(List UInt8)→Int→(List TFile)→Option (Int)
 | 0,_,_,_=>none
 | m0+1,x1,x5,o128_0=>
   if x5 < (↑(List.length o128_0):Int) then ((idx o128_0 x5).bind fun y0=>
    if y0.Name=x1 then some x5
    else uk m0 x1 (w64 (x5+1)) o128_0)
   else some (-1)
def oW (N:Nat) (a0_Files:List TFile) (a1:List UInt8):Option (Int):=
 uk N a1 0 a0_Files
theorem fK (E:En) (hy:Hy E [] [] [] te none (fun y=>nocap y) zi):∀ (m0:Nat) (x1:List UInt8) (x5:Int) (o128_0:List TFile),gH E [1,2,5] b0_spec_l7At [KJ.b 0,KJ.c k1_spec_l7At] m0 ⟨zk [(1,.d (sD x1)),(2,A.adr 128 1 0),(5,.d (.int .i64 x5))],zw [(128,⟨1,.box [.d (zb (cFile) o128_0)],false⟩)]⟩=(uk m0 x1 x5 o128_0).bind fun r=>some (.ret (.d (.int .i64 r)) []):=by
 intro m0
 induction m0 with
 | zero=>intros; rfl
 | succ m0 ih=>
   intros
   simp (config:={maxSteps:=40000000}) only [↓yw,zX,yv,yy,rI,rS,rB,r8,rLI,yr,yz,hy.p,hy.l,hy.k,hy.r,hy.d,hy.w,hy.f,zi,oid,te,↓zj _ _ b0_spec_l7At.eq_1,↓zj _ _ k1_spec_l7At.eq_1,↓zj _ _ c_spec_l7At.eq_1,xF,ih,zu,uk,yb,zF,yu,zQ,zE,zN,z6,z7,zG,zM,zH,ya,zC,zL,zP,zO,zD,zZ,zY,yq,↓reduceIte,Nat.reduceMul,Nat.reduceAdd,Nat.reduceSub,Nat.reduceEqDiff,Nat.reduceBEq,Nat.reduceLeDiff,Nat.reduceLT,reduceCtorEq,Int.reduceAdd,Int.reduceSub,Int.reduceToNat,Int.reduceNeg,Int.reduceEq,Int.reduceLT,Int.reduceLE]
theorem Yi (E:En) (hy:Hy E [] [] [] te none (fun y=>nocap y) zi) (a0_Files:List TFile) (a1:List UInt8):G E c_spec_l7At [] ⟨zk [(0,.agg [.d (zb cFile a0_Files)]),(1,.d (sD a1))],zw []⟩=(oW E.n a0_Files a1).bind fun r=>some (.ret (.d (.int .i64 r)) []):=by
 simp (config:={maxSteps:=40000000}) only [↓yw,zX,yv,yy,rI,rS,rB,r8,rLI,yr,yz,hy.p,hy.l,hy.k,hy.r,hy.d,hy.w,hy.f,zi,oid,te,↓zj _ _ b0_spec_l7At.eq_1,↓zj _ _ k1_spec_l7At.eq_1,↓zj _ _ c_spec_l7At.eq_1,zu,oW,fK E hy,yb,zF,yu,zQ,zE,zN,z6,z7,zG,zM,zH,ya,zC,zL,zP,zO,zD,zZ,zY,yq,↓reduceIte,Nat.reduceMul,Nat.reduceAdd,Nat.reduceSub,Nat.reduceEqDiff,Nat.reduceBEq,Nat.reduceLeDiff,Nat.reduceLT,reduceCtorEq,Int.reduceAdd,Int.reduceSub,Int.reduceToNat,Int.reduceNeg,Int.reduceEq,Int.reduceLT,Int.reduceLE]
def Yp (E:En) (L:(List TFile)→(List UInt8)→Option (Int)):Prop:=E.Γ.mu 97=false∧(∀ (a0_Files:List TFile) (a1:List UInt8),E.Γ 97 [.agg [.d (zb cFile a0_Files)],.d (sD a1)]=(L a0_Files a1).bind fun r=>some (.ret (.d (.int .i64 r)) []))
def b0_spec_l7With:Cd:=
 sq (sq (rd [] [2,3,4,5,6,25] [o 10 .mv [t 6],o 11 (.fa 0) [t 2],o 12 (.ld none) [t 11],o 13 (.len false) [t 12],o 14 (.bin .lss) [t 10,t 13],o 15 .mv [t 14],g 15 true 16 (.fa 0) [t 2],g 15 true 17 (.ld none) [t 16],g 15 true 18 .mv [t 6],g 15 true 19 (.ia 2) [t 17,t 18],g 15 true 20 (.fa 0) [t 19],g 15 true 21 (.ld none) [t 20],g 15 true 22 (.fa 0) [t 3],g 15 true 23 (.ld none) [t 22],g 15 true 24 (.bin .lss) [t 21,t 23],o 25 .pick [t 15,t 24,b false]])
  (.cond (t 25) (.skip) (.exit 0)))
 (sq (.block 1 (rd [] [2,3,4,5,6] [o 28 (.fa 0) [t 5],o 29 (.ld none) [t 28],o 30 (.fa 0) [t 2],o 31 (.ld none) [t 30],o 32 .mv [t 6],o 33 (.ia 2) [t 31,t 32],o 34 (.ld (some 2)) [t 33],ap [] false [5,28] (o 35 (lit 136 2 1) [t 34]),o 36 (.app 136 2 32) [t 29,t 35],o 37 (.fa 0) [t 5],e (.st 1) [t 37,t 36]]))
  (r [2,3,4,5,6] [o 26 .mv [t 6],o 27 (.bin .add) [t 26,i 1],o 6 .mv [t 27]]))
def b1_spec_l7With:Cd:=
 sq (sq (r [2,3,4,5,7,48] [o 44 .mv [t 7],o 45 (.fa 0) [t 2],o 46 (.ld none) [t 45],o 47 (.len false) [t 46],o 48 (.bin .lss) [t 44,t 47]])
  (.cond (t 48) (.skip) (.exit 2)))
 (sq (.block 3 (sq (rd [] [2,3,4,5,7,59] [o 51 (.fa 0) [t 2],o 52 (.ld none) [t 51],o 53 .mv [t 7],o 54 (.ia 2) [t 52,t 53],o 55 (.fa 0) [t 54],o 56 (.ld none) [t 55],o 57 (.fa 0) [t 3],o 58 (.ld none) [t 57],o 59 (.bin .gtr) [t 56,t 58]])
   (.cond (t 59) (rd [] [2,3,4,5,7] [o 60 (.fa 0) [t 5],o 61 (.ld none) [t 60],o 62 (.fa 0) [t 2],o 63 (.ld none) [t 62],o 64 .mv [t 7],o 65 (.ia 2) [t 63,t 64],o 66 (.ld (some 2)) [t 65],ap [] false [5,60] (o 67 (lit 136 2 1) [t 66]),o 68 (.app 136 2 32) [t 61,t 67],o 69 (.fa 0) [t 5],e (.st 1) [t 69,t 68]]) (.skip))))
  (r [2,3,4,5,7] [o 49 .mv [t 7],o 50 (.bin .add) [t 49,i 1],o 7 .mv [t 50]]))
def k2_spec_l7With:Cd:=
 sq (r [4] [o 70 (.ld (some 1)) [t 5],e (.st 1) [t 4,t 70]])
 (.ret)
def k3_spec_l7With:Cd:=
 sq (r [2,3,4,5] [o 38 (.fa 0) [t 5],o 39 (.ld none) [t 38],o 40 (.ld (some 2)) [t 3],o 41 (lit 136 2 1) [t 40],o 42 (.app 136 2 32) [t 39,t 41],o 43 (.fa 0) [t 5],e (.st 1) [t 43,t 42]])
 (sq (sq (r [2,3,4,5,7] [o 7 .mv [i 0]])
   (.block 2 (.loop [2,3,4,5,7] b1_spec_l7With))) k2_spec_l7With)
def c_spec_l7With:Cd:=
 sq (r [2,3,4] [o 2 .box [t 0],o 3 .box [t 1],o 4 (.alloc [.nil]) []])
 (sq (r [2,3,4,5] [o 8 (lit 136 2 0) [],o 9 (.bld [.nil] [(0,1)]) [t 8],o 5 (.alloc [.nil]) [],e (.st 1) [t 5,t 9]])
  (sq (sq (r [2,3,4,5,6] [o 6 .mv [i 0]])
    (.block 0 (.loop [2,3,4,5,6] b0_spec_l7With))) k3_spec_l7With))
def xW:List RV:=[.cell 4 (some 1)]
def xH:Nat→Int→(List TFile)→(List UInt8)→(List UInt8)→(List TFile)→Option (List TFile)
 | 0,_,_,_,_,_=>none
 | m1+1,x7,o128_0,o192_0,o192_1,o321=>
   if x7 < (↑(List.length o128_0):Int) then ((idx o128_0 x7).bind fun y0=>
    if (wL y0.Name o192_0||Decidable.decide (y0.Name=o192_0))=false then ((idx o128_0 x7).bind fun y1=>
     if ub 32 (List.length (o321++[{ Name:=y1.Name,Data:=y1.Data }])) then xH m1 (w64 (x7+1)) o128_0 o192_0 o192_1 (o321++[{ Name:=y1.Name,Data:=y1.Data }])
     else none)
    else xH m1 (w64 (x7+1)) o128_0 o192_0 o192_1 o321)
   else some o321
def wT (N:Nat):Nat→Int→(List TFile)→(List UInt8)→(List UInt8)→(List TFile)→Option (List TFile)
 | 0,_,_,_,_,_=>none
 | m0+1,x6,o128_0,o192_0,o192_1,o321=>
   if x6 < (↑(List.length o128_0):Int) then ((idx o128_0 x6).bind fun y0=>
    if wL y0.Name o192_0=true then ((idx o128_0 x6).bind fun y1=>
     if ub 32 (List.length (o321++[{ Name:=y1.Name,Data:=y1.Data }])) then wT N m0 (w64 (x6+1)) o128_0 o192_0 o192_1 (o321++[{ Name:=y1.Name,Data:=y1.Data }])
     else none)
    else (if ub 32 (List.length (o321++[{ Name:=o192_0,Data:=o192_1 }])) then xH N 0 o128_0 o192_0 o192_1 (o321++[{ Name:=o192_0,Data:=o192_1 }])
     else none))
   else (if ub 32 (List.length (o321++[{ Name:=o192_0,Data:=o192_1 }])) then xH N 0 o128_0 o192_0 o192_1 (o321++[{ Name:=o192_0,Data:=o192_1 }])
    else none)
def px (N:Nat) (a0_Files:List TFile) (zq:List UInt8) (zr:List UInt8):Option (List TFile):=
 wT N N 0 a0_Files zq zr []
theorem iP (E:En) (hy:Hy E [] [] [] xW none (fun y=>nocap y) zi):∀ (m1:Nat) (x7:Int) (o128_0:List TFile) (o192_0:List UInt8) (o192_1:List UInt8) (o321:List TFile),gH E [2,3,4,5,7] b1_spec_l7With [KJ.b 2,KJ.c k2_spec_l7With] m1 ⟨zk [(2,A.adr 128 1 0),(3,A.adr 192 1 0),(4,A.adr 256 1 0),(5,A.adr 320 1 0),(7,.d (.int .i64 x7))],zw [(128,⟨1,.box [.d (zb (cFile) o128_0)],false⟩),(192,⟨1,.box [.d (sD o192_0),.d (sD o192_1)],false⟩),(256,⟨1,.box [A.nil],false⟩),(320,⟨1,.box [A.row 321 1],false⟩),(321,⟨1,yl (cFile) 136 none o321,false⟩)]⟩=(xH m1 x7 o128_0 o192_0 o192_1 o321).bind fun r=>some (.ret (.agg [ye (cFile) 136 none false r]) []):=by
 intro m1
 induction m1 with
 | zero=>intros; rfl
 | succ m1 ih=>
   intros
   simp (config:={maxSteps:=40000000}) only [↓yw,zX,yv,yy,rI,rS,rB,r8,rLI,yr,yz,hy.p,hy.l,hy.k,hy.r,hy.d,hy.w,hy.f,zi,oid,xW,↓zj _ _ b0_spec_l7With.eq_1,↓zj _ _ b1_spec_l7With.eq_1,↓zj _ _ k2_spec_l7With.eq_1,↓zj _ _ k3_spec_l7With.eq_1,↓zj _ _ c_spec_l7With.eq_1,xF,ih,zu,xH,yb,zF,yu,zQ,zE,zN,z6,z7,zG,zM,zH,ya,zC,zL,zP,zO,zD,zZ,zY,yq,↓reduceIte,Nat.reduceMul,Nat.reduceAdd,Nat.reduceSub,Nat.reduceEqDiff,Nat.reduceBEq,Nat.reduceLeDiff,Nat.reduceLT,reduceCtorEq,Int.reduceAdd,Int.reduceSub,Int.reduceToNat,Int.reduceNeg,Int.reduceEq,Int.reduceLT,Int.reduceLE]
theorem iS (E:En) (hy:Hy E [] [] [] xW none (fun y=>nocap y) zi):∀ (m0:Nat) (x6:Int) (o128_0:List TFile) (o192_0:List UInt8) (o192_1:List UInt8) (o321:List TFile),gH E [2,3,4,5,6] b0_spec_l7With [KJ.b 0,KJ.c k3_spec_l7With] m0 ⟨zk [(2,A.adr 128 1 0),(3,A.adr 192 1 0),(4,A.adr 256 1 0),(5,A.adr 320 1 0),(6,.d (.int .i64 x6))],zw [(128,⟨1,.box [.d (zb (cFile) o128_0)],false⟩),(192,⟨1,.box [.d (sD o192_0),.d (sD o192_1)],false⟩),(256,⟨1,.box [A.nil],false⟩),(320,⟨1,.box [A.row 321 1],false⟩),(321,⟨1,yl (cFile) 136 none o321,false⟩)]⟩=(wT E.n m0 x6 o128_0 o192_0 o192_1 o321).bind fun r=>some (.ret (.agg [ye (cFile) 136 none false r]) []):=by
 intro m0
 induction m0 with
 | zero=>intros; rfl
 | succ m0 ih=>
   intros
   simp (config:={maxSteps:=40000000}) only [↓yw,zX,yv,yy,rI,rS,rB,r8,rLI,yr,yz,hy.p,hy.l,hy.k,hy.r,hy.d,hy.w,hy.f,zi,oid,xW,↓zj _ _ b0_spec_l7With.eq_1,↓zj _ _ b1_spec_l7With.eq_1,↓zj _ _ k2_spec_l7With.eq_1,↓zj _ _ k3_spec_l7With.eq_1,↓zj _ _ c_spec_l7With.eq_1,xF,ih,zu,wT,iP E hy,yb,zF,yu,zQ,zE,zN,z6,z7,zG,zM,zH,ya,zC,zL,zP,zO,zD,zZ,zY,yq,↓reduceIte,Nat.reduceMul,Nat.reduceAdd,Nat.reduceSub,Nat.reduceEqDiff,Nat.reduceBEq,Nat.reduceLeDiff,Nat.reduceLT,reduceCtorEq,Int.reduceAdd,Int.reduceSub,Int.reduceToNat,Int.reduceNeg,Int.reduceEq,Int.reduceLT,Int.reduceLE]
theorem bn (E:En) (hy:Hy E [] [] [] xW none (fun y=>nocap y) zi) (a0_Files:List TFile) (zq:List UInt8) (zr:List UInt8):G E c_spec_l7With [] ⟨zk [(0,.agg [.d (zb cFile a0_Files)]),(1,.agg [.d (sD zq),.d (sD zr)])],zw []⟩=(px E.n a0_Files zq zr).bind fun r=>some (.ret (.agg [ye (cFile) 136 none false r]) []):=by
 simp (config:={maxSteps:=40000000}) only [↓yw,zX,yv,yy,rI,rS,rB,r8,rLI,yr,yz,hy.p,hy.l,hy.k,hy.r,hy.d,hy.w,hy.f,zi,oid,xW,↓zj _ _ b0_spec_l7With.eq_1,↓zj _ _ b1_spec_l7With.eq_1,↓zj _ _ k2_spec_l7With.eq_1,↓zj _ _ k3_spec_l7With.eq_1,↓zj _ _ c_spec_l7With.eq_1,zu,px,iS E hy,yb,zF,yu,zQ,zE,zN,z6,z7,zG,zM,zH,ya,zC,zL,zP,zO,zD,zZ,zY,yq,↓reduceIte,Nat.reduceMul,Nat.reduceAdd,Nat.reduceSub,Nat.reduceEqDiff,Nat.reduceBEq,Nat.reduceLeDiff,Nat.reduceLT,reduceCtorEq,Int.reduceAdd,Int.reduceSub,Int.reduceToNat,Int.reduceNeg,Int.reduceEq,Int.reduceLT,Int.reduceLE]
def bh (E:En) (L:(List TFile)→(List UInt8)→(List UInt8)→Option (List TFile)):Prop:=E.Γ.mu 98=false∧(∀ (a0_Files:List TFile) (zq:List UInt8) (zr:List UInt8),E.Γ 98 [.agg [.d (zb cFile a0_Files)],.agg [.d (sD zq),.d (sD zr)]]=(L a0_Files zq zr).bind fun r=>some (.ret (.agg [ye (cFile) 136 none false r]) []))
def b0_spec_l7Without:Cd:=
 sq (sq (r [1,2,4,5,6,13] [o 9 .mv [t 6],o 10 (.fa 0) [t 2],o 11 (.ld none) [t 10],o 12 (.len false) [t 11],o 13 (.bin .lss) [t 9,t 12]])
  (.cond (t 13) (.skip) (.exit 0)))
 (sq (.block 1 (sq (r [1,2,4,5,6,23] [o 16 (.fa 0) [t 2],o 17 (.ld none) [t 16],o 18 .mv [t 6],o 19 (.ia 2) [t 17,t 18],o 20 (.fa 0) [t 19],o 21 (.ld none) [t 20],o 22 .mv [t 1],o 23 (.bin .neq) [t 21,t 22]])
   (.cond (t 23) (rd [] [1,2,4,5,6] [o 24 (.fa 0) [t 5],o 25 (.ld none) [t 24],o 26 (.fa 0) [t 2],o 27 (.ld none) [t 26],o 28 .mv [t 6],o 29 (.ia 2) [t 27,t 28],o 30 (.ld (some 2)) [t 29],ap [] false [5,24] (o 31 (lit 136 2 1) [t 30]),o 32 (.app 136 2 32) [t 25,t 31],o 33 (.fa 0) [t 5],e (.st 1) [t 33,t 32]]) (.skip))))
  (r [1,2,4,5,6] [o 14 .mv [t 6],o 15 (.bin .add) [t 14,i 1],o 6 .mv [t 15]]))
def k1_spec_l7Without:Cd:=
 sq (r [4] [o 34 (.ld (some 1)) [t 5],e (.st 1) [t 4,t 34]])
 (.ret)
def c_spec_l7Without:Cd:=
 sq (r [1,2,4] [o 2 .box [t 0],o 4 (.alloc [.nil]) []])
 (sq (r [1,2,4,5] [o 7 (lit 136 2 0) [],o 8 (.bld [.nil] [(0,1)]) [t 7],o 5 (.alloc [.nil]) [],e (.st 1) [t 5,t 8]])
  (sq (sq (r [1,2,4,5,6] [o 6 .mv [i 0]])
    (.block 0 (.loop [1,2,4,5,6] b0_spec_l7Without))) k1_spec_l7Without))
def wd:List RV:=[.cell 4 (some 1)]
def xn:Nat→(List UInt8)→Int→(List TFile)→(List TFile)→Option (List TFile)
 | 0,_,_,_,_=>none
 | m0+1,x1,x6,o128_0,o321=>
   if x6 < (↑(List.length o128_0):Int) then ((idx o128_0 x6).bind fun y0=>
    if y0.Name=x1 then xn m0 x1 (w64 (x6+1)) o128_0 o321
    else ((idx o128_0 x6).bind fun y1=>
     if ub 32 (List.length (o321++[{ Name:=y1.Name,Data:=y1.Data }])) then xn m0 x1 (w64 (x6+1)) o128_0 (o321++[{ Name:=y1.Name,Data:=y1.Data }])
     else none))
   else some o321
def sc (N:Nat) (a0_Files:List TFile) (a1:List UInt8):Option (List TFile):=
 xn N a1 0 a0_Files []
theorem kz (E:En) (hy:Hy E [] [] [] wd none (fun y=>nocap y) zi):∀ (m0:Nat) (x1:List UInt8) (x6:Int) (o128_0:List TFile) (o321:List TFile),gH E [1,2,4,5,6] b0_spec_l7Without [KJ.b 0,KJ.c k1_spec_l7Without] m0 ⟨zk [(1,.d (sD x1)),(2,A.adr 128 1 0),(4,A.adr 256 1 0),(5,A.adr 320 1 0),(6,.d (.int .i64 x6))],zw [(128,⟨1,.box [.d (zb (cFile) o128_0)],false⟩),(256,⟨1,.box [A.nil],false⟩),(320,⟨1,.box [A.row 321 1],false⟩),(321,⟨1,yl (cFile) 136 none o321,false⟩)]⟩=(xn m0 x1 x6 o128_0 o321).bind fun r=>some (.ret (.agg [ye (cFile) 136 none false r]) []):=by
 intro m0
 induction m0 with
 | zero=>intros; rfl
 | succ m0 ih=>
   intros
   simp (config:={maxSteps:=40000000}) only [↓yw,zX,yv,yy,rI,rS,rB,r8,rLI,yr,yz,hy.p,hy.l,hy.k,hy.r,hy.d,hy.w,hy.f,zi,oid,wd,↓zj _ _ b0_spec_l7Without.eq_1,↓zj _ _ k1_spec_l7Without.eq_1,↓zj _ _ c_spec_l7Without.eq_1,xF,ih,zu,xn,yb,zF,yu,zQ,zE,zN,z6,z7,zG,zM,zH,ya,zC,zL,zP,zO,zD,zZ,zY,yq,↓reduceIte,Nat.reduceMul,Nat.reduceAdd,Nat.reduceSub,Nat.reduceEqDiff,Nat.reduceBEq,Nat.reduceLeDiff,Nat.reduceLT,reduceCtorEq,Int.reduceAdd,Int.reduceSub,Int.reduceToNat,Int.reduceNeg,Int.reduceEq,Int.reduceLT,Int.reduceLE]
theorem fw (E:En) (hy:Hy E [] [] [] wd none (fun y=>nocap y) zi) (a0_Files:List TFile) (a1:List UInt8):G E c_spec_l7Without [] ⟨zk [(0,.agg [.d (zb cFile a0_Files)]),(1,.d (sD a1))],zw []⟩=(sc E.n a0_Files a1).bind fun r=>some (.ret (.agg [ye (cFile) 136 none false r]) []):=by
 simp (config:={maxSteps:=40000000}) only [↓yw,zX,yv,yy,rI,rS,rB,r8,rLI,yr,yz,hy.p,hy.l,hy.k,hy.r,hy.d,hy.w,hy.f,zi,oid,wd,↓zj _ _ b0_spec_l7Without.eq_1,↓zj _ _ k1_spec_l7Without.eq_1,↓zj _ _ c_spec_l7Without.eq_1,zu,sc,kz E hy,yb,zF,yu,zQ,zE,zN,z6,z7,zG,zM,zH,ya,zC,zL,zP,zO,zD,zZ,zY,yq,↓reduceIte,Nat.reduceMul,Nat.reduceAdd,Nat.reduceSub,Nat.reduceEqDiff,Nat.reduceBEq,Nat.reduceLeDiff,Nat.reduceLT,reduceCtorEq,Int.reduceAdd,Int.reduceSub,Int.reduceToNat,Int.reduceNeg,Int.reduceEq,Int.reduceLT,Int.reduceLE]
def fu (E:En) (L:(List TFile)→(List UInt8)→Option (List TFile)):Prop:=E.Γ.mu 99=false∧(∀ (a0_Files:List TFile) (a1:List UInt8),E.Γ 99 [.agg [.d (zb cFile a0_Files)],.d (sD a1)]=(L a0_Files a1).bind fun r=>some (.ret (.agg [ye (cFile) 136 none false r]) []))
def c_spec_l7Do:Cd:=
 sq (r [2,3,4] [o 2 .box [t 0],o 3 .box [t 1],o 4 (.alloc [.nil]) [],o 5 .mv [i 0]])
 (sq (sq (r [2,3,4,11] [o 9 (.ld (some 4)) [t 3],o 10 (.call 96) [t 9],o 11 .not [t 10]])
   (.cond (t 11) (sq (r [4,5] [o 12 (.ld (some 1)) [t 2],e (.st 1) [t 4,t 12],o 5 .mv [i 2]])
     (.ret)) (.skip)))
  (sq (r [2,3,4,6] [o 13 (.ld (some 1)) [t 2],o 14 (.fa 1) [t 3],o 15 (.ld none) [t 14],o 16 (.call 97) [t 13,t 15],o 6 .mv [t 16]])
   (sq (sq (r [2,3,4,6,19] [o 17 (.fa 0) [t 3],o 18 (.ld none) [t 17],o 19 (.bin .eql) [t 18,i 1]])
     (.cond (t 19) (sq (sq (r [2,3,4,27] [o 20 .mv [t 6],o 21 (.bin .lss) [t 20,i 0],o 22 .mv [t 21],g 22 true 23 (.fa 0) [t 2],g 22 true 24 (.ld none) [t 23],g 22 true 25 (.len false) [t 24],g 22 true 26 (.bin .geq) [t 25,i 400],o 27 .pick [t 22,t 26,b false]])
        (.cond (t 27) (sq (r [4,5] [o 28 (.ld (some 1)) [t 2],e (.st 1) [t 4,t 28],o 5 .mv [i 4]])
          (.ret)) (.skip)))
       (sq (r [4,5] [o 29 (.ld (some 1)) [t 2],o 30 (.fa 1) [t 3],o 31 (.ld none) [t 30],o 32 (.bld [(.d (sD [])),(.d (sD []))] [(0,1)]) [t 31],o 33 (.call 98) [t 29,t 32],e (.st 1) [t 4,t 33],o 5 .mv [i 0]])
        (.ret))) (.skip)))
    (sq (sq (r [2,3,4,6,35] [o 34 .mv [t 6],o 35 (.bin .lss) [t 34,i 0]])
      (.cond (t 35) (sq (r [4,5] [o 36 (.ld (some 1)) [t 2],e (.st 1) [t 4,t 36],o 5 .mv [i 3]])
        (.ret)) (.skip)))
     (sq (r [2,3,4,7] [o 37 (.fa 0) [t 2],o 38 (.ld none) [t 37],o 39 .mv [t 6],o 40 (.ia 2) [t 38,t 39],o 41 (.fa 1) [t 40],o 42 (.ld none) [t 41],o 7 .mv [t 42]])
      (sq (sq (r [2,3,4,7,45] [o 43 (.fa 0) [t 3],o 44 (.ld none) [t 43],o 45 (.bin .eql) [t 44,i 2]])
        (.cond (t 45) (sq (sq (r [2,3,4,7,52] [o 46 .mv [t 7],o 47 (.len true) [t 46],o 48 (.fa 3) [t 3],o 49 (.ld none) [t 48],o 50 (.len true) [t 49],o 51 (.bin .add) [t 47,t 50],o 52 (.bin .gtr) [t 51,i 100000]])
           (.cond (t 52) (sq (r [4,5] [o 53 (.ld (some 1)) [t 2],e (.st 1) [t 4,t 53],o 5 .mv [i 4]])
             (.ret)) (.skip)))
          (sq (r [4,5] [o 54 (.ld (some 1)) [t 2],o 55 (.fa 1) [t 3],o 56 (.ld none) [t 55],o 57 .mv [t 7],o 58 (.fa 3) [t 3],o 59 (.ld none) [t 58],o 60 (.bin .add) [t 57,t 59],o 61 (.bld [(.d (sD [])),(.d (sD []))] [(0,1),(1,1)]) [t 56,t 60],o 62 (.call 98) [t 54,t 61],e (.st 1) [t 4,t 62],o 5 .mv [i 0]])
           (.ret))) (.skip)))
       (sq (r [3,4,7,8] [o 63 (.ld (some 1)) [t 2],o 64 (.fa 1) [t 3],o 65 (.ld none) [t 64],o 66 (.call 99) [t 63,t 65],o 8 (.alloc [.nil]) [],e (.st 1) [t 8,t 66]])
        (sq (sq (r [3,4,7,8,69] [o 67 (.fa 0) [t 3],o 68 (.ld none) [t 67],o 69 (.bin .eql) [t 68,i 3]])
          (.cond (t 69) (r [4,8] [o 70 (.ld (some 1)) [t 8],o 71 (.fa 2) [t 3],o 72 (.ld none) [t 71],o 73 .mv [t 7],o 74 (.bld [(.d (sD [])),(.d (sD []))] [(0,1),(1,1)]) [t 72,t 73],o 75 (.call 98) [t 70,t 74],e (.st 1) [t 8,t 75]]) (.skip)))
         (sq (r [4,5] [o 76 (.ld (some 1)) [t 8],e (.st 1) [t 4,t 76],o 5 .mv [i 0]])
          (.ret))))))))))
def pv:List RV:=[.cell 4 (some 1),.tmp 5]
def pn (qV:Int→(List UInt8)→(List UInt8)→(List UInt8)→Option (Bool)) (na:(List TFile)→(List UInt8)→Option (Int)) (vu:(List TFile)→(List UInt8)→(List UInt8)→Option (List TFile)) (sg:(List TFile)→(List UInt8)→Option (List TFile)) (N:Nat) (a0_Files:List TFile) (zW:Int) (zq:List UInt8) (yM:List UInt8) (zr:List UInt8):Option (Alt (List TFile×Int) (List TFile×Int)):=
 (qV zW zq yM zr).bind fun y0=>
 if y0=false then some ((.a ((a0_Files,2))))
 else ((na a0_Files zq).bind fun y1=>
  if zW=1 then (if y1 < 0 then (if 400 ≤ (↑(List.length a0_Files):Int) then some ((.a ((a0_Files,4))))
   else ((vu a0_Files zq []).bind fun y2=>
    some ((.b ((y2,0))))))
   else ((vu a0_Files zq []).bind fun y3=>
    some ((.b ((y3,0))))))
  else (if y1 < 0 then some ((.a ((a0_Files,3))))
   else ((idx a0_Files y1).bind fun y4=>
    if zW=2 then (if 100000 < w64 ((↑(List.length y4.Data):Int)+(↑(List.length zr):Int)) then some ((.a ((a0_Files,4))))
     else (if ou (List.length (y4.Data++zr)) then ((vu a0_Files zq (y4.Data++zr)).bind fun y5=>
      some ((.b ((y5,0)))))
      else none))
    else ((sg a0_Files zq).bind fun y6=>
     if zW=3 then ((vu y6 yM y4.Data).bind fun y7=>
      some ((.b ((y7,0)))))
     else some ((.b ((y6,0))))))))
theorem YJ (E:En) (hy:Hy E [] [] [] pv none (fun y=>nocap y) zi) (qV:Int→(List UInt8)→(List UInt8)→(List UInt8)→Option (Bool)) (h_spec_l7ActOk:dM E qV) (na:(List TFile)→(List UInt8)→Option (Int)) (h_spec_l7At:Yp E na) (vu:(List TFile)→(List UInt8)→(List UInt8)→Option (List TFile)) (h_spec_l7With:bh E vu) (sg:(List TFile)→(List UInt8)→Option (List TFile)) (h_spec_l7Without:fu E sg) (a0_Files:List TFile) (zW:Int) (zq:List UInt8) (yM:List UInt8) (zr:List UInt8):G E c_spec_l7Do [] ⟨zk [(0,.agg [.d (zb cFile a0_Files)]),(1,.agg [.d (.int .i64 zW),.d (sD zq),.d (sD yM),.d (sD zr)])],zw []⟩=(pn qV na vu sg E.n a0_Files zW zq yM zr).bind fun r=>r.on (fun r=>some (.ret (.tup [.agg [.d (zb (cFile) r.1)],.d (.int .i64 r.2)]) [])) (fun r=>some (.ret (.tup [.agg [ye (cFile) 136 none false r.1],.d (.int .i64 r.2)]) [])):=by
 simp (config:={maxSteps:=40000000}) only [↓yw,zX,yv,yy,rI,rS,rB,r8,rLI,yr,yz,hy.p,hy.l,hy.k,hy.r,hy.d,hy.w,hy.f,zi,oid,pv,↓zj _ _ c_spec_l7Do.eq_1,h_spec_l7ActOk.2,h_spec_l7ActOk.1,h_spec_l7At.2,h_spec_l7At.1,h_spec_l7With.2,h_spec_l7With.1,h_spec_l7Without.2,h_spec_l7Without.1,zu,pn,yb,zF,yu,zQ,zE,zN,z6,z7,zG,zM,zH,ya,zC,zL,zP,zO,zD,zZ,zY,yq,↓reduceIte,Nat.reduceMul,Nat.reduceAdd,Nat.reduceSub,Nat.reduceEqDiff,Nat.reduceBEq,Nat.reduceLeDiff,Nat.reduceLT,reduceCtorEq,Int.reduceAdd,Int.reduceSub,Int.reduceToNat,Int.reduceNeg,Int.reduceEq,Int.reduceLT,Int.reduceLE]
def gu (E:En) (L:(List TFile)→Int→(List UInt8)→(List UInt8)→(List UInt8)→Option (List TFile×Int)):Prop:=E.Γ.mu 56=false∧(∀ (a0_Files:List TFile) (zW:Int) (zq:List UInt8) (yM:List UInt8) (zr:List UInt8),E.Γ 56 [.agg [.d (zb cFile a0_Files)],.agg [.d (.int .i64 zW),.d (sD zq),.d (sD yM),.d (sD zr)]]=(L a0_Files zW zq yM zr).bind fun r=>some (.ret (.tup [.agg [.d (zb (cFile) r.1)],.d (.int .i64 r.2)]) []))
def b0_spec_Play:Cd:=
 sq (sq (r [1,2,3,6,8,30] [o 22 .mv [t 8],o 23 .mv [t 1],o 24 (.len false) [t 23],o 25 (.bin .lss) [t 22,t 24],o 26 .mv [t 25],g 26 true 27 .mv [t 8],g 26 true 28 .mv [t 2],g 26 true 29 (.bin .lss) [t 27,t 28],o 30 .pick [t 26,t 29,b false]])
  (.cond (t 30) (.skip) (.exit 0)))
 (sq (.block 1 (sq (rd [] [1,2,3,6,8,9,10] [ap [576] false [] (o 34 (.ld (some 1)) [t 3]),ap [576] false [] (o 35 .mv [t 1]),ap [576] false [] (o 36 .mv [t 8]),ap [576] false [] (o 37 (.ia 4) [t 35,t 36]),ap [576] false [] (o 38 (.ld (some 4)) [t 37]),ap [] true [3,35,36,37] (o 9 (.alloc [.nil]) []),ap [576] false [] (o 39 (.call 56) [t 34,t 38]),ap [576] false [] (o 33 .mv [t 39]),ap [576] false [] (o 40 (.ext 0) [t 33]),ap [576] false [] (o 41 (.ext 1) [t 33]),e (.st 1) [t 9,t 40],o 10 .mv [t 41]])
   (sq (sq (r [1,2,3,6,8,9,43] [o 42 .mv [t 10],o 43 (.bin .neq) [t 42,i 0]])
     (.cond (t 43) (sq (r [6,7] [o 44 (.ld (some 1)) [t 3],o 45 .mv [t 8],e (.st 1) [t 6,t 44],o 7 .mv [t 45]])
       (.ret)) (.skip)))
    (r [1,2,3,6,8] [o 46 (.ld (some 1)) [t 9],e (.st 1) [t 3,t 46]]))))
  (r [1,2,3,6,8] [o 31 .mv [t 8],o 32 (.bin .add) [t 31,i 1],o 8 .mv [t 32]]))
def k1_spec_Play:Cd:=
 sq (sq (r [1,2,3,6,48] [o 47 .mv [t 2],o 48 (.bin .lss) [t 47,i 0]])
  (.cond (t 48) (sq (r [6,7] [o 49 (.ld (some 1)) [t 3],e (.st 1) [t 6,t 49],o 7 .mv [i 0]])
    (.ret)) (.skip)))
 (sq (sq (r [1,2,3,6,53] [o 50 .mv [t 2],o 51 .mv [t 1],o 52 (.len false) [t 51],o 53 (.bin .gtr) [t 50,t 52]])
   (.cond (t 53) (r [2,3,6] [o 54 .mv [t 1],o 55 (.len false) [t 54],o 2 .mv [t 55]]) (.skip)))
  (sq (r [6,7] [o 56 (.ld (some 1)) [t 3],o 57 .mv [t 2],e (.st 1) [t 6,t 56],o 7 .mv [t 57]])
   (.ret)))
def c_spec_Play:Cd:=
 sq (r [1,2,3,6] [o 3 .box [t 0],o 6 (.alloc [.nil]) [],o 7 .mv [i 0]])
 (sq (r [1,2,3,6] [o 11 (.ld (some 1)) [t 3],o 12 (.call 54) [t 11],e (.st 1) [t 3,t 12]])
  (sq (sq (r [1,2,3,6,20] [o 13 (.ld (some 1)) [t 3],o 14 (.call 55) [t 13],o 15 .not [t 14],o 16 .mv [t 15],g 16 false 17 .mv [t 1],g 16 false 18 (.len false) [t 17],g 16 false 19 (.bin .gtr) [t 18,i 10000],o 20 .pick [t 16,b true,t 19]])
    (.cond (t 20) (sq (r [6,7] [o 21 (.ld (some 1)) [t 3],e (.st 1) [t 6,t 21],o 7 .mv [i 0]])
      (.ret)) (.skip)))
   (sq (sq (r [1,2,3,6,8] [o 8 .mv [i 0]])
     (.block 0 (.loop [1,2,3,6,8] b0_spec_Play))) k1_spec_Play)))
def tg:List RV:=[.cell 6 (some 1),.tmp 7]
def ui (xg:(List TFile)→Option (List TFile)) (xf:(List TFile)→Option (Bool)) (xT:(List TFile)→Int→(List UInt8)→(List UInt8)→(List UInt8)→Option (List TFile×Int)):Nat→(List TAct)→Int→Int→(List TFile)→Option (List TFile×Int)
 | 0,_,_,_,_=>none
 | m0+1,x1,x2,x8,o192_0=>
   if x8 < (↑(List.length x1):Int) then (if x8 < x2 then ((idx x1 x8).bind fun y0=>
    (xT o192_0 y0.Kind y0.Name y0.To y0.Data).bind fun y1=>
    if y1.snd=0 then ui xg xf xT m0 x1 x2 (w64 (x8+1)) y1.fst
    else some ((o192_0,x8)))
    else (if x2 < 0 then some ((o192_0,0))
     else (if (↑(List.length x1):Int) < x2 then some ((o192_0,(↑(List.length x1):Int)))
      else some ((o192_0,x2)))))
   else (if x2 < 0 then some ((o192_0,0))
    else (if (↑(List.length x1):Int) < x2 then some ((o192_0,(↑(List.length x1):Int)))
     else some ((o192_0,x2))))
def pg (xg:(List TFile)→Option (List TFile)) (xf:(List TFile)→Option (Bool)) (xT:(List TFile)→Int→(List UInt8)→(List UInt8)→(List UInt8)→Option (List TFile×Int)) (N:Nat) (a0_Files:List TFile) (a1:List TAct) (a2:Int):Option (List TFile×Int):=
 (xg a0_Files).bind fun y0=>
 (xf y0).bind fun y1=>
 if y1=false then some ((y0,0))
 else (if 10000 < (↑(List.length a1):Int) then some ((y0,0))
  else ui xg xf xT N a1 a2 0 y0)
theorem eJ (E:En) (hy:Hy E [] [] [] tg none (fun y=>nocap y) zi) (xg:(List TFile)→Option (List TFile)) (h_spec_l7Copy:k9 E xg) (xf:(List TFile)→Option (Bool)) (h_spec_DiskOk:jo E xf) (xT:(List TFile)→Int→(List UInt8)→(List UInt8)→(List UInt8)→Option (List TFile×Int)) (h_spec_l7Do:gu E xT):∀ (m0:Nat) (x1:List TAct) (x2:Int) (x8:Int) (o192_0:List TFile),gH E [1,2,3,6,8] b0_spec_Play [KJ.b 0,KJ.c k1_spec_Play] m0 ⟨zk [(1,.d (zb (cAct) x1)),(2,.d (.int .i64 x2)),(3,A.adr 192 1 0),(6,A.adr 384 1 0),(8,.d (.int .i64 x8))],zw [(192,⟨1,.box [.d (zb (cFile) o192_0)],false⟩),(384,⟨1,.box [A.nil],false⟩)]⟩=(ui xg xf xT m0 x1 x2 x8 o192_0).bind fun r=>some (.ret (.tup [.agg [.d (zb (cFile) r.1)],.d (.int .i64 r.2)]) []):=by
 intro m0
 induction m0 with
 | zero=>intros; rfl
 | succ m0 ih=>
   intros
   simp (config:={maxSteps:=40000000}) only [↓yw,zX,yv,yy,rI,rS,rB,r8,rLI,yr,yz,hy.p,hy.l,hy.k,hy.r,hy.d,hy.w,hy.f,zi,oid,tg,↓zj _ _ b0_spec_Play.eq_1,↓zj _ _ k1_spec_Play.eq_1,↓zj _ _ c_spec_Play.eq_1,h_spec_l7Copy.2,h_spec_l7Copy.1,h_spec_DiskOk.2,h_spec_DiskOk.1,h_spec_l7Do.2,h_spec_l7Do.1,xF,ih,zu,ui,yb,zF,yu,zQ,zE,zN,z6,z7,zG,zM,zH,ya,zC,zL,zP,zO,zD,zZ,zY,yq,↓reduceIte,Nat.reduceMul,Nat.reduceAdd,Nat.reduceSub,Nat.reduceEqDiff,Nat.reduceBEq,Nat.reduceLeDiff,Nat.reduceLT,reduceCtorEq,Int.reduceAdd,Int.reduceSub,Int.reduceToNat,Int.reduceNeg,Int.reduceEq,Int.reduceLT,Int.reduceLE]
theorem Yz (E:En) (hy:Hy E [] [] [] tg none (fun y=>nocap y) zi) (xg:(List TFile)→Option (List TFile)) (h_spec_l7Copy:k9 E xg) (xf:(List TFile)→Option (Bool)) (h_spec_DiskOk:jo E xf) (xT:(List TFile)→Int→(List UInt8)→(List UInt8)→(List UInt8)→Option (List TFile×Int)) (h_spec_l7Do:gu E xT) (a0_Files:List TFile) (a1:List TAct) (a2:Int):G E c_spec_Play [] ⟨zk [(0,.agg [.d (zb cFile a0_Files)]),(1,.d (zb cAct a1)),(2,.d (.int .i64 a2))],zw []⟩=(pg xg xf xT E.n a0_Files a1 a2).bind fun r=>some (.ret (.tup [.agg [.d (zb (cFile) r.1)],.d (.int .i64 r.2)]) []):=by
 simp (config:={maxSteps:=40000000}) only [↓yw,zX,yv,yy,rI,rS,rB,r8,rLI,yr,yz,hy.p,hy.l,hy.k,hy.r,hy.d,hy.w,hy.f,zi,oid,tg,↓zj _ _ b0_spec_Play.eq_1,↓zj _ _ k1_spec_Play.eq_1,↓zj _ _ c_spec_Play.eq_1,h_spec_l7Copy.2,h_spec_l7Copy.1,h_spec_DiskOk.2,h_spec_DiskOk.1,h_spec_l7Do.2,h_spec_l7Do.1,zu,pg,eJ E hy xg h_spec_l7Copy xf h_spec_DiskOk xT h_spec_l7Do,yb,zF,yu,zQ,zE,zN,z6,z7,zG,zM,zH,ya,zC,zL,zP,zO,zD,zZ,zY,yq,↓reduceIte,Nat.reduceMul,Nat.reduceAdd,Nat.reduceSub,Nat.reduceEqDiff,Nat.reduceBEq,Nat.reduceLeDiff,Nat.reduceLT,reduceCtorEq,Int.reduceAdd,Int.reduceSub,Int.reduceToNat,Int.reduceNeg,Int.reduceEq,Int.reduceLT,Int.reduceLE]
def Yv (E:En) (L:(List TFile)→(List TAct)→Int→Option (List TFile×Int)):Prop:=E.Γ.mu 15=false∧(∀ (a0_Files:List TFile) (a1:List TAct) (a2:Int),E.Γ 15 [.agg [.d (zb cFile a0_Files)],.d (zb cAct a1),.d (.int .i64 a2)]=(L a0_Files a1 a2).bind fun r=>some (.ret (.tup [.agg [.d (zb (cFile) r.1)],.d (.int .i64 r.2)]) []))
def c_impl_isDigit:Cd:=
 sq (r [0] [o 2 .mv [b false]])
 (sq (r [2] [o 3 .mv [t 0],o 4 (.bin .leq) [.k (.d (.int .u8 48)),t 3],o 5 .mv [t 4],g 5 true 6 .mv [t 0],g 5 true 7 (.bin .leq) [t 6,.k (.d (.int .u8 57))],o 8 .pick [t 5,t 7,b false],o 2 .mv [t 8]])
  (.ret))
def tS:List RV:=[.tmp 2]
def tG (N:Nat) (a0:Int):Option (Bool):=
 if 48 ≤ a0 then some (Decidable.decide (a0 ≤ 57))
 else some false
theorem db (E:En) (hy:Hy E [] [] [] tS none (fun y=>nocap y) zi) (a0:Int):G E c_impl_isDigit [] ⟨zk [(0,.d (.int .u8 a0))],zw []⟩=(tG E.n a0).bind fun r=>some (.ret (.d (.bool r)) []):=by
 simp (config:={maxSteps:=40000000}) only [↓yw,zX,yv,yy,rI,rS,rB,r8,rLI,yr,yz,hy.p,hy.l,hy.k,hy.r,hy.d,hy.w,hy.f,zi,oid,tS,↓zj _ _ c_impl_isDigit.eq_1,zu,tG,yb,zF,yu,zQ,zE,zN,z6,z7,zG,zM,zH,ya,zC,zL,zP,zO,zD,zZ,zY,yq,↓reduceIte,Nat.reduceMul,Nat.reduceAdd,Nat.reduceSub,Nat.reduceEqDiff,Nat.reduceBEq,Nat.reduceLeDiff,Nat.reduceLT,reduceCtorEq,Int.reduceAdd,Int.reduceSub,Int.reduceToNat,Int.reduceNeg,Int.reduceEq,Int.reduceLT,Int.reduceLE]
def lY (E:En) (L:Int→Option (Bool)):Prop:=E.Γ.mu 122=false∧(∀ (a0:Int),E.Γ 122 [.d (.int .u8 a0)]=(L a0).bind fun r=>some (.ret (.d (.bool r)) []))
def c_impl_isLetter:Cd:=
 sq (r [0] [o 2 .mv [b false]])
 (sq (r [2] [o 3 .mv [t 0],o 4 (.bin .leq) [.k (.d (.int .u8 97)),t 3],o 5 .mv [t 4],g 5 true 6 .mv [t 0],g 5 true 7 (.bin .leq) [t 6,.k (.d (.int .u8 122))],o 8 .pick [t 5,t 7,b false],o 9 .mv [t 8],g 9 false 10 .mv [t 0],g 9 false 11 (.bin .leq) [.k (.d (.int .u8 65)),t 10],g 9 false 12 .mv [t 11],g 12 true 13 .mv [t 0],g 12 true 14 (.bin .leq) [t 13,.k (.d (.int .u8 90))],g 9 false 15 .pick [t 12,t 14,b false],o 16 .pick [t 9,b true,t 15],o 2 .mv [t 16]])
  (.ret))
def uT:List RV:=[.tmp 2]
def uO (N:Nat) (a0:Int):Option (Bool):=
 if 97 ≤ a0 then (if a0 ≤ 122 then some true
  else (if 65 ≤ a0 then some (Decidable.decide (a0 ≤ 90))
   else some false))
 else (if 65 ≤ a0 then some (Decidable.decide (a0 ≤ 90))
  else some false)
theorem ey (E:En) (hy:Hy E [] [] [] uT none (fun y=>nocap y) zi) (a0:Int):G E c_impl_isLetter [] ⟨zk [(0,.d (.int .u8 a0))],zw []⟩=(uO E.n a0).bind fun r=>some (.ret (.d (.bool r)) []):=by
 simp (config:={maxSteps:=40000000}) only [↓yw,zX,yv,yy,rI,rS,rB,r8,rLI,yr,yz,hy.p,hy.l,hy.k,hy.r,hy.d,hy.w,hy.f,zi,oid,uT,↓zj _ _ c_impl_isLetter.eq_1,zu,uO,yb,zF,yu,zQ,zE,zN,z6,z7,zG,zM,zH,ya,zC,zL,zP,zO,zD,zZ,zY,yq,↓reduceIte,Nat.reduceMul,Nat.reduceAdd,Nat.reduceSub,Nat.reduceEqDiff,Nat.reduceBEq,Nat.reduceLeDiff,Nat.reduceLT,reduceCtorEq,Int.reduceAdd,Int.reduceSub,Int.reduceToNat,Int.reduceNeg,Int.reduceEq,Int.reduceLT,Int.reduceLE]
def lh (E:En) (L:Int→Option (Bool)):Prop:=E.Γ.mu 123=false∧(∀ (a0:Int),E.Γ 123 [.d (.int .u8 a0)]=(L a0).bind fun r=>some (.ret (.d (.bool r)) []))
def b0_impl_fileNameOk:Cd:=
 sq (r [0,13,14,15] [o 15 (.bin .lss) [t 14,t 13]])
 (sq (.cond (t 15) (.skip) (.exit 0))
  (sq (.block 1 (sq (r [0,3,13,14] [o 16 .mv [t 14],o 3 .mv [t 16]])
    (sq (r [0,13,14,40] [o 17 .mv [t 0],o 18 .mv [t 3],o 19 .ixs [t 17,t 18],o 20 (.call 122) [t 19],o 21 .not [t 20],o 22 .mv [t 21],g 22 true 23 .mv [t 0],g 22 true 24 .mv [t 3],g 22 true 25 .ixs [t 23,t 24],g 22 true 26 (.call 123) [t 25],g 22 true 27 .not [t 26],o 28 .pick [t 22,t 27,b false],o 29 .mv [t 28],g 29 true 30 .mv [t 0],g 29 true 31 .mv [t 3],g 29 true 32 .ixs [t 30,t 31],g 29 true 33 (.bin .neq) [t 32,.k (.d (.int .u8 46))],o 34 .pick [t 29,t 33,b false],o 35 .mv [t 34],g 35 true 36 .mv [t 0],g 35 true 37 .mv [t 3],g 35 true 38 .ixs [t 36,t 37],g 35 true 39 (.bin .neq) [t 38,.k (.d (.int .u8 95))],o 40 .pick [t 35,t 39,b false]])
     (.cond (t 40) (sq (r [2] [o 2 .mv [b false]])
       (.ret)) (.skip)))))
   (r [0,13,14] [o 41 (.bin .add) [t 14,i 1],o 14 .mv [t 41]])))
def k1_impl_fileNameOk:Cd:=
 sq (r [2] [o 2 .mv [b true]])
 (.ret)
def c_impl_fileNameOk:Cd:=
 sq (r [0] [o 2 .mv [b false]])
 (sq (sq (r [0,11] [o 4 .mv [t 0],o 5 (.len true) [t 4],o 6 (.bin .lss) [t 5,i 1],o 7 .mv [t 6],g 7 false 8 .mv [t 0],g 7 false 9 (.len true) [t 8],g 7 false 10 (.bin .gtr) [t 9,i 40],o 11 .pick [t 7,b true,t 10]])
   (.cond (t 11) (sq (r [2] [o 2 .mv [b false]])
     (.ret)) (.skip)))
  (sq (sq (r [0,13,14] [o 12 .mv [t 0],o 13 (.len true) [t 12],o 14 .mv [i 0]])
    (.block 0 (.loop [0,13,14] b0_impl_fileNameOk))) k1_impl_fileNameOk))
def xL:List RV:=[.tmp 2]
def yR (yN:Int→Option (Bool)) (yE:Int→Option (Bool)):Nat→(List UInt8)→Int→Int→Option (Bool)
 | 0,_,_,_=>none
 | m0+1,x0,x13,x14=>
   if x14 < x13 then ((nB x0 x14).bind fun y0=>
    (yN y0).bind fun y1=>
    if y1=false then ((nB x0 x14).bind fun y2=>
     (yE y2).bind fun y3=>
     if y3=false then ((nB x0 x14).bind fun y4=>
      if y4=46 then yR yN yE m0 x0 x13 (w64 (x14+1))
      else ((nB x0 x14).bind fun y5=>
       if y5=95 then yR yN yE m0 x0 x13 (w64 (x14+1))
       else some false))
     else yR yN yE m0 x0 x13 (w64 (x14+1)))
    else yR yN yE m0 x0 x13 (w64 (x14+1)))
   else some true
def vI (yN:Int→Option (Bool)) (yE:Int→Option (Bool)) (N:Nat) (a0:List UInt8):Option (Bool):=
 if (↑(List.length a0):Int) < 1 then some false
 else (if 40 < (↑(List.length a0):Int) then some false
  else yR yN yE N a0 ((↑(List.length a0):Int)) 0)
theorem lU (E:En) (hy:Hy E [] [] [] xL none (fun y=>nocap y) zi) (yN:Int→Option (Bool)) (h_impl_isDigit:lY E yN) (yE:Int→Option (Bool)) (h_impl_isLetter:lh E yE):∀ (m0:Nat) (x0:List UInt8) (x13:Int) (x14:Int),gH E [0,13,14] b0_impl_fileNameOk [KJ.b 0,KJ.c k1_impl_fileNameOk] m0 ⟨zk [(0,.d (sD x0)),(13,.d (.int .i64 x13)),(14,.d (.int .i64 x14))],zw []⟩=(yR yN yE m0 x0 x13 x14).bind fun r=>some (.ret (.d (.bool r)) []):=by
 intro m0
 induction m0 with
 | zero=>intros; rfl
 | succ m0 ih=>
   intros
   simp (config:={maxSteps:=40000000}) only [↓yw,zX,yv,yy,rI,rS,rB,r8,rLI,yr,yz,hy.p,hy.l,hy.k,hy.r,hy.d,hy.w,hy.f,zi,oid,xL,↓zj _ _ b0_impl_fileNameOk.eq_1,↓zj _ _ k1_impl_fileNameOk.eq_1,↓zj _ _ c_impl_fileNameOk.eq_1,h_impl_isDigit.2,h_impl_isDigit.1,h_impl_isLetter.2,h_impl_isLetter.1,xF,ih,zu,yR,yb,zF,yu,zQ,zE,zN,z6,z7,zG,zM,zH,ya,zC,zL,zP,zO,zD,zZ,zY,yq,↓reduceIte,Nat.reduceMul,Nat.reduceAdd,Nat.reduceSub,Nat.reduceEqDiff,Nat.reduceBEq,Nat.reduceLeDiff,Nat.reduceLT,reduceCtorEq,Int.reduceAdd,Int.reduceSub,Int.reduceToNat,Int.reduceNeg,Int.reduceEq,Int.reduceLT,Int.reduceLE]
theorem iM (E:En) (hy:Hy E [] [] [] xL none (fun y=>nocap y) zi) (yN:Int→Option (Bool)) (h_impl_isDigit:lY E yN) (yE:Int→Option (Bool)) (h_impl_isLetter:lh E yE) (a0:List UInt8):G E c_impl_fileNameOk [] ⟨zk [(0,.d (sD a0))],zw []⟩=(vI yN yE E.n a0).bind fun r=>some (.ret (.d (.bool r)) []):=by
 simp (config:={maxSteps:=40000000}) only [↓yw,zX,yv,yy,rI,rS,rB,r8,rLI,yr,yz,hy.p,hy.l,hy.k,hy.r,hy.d,hy.w,hy.f,zi,oid,xL,↓zj _ _ b0_impl_fileNameOk.eq_1,↓zj _ _ k1_impl_fileNameOk.eq_1,↓zj _ _ c_impl_fileNameOk.eq_1,h_impl_isDigit.2,h_impl_isDigit.1,h_impl_isLetter.2,h_impl_isLetter.1,zu,vI,lU E hy yN h_impl_isDigit yE h_impl_isLetter,yb,zF,yu,zQ,zE,zN,z6,z7,zG,zM,zH,ya,zC,zL,zP,zO,zD,zZ,zY,yq,↓reduceIte,Nat.reduceMul,Nat.reduceAdd,Nat.reduceSub,Nat.reduceEqDiff,Nat.reduceBEq,Nat.reduceLeDiff,Nat.reduceLT,reduceCtorEq,Int.reduceAdd,Int.reduceSub,Int.reduceToNat,Int.reduceNeg,Int.reduceEq,Int.reduceLT,Int.reduceLE]
def pc (E:En) (L:(List UInt8)→Option (Bool)):Prop:=E.Γ.mu 101=false∧(∀ (a0:List UInt8),E.Γ 101 [.d (sD a0)]=(L a0).bind fun r=>some (.ret (.d (.bool r)) []))
def b0_impl_DiskOk:Cd:=
 sq (r [1,10,11,12,13] [o 13 (.bin .lss) [t 12,t 11]])
 (sq (.cond (t 13) (.skip) (.exit 0))
  (sq (.block 1 (sq (r [1,3,4,10,11,12] [o 14 .mv [t 12],o 15 (.ia 2) [t 10,t 12],o 16 (.ld (some 2)) [t 15],o 4 (.alloc [(.d (sD [])),(.d (sD []))]) [],o 3 .mv [t 14],e (.st 2) [t 4,t 16]])
    (sq (rd [] [1,10,11,12,42] [o 17 (.fa 0) [t 4],o 18 (.ld none) [t 17],o 19 (.call 101) [t 18],o 20 .not [t 19],o 21 .mv [t 20],g 21 false 22 (.fa 1) [t 4],g 21 false 23 (.ld none) [t 22],g 21 false 24 (.len true) [t 23],g 21 false 25 (.bin .gtr) [t 24,i 100000],o 26 .pick [t 21,b true,t 25],o 27 .mv [t 26],g 27 false 28 .mv [t 3],g 27 false 29 (.bin .gtr) [t 28,i 0],g 27 false 30 .mv [t 29],g 30 true 31 (.fa 0) [t 1],g 30 true 32 (.ld none) [t 31],g 30 true 33 .mv [t 3],g 30 true 34 (.bin .sub) [t 33,i 1],g 30 true 35 (.ia 2) [t 32,t 34],g 30 true 36 (.fa 0) [t 35],g 30 true 37 (.ld none) [t 36],g 30 true 38 (.fa 0) [t 4],g 30 true 39 (.ld none) [t 38],g 30 true 40 (.bin .geq) [t 37,t 39],g 27 false 41 .pick [t 30,t 40,b false],o 42 .pick [t 27,b true,t 41]])
     (.cond (t 42) (sq (r [2] [o 2 .mv [b false]])
       (.ret)) (.skip)))))
   (r [1,10,11,12] [o 43 (.bin .add) [t 12,i 1],o 12 .mv [t 43]])))
def k1_impl_DiskOk:Cd:=
 sq (r [2] [o 2 .mv [b true]])
 (.ret)
def c_impl_DiskOk:Cd:=
 sq (r [1] [o 1 .box [t 0],o 2 .mv [b false]])
 (sq (sq (r [1,8] [o 5 (.fa 0) [t 1],o 6 (.ld none) [t 5],o 7 (.len false) [t 6],o 8 (.bin .gtr) [t 7,i 400]])
   (.cond (t 8) (sq (r [2] [o 2 .mv [b false]])
     (.ret)) (.skip)))
  (sq (sq (r [1,10,11,12] [o 9 (.fa 0) [t 1],o 10 (.ld none) [t 9],o 11 (.len false) [t 10],o 12 .mv [i 0]])
    (.block 0 (.loop [1,10,11,12] b0_impl_DiskOk))) k1_impl_DiskOk))
def vE:List RV:=[.tmp 2]
def wi (zS:(List UInt8)→Option (Bool)):Nat→(List TFile)→Int→Int→(List TFile)→Option (Bool)
 | 0,_,_,_,_=>none
 | m0+1,x10,x11,x12,o64_0=>
   if x12 < x11 then ((idx x10 x12).bind fun y0=>
    (zS y0.Name).bind fun y1=>
    if y1=false then some false
    else (if 100000 < (↑(List.length y0.Data):Int) then some false
     else (if 0 < x12 then ((idx o64_0 (w64 (x12 - 1))).bind fun y2=>
      if wL y2.Name y0.Name=false then some false
      else wi zS m0 x10 x11 (w64 (x12+1)) o64_0)
      else wi zS m0 x10 x11 (w64 (x12+1)) o64_0)))
   else some true
def sv (zS:(List UInt8)→Option (Bool)) (N:Nat) (a0_Files:List TFile):Option (Bool):=
 if 400 < (↑(List.length a0_Files):Int) then some false
 else wi zS N a0_Files ((↑(List.length a0_Files):Int)) 0 a0_Files
theorem iU (E:En) (hy:Hy E [] [] [] vE none (fun y=>nocap y) zi) (zS:(List UInt8)→Option (Bool)) (h_impl_fileNameOk:pc E zS):∀ (m0:Nat) (x10:List TFile) (x11:Int) (x12:Int) (o64_0:List TFile),gH E [1,10,11,12] b0_impl_DiskOk [KJ.b 0,KJ.c k1_impl_DiskOk] m0 ⟨zk [(1,A.adr 64 1 0),(10,.d (zb (cFile) x10)),(11,.d (.int .i64 x11)),(12,.d (.int .i64 x12))],zw [(64,⟨1,.box [.d (zb (cFile) o64_0)],false⟩)]⟩=(wi zS m0 x10 x11 x12 o64_0).bind fun r=>some (.ret (.d (.bool r)) []):=by
 intro m0
 induction m0 with
 | zero=>intros; rfl
 | succ m0 ih=>
   intros
   simp (config:={maxSteps:=40000000}) only [↓yw,zX,yv,yy,rI,rS,rB,r8,rLI,yr,yz,hy.p,hy.l,hy.k,hy.r,hy.d,hy.w,hy.f,zi,oid,vE,↓zj _ _ b0_impl_DiskOk.eq_1,↓zj _ _ k1_impl_DiskOk.eq_1,↓zj _ _ c_impl_DiskOk.eq_1,h_impl_fileNameOk.2,h_impl_fileNameOk.1,xF,ih,zu,wi,yb,zF,yu,zQ,zE,zN,z6,z7,zG,zM,zH,ya,zC,zL,zP,zO,zD,zZ,zY,yq,↓reduceIte,Nat.reduceMul,Nat.reduceAdd,Nat.reduceSub,Nat.reduceEqDiff,Nat.reduceBEq,Nat.reduceLeDiff,Nat.reduceLT,reduceCtorEq,Int.reduceAdd,Int.reduceSub,Int.reduceToNat,Int.reduceNeg,Int.reduceEq,Int.reduceLT,Int.reduceLE]
theorem bI (E:En) (hy:Hy E [] [] [] vE none (fun y=>nocap y) zi) (zS:(List UInt8)→Option (Bool)) (h_impl_fileNameOk:pc E zS) (a0_Files:List TFile):G E c_impl_DiskOk [] ⟨zk [(0,.agg [.d (zb cFile a0_Files)])],zw []⟩=(sv zS E.n a0_Files).bind fun r=>some (.ret (.d (.bool r)) []):=by
 simp (config:={maxSteps:=40000000}) only [↓yw,zX,yv,yy,rI,rS,rB,r8,rLI,yr,yz,hy.p,hy.l,hy.k,hy.r,hy.d,hy.w,hy.f,zi,oid,vE,↓zj _ _ b0_impl_DiskOk.eq_1,↓zj _ _ k1_impl_DiskOk.eq_1,↓zj _ _ c_impl_DiskOk.eq_1,h_impl_fileNameOk.2,h_impl_fileNameOk.1,zu,sv,iU E hy zS h_impl_fileNameOk,yb,zF,yu,zQ,zE,zN,z6,z7,zG,zM,zH,ya,zC,zL,zP,zO,zD,zZ,zY,yq,↓reduceIte,Nat.reduceMul,Nat.reduceAdd,Nat.reduceSub,Nat.reduceEqDiff,Nat.reduceBEq,Nat.reduceLeDiff,Nat.reduceLT,reduceCtorEq,Int.reduceAdd,Int.reduceSub,Int.reduceToNat,Int.reduceNeg,Int.reduceEq,Int.reduceLT,Int.reduceLE]
def NW (E:En) (L:(List TFile)→Option (Bool)):Prop:=E.Γ.mu 59=false∧(∀ (a0_Files:List TFile),E.Γ 59 [.agg [.d (zb cFile a0_Files)]]=(L a0_Files).bind fun r=>some (.ret (.d (.bool r)) []))
def c_slices_Clone___impl_File_impl_File_:Cd:=
 sq (r [0] [o 2 .mv [n]])
 (sq (sq (r [0,4] [o 3 .mv [t 0],o 4 (.snil false) [t 3]])
   (.cond (t 4) (sq (r [2] [o 2 .mv [n]])
     (.ret)) (.skip)))
  (sq (r [2] [o 5 (lit 136 2 0) [],o 6 .mv [t 0],o 7 (.app 136 2 32) [t 5,t 6],o 2 .mv [t 7]])
   (.ret)))
def zJ:List RV:=[.tmp 2]
def yB (N:Nat) (a0:List TFile):Option (List TFile):=
 if ub 32 (List.length a0) then some a0
 else none
theorem rx (E:En) (hy:Hy E [] [] [] zJ none (fun y=>nocap (oS (.own 136 2) y)) zi) (a0:List TFile):G E c_slices_Clone___impl_File_impl_File_ [] ⟨zk [(0,.d (kj cFile a0))],zw []⟩=(yB E.n a0).bind fun r=>some (.ret (ye (cFile) 136 none false r) []):=by
 simp (config:={maxSteps:=40000000}) only [↓yw,zX,yv,yy,rI,rS,rB,r8,rLI,yr,yz,hy.p,hy.l,hy.k,hy.r,hy.d,hy.w,hy.f,zi,oid,zJ,↓zj _ _ c_slices_Clone___impl_File_impl_File_.eq_1,zu,yB,yb,zF,yu,zQ,zE,zN,z6,z7,zG,zM,zH,ya,zC,zL,zP,zO,zD,zZ,zY,yq,↓reduceIte,Nat.reduceMul,Nat.reduceAdd,Nat.reduceSub,Nat.reduceEqDiff,Nat.reduceBEq,Nat.reduceLeDiff,Nat.reduceLT,reduceCtorEq,Int.reduceAdd,Int.reduceSub,Int.reduceToNat,Int.reduceNeg,Int.reduceEq,Int.reduceLT,Int.reduceLE]
def yU (N:Nat):Option (List TFile):=
 some []
theorem rz (E:En) (hy:Hy E [] [] [] zJ none (fun y=>nocap (oS (.own 136 2) y)) zi):G E c_slices_Clone___impl_File_impl_File_ [] ⟨zk [(0,.nil)],zw []⟩=(yU E.n).bind fun r=>some (.ret (ye (cFile) 136 none false r) []):=by
 simp (config:={maxSteps:=40000000}) only [↓yw,zX,yv,yy,rI,rS,rB,r8,rLI,yr,yz,hy.p,hy.l,hy.k,hy.r,hy.d,hy.w,hy.f,zi,oid,zJ,↓zj _ _ c_slices_Clone___impl_File_impl_File_.eq_1,zu,yU,yb,zF,yu,zQ,zE,zN,z6,z7,zG,zM,zH,ya,zC,zL,zP,zO,zD,zZ,zY,yq,↓reduceIte,Nat.reduceMul,Nat.reduceAdd,Nat.reduceSub,Nat.reduceEqDiff,Nat.reduceBEq,Nat.reduceLeDiff,Nat.reduceLT,reduceCtorEq,Int.reduceAdd,Int.reduceSub,Int.reduceToNat,Int.reduceNeg,Int.reduceEq,Int.reduceLT,Int.reduceLE]
def rX (E:En) (L:(List TFile)→Option (List TFile)):Prop:=E.Γ.mu 102=false∧(∀ (a0:List TFile),E.Γ 102 [.d (zb cFile a0)]=(L a0).bind fun r=>some (.ret (ye (cFile) 136 none false r) []))
def c_impl_copied:Cd:=
 sq (r [1,2] [o 1 .box [t 0],o 2 (.alloc [.nil]) []])
 (sq (r [2] [o 3 (.fa 0) [t 1],o 4 (.ld none) [t 3],o 5 (.call 102) [t 4],o 6 (.bld [.nil] [(0,1)]) [t 5],e (.st 1) [t 2,t 6]])
  (.ret))
def sQ:List RV:=[.cell 2 (some 1)]
def sr (yY:(List TFile)→Option (List TFile)) (N:Nat) (a0_Files:List TFile):Option (List TFile):=
 (yY a0_Files).bind fun y0=>
 some y0
theorem bK (E:En) (hy:Hy E [] [] [] sQ none (fun y=>nocap y) zi) (yY:(List TFile)→Option (List TFile)) (h_slices_Clone___impl_File_impl_File_:rX E yY) (a0_Files:List TFile):G E c_impl_copied [] ⟨zk [(0,.agg [.d (zb cFile a0_Files)])],zw []⟩=(sr yY E.n a0_Files).bind fun r=>some (.ret (.agg [ye (cFile) 136 none false r]) []):=by
 simp (config:={maxSteps:=40000000}) only [↓yw,zX,yv,yy,rI,rS,rB,r8,rLI,yr,yz,hy.p,hy.l,hy.k,hy.r,hy.d,hy.w,hy.f,zi,oid,sQ,↓zj _ _ c_impl_copied.eq_1,h_slices_Clone___impl_File_impl_File_.2,h_slices_Clone___impl_File_impl_File_.1,zu,sr,yb,zF,yu,zQ,zE,zN,z6,z7,zG,zM,zH,ya,zC,zL,zP,zO,zD,zZ,zY,yq,↓reduceIte,Nat.reduceMul,Nat.reduceAdd,Nat.reduceSub,Nat.reduceEqDiff,Nat.reduceBEq,Nat.reduceLeDiff,Nat.reduceLT,reduceCtorEq,Int.reduceAdd,Int.reduceSub,Int.reduceToNat,Int.reduceNeg,Int.reduceEq,Int.reduceLT,Int.reduceLE]
def NX (E:En) (L:(List TFile)→Option (List TFile)):Prop:=E.Γ.mu 60=false∧(∀ (a0_Files:List TFile),E.Γ 60 [.agg [.d (zb cFile a0_Files)]]=(L a0_Files).bind fun r=>some (.ret (.agg [ye (cFile) 136 none false r]) []))
def c_impl_actOk:Cd:=
 sq (r [1] [o 1 .box [t 0],o 2 .mv [b false]])
 (sq (sq (r [1,26] [o 3 (.fa 0) [t 1],o 4 (.ld none) [t 3],o 5 (.bin .lss) [t 4,i 1],o 6 .mv [t 5],g 6 false 7 (.fa 0) [t 1],g 6 false 8 (.ld none) [t 7],g 6 false 9 (.bin .gtr) [t 8,i 4],o 10 .pick [t 6,b true,t 9],o 11 .mv [t 10],g 11 false 12 (.fa 1) [t 1],g 11 false 13 (.ld none) [t 12],g 11 false 14 (.call 101) [t 13],g 11 false 15 .not [t 14],o 16 .pick [t 11,b true,t 15],o 17 .mv [t 16],g 17 false 18 (.fa 3) [t 1],g 17 false 19 (.ld none) [t 18],g 17 false 20 (.bin .neq) [t 19,s []],g 17 false 21 .mv [t 20],g 21 true 22 (.fa 0) [t 1],g 21 true 23 (.ld none) [t 22],g 21 true 24 (.bin .neq) [t 23,i 2],g 17 false 25 .pick [t 21,t 24,b false],o 26 .pick [t 17,b true,t 25]])
   (.cond (t 26) (sq (r [2] [o 2 .mv [b false]])
     (.ret)) (.skip)))
  (sq (r [2] [o 27 (.fa 0) [t 1],o 28 (.ld none) [t 27],o 29 (.bin .eql) [t 28,i 3],o 30 .mv [t 29],g 30 true 31 (.fa 2) [t 1],g 30 true 32 (.ld none) [t 31],g 30 true 33 (.call 101) [t 32],o 34 .pick [t 30,t 33,b false],o 35 .mv [t 34],g 35 false 36 (.fa 0) [t 1],g 35 false 37 (.ld none) [t 36],g 35 false 38 (.bin .neq) [t 37,i 3],g 35 false 39 .mv [t 38],g 39 true 40 (.fa 2) [t 1],g 39 true 41 (.ld none) [t 40],g 39 true 42 (.bin .eql) [t 41,s []],g 35 false 43 .pick [t 39,t 42,b false],o 44 .pick [t 35,b true,t 43],o 2 .mv [t 44]])
   (.ret)))
def qj:List RV:=[.tmp 2]
def qv (zS:(List UInt8)→Option (Bool)) (N:Nat) (zl:Int) (zf:List UInt8) (zx:List UInt8) (zg:List UInt8):Option (Bool):=
 if zl < 1 then some false
 else (if 4 < zl then some false
  else ((zS zf).bind fun y0=>
   if y0=false then some false
   else (if zg=[] then (if zl=3 then ((zS zx).bind fun y1=>
     if y1=true then some true
     else (if zl=3 then some false
      else some (Decidable.decide (zx=[]))))
    else (if zl=3 then some false
     else some (Decidable.decide (zx=[]))))
    else (if zl=2 then (if zl=3 then ((zS zx).bind fun y2=>
      if y2=true then some true
      else (if zl=3 then some false
       else some (Decidable.decide (zx=[]))))
     else (if zl=3 then some false
      else some (Decidable.decide (zx=[]))))
     else some false))))
theorem ar (E:En) (hy:Hy E [] [] [] qj none (fun y=>nocap y) zi) (zS:(List UInt8)→Option (Bool)) (h_impl_fileNameOk:pc E zS) (zl:Int) (zf:List UInt8) (zx:List UInt8) (zg:List UInt8):G E c_impl_actOk [] ⟨zk [(0,.agg [.d (.int .i64 zl),.d (sD zf),.d (sD zx),.d (sD zg)])],zw []⟩=(qv zS E.n zl zf zx zg).bind fun r=>some (.ret (.d (.bool r)) []):=by
 simp (config:={maxSteps:=40000000}) only [↓yw,zX,yv,yy,rI,rS,rB,r8,rLI,yr,yz,hy.p,hy.l,hy.k,hy.r,hy.d,hy.w,hy.f,zi,oid,qj,↓zj _ _ c_impl_actOk.eq_1,h_impl_fileNameOk.2,h_impl_fileNameOk.1,zu,qv,yb,zF,yu,zQ,zE,zN,z6,z7,zG,zM,zH,ya,zC,zL,zP,zO,zD,zZ,zY,yq,↓reduceIte,Nat.reduceMul,Nat.reduceAdd,Nat.reduceSub,Nat.reduceEqDiff,Nat.reduceBEq,Nat.reduceLeDiff,Nat.reduceLT,reduceCtorEq,Int.reduceAdd,Int.reduceSub,Int.reduceToNat,Int.reduceNeg,Int.reduceEq,Int.reduceLT,Int.reduceLE]
def LR (E:En) (L:Int→(List UInt8)→(List UInt8)→(List UInt8)→Option (Bool)):Prop:=E.Γ.mu 106=false∧(∀ (zl:Int) (zf:List UInt8) (zx:List UInt8) (zg:List UInt8),E.Γ 106 [.agg [.d (.int .i64 zl),.d (sD zf),.d (sD zx),.d (sD zg)]]=(L zl zf zx zg).bind fun r=>some (.ret (.d (.bool r)) []))
def Yk (E:En) (L:(List TFile)→(List TAct)→Int→Option (List TFile×Int)):Prop:=E.Γ.mu 18=false∧(∀ (a0_Files:List TFile) (a1:List TAct) (a2:Int),E.Γ 18 [.agg [.d (zb cFile a0_Files)],.d (zb cAct a1),.d (.int .i64 a2)]=(L a0_Files a1 a2).bind fun r=>some (.ret (.tup [.agg [ye (cFile) 136 none false r.1],.d (.int .i64 r.2)]) []))
def c_laws_eqFile:Cd:=
 sq (r [2,3] [o 2 .box [t 0],o 3 .box [t 1],o 4 .mv [b false]])
 (sq (sq (r [2,3,9] [o 5 (.fa 0) [t 2],o 6 (.ld none) [t 5],o 7 (.fa 0) [t 3],o 8 (.ld none) [t 7],o 9 (.bin .neq) [t 6,t 8]])
   (.cond (t 9) (sq (r [4] [o 4 .mv [b false]])
     (.ret)) (.skip)))
  (sq (sq (r [14] [o 10 (.fa 1) [t 2],o 11 (.ld none) [t 10],o 12 (.fa 1) [t 3],o 13 (.ld none) [t 12],o 14 (.bin .neq) [t 11,t 13]])
    (.cond (t 14) (sq (r [4] [o 4 .mv [b false]])
      (.ret)) (.skip)))
   (sq (r [4] [o 4 .mv [b true]])
    (.ret))))
def ri:List RV:=[.tmp 4]
def s5 (N:Nat) (zf:List UInt8) (zg:List UInt8) (zq:List UInt8) (zr:List UInt8):Option (Bool):=
 if zf=zq then (if zg=zr then some true
  else some false)
 else some false
theorem bb (E:En) (hy:Hy E [] [] [] ri none (fun y=>nocap y) zi) (zf:List UInt8) (zg:List UInt8) (zq:List UInt8) (zr:List UInt8):G E c_laws_eqFile [] ⟨zk [(0,.agg [.d (sD zf),.d (sD zg)]),(1,.agg [.d (sD zq),.d (sD zr)])],zw []⟩=(s5 E.n zf zg zq zr).bind fun r=>some (.ret (.d (.bool r)) []):=by
 simp (config:={maxSteps:=40000000}) only [↓yw,zX,yv,yy,rI,rS,rB,r8,rLI,yr,yz,hy.p,hy.l,hy.k,hy.r,hy.d,hy.w,hy.f,zi,oid,ri,↓zj _ _ c_laws_eqFile.eq_1,zu,s5,yb,zF,yu,zQ,zE,zN,z6,z7,zG,zM,zH,ya,zC,zL,zP,zO,zD,zZ,zY,yq,↓reduceIte,Nat.reduceMul,Nat.reduceAdd,Nat.reduceSub,Nat.reduceEqDiff,Nat.reduceBEq,Nat.reduceLeDiff,Nat.reduceLT,reduceCtorEq,Int.reduceAdd,Int.reduceSub,Int.reduceToNat,Int.reduceNeg,Int.reduceEq,Int.reduceLT,Int.reduceLE]
def k8 (E:En) (L:(List UInt8)→(List UInt8)→(List UInt8)→(List UInt8)→Option (Bool)):Prop:=E.Γ.mu 111=false∧(∀ (zf:List UInt8) (zg:List UInt8) (zq:List UInt8) (zr:List UInt8),E.Γ 111 [.agg [.d (sD zf),.d (sD zg)],.agg [.d (sD zq),.d (sD zr)]]=(L zf zg zq zr).bind fun r=>some (.ret (.d (.bool r)) []))
def b0_laws_eqFileS:Cd:=
 sq (sq (r [0,1,5,14] [o 11 .mv [t 5],o 12 .mv [t 0],o 13 (.len false) [t 12],o 14 (.bin .lss) [t 11,t 13]])
  (.cond (t 14) (.skip) (.exit 0)))
 (sq (.block 1 (sq (rd [] [0,1,5,26] [o 17 .mv [t 0],o 18 .mv [t 5],o 19 (.ia 2) [t 17,t 18],o 20 (.ld (some 2)) [t 19],o 21 .mv [t 1],o 22 .mv [t 5],o 23 (.ia 2) [t 21,t 22],o 24 (.ld (some 2)) [t 23],o 25 (.call 111) [t 20,t 24],o 26 .not [t 25]])
   (.cond (t 26) (sq (r [4] [o 4 .mv [b false]])
     (.ret)) (.skip))))
  (r [0,1,5] [o 15 .mv [t 5],o 16 (.bin .add) [t 15,i 1],o 5 .mv [t 16]]))
def k1_laws_eqFileS:Cd:=
 sq (r [4] [o 4 .mv [b true]])
 (.ret)
def c_laws_eqFileS:Cd:=
 sq (r [0,1] [o 4 .mv [b false]])
 (sq (sq (r [0,1,10] [o 6 .mv [t 0],o 7 (.len false) [t 6],o 8 .mv [t 1],o 9 (.len false) [t 8],o 10 (.bin .neq) [t 7,t 9]])
   (.cond (t 10) (sq (r [4] [o 4 .mv [b false]])
     (.ret)) (.skip)))
  (sq (sq (r [0,1,5] [o 5 .mv [i 0]])
    (.block 0 (.loop [0,1,5] b0_laws_eqFileS))) k1_laws_eqFileS))
def wS:List RV:=[.tmp 4]
def wB (xh:(List UInt8)→(List UInt8)→(List UInt8)→(List UInt8)→Option (Bool)):Nat→(List TFile)→(List TFile)→Int→Option (Bool)
 | 0,_,_,_=>none
 | m0+1,x0,x1,x5=>
   if x5 < (↑(List.length x0):Int) then ((idx x0 x5).bind fun y0=>
    (idx x1 x5).bind fun y1=>
    (xh y0.Name y0.Data y1.Name y1.Data).bind fun y2=>
    if y2=false then some false
    else wB xh m0 x0 x1 (w64 (x5+1)))
   else some true
def tF (xh:(List UInt8)→(List UInt8)→(List UInt8)→(List UInt8)→Option (Bool)) (N:Nat) (a0:List TFile) (a1:List TFile):Option (Bool):=
 if (↑(List.length a0):Int)=(↑(List.length a1):Int) then wB xh N a0 a1 0
 else some false
theorem io (E:En) (hy:Hy E [] [] [] wS none (fun y=>nocap y) zi) (xh:(List UInt8)→(List UInt8)→(List UInt8)→(List UInt8)→Option (Bool)) (h_laws_eqFile:k8 E xh):∀ (m0:Nat) (x0:List TFile) (x1:List TFile) (x5:Int),gH E [0,1,5] b0_laws_eqFileS [KJ.b 0,KJ.c k1_laws_eqFileS] m0 ⟨zk [(0,.d (zb (cFile) x0)),(1,.d (zb (cFile) x1)),(5,.d (.int .i64 x5))],zw []⟩=(wB xh m0 x0 x1 x5).bind fun r=>some (.ret (.d (.bool r)) []):=by
 intro m0
 induction m0 with
 | zero=>intros; rfl
 | succ m0 ih=>
   intros
   simp (config:={maxSteps:=40000000}) only [↓yw,zX,yv,yy,rI,rS,rB,r8,rLI,yr,yz,hy.p,hy.l,hy.k,hy.r,hy.d,hy.w,hy.f,zi,oid,wS,↓zj _ _ b0_laws_eqFileS.eq_1,↓zj _ _ k1_laws_eqFileS.eq_1,↓zj _ _ c_laws_eqFileS.eq_1,h_laws_eqFile.2,h_laws_eqFile.1,xF,ih,zu,wB,yb,zF,yu,zQ,zE,zN,z6,z7,zG,zM,zH,ya,zC,zL,zP,zO,zD,zZ,zY,yq,↓reduceIte,Nat.reduceMul,Nat.reduceAdd,Nat.reduceSub,Nat.reduceEqDiff,Nat.reduceBEq,Nat.reduceLeDiff,Nat.reduceLT,reduceCtorEq,Int.reduceAdd,Int.reduceSub,Int.reduceToNat,Int.reduceNeg,Int.reduceEq,Int.reduceLT,Int.reduceLE]
theorem di (E:En) (hy:Hy E [] [] [] wS none (fun y=>nocap y) zi) (xh:(List UInt8)→(List UInt8)→(List UInt8)→(List UInt8)→Option (Bool)) (h_laws_eqFile:k8 E xh) (a0:List TFile) (a1:List TFile):G E c_laws_eqFileS [] ⟨zk [(0,.d (zb cFile a0)),(1,.d (zb cFile a1))],zw []⟩=(tF xh E.n a0 a1).bind fun r=>some (.ret (.d (.bool r)) []):=by
 simp (config:={maxSteps:=40000000}) only [↓yw,zX,yv,yy,rI,rS,rB,r8,rLI,yr,yz,hy.p,hy.l,hy.k,hy.r,hy.d,hy.w,hy.f,zi,oid,wS,↓zj _ _ b0_laws_eqFileS.eq_1,↓zj _ _ k1_laws_eqFileS.eq_1,↓zj _ _ c_laws_eqFileS.eq_1,h_laws_eqFile.2,h_laws_eqFile.1,zu,tF,io E hy xh h_laws_eqFile,yb,zF,yu,zQ,zE,zN,z6,z7,zG,zM,zH,ya,zC,zL,zP,zO,zD,zZ,zY,yq,↓reduceIte,Nat.reduceMul,Nat.reduceAdd,Nat.reduceSub,Nat.reduceEqDiff,Nat.reduceBEq,Nat.reduceLeDiff,Nat.reduceLT,reduceCtorEq,Int.reduceAdd,Int.reduceSub,Int.reduceToNat,Int.reduceNeg,Int.reduceEq,Int.reduceLT,Int.reduceLE]
def dz (E:En) (L:(List TFile)→(List TFile)→Option (Bool)):Prop:=E.Γ.mu 64=false∧(∀ (a0:List TFile) (a1:List TFile),E.Γ 64 [.d (zb cFile a0),.d (zb cFile a1)]=(L a0 a1).bind fun r=>some (.ret (.d (.bool r)) []))
def c_laws_eqDisk:Cd:=
 sq (r [2,3] [o 2 .box [t 0],o 3 .box [t 1],o 4 .mv [b false]])
 (sq (sq (r [10] [o 5 (.fa 0) [t 2],o 6 (.ld none) [t 5],o 7 (.fa 0) [t 3],o 8 (.ld none) [t 7],o 9 (.call 64) [t 6,t 8],o 10 .not [t 9]])
   (.cond (t 10) (sq (r [4] [o 4 .mv [b false]])
     (.ret)) (.skip)))
  (sq (r [4] [o 4 .mv [b true]])
   (.ret)))
def s7:List RV:=[.tmp 4]
def sM (qM:(List TFile)→(List TFile)→Option (Bool)) (N:Nat) (a0_Files:List TFile) (xO:List TFile):Option (Bool):=
 (qM a0_Files xO).bind fun y0=>
 if y0=false then some false
 else some true
theorem cY (E:En) (hy:Hy E [] [] [] s7 none (fun y=>nocap y) zi) (qM:(List TFile)→(List TFile)→Option (Bool)) (h_laws_eqFileS:dz E qM) (a0_Files:List TFile) (xO:List TFile):G E c_laws_eqDisk [] ⟨zk [(0,.agg [.d (zb cFile a0_Files)]),(1,.agg [.d (zb cFile xO)])],zw []⟩=(sM qM E.n a0_Files xO).bind fun r=>some (.ret (.d (.bool r)) []):=by
 simp (config:={maxSteps:=40000000}) only [↓yw,zX,yv,yy,rI,rS,rB,r8,rLI,yr,yz,hy.p,hy.l,hy.k,hy.r,hy.d,hy.w,hy.f,zi,oid,s7,↓zj _ _ c_laws_eqDisk.eq_1,h_laws_eqFileS.2,h_laws_eqFileS.1,zu,sM,yb,zF,yu,zQ,zE,zN,z6,z7,zG,zM,zH,ya,zC,zL,zP,zO,zD,zZ,zY,yq,↓reduceIte,Nat.reduceMul,Nat.reduceAdd,Nat.reduceSub,Nat.reduceEqDiff,Nat.reduceBEq,Nat.reduceLeDiff,Nat.reduceLT,reduceCtorEq,Int.reduceAdd,Int.reduceSub,Int.reduceToNat,Int.reduceNeg,Int.reduceEq,Int.reduceLT,Int.reduceLE]
def bH (E:En) (L:(List TFile)→(List TFile)→Option (Bool)):Prop:=E.Γ.mu 19=false∧(∀ (a0_Files:List TFile) (xO:List TFile),E.Γ 19 [.agg [.d (zb cFile a0_Files)],.agg [.d (zb cFile xO)]]=(L a0_Files xO).bind fun r=>some (.ret (.d (.bool r)) []))
def c_laws_eqAct:Cd:=
 sq (r [2,3] [o 2 .box [t 0],o 3 .box [t 1],o 4 .mv [b false]])
 (sq (sq (r [2,3,9] [o 5 (.fa 0) [t 2],o 6 (.ld none) [t 5],o 7 (.fa 0) [t 3],o 8 (.ld none) [t 7],o 9 (.bin .neq) [t 6,t 8]])
   (.cond (t 9) (sq (r [4] [o 4 .mv [b false]])
     (.ret)) (.skip)))
  (sq (sq (r [2,3,14] [o 10 (.fa 1) [t 2],o 11 (.ld none) [t 10],o 12 (.fa 1) [t 3],o 13 (.ld none) [t 12],o 14 (.bin .neq) [t 11,t 13]])
    (.cond (t 14) (sq (r [4] [o 4 .mv [b false]])
      (.ret)) (.skip)))
   (sq (sq (r [2,3,19] [o 15 (.fa 2) [t 2],o 16 (.ld none) [t 15],o 17 (.fa 2) [t 3],o 18 (.ld none) [t 17],o 19 (.bin .neq) [t 16,t 18]])
     (.cond (t 19) (sq (r [4] [o 4 .mv [b false]])
       (.ret)) (.skip)))
    (sq (sq (r [24] [o 20 (.fa 3) [t 2],o 21 (.ld none) [t 20],o 22 (.fa 3) [t 3],o 23 (.ld none) [t 22],o 24 (.bin .neq) [t 21,t 23]])
      (.cond (t 24) (sq (r [4] [o 4 .mv [b false]])
        (.ret)) (.skip)))
     (sq (r [4] [o 4 .mv [b true]])
      (.ret))))))
def qw:List RV:=[.tmp 4]
def qa (N:Nat) (zl:Int) (zf:List UInt8) (zx:List UInt8) (zg:List UInt8) (zW:Int) (zq:List UInt8) (yM:List UInt8) (zr:List UInt8):Option (Bool):=
 if zl=zW then (if zf=zq then (if zx=yM then (if zg=zr then some true
    else some false)
  else some false)
  else some false)
 else some false
theorem ax (E:En) (hy:Hy E [] [] [] qw none (fun y=>nocap y) zi) (zl:Int) (zf:List UInt8) (zx:List UInt8) (zg:List UInt8) (zW:Int) (zq:List UInt8) (yM:List UInt8) (zr:List UInt8):G E c_laws_eqAct [] ⟨zk [(0,.agg [.d (.int .i64 zl),.d (sD zf),.d (sD zx),.d (sD zg)]),(1,.agg [.d (.int .i64 zW),.d (sD zq),.d (sD yM),.d (sD zr)])],zw []⟩=(qa E.n zl zf zx zg zW zq yM zr).bind fun r=>some (.ret (.d (.bool r)) []):=by
 simp (config:={maxSteps:=40000000}) only [↓yw,zX,yv,yy,rI,rS,rB,r8,rLI,yr,yz,hy.p,hy.l,hy.k,hy.r,hy.d,hy.w,hy.f,zi,oid,qw,↓zj _ _ c_laws_eqAct.eq_1,zu,qa,yb,zF,yu,zQ,zE,zN,z6,z7,zG,zM,zH,ya,zC,zL,zP,zO,zD,zZ,zY,yq,↓reduceIte,Nat.reduceMul,Nat.reduceAdd,Nat.reduceSub,Nat.reduceEqDiff,Nat.reduceBEq,Nat.reduceLeDiff,Nat.reduceLT,reduceCtorEq,Int.reduceAdd,Int.reduceSub,Int.reduceToNat,Int.reduceNeg,Int.reduceEq,Int.reduceLT,Int.reduceLE]
def il (E:En) (L:Int→(List UInt8)→(List UInt8)→(List UInt8)→Int→(List UInt8)→(List UInt8)→(List UInt8)→Option (Bool)):Prop:=E.Γ.mu 65=false∧(∀ (zl:Int) (zf:List UInt8) (zx:List UInt8) (zg:List UInt8) (zW:Int) (zq:List UInt8) (yM:List UInt8) (zr:List UInt8),E.Γ 65 [.agg [.d (.int .i64 zl),.d (sD zf),.d (sD zx),.d (sD zg)],.agg [.d (.int .i64 zW),.d (sD zq),.d (sD yM),.d (sD zr)]]=(L zl zf zx zg zW zq yM zr).bind fun r=>some (.ret (.d (.bool r)) []))
def b0_laws_eqActS:Cd:=
 sq (sq (r [0,1,5,14] [o 11 .mv [t 5],o 12 .mv [t 0],o 13 (.len false) [t 12],o 14 (.bin .lss) [t 11,t 13]])
  (.cond (t 14) (.skip) (.exit 0)))
 (sq (.block 1 (sq (rd [] [0,1,5,26] [o 17 .mv [t 0],o 18 .mv [t 5],o 19 (.ia 4) [t 17,t 18],o 20 (.ld (some 4)) [t 19],o 21 .mv [t 1],o 22 .mv [t 5],o 23 (.ia 4) [t 21,t 22],o 24 (.ld (some 4)) [t 23],o 25 (.call 65) [t 20,t 24],o 26 .not [t 25]])
   (.cond (t 26) (sq (r [4] [o 4 .mv [b false]])
     (.ret)) (.skip))))
  (r [0,1,5] [o 15 .mv [t 5],o 16 (.bin .add) [t 15,i 1],o 5 .mv [t 16]]))
def k1_laws_eqActS:Cd:=
 sq (r [4] [o 4 .mv [b true]])
 (.ret)
def c_laws_eqActS:Cd:=
 sq (r [0,1] [o 4 .mv [b false]])
 (sq (sq (r [0,1,10] [o 6 .mv [t 0],o 7 (.len false) [t 6],o 8 .mv [t 1],o 9 (.len false) [t 8],o 10 (.bin .neq) [t 7,t 9]])
   (.cond (t 10) (sq (r [4] [o 4 .mv [b false]])
     (.ret)) (.skip)))
  (sq (sq (r [0,1,5] [o 5 .mv [i 0]])
    (.block 0 (.loop [0,1,5] b0_laws_eqActS))) k1_laws_eqActS))
def vv:List RV:=[.tmp 4]
def wX (xy:Int→(List UInt8)→(List UInt8)→(List UInt8)→Int→(List UInt8)→(List UInt8)→(List UInt8)→Option (Bool)):Nat→(List TAct)→(List TAct)→Int→Option (Bool)
 | 0,_,_,_=>none
 | m0+1,x0,x1,x5=>
   if x5 < (↑(List.length x0):Int) then ((idx x0 x5).bind fun y0=>
    (idx x1 x5).bind fun y1=>
    (xy y0.Kind y0.Name y0.To y0.Data y1.Kind y1.Name y1.To y1.Data).bind fun y2=>
    if y2=false then some false
    else wX xy m0 x0 x1 (w64 (x5+1)))
   else some true
def re (xy:Int→(List UInt8)→(List UInt8)→(List UInt8)→Int→(List UInt8)→(List UInt8)→(List UInt8)→Option (Bool)) (N:Nat) (a0:List TAct) (a1:List TAct):Option (Bool):=
 if (↑(List.length a0):Int)=(↑(List.length a1):Int) then wX xy N a0 a1 0
 else some false
theorem iN (E:En) (hy:Hy E [] [] [] vv none (fun y=>nocap y) zi) (xy:Int→(List UInt8)→(List UInt8)→(List UInt8)→Int→(List UInt8)→(List UInt8)→(List UInt8)→Option (Bool)) (h_laws_eqAct:il E xy):∀ (m0:Nat) (x0:List TAct) (x1:List TAct) (x5:Int),gH E [0,1,5] b0_laws_eqActS [KJ.b 0,KJ.c k1_laws_eqActS] m0 ⟨zk [(0,.d (zb (cAct) x0)),(1,.d (zb (cAct) x1)),(5,.d (.int .i64 x5))],zw []⟩=(wX xy m0 x0 x1 x5).bind fun r=>some (.ret (.d (.bool r)) []):=by
 intro m0
 induction m0 with
 | zero=>intros; rfl
 | succ m0 ih=>
   intros
   simp (config:={maxSteps:=40000000}) only [↓yw,zX,yv,yy,rI,rS,rB,r8,rLI,yr,yz,hy.p,hy.l,hy.k,hy.r,hy.d,hy.w,hy.f,zi,oid,vv,↓zj _ _ b0_laws_eqActS.eq_1,↓zj _ _ k1_laws_eqActS.eq_1,↓zj _ _ c_laws_eqActS.eq_1,h_laws_eqAct.2,h_laws_eqAct.1,xF,ih,zu,wX,yb,zF,yu,zQ,zE,zN,z6,z7,zG,zM,zH,ya,zC,zL,zP,zO,zD,zZ,zY,yq,↓reduceIte,Nat.reduceMul,Nat.reduceAdd,Nat.reduceSub,Nat.reduceEqDiff,Nat.reduceBEq,Nat.reduceLeDiff,Nat.reduceLT,reduceCtorEq,Int.reduceAdd,Int.reduceSub,Int.reduceToNat,Int.reduceNeg,Int.reduceEq,Int.reduceLT,Int.reduceLE]
theorem bA (E:En) (hy:Hy E [] [] [] vv none (fun y=>nocap y) zi) (xy:Int→(List UInt8)→(List UInt8)→(List UInt8)→Int→(List UInt8)→(List UInt8)→(List UInt8)→Option (Bool)) (h_laws_eqAct:il E xy) (a0:List TAct) (a1:List TAct):G E c_laws_eqActS [] ⟨zk [(0,.d (zb cAct a0)),(1,.d (zb cAct a1))],zw []⟩=(re xy E.n a0 a1).bind fun r=>some (.ret (.d (.bool r)) []):=by
 simp (config:={maxSteps:=40000000}) only [↓yw,zX,yv,yy,rI,rS,rB,r8,rLI,yr,yz,hy.p,hy.l,hy.k,hy.r,hy.d,hy.w,hy.f,zi,oid,vv,↓zj _ _ b0_laws_eqActS.eq_1,↓zj _ _ k1_laws_eqActS.eq_1,↓zj _ _ c_laws_eqActS.eq_1,h_laws_eqAct.2,h_laws_eqAct.1,zu,re,iN E hy xy h_laws_eqAct,yb,zF,yu,zQ,zE,zN,z6,z7,zG,zM,zH,ya,zC,zL,zP,zO,zD,zZ,zY,yq,↓reduceIte,Nat.reduceMul,Nat.reduceAdd,Nat.reduceSub,Nat.reduceEqDiff,Nat.reduceBEq,Nat.reduceLeDiff,Nat.reduceLT,reduceCtorEq,Int.reduceAdd,Int.reduceSub,Int.reduceToNat,Int.reduceNeg,Int.reduceEq,Int.reduceLT,Int.reduceLE]
def bi (E:En) (L:(List TAct)→(List TAct)→Option (Bool)):Prop:=E.Γ.mu 20=false∧(∀ (a0:List TAct) (a1:List TAct),E.Γ 20 [.d (zb cAct a0),.d (zb cAct a1)]=(L a0 a1).bind fun r=>some (.ret (.d (.bool r)) []))
def b0_laws_markText:Cd:=
 sq (sq (r [0,3,7] [o 6 .mv [t 0],o 7 (.bin .gtr) [t 6,i 0]])
  (.cond (t 7) (.skip) (.exit 0)))
 (.block 1 (sq (r [0,3] [o 8 .mv [t 0],o 9 (.bin .rem) [t 8,i 10],o 10 (.bin .add) [i 48,t 9],o 11 (.cvt .u8) [t 10],o 12 (lit 5 1 1) [t 11],o 13 .b2s [t 12],o 14 .mv [t 3],o 15 (.bin .add) [t 13,t 14],o 3 .mv [t 15]])
   (r [0,3] [o 16 .mv [t 0],o 17 (.bin .quo) [t 16,i 10],o 0 .mv [t 17]])))
def k1_laws_markText:Cd:=
 sq (r [2] [o 18 .mv [t 3],o 19 (.bin .add) [s [109],t 18],o 2 .mv [t 19]])
 (.ret)
def c_laws_markText:Cd:=
 sq (r [0] [o 2 .mv [s []]])
 (sq (sq (r [0,5] [o 4 .mv [t 0],o 5 (.bin .leq) [t 4,i 0]])
   (.cond (t 5) (sq (r [2] [o 2 .mv [s [109,48]]])
     (.ret)) (.skip)))
  (sq (r [0,3] [o 3 .mv [s []]])
   (sq (.block 0 (.loop [0,3] b0_laws_markText)) k1_laws_markText)))
def wz:List RV:=[.tmp 2]
def xZ:Nat→Int→(List UInt8)→Option (List UInt8)
 | 0,_,_=>none
 | m0+1,x0,x3=>
   if 0 < x0 then (if ou (List.length (oq [Go.IntKind.wrap .u8 (w64 (48+Int.tmod x0 10))]++x3)) then xZ m0 (w64 (Int.tdiv x0 10)) (oq [Go.IntKind.wrap .u8 (w64 (48+Int.tmod x0 10))]++x3)
    else none)
   else (if ou (List.length x3+1) then some (109 :: x3)
    else none)
def u2 (N:Nat) (a0:Int):Option (List UInt8):=
 if a0 ≤ 0 then some ([109,48])
 else xZ N a0 []
theorem jr (E:En) (hy:Hy E [] [] [] wz none (fun y=>nocap y) zi):∀ (m0:Nat) (x0:Int) (x3:List UInt8),gH E [0,3] b0_laws_markText [KJ.b 0,KJ.c k1_laws_markText] m0 ⟨zk [(0,.d (.int .i64 x0)),(3,.d (sD x3))],zw []⟩=(xZ m0 x0 x3).bind fun r=>some (.ret (.d (sD r)) []):=by
 intro m0
 induction m0 with
 | zero=>intros; rfl
 | succ m0 ih=>
   intros
   simp (config:={maxSteps:=40000000}) only [↓yw,zX,yv,yy,rI,rS,rB,r8,rLI,yr,yz,hy.p,hy.l,hy.k,hy.r,hy.d,hy.w,hy.f,zi,oid,wz,↓zj _ _ b0_laws_markText.eq_1,↓zj _ _ k1_laws_markText.eq_1,↓zj _ _ c_laws_markText.eq_1,xF,ih,zu,xZ,yb,zF,yu,zQ,zE,zN,z6,z7,zG,zM,zH,ya,zC,zL,zP,zO,zD,zZ,zY,yq,↓reduceIte,Nat.reduceMul,Nat.reduceAdd,Nat.reduceSub,Nat.reduceEqDiff,Nat.reduceBEq,Nat.reduceLeDiff,Nat.reduceLT,reduceCtorEq,Int.reduceAdd,Int.reduceSub,Int.reduceToNat,Int.reduceNeg,Int.reduceEq,Int.reduceLT,Int.reduceLE]
theorem eb (E:En) (hy:Hy E [] [] [] wz none (fun y=>nocap y) zi) (a0:Int):G E c_laws_markText [] ⟨zk [(0,.d (.int .i64 a0))],zw []⟩=(u2 E.n a0).bind fun r=>some (.ret (.d (sD r)) []):=by
 simp (config:={maxSteps:=40000000}) only [↓yw,zX,yv,yy,rI,rS,rB,r8,rLI,yr,yz,hy.p,hy.l,hy.k,hy.r,hy.d,hy.w,hy.f,zi,oid,wz,↓zj _ _ b0_laws_markText.eq_1,↓zj _ _ k1_laws_markText.eq_1,↓zj _ _ c_laws_markText.eq_1,zu,u2,jr E hy,yb,zF,yu,zQ,zE,zN,z6,z7,zG,zM,zH,ya,zC,zL,zP,zO,zD,zZ,zY,yq,↓reduceIte,Nat.reduceMul,Nat.reduceAdd,Nat.reduceSub,Nat.reduceEqDiff,Nat.reduceBEq,Nat.reduceLeDiff,Nat.reduceLT,reduceCtorEq,Int.reduceAdd,Int.reduceSub,Int.reduceToNat,Int.reduceNeg,Int.reduceEq,Int.reduceLT,Int.reduceLE]
def vq (E:En) (L:Int→Option (List UInt8)):Prop:=E.Γ.mu 67=false∧(∀ (a0:Int),E.Γ 67 [.d (.int .i64 a0)]=(L a0).bind fun r=>some (.ret (.d (sD r)) []))
def b0_laws_markFileS:Cd:=
 sq (sq (r [0,1,5,9] [o 6 .mv [t 5],o 7 .mv [t 0],o 8 (.len false) [t 7],o 9 (.bin .lss) [t 6,t 8]])
  (.cond (t 9) (.skip) (.exit 0)))
 (sq (.block 1 (sq (r [0,1,5] [o 12 .mv [t 0],o 13 .mv [t 5],o 14 .mv [t 1],o 15 (.call 67) [t 14],o 16 (.ia 2) [t 12,t 13],o 17 (.fa 0) [t 16],e (.st 1) [t 17,t 15]])
   (sq (r [0,1,5] [o 18 .mv [t 1],o 19 (.bin .add) [t 18,i 1],o 1 .mv [t 19]])
    (sq (r [0,1,5] [o 20 .mv [t 0],o 21 .mv [t 5],o 22 .mv [t 1],o 23 (.call 67) [t 22],o 24 (.ia 2) [t 20,t 21],o 25 (.fa 1) [t 24],e (.st 1) [t 25,t 23]])
     (r [0,1,5] [o 26 .mv [t 1],o 27 (.bin .add) [t 26,i 1],o 1 .mv [t 27]])))))
  (r [0,1,5] [o 10 .mv [t 5],o 11 (.bin .add) [t 10,i 1],o 5 .mv [t 11]]))
def k1_laws_markFileS:Cd:=
 sq (r [4] [o 28 .mv [t 1],o 4 .mv [t 28]])
 (.ret)
def c_laws_markFileS:Cd:=
 sq (r [0,1] [o 4 .mv [i 0]])
 (sq (sq (r [0,1,5] [o 5 .mv [i 0]])
   (.block 0 (.loop [0,1,5] b0_laws_markFileS))) k1_laws_markFileS)
def wc:List RV:=[.tmp 4]
def xK (zm:Int→Option (List UInt8)):Nat→Int→Int→(List TFile)→Option (Int×List TFile)
 | 0,_,_,_=>none
 | m0+1,x1,x5,o0=>
   if x5 < (↑(List.length o0):Int) then ((zm x1).bind fun y0=>
    if 0 ≤ x5∧x5 < (↑(List.length o0):Int) then ((o0[Int.toNat x5]?).bind fun y1=>
     (zm (w64 (x1+1))).bind fun y2=>
     if 0 ≤ x5∧x5 < (↑(List.length (List.set o0 (Int.toNat x5) { Name:=y0,Data:=y1.Data })):Int) then (((List.set o0 (Int.toNat x5) { Name:=y0,Data:=y1.Data })[Int.toNat x5]?).bind fun y3=>
      xK zm m0 (w64 (w64 (x1+1)+1)) (w64 (x5+1)) (List.set (List.set o0 (Int.toNat x5) { Name:=y0,Data:=y1.Data }) (Int.toNat x5) { Name:=y3.Name,Data:=y2 }))
     else none)
    else none)
   else some ((x1,o0))
def uj (zm:Int→Option (List UInt8)) (N:Nat) (a0:List TFile) (a1:Int):Option (Int×List TFile):=
 xK zm N a1 0 a0
theorem kK (E:En) (hy:Hy E [0] [0] [(0,.row 136 2)] wc none (fun y=>nocap y) zi) (zm:Int→Option (List UInt8)) (h_laws_markText:vq E zm):∀ (m0:Nat) (x1:Int) (x5:Int) (o0:List TFile),gH E [0,1,5] b0_laws_markFileS [KJ.b 0,KJ.c k1_laws_markFileS] m0 ⟨zk [(0,A.row 0 1),(1,.d (.int .i64 x1)),(5,.d (.int .i64 x5))],zw [(0,⟨1,yl (cFile) 136 none o0,false⟩)]⟩=(xK zm m0 x1 x5 o0).bind fun r=>some (.ret (.d (.int .i64 r.1)) [[zb (cFile) r.2]]):=by
 intro m0
 induction m0 with
 | zero=>intros; rfl
 | succ m0 ih=>
   intros
   simp (config:={maxSteps:=40000000}) only [↓yw,zX,yv,yy,rI,rS,rB,r8,rLI,yr,yz,hy.p,hy.l,hy.k,hy.r,hy.d,hy.w,hy.f,zi,oid,wc,↓zj _ _ b0_laws_markFileS.eq_1,↓zj _ _ k1_laws_markFileS.eq_1,↓zj _ _ c_laws_markFileS.eq_1,h_laws_markText.2,h_laws_markText.1,xF,ih,zu,xK,yb,zF,yu,zQ,zE,zN,z6,z7,zG,zM,zH,ya,zC,zL,zP,zO,zD,zZ,zY,yq,↓reduceIte,Nat.reduceMul,Nat.reduceAdd,Nat.reduceSub,Nat.reduceEqDiff,Nat.reduceBEq,Nat.reduceLeDiff,Nat.reduceLT,reduceCtorEq,Int.reduceAdd,Int.reduceSub,Int.reduceToNat,Int.reduceNeg,Int.reduceEq,Int.reduceLT,Int.reduceLE]
theorem gN (E:En) (hy:Hy E [0] [0] [(0,.row 136 2)] wc none (fun y=>nocap y) zi) (zm:Int→Option (List UInt8)) (h_laws_markText:vq E zm) (a0:List TFile) (a1:Int):G E c_laws_markFileS [] ⟨zk [(0,.row 0 1),(1,.d (.int .i64 a1))],zw [(0,⟨1,yl cFile 136 none a0,false⟩)]⟩=(uj zm E.n a0 a1).bind fun r=>some (.ret (.d (.int .i64 r.1)) [[zb (cFile) r.2]]):=by
 simp (config:={maxSteps:=40000000}) only [↓yw,zX,yv,yy,rI,rS,rB,r8,rLI,yr,yz,hy.p,hy.l,hy.k,hy.r,hy.d,hy.w,hy.f,zi,oid,wc,↓zj _ _ b0_laws_markFileS.eq_1,↓zj _ _ k1_laws_markFileS.eq_1,↓zj _ _ c_laws_markFileS.eq_1,h_laws_markText.2,h_laws_markText.1,zu,uj,kK E hy zm h_laws_markText,yb,zF,yu,zQ,zE,zN,z6,z7,zG,zM,zH,ya,zC,zL,zP,zO,zD,zZ,zY,yq,↓reduceIte,Nat.reduceMul,Nat.reduceAdd,Nat.reduceSub,Nat.reduceEqDiff,Nat.reduceBEq,Nat.reduceLeDiff,Nat.reduceLT,reduceCtorEq,Int.reduceAdd,Int.reduceSub,Int.reduceToNat,Int.reduceNeg,Int.reduceEq,Int.reduceLT,Int.reduceLE]
def fi (E:En) (L:(List TFile)→Int→Option (Int×List TFile)):Prop:=E.Γ.mu 66=true∧(∀ (a0:List TFile) (a1:Int),E.Γ 66 [ye cFile 136 none false a0,.d (.int .i64 a1)]=(L a0 a1).bind fun r=>some (.ret (.d (.int .i64 r.1)) [[zb (cFile) r.2]]))
def c_laws_markDisk:Cd:=
 sq (r [1,2] [o 2 .box [t 0],o 4 .mv [i 0]])
 (sq (r [1] [o 5 (.fa 0) [t 2],o 6 (.ld none) [t 5],o 7 .mv [t 1],o 8 (.call 66) [t 6,t 7],o 1 .mv [t 8]])
  (sq (r [4] [o 9 .mv [t 1],o 4 .mv [t 9]])
   (.ret)))
def u6:List RV:=[.tmp 4]
def uC (si:(List TFile)→Int→Option (Int×List TFile)) (N:Nat) (a0_Files:List TFile) (a1:Int):Option (Int×List TFile):=
 (si a0_Files a1).bind fun y0=>
 some ((y0.fst,y0.snd))
theorem eR (E:En) (hy:Hy E [0] [0] [(0,.row 136 2)] u6 none (fun y=>nocap y) zi) (si:(List TFile)→Int→Option (Int×List TFile)) (h_laws_markFileS:fi E si) (a0_Files:List TFile) (a1:Int):G E c_laws_markDisk [] ⟨zk [(0,.agg [.row 0 1]),(1,.d (.int .i64 a1))],zw [(0,⟨1,yl cFile 136 none a0_Files,false⟩)]⟩=(uC si E.n a0_Files a1).bind fun r=>some (.ret (.d (.int .i64 r.1)) [[zb (cFile) r.2]]):=by
 simp (config:={maxSteps:=40000000}) only [↓yw,zX,yv,yy,rI,rS,rB,r8,rLI,yr,yz,hy.p,hy.l,hy.k,hy.r,hy.d,hy.w,hy.f,zi,oid,u6,↓zj _ _ c_laws_markDisk.eq_1,h_laws_markFileS.2,h_laws_markFileS.1,zu,uC,yb,zF,yu,zQ,zE,zN,z6,z7,zG,zM,zH,ya,zC,zL,zP,zO,zD,zZ,zY,yq,↓reduceIte,Nat.reduceMul,Nat.reduceAdd,Nat.reduceSub,Nat.reduceEqDiff,Nat.reduceBEq,Nat.reduceLeDiff,Nat.reduceLT,reduceCtorEq,Int.reduceAdd,Int.reduceSub,Int.reduceToNat,Int.reduceNeg,Int.reduceEq,Int.reduceLT,Int.reduceLE]
def fT (E:En) (L:(List TFile)→Int→Option (Int×List TFile)):Prop:=E.Γ.mu 21=true∧(∀ (a0_Files:List TFile) (a1:Int),E.Γ 21 [.agg [ye cFile 136 none false a0_Files],.d (.int .i64 a1)]=(L a0_Files a1).bind fun r=>some (.ret (.d (.int .i64 r.1)) [[zb (cFile) r.2]]))
def b0_laws_markActS:Cd:=
 sq (sq (r [0,1,5,9] [o 6 .mv [t 5],o 7 .mv [t 0],o 8 (.len false) [t 7],o 9 (.bin .lss) [t 6,t 8]])
  (.cond (t 9) (.skip) (.exit 0)))
 (sq (.block 1 (sq (r [0,1,5] [o 12 .mv [t 0],o 13 .mv [t 5],o 14 .mv [t 1],o 15 (.ia 4) [t 12,t 13],o 16 (.fa 0) [t 15],e (.st 1) [t 16,t 14]])
   (sq (r [0,1,5] [o 17 .mv [t 1],o 18 (.bin .add) [t 17,i 1],o 1 .mv [t 18]])
    (sq (r [0,1,5] [o 19 .mv [t 0],o 20 .mv [t 5],o 21 .mv [t 1],o 22 (.call 67) [t 21],o 23 (.ia 4) [t 19,t 20],o 24 (.fa 1) [t 23],e (.st 1) [t 24,t 22]])
     (sq (r [0,1,5] [o 25 .mv [t 1],o 26 (.bin .add) [t 25,i 1],o 1 .mv [t 26]])
      (sq (r [0,1,5] [o 27 .mv [t 0],o 28 .mv [t 5],o 29 .mv [t 1],o 30 (.call 67) [t 29],o 31 (.ia 4) [t 27,t 28],o 32 (.fa 2) [t 31],e (.st 1) [t 32,t 30]])
       (sq (r [0,1,5] [o 33 .mv [t 1],o 34 (.bin .add) [t 33,i 1],o 1 .mv [t 34]])
        (sq (r [0,1,5] [o 35 .mv [t 0],o 36 .mv [t 5],o 37 .mv [t 1],o 38 (.call 67) [t 37],o 39 (.ia 4) [t 35,t 36],o 40 (.fa 3) [t 39],e (.st 1) [t 40,t 38]])
         (r [0,1,5] [o 41 .mv [t 1],o 42 (.bin .add) [t 41,i 1],o 1 .mv [t 42]])))))))))
  (r [0,1,5] [o 10 .mv [t 5],o 11 (.bin .add) [t 10,i 1],o 5 .mv [t 11]]))
def k1_laws_markActS:Cd:=
 sq (r [4] [o 43 .mv [t 1],o 4 .mv [t 43]])
 (.ret)
def c_laws_markActS:Cd:=
 sq (r [0,1] [o 4 .mv [i 0]])
 (sq (sq (r [0,1,5] [o 5 .mv [i 0]])
   (.block 0 (.loop [0,1,5] b0_laws_markActS))) k1_laws_markActS)
def wF:List RV:=[.tmp 4]
def wa (zm:Int→Option (List UInt8)):Nat→Int→Int→(List TAct)→Option (Int×List TAct)
 | 0,_,_,_=>none
 | m0+1,x1,x5,o0=>
   if x5 < (↑(List.length o0):Int) then (if 0 ≤ x5∧x5 < (↑(List.length o0):Int) then ((o0[Int.toNat x5]?).bind fun y0=>
    (zm (w64 (x1+1))).bind fun y1=>
    if 0 ≤ x5∧x5 < (↑(List.length (List.set o0 (Int.toNat x5) { Kind:=x1,Name:=y0.Name,To:=y0.To,Data:=y0.Data })):Int) then (((List.set o0 (Int.toNat x5) { Kind:=x1,Name:=y0.Name,To:=y0.To,Data:=y0.Data })[Int.toNat x5]?).bind fun y2=>
     (zm (w64 (w64 (x1+1)+1))).bind fun y3=>
     if 0 ≤ x5∧x5 < (↑(List.length (List.set (List.set o0 (Int.toNat x5) { Kind:=x1,Name:=y0.Name,To:=y0.To,Data:=y0.Data }) (Int.toNat x5) { Kind:=y2.Kind,Name:=y1,To:=y2.To,Data:=y2.Data })):Int) then (((List.set (List.set o0 (Int.toNat x5) { Kind:=x1,Name:=y0.Name,To:=y0.To,Data:=y0.Data }) (Int.toNat x5) { Kind:=y2.Kind,Name:=y1,To:=y2.To,Data:=y2.Data })[Int.toNat x5]?).bind fun y4=>
      (zm (w64 (w64 (w64 (x1+1)+1)+1))).bind fun y5=>
      if 0 ≤ x5∧x5 < (↑(List.length (List.set (List.set (List.set o0 (Int.toNat x5) { Kind:=x1,Name:=y0.Name,To:=y0.To,Data:=y0.Data }) (Int.toNat x5) { Kind:=y2.Kind,Name:=y1,To:=y2.To,Data:=y2.Data }) (Int.toNat x5) { Kind:=y4.Kind,Name:=y4.Name,To:=y3,Data:=y4.Data })):Int) then (((List.set (List.set (List.set o0 (Int.toNat x5) { Kind:=x1,Name:=y0.Name,To:=y0.To,Data:=y0.Data }) (Int.toNat x5) { Kind:=y2.Kind,Name:=y1,To:=y2.To,Data:=y2.Data }) (Int.toNat x5) { Kind:=y4.Kind,Name:=y4.Name,To:=y3,Data:=y4.Data })[Int.toNat x5]?).bind fun y6=>
       wa zm m0 (w64 (w64 (w64 (w64 (x1+1)+1)+1)+1)) (w64 (x5+1)) (List.set (List.set (List.set (List.set o0 (Int.toNat x5) { Kind:=x1,Name:=y0.Name,To:=y0.To,Data:=y0.Data }) (Int.toNat x5) { Kind:=y2.Kind,Name:=y1,To:=y2.To,Data:=y2.Data }) (Int.toNat x5) { Kind:=y4.Kind,Name:=y4.Name,To:=y3,Data:=y4.Data }) (Int.toNat x5) { Kind:=y6.Kind,Name:=y6.Name,To:=y6.To,Data:=y5 }))
      else none)
     else none)
    else none)
    else none)
   else some ((x1,o0))
def uF (zm:Int→Option (List UInt8)) (N:Nat) (a0:List TAct) (a1:Int):Option (Int×List TAct):=
 wa zm N a1 0 a0
theorem jv (E:En) (hy:Hy E [0] [0] [(0,.row 78 4)] wF none (fun y=>nocap y) zi) (zm:Int→Option (List UInt8)) (h_laws_markText:vq E zm):∀ (m0:Nat) (x1:Int) (x5:Int) (o0:List TAct),gH E [0,1,5] b0_laws_markActS [KJ.b 0,KJ.c k1_laws_markActS] m0 ⟨zk [(0,A.row 0 1),(1,.d (.int .i64 x1)),(5,.d (.int .i64 x5))],zw [(0,⟨1,yl (cAct) 78 none o0,false⟩)]⟩=(wa zm m0 x1 x5 o0).bind fun r=>some (.ret (.d (.int .i64 r.1)) [[zb (cAct) r.2]]):=by
 intro m0
 induction m0 with
 | zero=>intros; rfl
 | succ m0 ih=>
   intros
   simp (config:={maxSteps:=40000000}) only [↓yw,zX,yv,yy,rI,rS,rB,r8,rLI,yr,yz,hy.p,hy.l,hy.k,hy.r,hy.d,hy.w,hy.f,zi,oid,wF,↓zj _ _ b0_laws_markActS.eq_1,↓zj _ _ k1_laws_markActS.eq_1,↓zj _ _ c_laws_markActS.eq_1,h_laws_markText.2,h_laws_markText.1,xF,ih,zu,wa,yb,zF,yu,zQ,zE,zN,z6,z7,zG,zM,zH,ya,zC,zL,zP,zO,zD,zZ,zY,yq,↓reduceIte,Nat.reduceMul,Nat.reduceAdd,Nat.reduceSub,Nat.reduceEqDiff,Nat.reduceBEq,Nat.reduceLeDiff,Nat.reduceLT,reduceCtorEq,Int.reduceAdd,Int.reduceSub,Int.reduceToNat,Int.reduceNeg,Int.reduceEq,Int.reduceLT,Int.reduceLE]
theorem eS (E:En) (hy:Hy E [0] [0] [(0,.row 78 4)] wF none (fun y=>nocap y) zi) (zm:Int→Option (List UInt8)) (h_laws_markText:vq E zm) (a0:List TAct) (a1:Int):G E c_laws_markActS [] ⟨zk [(0,.row 0 1),(1,.d (.int .i64 a1))],zw [(0,⟨1,yl cAct 78 none a0,false⟩)]⟩=(uF zm E.n a0 a1).bind fun r=>some (.ret (.d (.int .i64 r.1)) [[zb (cAct) r.2]]):=by
 simp (config:={maxSteps:=40000000}) only [↓yw,zX,yv,yy,rI,rS,rB,r8,rLI,yr,yz,hy.p,hy.l,hy.k,hy.r,hy.d,hy.w,hy.f,zi,oid,wF,↓zj _ _ b0_laws_markActS.eq_1,↓zj _ _ k1_laws_markActS.eq_1,↓zj _ _ c_laws_markActS.eq_1,h_laws_markText.2,h_laws_markText.1,zu,uF,jv E hy zm h_laws_markText,yb,zF,yu,zQ,zE,zN,z6,z7,zG,zM,zH,ya,zC,zL,zP,zO,zD,zZ,zY,yq,↓reduceIte,Nat.reduceMul,Nat.reduceAdd,Nat.reduceSub,Nat.reduceEqDiff,Nat.reduceBEq,Nat.reduceLeDiff,Nat.reduceLT,reduceCtorEq,Int.reduceAdd,Int.reduceSub,Int.reduceToNat,Int.reduceNeg,Int.reduceEq,Int.reduceLT,Int.reduceLE]
def fO (E:En) (L:(List TAct)→Int→Option (Int×List TAct)):Prop:=E.Γ.mu 22=true∧(∀ (a0:List TAct) (a1:Int),E.Γ 22 [ye cAct 78 none false a0,.d (.int .i64 a1)]=(L a0 a1).bind fun r=>some (.ret (.d (.int .i64 r.1)) [[zb (cAct) r.2]]))
def b0_laws_heldFileS:Cd:=
 sq (sq (r [0,1,5,9] [o 6 .mv [t 5],o 7 .mv [t 0],o 8 (.len false) [t 7],o 9 (.bin .lss) [t 6,t 8]])
  (.cond (t 9) (.skip) (.exit 0)))
 (sq (.block 1 (sq (sq (rd [] [0,1,5,19] [o 12 .mv [t 0],o 13 .mv [t 5],o 14 (.ia 2) [t 12,t 13],o 15 (.fa 0) [t 14],o 16 (.ld none) [t 15],o 17 .mv [t 1],ap [] false [12,13,14,15] (o 18 (.call 67) [t 17]),o 19 (.bin .neq) [t 16,t 18]])
     (.cond (t 19) (sq (r [4] [o 4 .mv [i (-1)]])
       (.ret)) (.skip)))
   (sq (r [0,1,5] [o 20 .mv [t 1],o 21 (.bin .add) [t 20,i 1],o 1 .mv [t 21]])
    (sq (sq (rd [] [0,1,5,29] [o 22 .mv [t 0],o 23 .mv [t 5],o 24 (.ia 2) [t 22,t 23],o 25 (.fa 1) [t 24],o 26 (.ld none) [t 25],o 27 .mv [t 1],ap [] false [22,23,24,25] (o 28 (.call 67) [t 27]),o 29 (.bin .neq) [t 26,t 28]])
      (.cond (t 29) (sq (r [4] [o 4 .mv [i (-1)]])
        (.ret)) (.skip)))
     (r [0,1,5] [o 30 .mv [t 1],o 31 (.bin .add) [t 30,i 1],o 1 .mv [t 31]])))))
  (r [0,1,5] [o 10 .mv [t 5],o 11 (.bin .add) [t 10,i 1],o 5 .mv [t 11]]))
def k1_laws_heldFileS:Cd:=
 sq (r [4] [o 32 .mv [t 1],o 4 .mv [t 32]])
 (.ret)
def c_laws_heldFileS:Cd:=
 sq (r [0,1] [o 4 .mv [i 0]])
 (sq (sq (r [0,1,5] [o 5 .mv [i 0]])
   (.block 0 (.loop [0,1,5] b0_laws_heldFileS))) k1_laws_heldFileS)
def xY:List RV:=[.tmp 4]
def xM (zm:Int→Option (List UInt8)):Nat→(List TFile)→Int→Int→Option (Int)
 | 0,_,_,_=>none
 | m0+1,x0,x1,x5=>
   if x5 < (↑(List.length x0):Int) then ((idx x0 x5).bind fun y0=>
    (zm x1).bind fun y1=>
    if y0.Name=y1 then ((idx x0 x5).bind fun y2=>
     (zm (w64 (x1+1))).bind fun y3=>
     if y2.Data=y3 then xM zm m0 x0 (w64 (w64 (x1+1)+1)) (w64 (x5+1))
     else some (-1))
    else some (-1))
   else some x1
def uf (zm:Int→Option (List UInt8)) (N:Nat) (a0:List TFile) (a1:Int):Option (Int):=
 xM zm N a0 a1 0
theorem kw (E:En) (hy:Hy E [] [] [] xY none (fun y=>nocap y) zi) (zm:Int→Option (List UInt8)) (h_laws_markText:vq E zm):∀ (m0:Nat) (x0:List TFile) (x1:Int) (x5:Int),gH E [0,1,5] b0_laws_heldFileS [KJ.b 0,KJ.c k1_laws_heldFileS] m0 ⟨zk [(0,.d (zb (cFile) x0)),(1,.d (.int .i64 x1)),(5,.d (.int .i64 x5))],zw []⟩=(xM zm m0 x0 x1 x5).bind fun r=>some (.ret (.d (.int .i64 r)) []):=by
 intro m0
 induction m0 with
 | zero=>intros; rfl
 | succ m0 ih=>
   intros
   simp (config:={maxSteps:=40000000}) only [↓yw,zX,yv,yy,rI,rS,rB,r8,rLI,yr,yz,hy.p,hy.l,hy.k,hy.r,hy.d,hy.w,hy.f,zi,oid,xY,↓zj _ _ b0_laws_heldFileS.eq_1,↓zj _ _ k1_laws_heldFileS.eq_1,↓zj _ _ c_laws_heldFileS.eq_1,h_laws_markText.2,h_laws_markText.1,xF,ih,zu,xM,yb,zF,yu,zQ,zE,zN,z6,z7,zG,zM,zH,ya,zC,zL,zP,zO,zD,zZ,zY,yq,↓reduceIte,Nat.reduceMul,Nat.reduceAdd,Nat.reduceSub,Nat.reduceEqDiff,Nat.reduceBEq,Nat.reduceLeDiff,Nat.reduceLT,reduceCtorEq,Int.reduceAdd,Int.reduceSub,Int.reduceToNat,Int.reduceNeg,Int.reduceEq,Int.reduceLT,Int.reduceLE]
theorem fo (E:En) (hy:Hy E [] [] [] xY none (fun y=>nocap y) zi) (zm:Int→Option (List UInt8)) (h_laws_markText:vq E zm) (a0:List TFile) (a1:Int):G E c_laws_heldFileS [] ⟨zk [(0,.d (zb cFile a0)),(1,.d (.int .i64 a1))],zw []⟩=(uf zm E.n a0 a1).bind fun r=>some (.ret (.d (.int .i64 r)) []):=by
 simp (config:={maxSteps:=40000000}) only [↓yw,zX,yv,yy,rI,rS,rB,r8,rLI,yr,yz,hy.p,hy.l,hy.k,hy.r,hy.d,hy.w,hy.f,zi,oid,xY,↓zj _ _ b0_laws_heldFileS.eq_1,↓zj _ _ k1_laws_heldFileS.eq_1,↓zj _ _ c_laws_heldFileS.eq_1,h_laws_markText.2,h_laws_markText.1,zu,uf,kw E hy zm h_laws_markText,yb,zF,yu,zQ,zE,zN,z6,z7,zG,zM,zH,ya,zC,zL,zP,zO,zD,zZ,zY,yq,↓reduceIte,Nat.reduceMul,Nat.reduceAdd,Nat.reduceSub,Nat.reduceEqDiff,Nat.reduceBEq,Nat.reduceLeDiff,Nat.reduceLT,reduceCtorEq,Int.reduceAdd,Int.reduceSub,Int.reduceToNat,Int.reduceNeg,Int.reduceEq,Int.reduceLT,Int.reduceLE]
def fj (E:En) (L:(List TFile)→Int→Option (Int)):Prop:=E.Γ.mu 68=false∧(∀ (a0:List TFile) (a1:Int),E.Γ 68 [.d (zb cFile a0),.d (.int .i64 a1)]=(L a0 a1).bind fun r=>some (.ret (.d (.int .i64 r)) []))
def c_laws_heldDisk:Cd:=
 sq (r [1,2] [o 2 .box [t 0],o 4 .mv [i 0]])
 (sq (r [1] [o 5 (.fa 0) [t 2],o 6 (.ld none) [t 5],o 7 .mv [t 1],o 8 (.call 68) [t 6,t 7],o 1 .mv [t 8]])
  (sq (sq (r [1,10] [o 9 .mv [t 1],o 10 (.bin .lss) [t 9,i 0]])
    (.cond (t 10) (sq (r [4] [o 4 .mv [i (-1)]])
      (.ret)) (.skip)))
   (sq (r [4] [o 11 .mv [t 1],o 4 .mv [t 11]])
    (.ret))))
def uQ:List RV:=[.tmp 4]
def u4 (t6:(List TFile)→Int→Option (Int)) (N:Nat) (a0_Files:List TFile) (a1:Int):Option (Int):=
 (t6 a0_Files a1).bind fun y0=>
 if y0 < 0 then some (-1)
 else some y0
theorem ep (E:En) (hy:Hy E [] [] [] uQ none (fun y=>nocap y) zi) (t6:(List TFile)→Int→Option (Int)) (h_laws_heldFileS:fj E t6) (a0_Files:List TFile) (a1:Int):G E c_laws_heldDisk [] ⟨zk [(0,.agg [.d (zb cFile a0_Files)]),(1,.d (.int .i64 a1))],zw []⟩=(u4 t6 E.n a0_Files a1).bind fun r=>some (.ret (.d (.int .i64 r)) []):=by
 simp (config:={maxSteps:=40000000}) only [↓yw,zX,yv,yy,rI,rS,rB,r8,rLI,yr,yz,hy.p,hy.l,hy.k,hy.r,hy.d,hy.w,hy.f,zi,oid,uQ,↓zj _ _ c_laws_heldDisk.eq_1,h_laws_heldFileS.2,h_laws_heldFileS.1,zu,u4,yb,zF,yu,zQ,zE,zN,z6,z7,zG,zM,zH,ya,zC,zL,zP,zO,zD,zZ,zY,yq,↓reduceIte,Nat.reduceMul,Nat.reduceAdd,Nat.reduceSub,Nat.reduceEqDiff,Nat.reduceBEq,Nat.reduceLeDiff,Nat.reduceLT,reduceCtorEq,Int.reduceAdd,Int.reduceSub,Int.reduceToNat,Int.reduceNeg,Int.reduceEq,Int.reduceLT,Int.reduceLE]
def fS (E:En) (L:(List TFile)→Int→Option (Int)):Prop:=E.Γ.mu 23=false∧(∀ (a0_Files:List TFile) (a1:Int),E.Γ 23 [.agg [.d (zb cFile a0_Files)],.d (.int .i64 a1)]=(L a0_Files a1).bind fun r=>some (.ret (.d (.int .i64 r)) []))
def c_laws_FnExactPlay:Cd:=
 sq (r [1,2,3] [o 3 .box [t 0],o 6 .mv [b false]])
 (sq (r [1,2,3,7] [o 7 .mv [i 1048576]])
  (sq (r [1,2,3,7] [o 19 (.ld (some 1)) [t 3],o 20 .mv [t 7],o 21 (.call 13) [t 19,t 20],o 7 .mv [t 21]])
   (sq (sq (r [1,2,3,7,23] [o 22 .mv [t 7],o 23 (.bin .lss) [t 22,i 0]])
     (.cond (t 23) (sq (r [6] [o 6 .mv [b true]])
       (.ret)) (.skip)))
    (sq (r [1,2,3,7] [o 24 .mv [t 1],o 25 .mv [t 7],o 26 (.call 14) [t 24,t 25],o 7 .mv [t 26]])
     (sq (sq (r [1,2,3,28] [o 27 .mv [t 7],o 28 (.bin .lss) [t 27,i 0]])
       (.cond (t 28) (sq (r [6] [o 6 .mv [b true]])
         (.ret)) (.skip)))
      (sq (r [1,2,3,8,9] [o 30 (.ld (some 1)) [t 3],o 31 (.call 16) [t 30],o 32 .mv [t 1],o 33 (.call 17) [t 32],o 34 .mv [t 2],o 35 (.call 15) [t 31,t 33,t 34],o 29 .mv [t 35],o 36 (.ext 0) [t 29],o 37 (.ext 1) [t 29],o 8 (.alloc [.nil]) [],e (.st 1) [t 8,t 36],o 9 .mv [t 37]])
       (sq (r [1,2,3,8,9,10] [o 38 (.ld (some 1)) [t 3],o 39 (.call 16) [t 38],o 10 (.alloc [.nil]) [],e (.st 1) [t 10,t 39]])
        (sq (r [1,2,3,8,9,10,11] [o 40 .mv [t 1],o 41 (.call 17) [t 40],o 11 .mv [t 41]])
         (sq (r [1,2,3,8,9,10,11,12,13] [o 43 (.ld (some 1)) [t 10],o 44 .mv [t 11],o 45 .mv [t 2],o 46 (.call 18) [t 43,t 44,t 45],o 42 .mv [t 46],o 47 (.ext 0) [t 42],o 48 (.ext 1) [t 42],o 12 (.alloc [.nil]) [],e (.st 1) [t 12,t 47],o 13 .mv [t 48]])
          (sq (sq (r [1,2,3,8,9,10,11,12,13,57] [o 49 (.ld (some 1)) [t 12],o 50 (.ld (some 1)) [t 8],o 51 (.call 19) [t 49,t 50],o 52 .not [t 51],o 53 .mv [t 52],g 53 false 54 .mv [t 13],g 53 false 55 .mv [t 9],g 53 false 56 (.bin .neq) [t 54,t 55],o 57 .pick [t 53,b true,t 56]])
            (.cond (t 57) (sq (r [6] [o 6 .mv [b false]])
              (.ret)) (.skip)))
           (sq (sq (rd [] [1,2,3,8,9,10,11,12,13,62] [o 58 (.ld (some 1)) [t 10],o 59 (.ld (some 1)) [t 3],ap [] false [10] (o 60 (.call 16) [t 59]),o 61 (.call 19) [t 58,t 60],o 62 .not [t 61]])
             (.cond (t 62) (sq (r [6] [o 6 .mv [b false]])
               (.ret)) (.skip)))
            (sq (sq (r [1,2,3,8,9,10,11,12,13,67] [o 63 .mv [t 11],o 64 .mv [t 1],o 65 (.call 17) [t 64],o 66 (.call 20) [t 63,t 65],o 67 .not [t 66]])
              (.cond (t 67) (sq (r [6] [o 6 .mv [b false]])
                (.ret)) (.skip)))
             (sq (r [1,2,3,8,9,10,11,12,13,14] [o 14 .mv [i 1]])
              (sq (r [1,2,3,8,9,11,12,13,14] [o 68 (.ld (some 1)) [t 10],o 69 .mv [t 14],o 70 (.call 21) [t 68,t 69],o 14 .mv [t 70]])
               (sq (r [1,2,3,8,9,12,13,14] [o 71 .mv [t 11],o 72 .mv [t 14],o 73 (.call 22) [t 71,t 72],o 14 .mv [t 73]])
                (sq (sq (r [1,2,3,8,9,12,86] [o 74 .mv [t 14],o 75 (.bin .lss) [t 74,i 0],o 76 .mv [t 75],g 76 false 77 (.ld (some 1)) [t 12],g 76 false 78 (.ld (some 1)) [t 8],g 76 false 79 (.call 19) [t 77,t 78],g 76 false 80 .not [t 79],o 81 .pick [t 76,b true,t 80],o 82 .mv [t 81],g 82 false 83 .mv [t 13],g 82 false 84 .mv [t 9],g 82 false 85 (.bin .neq) [t 83,t 84],o 86 .pick [t 82,b true,t 85]])
                  (.cond (t 86) (sq (r [6] [o 6 .mv [b false]])
                    (.ret)) (.skip)))
                 (sq (r [1,2,3,8,9,12,15] [o 15 .mv [i 1]])
                  (sq (r [1,2,3,8,9,12,15] [o 87 (.ld (some 1)) [t 12],o 88 .mv [t 15],o 89 (.call 21) [t 87,t 88],o 15 .mv [t 89]])
                   (sq (r [1,2,3,8,9,12,15,16] [o 16 .mv [i 1]])
                    (sq (r [1,2,3,8,9,12,15,16] [o 90 (.ld (some 1)) [t 12],o 91 .mv [t 16],o 92 (.call 23) [t 90,t 91],o 16 .mv [t 92]])
                     (sq (sq (r [1,2,3,8,9,12,15,16,94] [o 93 .mv [t 16],o 94 (.bin .lss) [t 93,i 0]])
                       (.cond (t 94) (sq (r [6] [o 6 .mv [b false]])
                         (.ret)) (.skip)))
                      (sq (sq (r [1,2,3,8,9,12,15,97] [o 95 .mv [t 16],o 96 .mv [t 15],o 97 (.bin .neq) [t 95,t 96]])
                        (.cond (t 97) (sq (r [6] [o 6 .mv [b false]])
                          (.ret)) (.skip)))
                       (sq (r [8,9,12,15,17,18] [o 99 (.ld (some 1)) [t 3],o 100 (.call 16) [t 99],o 101 .mv [t 1],o 102 (.call 17) [t 101],o 103 .mv [t 2],o 104 (.call 18) [t 100,t 102,t 103],o 98 .mv [t 104],o 105 (.ext 0) [t 98],o 106 (.ext 1) [t 98],o 17 (.alloc [.nil]) [],e (.st 1) [t 17,t 105],o 18 .mv [t 106]])
                        (sq (sq (r [12,15,115] [o 107 (.ld (some 1)) [t 17],o 108 (.ld (some 1)) [t 8],o 109 (.call 19) [t 107,t 108],o 110 .not [t 109],o 111 .mv [t 110],g 111 false 112 .mv [t 18],g 111 false 113 .mv [t 9],g 111 false 114 (.bin .neq) [t 112,t 113],o 115 .pick [t 111,b true,t 114]])
                          (.cond (t 115) (sq (r [6] [o 6 .mv [b false]])
                            (.ret)) (.skip)))
                         (sq (r [12,15,16] [o 16 .mv [i 1]])
                          (sq (r [15,16] [o 116 (.ld (some 1)) [t 12],o 117 .mv [t 16],o 118 (.call 23) [t 116,t 117],o 16 .mv [t 118]])
                           (sq (sq (r [15,16,120] [o 119 .mv [t 16],o 120 (.bin .lss) [t 119,i 0]])
                             (.cond (t 120) (sq (r [6] [o 6 .mv [b false]])
                               (.ret)) (.skip)))
                            (sq (sq (r [123] [o 121 .mv [t 16],o 122 .mv [t 15],o 123 (.bin .neq) [t 121,t 122]])
                              (.cond (t 123) (sq (r [6] [o 6 .mv [b false]])
                                (.ret)) (.skip)))
                             (sq (r [6] [o 6 .mv [b true]])
                              (.ret))))))))))))))))))))))))))))))
def vf:List RV:=[.tmp 6]
def vd (pL:(List TFile)→Int→Option (Int)) (py:(List TAct)→Int→Option (Int)) (vC:(List TFile)→Option (List TFile)) (vF:(List TAct)→Option (List TAct)) (oZ:(List TFile)→(List TAct)→Int→Option (List TFile×Int)) (pi:(List TFile)→(List TAct)→Int→Option (List TFile×Int)) (vD:(List TFile)→(List TFile)→Option (Bool)) (pJ:(List TAct)→(List TAct)→Option (Bool)) (u9:(List TFile)→Int→Option (Int×List TFile)) (rL:(List TAct)→Int→Option (Int×List TAct)) (uU:(List TFile)→Int→Option (Int)) (N:Nat) (a0_Files:List TFile) (a1:List TAct) (a2:Int):Option (Bool):=
 (pL a0_Files 1048576).bind fun y0=>
 if y0 < 0 then some true
 else ((py a1 y0).bind fun y1=>
  if y1 < 0 then some true
  else ((vC a0_Files).bind fun y2=>
   (vF a1).bind fun y3=>
   (oZ y2 y3 a2).bind fun y4=>
   (vC a0_Files).bind fun y5=>
   (vF a1).bind fun y6=>
   (pi y5 y6 a2).bind fun y7=>
   (vD y7.fst y4.fst).bind fun y8=>
   if y8=false then some false
   else (if y7.snd=y4.snd then ((vC a0_Files).bind fun y9=>
    (vD y5 y9).bind fun y10=>
    if y10=false then some false
    else ((vF a1).bind fun y11=>
     (pJ y6 y11).bind fun y12=>
     if y12=false then some false
     else ((u9 y5 1).bind fun y13=>
      (rL y6 y13.fst).bind fun y14=>
      if y14.fst < 0 then some false
      else ((vD y7.fst y4.fst).bind fun y15=>
       if y15=false then some false
       else (if y7.snd=y4.snd then ((u9 y7.fst 1).bind fun y16=>
        (uU y16.snd 1).bind fun y17=>
        if y17 < 0 then some false
        else (if y17=y16.fst then ((vC a0_Files).bind fun y18=>
         (vF a1).bind fun y19=>
         (pi y18 y19 a2).bind fun y20=>
         (vD y20.fst y4.fst).bind fun y21=>
         if y21=false then some false
         else (if y20.snd=y4.snd then ((uU y16.snd 1).bind fun y22=>
          if y22 < 0 then some false
          else (if y22=y16.fst then some true
           else some false))
          else some false))
         else some false))
        else some false)))))
    else some false)))
theorem jy (E:En) (hy:Hy E [] [] [] vf none (fun y=>nocap y) zi) (pL:(List TFile)→Int→Option (Int)) (h_laws_szDisk:cV E pL) (py:(List TAct)→Int→Option (Int)) (h_laws_szActS:ba E py) (vC:(List TFile)→Option (List TFile)) (h_laws_toDisk:bJ E vC) (vF:(List TAct)→Option (List TAct)) (h_laws_toActS:bz E vF) (oZ:(List TFile)→(List TAct)→Int→Option (List TFile×Int)) (h_spec_Play:Yv E oZ) (pi:(List TFile)→(List TAct)→Int→Option (List TFile×Int)) (h_impl_Play:Yk E pi) (vD:(List TFile)→(List TFile)→Option (Bool)) (h_laws_eqDisk:bH E vD) (pJ:(List TAct)→(List TAct)→Option (Bool)) (h_laws_eqActS:bi E pJ) (u9:(List TFile)→Int→Option (Int×List TFile)) (h_laws_markDisk:fT E u9) (rL:(List TAct)→Int→Option (Int×List TAct)) (h_laws_markActS:fO E rL) (uU:(List TFile)→Int→Option (Int)) (h_laws_heldDisk:fS E uU) (a0_Files:List TFile) (a1:List TAct) (a2:Int):G E c_laws_FnExactPlay [] ⟨zk [(0,.agg [.d (zb cFile a0_Files)]),(1,.d (zb cAct a1)),(2,.d (.int .i64 a2))],zw []⟩=(vd pL py vC vF oZ pi vD pJ u9 rL uU E.n a0_Files a1 a2).bind fun r=>some (.ret (.d (.bool r)) []):=by
 simp (config:={maxSteps:=40000000}) only [↓yw,zX,yv,yy,rI,rS,rB,r8,rLI,yr,yz,hy.p,hy.l,hy.k,hy.r,hy.d,hy.w,hy.f,zi,oid,vf,↓zj _ _ c_laws_FnExactPlay.eq_1,h_laws_szDisk.2,h_laws_szDisk.1,h_laws_szActS.2,h_laws_szActS.1,h_laws_toDisk.2,h_laws_toDisk.1,h_laws_toActS.2,h_laws_toActS.1,h_spec_Play.2,h_spec_Play.1,h_impl_Play.2,h_impl_Play.1,h_laws_eqDisk.2,h_laws_eqDisk.1,h_laws_eqActS.2,h_laws_eqActS.1,h_laws_markDisk.2,h_laws_markDisk.1,h_laws_markActS.2,h_laws_markActS.1,h_laws_heldDisk.2,h_laws_heldDisk.1,zu,vd,yb,zF,yu,zQ,zE,zN,z6,z7,zG,zM,zH,ya,zC,zL,zP,zO,zD,zZ,zY,yq,↓reduceIte,Nat.reduceMul,Nat.reduceAdd,Nat.reduceSub,Nat.reduceEqDiff,Nat.reduceBEq,Nat.reduceLeDiff,Nat.reduceLT,reduceCtorEq,Int.reduceAdd,Int.reduceSub,Int.reduceToNat,Int.reduceNeg,Int.reduceEq,Int.reduceLT,Int.reduceLE]
def UH (E:En) (L:(List TFile)→(List TAct)→Int→Option (Bool)):Prop:=E.Γ.mu 4=false∧(∀ (a0_Files:List TFile) (a1:List TAct) (a2:Int),E.Γ 4 [.agg [.d (zb cFile a0_Files)],.d (zb cAct a1),.d (.int .i64 a2)]=(L a0_Files a1 a2).bind fun r=>some (.ret (.d (.bool r)) []))
end Go.Vm
