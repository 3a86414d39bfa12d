/- The functions under laws_FnExactDo: the abstract machine's codes, and what they come to in plain terms. Printed by a program of this session. -/
import Derived.Test.YtpjfklhaogdfeaaGreatDoorVmKind
set_option linter.all false
set_option maxRecDepth 100000
set_option maxHeartbeats 4000000
namespace Go.Vm
structure TFile where
 Name:List UInt8
 Data:List UInt8
 deriving DecidableEq
def Zn (x:TFile):List D:=[sD x.Name,sD x.Data]
def fF:List D→Option TFile
 | [.str a0,.str a1]=>some ⟨a0.data.toList,a1.data.toList⟩
 | _=>none
theorem YP:∀ xs x,fF xs=some x→xs=Zn x:=by
 intro xs x h
 unfold fF at h
 split at h
 ·cases h; rfl
 ·cases h
def cFile:Enc TFile:=⟨2,Zn,fF,fun _=>rfl,by decide,YP,fun _=>rfl⟩
theorem Wo (x:TFile):cFile.enc x=[sD x.Name,sD x.Data]:=rfl
theorem Vj (x_Name:List UInt8) (x_Data:List UInt8):cFile.dec [sD x_Name,sD x_Data]=some ⟨x_Name,x_Data⟩:=cFile.edc ⟨x_Name,x_Data⟩
theorem Y4 (a:D):cFile.dec [a]=none:=by cases a <;> first | rfl | (rename_i k n; cases k <;> rfl)
def zW:=And.intro (Y4) <| And.intro (jo cFile 2 rfl) <| And.intro (Wo) <| And.intro (Vj) <| And.intro (mG cFile (fun _=>rfl)) <| And.intro ((fun l m=>LO cFile 2 l m 1 (by decide) rfl)) <| And.intro ((fun e cap l m xs z hz=>RY cFile 2 e cap l m 1 xs z hz rfl)) <| And.intro (oQ cFile 1 2 rfl) <| (oQ cFile 2 4 rfl)
def zG:=bE cFile 58 2 rfl [sD [],sD []] ⟨[],[]⟩ rfl
def zH:=bE cFile 59 2 rfl [sD [],sD []] ⟨[],[]⟩ rfl
def zX:=bE c8 5 1 rfl [.int .u8 0] 0 rfl
def zT:=bE cS 9 1 rfl [sD []] [] rfl
def zU:=bE cI 3 1 rfl [iD 0] 0 rfl
def zi (e:Nat):Bool:=e == 58||e == 59||e == 5||e == 9||e == 3
def c_laws_szFile:Cd:=
 sq (r [1,2] [o 2 .box [t 0],o 4 .mv [i 0]])
 (sq (r [1,2] [o 5 .mv [t 1],o 6 (.fa 0) [t 2],o 7 (.ld none) [t 6],o 8 (.len true) [t 7],o 9 (.bin .sub) [t 5,t 8],o 1 .mv [t 9]])
  (sq (sq (r [1,2,11] [o 10 .mv [t 1],o 11 (.bin .lss) [t 10,i 0]])
    (.cond (t 11) (sq (r [4] [o 4 .mv [i (-1)]])
      (.ret)) (.skip)))
   (sq (r [1] [o 12 .mv [t 1],o 13 (.fa 1) [t 2],o 14 (.ld none) [t 13],o 15 (.len true) [t 14],o 16 (.bin .sub) [t 12,t 15],o 1 .mv [t 16]])
    (sq (sq (r [1,18] [o 17 .mv [t 1],o 18 (.bin .lss) [t 17,i 0]])
      (.cond (t 18) (sq (r [4] [o 4 .mv [i (-1)]])
        (.ret)) (.skip)))
     (sq (r [4] [o 19 .mv [t 1],o 4 .mv [t 19]])
      (.ret))))))
def tL:List RV:=[.tmp 4]
def tA (N:Nat) (zf:List UInt8) (zg:List UInt8) (a1:Int):Option (Int):=
 if w64 (a1 - (↑(List.length zf):Int)) < 0 then some (-1)
 else (if w64 (w64 (a1 - (↑(List.length zf):Int)) - (↑(List.length zg):Int)) < 0 then some (-1)
  else some (w64 (w64 (a1 - (↑(List.length zf):Int)) - (↑(List.length zg):Int))))
theorem eX (E:En) (hy:Hy E [] [] [] tL none (fun y=>nocap y) zi) (zf:List UInt8) (zg:List UInt8) (a1:Int):G E c_laws_szFile [] ⟨zj [(0,.agg [.d (sD zf),.d (sD zg)]),(1,.d (.int .i64 a1))],zt []⟩=(tA E.n zf zg a1).bind fun r=>some (.ret (.d (.int .i64 r)) []):=by
 simp (config:={maxSteps:=40000000}) only [↓yo,zV,yu,yw,rI,rS,rB,r8,rLI,yv,yr,hy.p,hy.l,hy.k,hy.r,hy.d,hy.w,hy.f,zi,oid,tL,↓zm _ _ c_laws_szFile.eq_1,zw,tA,zW,zG,zH,zX,zT,zU,yp,↓reduceIte,Nat.reduceMul,Nat.reduceAdd,Nat.reduceSub,Nat.reduceEqDiff,Nat.reduceBEq,Nat.reduceLeDiff,Nat.reduceLT,reduceCtorEq,Int.reduceAdd,Int.reduceSub,Int.reduceToNat,Int.reduceNeg,Int.reduceEq,Int.reduceLT,Int.reduceLE]
def lZ (E:En) (L:(List UInt8)→(List UInt8)→Int→Option (Int)):Prop:=E.Γ.mu 27=false∧(∀ (zf:List UInt8) (zg:List UInt8) (a1:Int),E.Γ 27 [.agg [.d (sD zf),.d (sD zg)],.d (.int .i64 a1)]=(L zf zg a1).bind fun r=>some (.ret (.d (.int .i64 r)) []))
def b0_laws_szFileS:Cd:=
 sq (sq (r [0,1,5,15] [o 12 .mv [t 5],o 13 .mv [t 0],o 14 (.len false) [t 13],o 15 (.bin .lss) [t 12,t 14]])
  (.cond (t 15) (.skip) (.exit 0)))
 (sq (.block 1 (sq (r [0,1,5] [o 18 .mv [t 0],o 19 .mv [t 5],o 20 (.ia 2) [t 18,t 19],o 21 (.ld (some 2)) [t 20],o 22 .mv [t 1],o 23 (.call 27) [t 21,t 22],o 1 .mv [t 23]])
   (sq (r [0,1,5,25] [o 24 .mv [t 1],o 25 (.bin .lss) [t 24,i 0]])
    (.cond (t 25) (sq (r [4] [o 4 .mv [i (-1)]])
      (.ret)) (.skip)))))
  (r [0,1,5] [o 16 .mv [t 5],o 17 (.bin .add) [t 16,i 1],o 5 .mv [t 17]]))
def k1_laws_szFileS:Cd:=
 sq (r [4] [o 26 .mv [t 1],o 4 .mv [t 26]])
 (.ret)
def c_laws_szFileS:Cd:=
 sq (r [0,1] [o 4 .mv [i 0]])
 (sq (r [0,1] [o 6 .mv [t 1],o 7 .mv [t 0],o 8 (.len false) [t 7],o 9 (.bin .sub) [t 6,t 8],o 1 .mv [t 9]])
  (sq (sq (r [0,1,11] [o 10 .mv [t 1],o 11 (.bin .lss) [t 10,i 0]])
    (.cond (t 11) (sq (r [4] [o 4 .mv [i (-1)]])
      (.ret)) (.skip)))
   (sq (sq (r [0,1,5] [o 5 .mv [i 0]])
     (.block 0 (.loop [0,1,5] b0_laws_szFileS))) k1_laws_szFileS)))
def wb:List RV:=[.tmp 4]
def xT (yR:(List UInt8)→(List UInt8)→Int→Option (Int)):Nat→(List TFile)→Int→Int→Option (Int)
 | 0,_,_,_=>none
 | m0+1,x0,x1,x5=>
   if x5 < (↑(List.length x0):Int) then ((idx x0 x5).bind fun y0=>
    (yR y0.Name y0.Data x1).bind fun y1=>
    if y1 < 0 then some (-1)
    else xT yR m0 x0 y1 (w64 (x5+1)))
   else some x1
def uA (yR:(List UInt8)→(List UInt8)→Int→Option (Int)) (N:Nat) (a0:List TFile) (a1:Int):Option (Int):=
 if w64 (a1 - (↑(List.length a0):Int)) < 0 then some (-1)
 else xT yR N a0 (w64 (a1 - (↑(List.length a0):Int))) 0
theorem kh (E:En) (hy:Hy E [] [] [] wb none (fun y=>nocap y) zi) (yR:(List UInt8)→(List UInt8)→Int→Option (Int)) (h_laws_szFile:lZ E yR):∀ (m0:Nat) (x0:List TFile) (x1:Int) (x5:Int),gH E [0,1,5] b0_laws_szFileS [KJ.b 0,KJ.c k1_laws_szFileS] m0 ⟨zj [(0,.d (zh (cFile) x0)),(1,.d (.int .i64 x1)),(5,.d (.int .i64 x5))],zt []⟩=(xT yR m0 x0 x1 x5).bind fun r=>some (.ret (.d (.int .i64 r)) []):=by
 intro m0
 induction m0 with
 | zero=>intros; rfl
 | succ m0 ih=>
   intros
   simp (config:={maxSteps:=40000000}) only [↓yo,zV,yu,yw,rI,rS,rB,r8,rLI,yv,yr,hy.p,hy.l,hy.k,hy.r,hy.d,hy.w,hy.f,zi,oid,wb,↓zm _ _ b0_laws_szFileS.eq_1,↓zm _ _ k1_laws_szFileS.eq_1,↓zm _ _ c_laws_szFileS.eq_1,h_laws_szFile.2,h_laws_szFile.1,wB,ih,zw,xT,zW,zG,zH,zX,zT,zU,yp,↓reduceIte,Nat.reduceMul,Nat.reduceAdd,Nat.reduceSub,Nat.reduceEqDiff,Nat.reduceBEq,Nat.reduceLeDiff,Nat.reduceLT,reduceCtorEq,Int.reduceAdd,Int.reduceSub,Int.reduceToNat,Int.reduceNeg,Int.reduceEq,Int.reduceLT,Int.reduceLE]
theorem fh (E:En) (hy:Hy E [] [] [] wb none (fun y=>nocap y) zi) (yR:(List UInt8)→(List UInt8)→Int→Option (Int)) (h_laws_szFile:lZ E yR) (a0:List TFile) (a1:Int):G E c_laws_szFileS [] ⟨zj [(0,.d (zh cFile a0)),(1,.d (.int .i64 a1))],zt []⟩=(uA yR E.n a0 a1).bind fun r=>some (.ret (.d (.int .i64 r)) []):=by
 simp (config:={maxSteps:=40000000}) only [↓yo,zV,yu,yw,rI,rS,rB,r8,rLI,yv,yr,hy.p,hy.l,hy.k,hy.r,hy.d,hy.w,hy.f,zi,oid,wb,↓zm _ _ b0_laws_szFileS.eq_1,↓zm _ _ k1_laws_szFileS.eq_1,↓zm _ _ c_laws_szFileS.eq_1,h_laws_szFile.2,h_laws_szFile.1,zw,uA,kh E hy yR h_laws_szFile,zW,zG,zH,zX,zT,zU,yp,↓reduceIte,Nat.reduceMul,Nat.reduceAdd,Nat.reduceSub,Nat.reduceEqDiff,Nat.reduceBEq,Nat.reduceLeDiff,Nat.reduceLT,reduceCtorEq,Int.reduceAdd,Int.reduceSub,Int.reduceToNat,Int.reduceNeg,Int.reduceEq,Int.reduceLT,Int.reduceLE]
def ed (E:En) (L:(List TFile)→Int→Option (Int)):Prop:=E.Γ.mu 13=false∧(∀ (a0:List TFile) (a1:Int),E.Γ 13 [.d (zh cFile a0),.d (.int .i64 a1)]=(L a0 a1).bind fun r=>some (.ret (.d (.int .i64 r)) []))
def c_laws_szDisk:Cd:=
 sq (r [1,2] [o 2 .box [t 0],o 4 .mv [i 0]])
 (sq (r [1] [o 5 (.fa 0) [t 2],o 6 (.ld none) [t 5],o 7 .mv [t 1],o 8 (.call 13) [t 6,t 7],o 1 .mv [t 8]])
  (sq (sq (r [1,10] [o 9 .mv [t 1],o 10 (.bin .lss) [t 9,i 0]])
    (.cond (t 10) (sq (r [4] [o 4 .mv [i (-1)]])
      (.ret)) (.skip)))
   (sq (r [4] [o 11 .mv [t 1],o 4 .mv [t 11]])
    (.ret))))
def sf:List RV:=[.tmp 4]
def t6 (rl:(List TFile)→Int→Option (Int)) (N:Nat) (a0_Files:List TFile) (a1:Int):Option (Int):=
 (rl a0_Files a1).bind fun y0=>
 if y0 < 0 then some (-1)
 else some y0
theorem eV (E:En) (hy:Hy E [] [] [] sf none (fun y=>nocap y) zi) (rl:(List TFile)→Int→Option (Int)) (h_laws_szFileS:ed E rl) (a0_Files:List TFile) (a1:Int):G E c_laws_szDisk [] ⟨zj [(0,.agg [.d (zh cFile a0_Files)]),(1,.d (.int .i64 a1))],zt []⟩=(t6 rl E.n a0_Files a1).bind fun r=>some (.ret (.d (.int .i64 r)) []):=by
 simp (config:={maxSteps:=40000000}) only [↓yo,zV,yu,yw,rI,rS,rB,r8,rLI,yv,yr,hy.p,hy.l,hy.k,hy.r,hy.d,hy.w,hy.f,zi,oid,sf,↓zm _ _ c_laws_szDisk.eq_1,h_laws_szFileS.2,h_laws_szFileS.1,zw,t6,zW,zG,zH,zX,zT,zU,yp,↓reduceIte,Nat.reduceMul,Nat.reduceAdd,Nat.reduceSub,Nat.reduceEqDiff,Nat.reduceBEq,Nat.reduceLeDiff,Nat.reduceLT,reduceCtorEq,Int.reduceAdd,Int.reduceSub,Int.reduceToNat,Int.reduceNeg,Int.reduceEq,Int.reduceLT,Int.reduceLE]
def eW (E:En) (L:(List TFile)→Int→Option (Int)):Prop:=E.Γ.mu 4=false∧(∀ (a0_Files:List TFile) (a1:Int),E.Γ 4 [.agg [.d (zh cFile a0_Files)],.d (.int .i64 a1)]=(L a0_Files a1).bind fun r=>some (.ret (.d (.int .i64 r)) []))
def c_laws_szAct:Cd:=
 sq (r [1,2] [o 2 .box [t 0],o 4 .mv [i 0]])
 (sq (r [1,2] [o 5 .mv [t 1],o 6 (.fa 1) [t 2],o 7 (.ld none) [t 6],o 8 (.len true) [t 7],o 9 (.bin .sub) [t 5,t 8],o 1 .mv [t 9]])
  (sq (sq (r [1,2,11] [o 10 .mv [t 1],o 11 (.bin .lss) [t 10,i 0]])
    (.cond (t 11) (sq (r [4] [o 4 .mv [i (-1)]])
      (.ret)) (.skip)))
   (sq (r [1,2] [o 12 .mv [t 1],o 13 (.fa 2) [t 2],o 14 (.ld none) [t 13],o 15 (.len true) [t 14],o 16 (.bin .sub) [t 12,t 15],o 1 .mv [t 16]])
    (sq (sq (r [1,2,18] [o 17 .mv [t 1],o 18 (.bin .lss) [t 17,i 0]])
      (.cond (t 18) (sq (r [4] [o 4 .mv [i (-1)]])
        (.ret)) (.skip)))
     (sq (r [1] [o 19 .mv [t 1],o 20 (.fa 3) [t 2],o 21 (.ld none) [t 20],o 22 (.len true) [t 21],o 23 (.bin .sub) [t 19,t 22],o 1 .mv [t 23]])
      (sq (sq (r [1,25] [o 24 .mv [t 1],o 25 (.bin .lss) [t 24,i 0]])
        (.cond (t 25) (sq (r [4] [o 4 .mv [i (-1)]])
          (.ret)) (.skip)))
       (sq (r [4] [o 26 .mv [t 1],o 4 .mv [t 26]])
        (.ret))))))))
def rj:List RV:=[.tmp 4]
def s7 (N:Nat) (zo:Int) (zf:List UInt8) (zB:List UInt8) (zg:List UInt8) (a1:Int):Option (Int):=
 if w64 (a1 - (↑(List.length zf):Int)) < 0 then some (-1)
 else (if w64 (w64 (a1 - (↑(List.length zf):Int)) - (↑(List.length zB):Int)) < 0 then some (-1)
  else (if w64 (w64 (w64 (a1 - (↑(List.length zf):Int)) - (↑(List.length zB):Int)) - (↑(List.length zg):Int)) < 0 then some (-1)
   else some (w64 (w64 (w64 (a1 - (↑(List.length zf):Int)) - (↑(List.length zB):Int)) - (↑(List.length zg):Int)))))
theorem bx (E:En) (hy:Hy E [] [] [] rj none (fun y=>nocap y) zi) (zo:Int) (zf:List UInt8) (zB:List UInt8) (zg:List UInt8) (a1:Int):G E c_laws_szAct [] ⟨zj [(0,.agg [.d (.int .i64 zo),.d (sD zf),.d (sD zB),.d (sD zg)]),(1,.d (.int .i64 a1))],zt []⟩=(s7 E.n zo zf zB zg a1).bind fun r=>some (.ret (.d (.int .i64 r)) []):=by
 simp (config:={maxSteps:=40000000}) only [↓yo,zV,yu,yw,rI,rS,rB,r8,rLI,yv,yr,hy.p,hy.l,hy.k,hy.r,hy.d,hy.w,hy.f,zi,oid,rj,↓zm _ _ c_laws_szAct.eq_1,zw,s7,zW,zG,zH,zX,zT,zU,yp,↓reduceIte,Nat.reduceMul,Nat.reduceAdd,Nat.reduceSub,Nat.reduceEqDiff,Nat.reduceBEq,Nat.reduceLeDiff,Nat.reduceLT,reduceCtorEq,Int.reduceAdd,Int.reduceSub,Int.reduceToNat,Int.reduceNeg,Int.reduceEq,Int.reduceLT,Int.reduceLE]
def bF (E:En) (L:Int→(List UInt8)→(List UInt8)→(List UInt8)→Int→Option (Int)):Prop:=E.Γ.mu 5=false∧(∀ (zo:Int) (zf:List UInt8) (zB:List UInt8) (zg:List UInt8) (a1:Int),E.Γ 5 [.agg [.d (.int .i64 zo),.d (sD zf),.d (sD zB),.d (sD zg)],.d (.int .i64 a1)]=(L zo zf zB zg a1).bind fun r=>some (.ret (.d (.int .i64 r)) []))
def c_laws_toFile:Cd:=
 sq (r [1,2] [o 1 .box [t 0],o 2 (.alloc [(.d (sD [])),(.d (sD []))]) []])
 (sq (r [1,2,3] [o 3 (.alloc [(.d (sD [])),(.d (sD []))]) []])
  (sq (r [1,2,3] [o 4 (.fa 0) [t 1],o 5 (.ld none) [t 4],o 6 (.fa 0) [t 3],e (.st 1) [t 6,t 5]])
   (sq (r [2,3] [o 7 (.fa 1) [t 1],o 8 (.ld none) [t 7],o 9 (.fa 1) [t 3],e (.st 1) [t 9,t 8]])
    (sq (r [2] [o 10 (.ld (some 2)) [t 3],e (.st 2) [t 2,t 10]])
     (.ret)))))
def tq:List RV:=[.cell 2 (some 2)]
def rV (N:Nat) (zf:List UInt8) (zg:List UInt8):Option (List UInt8×List UInt8):=
 some ((zf,zg))
theorem e9 (E:En) (hy:Hy E [] [] [] tq none (fun y=>nocap y) zi) (zf:List UInt8) (zg:List UInt8):G E c_laws_toFile [] ⟨zj [(0,.agg [.d (sD zf),.d (sD zg)])],zt []⟩=(rV E.n zf zg).bind fun r=>some (.ret (.agg [.d (sD r.1),.d (sD r.2)]) []):=by
 simp (config:={maxSteps:=40000000}) only [↓yo,zV,yu,yw,rI,rS,rB,r8,rLI,yv,yr,hy.p,hy.l,hy.k,hy.r,hy.d,hy.w,hy.f,zi,oid,tq,↓zm _ _ c_laws_toFile.eq_1,zw,rV,zW,zG,zH,zX,zT,zU,yp,↓reduceIte,Nat.reduceMul,Nat.reduceAdd,Nat.reduceSub,Nat.reduceEqDiff,Nat.reduceBEq,Nat.reduceLeDiff,Nat.reduceLT,reduceCtorEq,Int.reduceAdd,Int.reduceSub,Int.reduceToNat,Int.reduceNeg,Int.reduceEq,Int.reduceLT,Int.reduceLE]
def l6 (E:En) (L:(List UInt8)→(List UInt8)→Option (List UInt8×List UInt8)):Prop:=E.Γ.mu 33=false∧(∀ (zf:List UInt8) (zg:List UInt8),E.Γ 33 [.agg [.d (sD zf),.d (sD zg)]]=(L zf zg).bind fun r=>some (.ret (.agg [.d (sD r.1),.d (sD r.2)]) []))
def b0_laws_toFileS:Cd:=
 sq (sq (r [0,3,4,11] [o 8 .mv [t 4],o 9 .mv [t 0],o 10 (.len false) [t 9],o 11 (.bin .lss) [t 8,t 10]])
  (.cond (t 11) (.skip) (.exit 0)))
 (sq (.block 1 (r [0,3,4] [o 14 .mv [t 3],o 15 .mv [t 4],o 16 .mv [t 0],o 17 .mv [t 4],o 18 (.ia 2) [t 16,t 17],o 19 (.ld (some 2)) [t 18],o 20 (.call 33) [t 19],o 21 (.ia 2) [t 14,t 15],e (.st 2) [t 21,t 20]]))
  (r [0,3,4] [o 12 .mv [t 4],o 13 (.bin .add) [t 12,i 1],o 4 .mv [t 13]]))
def k1_laws_toFileS:Cd:=
 sq (r [2] [o 22 .mv [t 3],o 2 .mv [t 22]])
 (.ret)
def c_laws_toFileS:Cd:=
 sq (r [0] [o 2 .mv [n]])
 (sq (r [0,3] [o 5 .mv [t 0],o 6 (.len false) [t 5],o 7 (.mkS 59 2 32 [(sD []),(sD [])]) [t 6,t 6],o 3 .mv [t 7]])
  (sq (sq (r [0,3,4] [o 4 .mv [i 0]])
    (.block 0 (.loop [0,3,4] b0_laws_toFileS))) k1_laws_toFileS))
def wd:List RV:=[.tmp 2]
def xN (yQ:(List UInt8)→(List UInt8)→Option (List UInt8×List UInt8)):Nat→(List TFile)→Int→(List TFile)→Option (List TFile)
 | 0,_,_,_=>none
 | m0+1,x0,x4,o192=>
   if x4 < (↑(List.length x0):Int) then ((idx x0 x4).bind fun y0=>
    (yQ y0.Name y0.Data).bind fun y1=>
    if 0 ≤ x4∧x4 < (↑(List.length o192):Int) then ((oY o192 (Int.toNat x4) { Name:=y1.fst,Data:=y1.snd }).bind fun y2=>
     xN yQ m0 x0 (w64 (x4+1)) y2)
    else none)
   else some o192
def uS (yQ:(List UInt8)→(List UInt8)→Option (List UInt8×List UInt8)) (N:Nat) (a0:List TFile):Option (List TFile):=
 if fg 32 (↑(List.length a0):Int) (↑(List.length a0):Int) then xN yQ N a0 0 (List.replicate (List.length a0) { Name:=[],Data:=[] })
 else none
theorem kA (E:En) (hy:Hy E [] [] [] wd none (fun y=>nocap y) zi) (yQ:(List UInt8)→(List UInt8)→Option (List UInt8×List UInt8)) (h_laws_toFile:l6 E yQ):∀ (m0:Nat) (x0:List TFile) (x4:Int) (o192:List TFile),gH E [0,3,4] b0_laws_toFileS [KJ.b 0,KJ.c k1_laws_toFileS] m0 ⟨zj [(0,.d (zh (cFile) x0)),(3,A.row 192 1),(4,.d (.int .i64 x4))],zt [(192,⟨1,zY (cFile) 59 none o192,false⟩)]⟩=(xN yQ m0 x0 x4 o192).bind fun r=>some (.ret (zP (cFile) 59 none false r) []):=by
 intro m0
 induction m0 with
 | zero=>intros; rfl
 | succ m0 ih=>
   intros
   simp (config:={maxSteps:=40000000}) only [↓yo,zV,yu,yw,rI,rS,rB,r8,rLI,yv,yr,hy.p,hy.l,hy.k,hy.r,hy.d,hy.w,hy.f,zi,oid,wd,↓zm _ _ b0_laws_toFileS.eq_1,↓zm _ _ k1_laws_toFileS.eq_1,↓zm _ _ c_laws_toFileS.eq_1,h_laws_toFile.2,h_laws_toFile.1,wB,ih,zw,xN,zW,zG,zH,zX,zT,zU,yp,↓reduceIte,Nat.reduceMul,Nat.reduceAdd,Nat.reduceSub,Nat.reduceEqDiff,Nat.reduceBEq,Nat.reduceLeDiff,Nat.reduceLT,reduceCtorEq,Int.reduceAdd,Int.reduceSub,Int.reduceToNat,Int.reduceNeg,Int.reduceEq,Int.reduceLT,Int.reduceLE]
theorem g8 (E:En) (hy:Hy E [] [] [] wd none (fun y=>nocap y) zi) (yQ:(List UInt8)→(List UInt8)→Option (List UInt8×List UInt8)) (h_laws_toFile:l6 E yQ) (a0:List TFile):G E c_laws_toFileS [] ⟨zj [(0,.d (zh cFile a0))],zt []⟩=(uS yQ E.n a0).bind fun r=>some (.ret (zP (cFile) 59 none false r) []):=by
 simp (config:={maxSteps:=40000000}) only [↓yo,zV,yu,yw,rI,rS,rB,r8,rLI,yv,yr,hy.p,hy.l,hy.k,hy.r,hy.d,hy.w,hy.f,zi,oid,wd,↓zm _ _ b0_laws_toFileS.eq_1,↓zm _ _ k1_laws_toFileS.eq_1,↓zm _ _ c_laws_toFileS.eq_1,h_laws_toFile.2,h_laws_toFile.1,zw,uS,kA E hy yQ h_laws_toFile,zW,zG,zH,zX,zT,zU,yp,↓reduceIte,Nat.reduceMul,Nat.reduceAdd,Nat.reduceSub,Nat.reduceEqDiff,Nat.reduceBEq,Nat.reduceLeDiff,Nat.reduceLT,reduceCtorEq,Int.reduceAdd,Int.reduceSub,Int.reduceToNat,Int.reduceNeg,Int.reduceEq,Int.reduceLT,Int.reduceLE]
def fQ (E:En) (L:(List TFile)→Option (List TFile)):Prop:=E.Γ.mu 17=false∧(∀ (a0:List TFile),E.Γ 17 [.d (zh cFile a0)]=(L a0).bind fun r=>some (.ret (zP (cFile) 59 none false r) []))
def c_laws_toDisk:Cd:=
 sq (r [1,2] [o 1 .box [t 0],o 2 (.alloc [.nil]) []])
 (sq (r [1,2,3] [o 3 (.alloc [.nil]) []])
  (sq (r [2,3] [o 4 (.fa 0) [t 1],o 5 (.ld none) [t 4],o 6 (.call 17) [t 5],o 7 (.fa 0) [t 3],e (.st 1) [t 7,t 6]])
   (sq (r [2] [o 8 (.ld (some 1)) [t 3],e (.st 1) [t 2,t 8]])
    (.ret))))
def tT:List RV:=[.cell 2 (some 1)]
def tG (ry:(List TFile)→Option (List TFile)) (N:Nat) (a0_Files:List TFile):Option (List TFile):=
 (ry a0_Files).bind fun y0=>
 some y0
theorem dc (E:En) (hy:Hy E [] [] [] tT none (fun y=>nocap y) zi) (ry:(List TFile)→Option (List TFile)) (h_laws_toFileS:fQ E ry) (a0_Files:List TFile):G E c_laws_toDisk [] ⟨zj [(0,.agg [.d (zh cFile a0_Files)])],zt []⟩=(tG ry E.n a0_Files).bind fun r=>some (.ret (.agg [zP (cFile) 59 none false r]) []):=by
 simp (config:={maxSteps:=40000000}) only [↓yo,zV,yu,yw,rI,rS,rB,r8,rLI,yv,yr,hy.p,hy.l,hy.k,hy.r,hy.d,hy.w,hy.f,zi,oid,tT,↓zm _ _ c_laws_toDisk.eq_1,h_laws_toFileS.2,h_laws_toFileS.1,zw,tG,zW,zG,zH,zX,zT,zU,yp,↓reduceIte,Nat.reduceMul,Nat.reduceAdd,Nat.reduceSub,Nat.reduceEqDiff,Nat.reduceBEq,Nat.reduceLeDiff,Nat.reduceLT,reduceCtorEq,Int.reduceAdd,Int.reduceSub,Int.reduceToNat,Int.reduceNeg,Int.reduceEq,Int.reduceLT,Int.reduceLE]
def dD (E:En) (L:(List TFile)→Option (List TFile)):Prop:=E.Γ.mu 7=false∧(∀ (a0_Files:List TFile),E.Γ 7 [.agg [.d (zh cFile a0_Files)]]=(L a0_Files).bind fun r=>some (.ret (.agg [zP (cFile) 59 none false r]) []))
def c_laws_toAct:Cd:=
 sq (r [1,2] [o 1 .box [t 0],o 2 (.alloc [(.d (iD 0)),(.d (sD [])),(.d (sD [])),(.d (sD []))]) []])
 (sq (r [1,2,3] [o 3 (.alloc [(.d (iD 0)),(.d (sD [])),(.d (sD [])),(.d (sD []))]) []])
  (sq (r [1,2,3] [o 4 (.fa 0) [t 1],o 5 (.ld none) [t 4],o 6 (.fa 0) [t 3],e (.st 1) [t 6,t 5]])
   (sq (r [1,2,3] [o 7 (.fa 1) [t 1],o 8 (.ld none) [t 7],o 9 (.fa 1) [t 3],e (.st 1) [t 9,t 8]])
    (sq (r [1,2,3] [o 10 (.fa 2) [t 1],o 11 (.ld none) [t 10],o 12 (.fa 2) [t 3],e (.st 1) [t 12,t 11]])
     (sq (r [2,3] [o 13 (.fa 3) [t 1],o 14 (.ld none) [t 13],o 15 (.fa 3) [t 3],e (.st 1) [t 15,t 14]])
      (sq (r [2] [o 16 (.ld (some 4)) [t 3],e (.st 4) [t 2,t 16]])
       (.ret)))))))
def sU:List RV:=[.cell 2 (some 4)]
def qz (N:Nat) (zo:Int) (zf:List UInt8) (zB:List UInt8) (zg:List UInt8):Option (Int×List UInt8×List UInt8×List UInt8):=
 some ((zo,zf,zB,zg))
theorem bn (E:En) (hy:Hy E [] [] [] sU none (fun y=>nocap y) zi) (zo:Int) (zf:List UInt8) (zB:List UInt8) (zg:List UInt8):G E c_laws_toAct [] ⟨zj [(0,.agg [.d (.int .i64 zo),.d (sD zf),.d (sD zB),.d (sD zg)])],zt []⟩=(qz E.n zo zf zB zg).bind fun r=>some (.ret (.agg [.d (.int .i64 r.1),.d (sD r.2.1),.d (sD r.2.2.1),.d (sD r.2.2.2)]) []):=by
 simp (config:={maxSteps:=40000000}) only [↓yo,zV,yu,yw,rI,rS,rB,r8,rLI,yv,yr,hy.p,hy.l,hy.k,hy.r,hy.d,hy.w,hy.f,zi,oid,sU,↓zm _ _ c_laws_toAct.eq_1,zw,qz,zW,zG,zH,zX,zT,zU,yp,↓reduceIte,Nat.reduceMul,Nat.reduceAdd,Nat.reduceSub,Nat.reduceEqDiff,Nat.reduceBEq,Nat.reduceLeDiff,Nat.reduceLT,reduceCtorEq,Int.reduceAdd,Int.reduceSub,Int.reduceToNat,Int.reduceNeg,Int.reduceEq,Int.reduceLT,Int.reduceLE]
def bq (E:En) (L:Int→(List UInt8)→(List UInt8)→(List UInt8)→Option (Int×List UInt8×List UInt8×List UInt8)):Prop:=E.Γ.mu 8=false∧(∀ (zo:Int) (zf:List UInt8) (zB:List UInt8) (zg:List UInt8),E.Γ 8 [.agg [.d (.int .i64 zo),.d (sD zf),.d (sD zB),.d (sD zg)]]=(L zo zf zB zg).bind fun r=>some (.ret (.agg [.d (.int .i64 r.1),.d (sD r.2.1),.d (sD r.2.2.1),.d (sD r.2.2.2)]) []))
def c_spec_l3Digit:Cd:=
 sq (r [0] [o 2 .mv [b false]])
 (sq (r [2] [o 3 .mv [t 0],o 4 (.bin .geq) [t 3,.k (.d (.int .u8 48))],o 5 .mv [t 4],g 5 true 6 .mv [t 0],g 5 true 7 (.bin .leq) [t 6,.k (.d (.int .u8 57))],o 8 .pick [t 5,t 7,b false],o 2 .mv [t 8]])
  (.ret))
def uI:List RV:=[.tmp 2]
def uG (N:Nat) (a0:Int):Option (Bool):=
 if 48 ≤ a0 then some (Decidable.decide (a0 ≤ 57))
 else some false
theorem fE (E:En) (hy:Hy E [] [] [] uI none (fun y=>nocap y) zi) (a0:Int):G E c_spec_l3Digit [] ⟨zj [(0,.d (.int .u8 a0))],zt []⟩=(uG E.n a0).bind fun r=>some (.ret (.d (.bool r)) []):=by
 simp (config:={maxSteps:=40000000}) only [↓yo,zV,yu,yw,rI,rS,rB,r8,rLI,yv,yr,hy.p,hy.l,hy.k,hy.r,hy.d,hy.w,hy.f,zi,oid,uI,↓zm _ _ c_spec_l3Digit.eq_1,zw,uG,zW,zG,zH,zX,zT,zU,yp,↓reduceIte,Nat.reduceMul,Nat.reduceAdd,Nat.reduceSub,Nat.reduceEqDiff,Nat.reduceBEq,Nat.reduceLeDiff,Nat.reduceLT,reduceCtorEq,Int.reduceAdd,Int.reduceSub,Int.reduceToNat,Int.reduceNeg,Int.reduceEq,Int.reduceLT,Int.reduceLE]
def mT (E:En) (L:Int→Option (Bool)):Prop:=E.Γ.mu 50=false∧(∀ (a0:Int),E.Γ 50 [.d (.int .u8 a0)]=(L a0).bind fun r=>some (.ret (.d (.bool r)) []))
def c_spec_l3Letter:Cd:=
 sq (r [0] [o 2 .mv [b false]])
 (sq (r [2] [o 3 .mv [t 0],o 4 (.bin .geq) [t 3,.k (.d (.int .u8 97))],o 5 .mv [t 4],g 5 true 6 .mv [t 0],g 5 true 7 (.bin .leq) [t 6,.k (.d (.int .u8 122))],o 8 .pick [t 5,t 7,b false],o 9 .mv [t 8],g 9 false 10 .mv [t 0],g 9 false 11 (.bin .geq) [t 10,.k (.d (.int .u8 65))],g 9 false 12 .mv [t 11],g 12 true 13 .mv [t 0],g 12 true 14 (.bin .leq) [t 13,.k (.d (.int .u8 90))],g 9 false 15 .pick [t 12,t 14,b false],o 16 .pick [t 9,b true,t 15],o 2 .mv [t 16]])
  (.ret))
def vO:List RV:=[.tmp 2]
def vQ (N:Nat) (a0:Int):Option (Bool):=
 if 97 ≤ a0 then (if a0 ≤ 122 then some true
  else (if 65 ≤ a0 then some (Decidable.decide (a0 ≤ 90))
   else some false))
 else (if 65 ≤ a0 then some (Decidable.decide (a0 ≤ 90))
  else some false)
theorem iY (E:En) (hy:Hy E [] [] [] vO none (fun y=>nocap y) zi) (a0:Int):G E c_spec_l3Letter [] ⟨zj [(0,.d (.int .u8 a0))],zt []⟩=(vQ E.n a0).bind fun r=>some (.ret (.d (.bool r)) []):=by
 simp (config:={maxSteps:=40000000}) only [↓yo,zV,yu,yw,rI,rS,rB,r8,rLI,yv,yr,hy.p,hy.l,hy.k,hy.r,hy.d,hy.w,hy.f,zi,oid,vO,↓zm _ _ c_spec_l3Letter.eq_1,zw,vQ,zW,zG,zH,zX,zT,zU,yp,↓reduceIte,Nat.reduceMul,Nat.reduceAdd,Nat.reduceSub,Nat.reduceEqDiff,Nat.reduceBEq,Nat.reduceLeDiff,Nat.reduceLT,reduceCtorEq,Int.reduceAdd,Int.reduceSub,Int.reduceToNat,Int.reduceNeg,Int.reduceEq,Int.reduceLT,Int.reduceLE]
def nK (E:En) (L:Int→Option (Bool)):Prop:=E.Γ.mu 51=false∧(∀ (a0:Int),E.Γ 51 [.d (.int .u8 a0)]=(L a0).bind fun r=>some (.ret (.d (.bool r)) []))
def b0_spec_l7NameOk:Cd:=
 sq (sq (r [0,3,7] [o 4 .mv [t 3],o 5 .mv [t 0],o 6 (.len true) [t 5],o 7 (.bin .lss) [t 4,t 6]])
  (.cond (t 7) (.skip) (.exit 0)))
 (sq (.block 1 (sq (r [0,3,33] [o 10 .mv [t 0],o 11 .mv [t 3],o 12 .ixs [t 10,t 11],o 13 (.call 50) [t 12],o 14 .not [t 13],o 15 .mv [t 14],g 15 true 16 .mv [t 0],g 15 true 17 .mv [t 3],g 15 true 18 .ixs [t 16,t 17],g 15 true 19 (.call 51) [t 18],g 15 true 20 .not [t 19],o 21 .pick [t 15,t 20,b false],o 22 .mv [t 21],g 22 true 23 .mv [t 0],g 22 true 24 .mv [t 3],g 22 true 25 .ixs [t 23,t 24],g 22 true 26 (.bin .neq) [t 25,.k (.d (.int .u8 46))],o 27 .pick [t 22,t 26,b false],o 28 .mv [t 27],g 28 true 29 .mv [t 0],g 28 true 30 .mv [t 3],g 28 true 31 .ixs [t 29,t 30],g 28 true 32 (.bin .neq) [t 31,.k (.d (.int .u8 95))],o 33 .pick [t 28,t 32,b false]])
   (.cond (t 33) (sq (r [2] [o 2 .mv [b false]])
     (.ret)) (.skip))))
  (r [0,3] [o 8 .mv [t 3],o 9 (.bin .add) [t 8,i 1],o 3 .mv [t 9]]))
def k1_spec_l7NameOk:Cd:=
 sq (r [2] [o 34 .mv [t 0],o 35 (.len true) [t 34],o 36 (.bin .geq) [t 35,i 1],o 37 .mv [t 36],g 37 true 38 .mv [t 0],g 37 true 39 (.len true) [t 38],g 37 true 40 (.bin .leq) [t 39,i 40],o 41 .pick [t 37,t 40,b false],o 2 .mv [t 41]])
 (.ret)
def c_spec_l7NameOk:Cd:=
 sq (r [0] [o 2 .mv [b false]])
 (sq (sq (r [0,3] [o 3 .mv [i 0]])
   (.block 0 (.loop [0,3] b0_spec_l7NameOk))) k1_spec_l7NameOk)
def xP:List RV:=[.tmp 2]
def yJ (yl:Int→Option (Bool)) (yc:Int→Option (Bool)):Nat→(List UInt8)→Int→Option (Bool)
 | 0,_,_=>none
 | m0+1,x0,x3=>
   if x3 < (↑(List.length x0):Int) then ((pZ x0 x3).bind fun y0=>
    (yl y0).bind fun y1=>
    if y1=false then ((pZ x0 x3).bind fun y2=>
     (yc y2).bind fun y3=>
     if y3=false then ((pZ x0 x3).bind fun y4=>
      if y4=46 then yJ yl yc m0 x0 (w64 (x3+1))
      else ((pZ x0 x3).bind fun y5=>
       if y5=95 then yJ yl yc m0 x0 (w64 (x3+1))
       else some false))
     else yJ yl yc m0 x0 (w64 (x3+1)))
    else yJ yl yc m0 x0 (w64 (x3+1)))
   else (if 1 ≤ (↑(List.length x0):Int) then some (Decidable.decide ((↑(List.length x0):Int) ≤ 40))
    else some false)
def sE (yl:Int→Option (Bool)) (yc:Int→Option (Bool)) (N:Nat) (a0:List UInt8):Option (Bool):=
 yJ yl yc N a0 0
theorem ka (E:En) (hy:Hy E [] [] [] xP none (fun y=>nocap y) zi) (yl:Int→Option (Bool)) (h_spec_l3Digit:mT E yl) (yc:Int→Option (Bool)) (h_spec_l3Letter:nK E yc):∀ (m0:Nat) (x0:List UInt8) (x3:Int),gH E [0,3] b0_spec_l7NameOk [KJ.b 0,KJ.c k1_spec_l7NameOk] m0 ⟨zj [(0,.d (sD x0)),(3,.d (.int .i64 x3))],zt []⟩=(yJ yl yc m0 x0 x3).bind fun r=>some (.ret (.d (.bool r)) []):=by
 intro m0
 induction m0 with
 | zero=>intros; rfl
 | succ m0 ih=>
   intros
   simp (config:={maxSteps:=40000000}) only [↓yo,zV,yu,yw,rI,rS,rB,r8,rLI,yv,yr,hy.p,hy.l,hy.k,hy.r,hy.d,hy.w,hy.f,zi,oid,xP,↓zm _ _ b0_spec_l7NameOk.eq_1,↓zm _ _ k1_spec_l7NameOk.eq_1,↓zm _ _ c_spec_l7NameOk.eq_1,h_spec_l3Digit.2,h_spec_l3Digit.1,h_spec_l3Letter.2,h_spec_l3Letter.1,wB,ih,zw,yJ,zW,zG,zH,zX,zT,zU,yp,↓reduceIte,Nat.reduceMul,Nat.reduceAdd,Nat.reduceSub,Nat.reduceEqDiff,Nat.reduceBEq,Nat.reduceLeDiff,Nat.reduceLT,reduceCtorEq,Int.reduceAdd,Int.reduceSub,Int.reduceToNat,Int.reduceNeg,Int.reduceEq,Int.reduceLT,Int.reduceLE]
theorem gU (E:En) (hy:Hy E [] [] [] xP none (fun y=>nocap y) zi) (yl:Int→Option (Bool)) (h_spec_l3Digit:mT E yl) (yc:Int→Option (Bool)) (h_spec_l3Letter:nK E yc) (a0:List UInt8):G E c_spec_l7NameOk [] ⟨zj [(0,.d (sD a0))],zt []⟩=(sE yl yc E.n a0).bind fun r=>some (.ret (.d (.bool r)) []):=by
 simp (config:={maxSteps:=40000000}) only [↓yo,zV,yu,yw,rI,rS,rB,r8,rLI,yv,yr,hy.p,hy.l,hy.k,hy.r,hy.d,hy.w,hy.f,zi,oid,xP,↓zm _ _ b0_spec_l7NameOk.eq_1,↓zm _ _ k1_spec_l7NameOk.eq_1,↓zm _ _ c_spec_l7NameOk.eq_1,h_spec_l3Digit.2,h_spec_l3Digit.1,h_spec_l3Letter.2,h_spec_l3Letter.1,zw,sE,ka E hy yl h_spec_l3Digit yc h_spec_l3Letter,zW,zG,zH,zX,zT,zU,yp,↓reduceIte,Nat.reduceMul,Nat.reduceAdd,Nat.reduceSub,Nat.reduceEqDiff,Nat.reduceBEq,Nat.reduceLeDiff,Nat.reduceLT,reduceCtorEq,Int.reduceAdd,Int.reduceSub,Int.reduceToNat,Int.reduceNeg,Int.reduceEq,Int.reduceLT,Int.reduceLE]
def qK (E:En) (L:(List UInt8)→Option (Bool)):Prop:=E.Γ.mu 28=false∧(∀ (a0:List UInt8),E.Γ 28 [.d (sD a0)]=(L a0).bind fun r=>some (.ret (.d (.bool r)) []))
def b0_spec_DiskOk:Cd:=
 sq (sq (r [1,3,13] [o 9 .mv [t 3],o 10 (.fa 0) [t 1],o 11 (.ld none) [t 10],o 12 (.len false) [t 11],o 13 (.bin .lss) [t 9,t 12]])
  (.cond (t 13) (.skip) (.exit 0)))
 (sq (.block 1 (sq (r [1,3,4] [o 16 (.fa 0) [t 1],o 17 (.ld none) [t 16],o 18 .mv [t 3],o 19 (.ia 2) [t 17,t 18],o 20 (.ld (some 2)) [t 19],o 4 (.alloc [(.d (sD [])),(.d (sD []))]) [],e (.st 2) [t 4,t 20]])
   (sq (rd [] [1,3,46] [o 21 (.fa 0) [t 4],o 22 (.ld none) [t 21],o 23 (.call 28) [t 22],o 24 .not [t 23],o 25 .mv [t 24],g 25 false 26 (.fa 1) [t 4],g 25 false 27 (.ld none) [t 26],g 25 false 28 (.len true) [t 27],g 25 false 29 (.bin .gtr) [t 28,i 100000],o 30 .pick [t 25,b true,t 29],o 31 .mv [t 30],g 31 false 32 .mv [t 3],g 31 false 33 (.bin .gtr) [t 32,i 0],g 31 false 34 .mv [t 33],g 34 true 35 (.fa 0) [t 1],g 34 true 36 (.ld none) [t 35],g 34 true 37 .mv [t 3],g 34 true 38 (.bin .sub) [t 37,i 1],g 34 true 39 (.ia 2) [t 36,t 38],g 34 true 40 (.fa 0) [t 39],g 34 true 41 (.ld none) [t 40],g 34 true 42 (.fa 0) [t 4],g 34 true 43 (.ld none) [t 42],g 34 true 44 (.bin .geq) [t 41,t 43],g 31 false 45 .pick [t 34,t 44,b false],o 46 .pick [t 31,b true,t 45]])
    (.cond (t 46) (sq (r [2] [o 2 .mv [b false]])
      (.ret)) (.skip)))))
  (r [1,3] [o 14 .mv [t 3],o 15 (.bin .add) [t 14,i 1],o 3 .mv [t 15]]))
def k1_spec_DiskOk:Cd:=
 sq (r [2] [o 2 .mv [b true]])
 (.ret)
def c_spec_DiskOk:Cd:=
 sq (r [1] [o 1 .box [t 0],o 2 .mv [b false]])
 (sq (sq (r [1,8] [o 5 (.fa 0) [t 1],o 6 (.ld none) [t 5],o 7 (.len false) [t 6],o 8 (.bin .gtr) [t 7,i 400]])
   (.cond (t 8) (sq (r [2] [o 2 .mv [b false]])
     (.ret)) (.skip)))
  (sq (sq (r [1,3] [o 3 .mv [i 0]])
    (.block 0 (.loop [1,3] b0_spec_DiskOk))) k1_spec_DiskOk))
def wH:List RV:=[.tmp 2]
def xH (zJ:(List UInt8)→Option (Bool)):Nat→Int→(List TFile)→Option (Bool)
 | 0,_,_=>none
 | m0+1,x3,o64_0=>
   if x3 < (↑(List.length o64_0):Int) then ((idx o64_0 x3).bind fun y0=>
    (zJ y0.Name).bind fun y1=>
    if y1=false then some false
    else (if 100000 < (↑(List.length y0.Data):Int) then some false
     else (if 0 < x3 then ((idx o64_0 (w64 (x3 - 1))).bind fun y2=>
      if xZ y2.Name y0.Name=false then some false
      else xH zJ m0 (w64 (x3+1)) o64_0)
      else xH zJ m0 (w64 (x3+1)) o64_0)))
   else some true
def se (zJ:(List UInt8)→Option (Bool)) (N:Nat) (a0_Files:List TFile):Option (Bool):=
 if 400 < (↑(List.length a0_Files):Int) then some false
 else xH zJ N 0 a0_Files
theorem jx (E:En) (hy:Hy E [] [] [] wH none (fun y=>nocap y) zi) (zJ:(List UInt8)→Option (Bool)) (h_spec_l7NameOk:qK E zJ):∀ (m0:Nat) (x3:Int) (o64_0:List TFile),gH E [1,3] b0_spec_DiskOk [KJ.b 0,KJ.c k1_spec_DiskOk] m0 ⟨zj [(1,A.adr 64 1 0),(3,.d (.int .i64 x3))],zt [(64,⟨1,.box [.d (zh (cFile) o64_0)],false⟩)]⟩=(xH zJ m0 x3 o64_0).bind fun r=>some (.ret (.d (.bool r)) []):=by
 intro m0
 induction m0 with
 | zero=>intros; rfl
 | succ m0 ih=>
   intros
   simp (config:={maxSteps:=40000000}) only [↓yo,zV,yu,yw,rI,rS,rB,r8,rLI,yv,yr,hy.p,hy.l,hy.k,hy.r,hy.d,hy.w,hy.f,zi,oid,wH,↓zm _ _ b0_spec_DiskOk.eq_1,↓zm _ _ k1_spec_DiskOk.eq_1,↓zm _ _ c_spec_DiskOk.eq_1,h_spec_l7NameOk.2,h_spec_l7NameOk.1,wB,ih,zw,xH,zW,zG,zH,zX,zT,zU,yp,↓reduceIte,Nat.reduceMul,Nat.reduceAdd,Nat.reduceSub,Nat.reduceEqDiff,Nat.reduceBEq,Nat.reduceLeDiff,Nat.reduceLT,reduceCtorEq,Int.reduceAdd,Int.reduceSub,Int.reduceToNat,Int.reduceNeg,Int.reduceEq,Int.reduceLT,Int.reduceLE]
theorem dI (E:En) (hy:Hy E [] [] [] wH none (fun y=>nocap y) zi) (zJ:(List UInt8)→Option (Bool)) (h_spec_l7NameOk:qK E zJ) (a0_Files:List TFile):G E c_spec_DiskOk [] ⟨zj [(0,.agg [.d (zh cFile a0_Files)])],zt []⟩=(se zJ E.n a0_Files).bind fun r=>some (.ret (.d (.bool r)) []):=by
 simp (config:={maxSteps:=40000000}) only [↓yo,zV,yu,yw,rI,rS,rB,r8,rLI,yv,yr,hy.p,hy.l,hy.k,hy.r,hy.d,hy.w,hy.f,zi,oid,wH,↓zm _ _ b0_spec_DiskOk.eq_1,↓zm _ _ k1_spec_DiskOk.eq_1,↓zm _ _ c_spec_DiskOk.eq_1,h_spec_l7NameOk.2,h_spec_l7NameOk.1,zw,se,jx E hy zJ h_spec_l7NameOk,zW,zG,zH,zX,zT,zU,yp,↓reduceIte,Nat.reduceMul,Nat.reduceAdd,Nat.reduceSub,Nat.reduceEqDiff,Nat.reduceBEq,Nat.reduceLeDiff,Nat.reduceLT,reduceCtorEq,Int.reduceAdd,Int.reduceSub,Int.reduceToNat,Int.reduceNeg,Int.reduceEq,Int.reduceLT,Int.reduceLE]
def dq (E:En) (L:(List TFile)→Option (Bool)):Prop:=E.Γ.mu 14=false∧(∀ (a0_Files:List TFile),E.Γ 14 [.agg [.d (zh cFile a0_Files)]]=(L a0_Files).bind fun r=>some (.ret (.d (.bool r)) []))
def c_spec_l7Copy:Cd:=
 sq (r [1,2] [o 1 .box [t 0],o 2 (.alloc [.nil]) []])
 (sq (r [1,2,3] [o 4 (lit 59 2 0) [],o 3 .mv [t 4]])
  (sq (r [2] [o 5 .mv [t 3],o 6 (.fa 0) [t 1],o 7 (.ld none) [t 6],o 8 (.app 59 2 32) [t 5,t 7],o 9 (.bld [.nil] [(0,1)]) [t 8],e (.st 1) [t 2,t 9]])
   (.ret)))
def tB:List RV:=[.cell 2 (some 1)]
def sb (N:Nat) (a0_Files:List TFile):Option (List TFile):=
 if vm 32 (List.length a0_Files) then some a0_Files
 else none
theorem dw (E:En) (hy:Hy E [] [] [] tB none (fun y=>nocap y) zi) (a0_Files:List TFile):G E c_spec_l7Copy [] ⟨zj [(0,.agg [.d (zh cFile a0_Files)])],zt []⟩=(sb E.n a0_Files).bind fun r=>some (.ret (.agg [zP (cFile) 59 none false r]) []):=by
 simp (config:={maxSteps:=40000000}) only [↓yo,zV,yu,yw,rI,rS,rB,r8,rLI,yv,yr,hy.p,hy.l,hy.k,hy.r,hy.d,hy.w,hy.f,zi,oid,tB,↓zm _ _ c_spec_l7Copy.eq_1,zw,sb,zW,zG,zH,zX,zT,zU,yp,↓reduceIte,Nat.reduceMul,Nat.reduceAdd,Nat.reduceSub,Nat.reduceEqDiff,Nat.reduceBEq,Nat.reduceLeDiff,Nat.reduceLT,reduceCtorEq,Int.reduceAdd,Int.reduceSub,Int.reduceToNat,Int.reduceNeg,Int.reduceEq,Int.reduceLT,Int.reduceLE]
def eT (E:En) (L:(List TFile)→Option (List TFile)):Prop:=E.Γ.mu 15=false∧(∀ (a0_Files:List TFile),E.Γ 15 [.agg [.d (zh cFile a0_Files)]]=(L a0_Files).bind fun r=>some (.ret (.agg [.d (zh (cFile) r)]) []))
def c_spec_l7ActOk:Cd:=
 sq (r [1] [o 1 .box [t 0],o 2 .mv [b false]])
 (sq (sq (r [1,26] [o 3 (.fa 0) [t 1],o 4 (.ld none) [t 3],o 5 (.bin .lss) [t 4,i 1],o 6 .mv [t 5],g 6 false 7 (.fa 0) [t 1],g 6 false 8 (.ld none) [t 7],g 6 false 9 (.bin .gtr) [t 8,i 4],o 10 .pick [t 6,b true,t 9],o 11 .mv [t 10],g 11 false 12 (.fa 1) [t 1],g 11 false 13 (.ld none) [t 12],g 11 false 14 (.call 28) [t 13],g 11 false 15 .not [t 14],o 16 .pick [t 11,b true,t 15],o 17 .mv [t 16],g 17 false 18 (.fa 0) [t 1],g 17 false 19 (.ld none) [t 18],g 17 false 20 (.bin .neq) [t 19,i 2],g 17 false 21 .mv [t 20],g 21 true 22 (.fa 3) [t 1],g 21 true 23 (.ld none) [t 22],g 21 true 24 (.bin .neq) [t 23,s []],g 17 false 25 .pick [t 21,t 24,b false],o 26 .pick [t 17,b true,t 25]])
   (.cond (t 26) (sq (r [2] [o 2 .mv [b false]])
     (.ret)) (.skip)))
  (sq (sq (r [1,29] [o 27 (.fa 0) [t 1],o 28 (.ld none) [t 27],o 29 (.bin .eql) [t 28,i 3]])
    (.cond (t 29) (sq (r [2] [o 30 (.fa 2) [t 1],o 31 (.ld none) [t 30],o 32 (.call 28) [t 31],o 2 .mv [t 32]])
      (.ret)) (.skip)))
   (sq (r [2] [o 33 (.fa 2) [t 1],o 34 (.ld none) [t 33],o 35 (.bin .eql) [t 34,s []],o 2 .mv [t 35]])
    (.ret))))
def uD:List RV:=[.tmp 2]
def uJ (zJ:(List UInt8)→Option (Bool)) (N:Nat) (zo:Int) (zf:List UInt8) (zB:List UInt8) (zg:List UInt8):Option (Bool):=
 if zo < 1 then some false
 else (if 4 < zo then some false
  else ((zJ zf).bind fun y0=>
   if y0=false then some false
   else (if zo=2 then (if zo=3 then ((zJ zB).bind fun y1=>
     some y1)
    else some (Decidable.decide (zB=[])))
    else (if zg=[] then (if zo=3 then ((zJ zB).bind fun y2=>
      some y2)
     else some (Decidable.decide (zB=[])))
     else some false))))
theorem fk (E:En) (hy:Hy E [] [] [] uD none (fun y=>nocap y) zi) (zJ:(List UInt8)→Option (Bool)) (h_spec_l7NameOk:qK E zJ) (zo:Int) (zf:List UInt8) (zB:List UInt8) (zg:List UInt8):G E c_spec_l7ActOk [] ⟨zj [(0,.agg [.d (.int .i64 zo),.d (sD zf),.d (sD zB),.d (sD zg)])],zt []⟩=(uJ zJ E.n zo zf zB zg).bind fun r=>some (.ret (.d (.bool r)) []):=by
 simp (config:={maxSteps:=40000000}) only [↓yo,zV,yu,yw,rI,rS,rB,r8,rLI,yv,yr,hy.p,hy.l,hy.k,hy.r,hy.d,hy.w,hy.f,zi,oid,uD,↓zm _ _ c_spec_l7ActOk.eq_1,h_spec_l7NameOk.2,h_spec_l7NameOk.1,zw,uJ,zW,zG,zH,zX,zT,zU,yp,↓reduceIte,Nat.reduceMul,Nat.reduceAdd,Nat.reduceSub,Nat.reduceEqDiff,Nat.reduceBEq,Nat.reduceLeDiff,Nat.reduceLT,reduceCtorEq,Int.reduceAdd,Int.reduceSub,Int.reduceToNat,Int.reduceNeg,Int.reduceEq,Int.reduceLT,Int.reduceLE]
def fN (E:En) (L:Int→(List UInt8)→(List UInt8)→(List UInt8)→Option (Bool)):Prop:=E.Γ.mu 29=false∧(∀ (zo:Int) (zf:List UInt8) (zB:List UInt8) (zg:List UInt8),E.Γ 29 [.agg [.d (.int .i64 zo),.d (sD zf),.d (sD zB),.d (sD zg)]]=(L zo zf zB zg).bind fun r=>some (.ret (.d (.bool r)) []))
def b0_spec_l7At:Cd:=
 sq (sq (r [1,2,5,10] [o 6 .mv [t 5],o 7 (.fa 0) [t 2],o 8 (.ld none) [t 7],o 9 (.len false) [t 8],o 10 (.bin .lss) [t 6,t 9]])
  (.cond (t 10) (.skip) (.exit 0)))
 (sq (.block 1 (sq (r [1,2,5,20] [o 13 (.fa 0) [t 2],o 14 (.ld none) [t 13],o 15 .mv [t 5],o 16 (.ia 2) [t 14,t 15],o 17 (.fa 0) [t 16],o 18 (.ld none) [t 17],o 19 .mv [t 1],o 20 (.bin .eql) [t 18,t 19]])
   (.cond (t 20) (sq (r [4] [o 21 .mv [t 5],o 4 .mv [t 21]])
     (.ret)) (.skip))))
  (r [1,2,5] [o 11 .mv [t 5],o 12 (.bin .add) [t 11,i 1],o 5 .mv [t 12]]))
def k1_spec_l7At:Cd:=
 sq (r [4] [o 4 .mv [i (-1)]])
 (.ret)
def c_spec_l7At:Cd:=
 sq (r [1,2] [o 2 .box [t 0],o 4 .mv [i 0]])
 (sq (sq (r [1,2,5] [o 5 .mv [i 0]])
   (.block 0 (.loop [1,2,5] b0_spec_l7At))) k1_spec_l7At)
def ul:List RV:=[.tmp 4]
def vg:Nat→(List UInt8)→Int→(List TFile)→Option (Int)
 | 0,_,_,_=>none
 | m0+1,x1,x5,o128_0=>
   if x5 < (↑(List.length o128_0):Int) then ((idx o128_0 x5).bind fun y0=>
    if y0.Name=x1 then some x5
    else vg m0 x1 (w64 (x5+1)) o128_0)
   else some (-1)
def pv (N:Nat) (a0_Files:List TFile) (a1:List UInt8):Option (Int):=
 vg N a1 0 a0_Files
theorem gi (E:En) (hy:Hy E [] [] [] ul none (fun y=>nocap y) zi):∀ (m0:Nat) (x1:List UInt8) (x5:Int) (o128_0:List TFile),gH E [1,2,5] b0_spec_l7At [KJ.b 0,KJ.c k1_spec_l7At] m0 ⟨zj [(1,.d (sD x1)),(2,A.adr 128 1 0),(5,.d (.int .i64 x5))],zt [(128,⟨1,.box [.d (zh (cFile) o128_0)],false⟩)]⟩=(vg m0 x1 x5 o128_0).bind fun r=>some (.ret (.d (.int .i64 r)) []):=by
 intro m0
 induction m0 with
 | zero=>intros; rfl
 | succ m0 ih=>
   intros
   simp (config:={maxSteps:=40000000}) only [↓yo,zV,yu,yw,rI,rS,rB,r8,rLI,yv,yr,hy.p,hy.l,hy.k,hy.r,hy.d,hy.w,hy.f,zi,oid,ul,↓zm _ _ b0_spec_l7At.eq_1,↓zm _ _ k1_spec_l7At.eq_1,↓zm _ _ c_spec_l7At.eq_1,wB,ih,zw,vg,zW,zG,zH,zX,zT,zU,yp,↓reduceIte,Nat.reduceMul,Nat.reduceAdd,Nat.reduceSub,Nat.reduceEqDiff,Nat.reduceBEq,Nat.reduceLeDiff,Nat.reduceLT,reduceCtorEq,Int.reduceAdd,Int.reduceSub,Int.reduceToNat,Int.reduceNeg,Int.reduceEq,Int.reduceLT,Int.reduceLE]
theorem au (E:En) (hy:Hy E [] [] [] ul none (fun y=>nocap y) zi) (a0_Files:List TFile) (a1:List UInt8):G E c_spec_l7At [] ⟨zj [(0,.agg [.d (zh cFile a0_Files)]),(1,.d (sD a1))],zt []⟩=(pv E.n a0_Files a1).bind fun r=>some (.ret (.d (.int .i64 r)) []):=by
 simp (config:={maxSteps:=40000000}) only [↓yo,zV,yu,yw,rI,rS,rB,r8,rLI,yv,yr,hy.p,hy.l,hy.k,hy.r,hy.d,hy.w,hy.f,zi,oid,ul,↓zm _ _ b0_spec_l7At.eq_1,↓zm _ _ k1_spec_l7At.eq_1,↓zm _ _ c_spec_l7At.eq_1,zw,pv,gi E hy,zW,zG,zH,zX,zT,zU,yp,↓reduceIte,Nat.reduceMul,Nat.reduceAdd,Nat.reduceSub,Nat.reduceEqDiff,Nat.reduceBEq,Nat.reduceLeDiff,Nat.reduceLT,reduceCtorEq,Int.reduceAdd,Int.reduceSub,Int.reduceToNat,Int.reduceNeg,Int.reduceEq,Int.reduceLT,Int.reduceLE]
def ax (E:En) (L:(List TFile)→(List UInt8)→Option (Int)):Prop:=E.Γ.mu 30=false∧(∀ (a0_Files:List TFile) (a1:List UInt8),E.Γ 30 [.agg [.d (zh cFile a0_Files)],.d (sD a1)]=(L a0_Files a1).bind fun r=>some (.ret (.d (.int .i64 r)) []))
def b0_spec_l7With:Cd:=
 sq (sq (rd [] [2,3,4,5,6,25] [o 10 .mv [t 6],o 11 (.fa 0) [t 2],o 12 (.ld none) [t 11],o 13 (.len false) [t 12],o 14 (.bin .lss) [t 10,t 13],o 15 .mv [t 14],g 15 true 16 (.fa 0) [t 2],g 15 true 17 (.ld none) [t 16],g 15 true 18 .mv [t 6],g 15 true 19 (.ia 2) [t 17,t 18],g 15 true 20 (.fa 0) [t 19],g 15 true 21 (.ld none) [t 20],g 15 true 22 (.fa 0) [t 3],g 15 true 23 (.ld none) [t 22],g 15 true 24 (.bin .lss) [t 21,t 23],o 25 .pick [t 15,t 24,b false]])
  (.cond (t 25) (.skip) (.exit 0)))
 (sq (.block 1 (rd [] [2,3,4,5,6] [o 28 (.fa 0) [t 5],o 29 (.ld none) [t 28],o 30 (.fa 0) [t 2],o 31 (.ld none) [t 30],o 32 .mv [t 6],o 33 (.ia 2) [t 31,t 32],o 34 (.ld (some 2)) [t 33],ap [] false [5,28] (o 35 (lit 59 2 1) [t 34]),o 36 (.app 59 2 32) [t 29,t 35],o 37 (.fa 0) [t 5],e (.st 1) [t 37,t 36]]))
  (r [2,3,4,5,6] [o 26 .mv [t 6],o 27 (.bin .add) [t 26,i 1],o 6 .mv [t 27]]))
def b1_spec_l7With:Cd:=
 sq (sq (r [2,3,4,5,7,48] [o 44 .mv [t 7],o 45 (.fa 0) [t 2],o 46 (.ld none) [t 45],o 47 (.len false) [t 46],o 48 (.bin .lss) [t 44,t 47]])
  (.cond (t 48) (.skip) (.exit 2)))
 (sq (.block 3 (sq (rd [] [2,3,4,5,7,59] [o 51 (.fa 0) [t 2],o 52 (.ld none) [t 51],o 53 .mv [t 7],o 54 (.ia 2) [t 52,t 53],o 55 (.fa 0) [t 54],o 56 (.ld none) [t 55],o 57 (.fa 0) [t 3],o 58 (.ld none) [t 57],o 59 (.bin .gtr) [t 56,t 58]])
   (.cond (t 59) (rd [] [2,3,4,5,7] [o 60 (.fa 0) [t 5],o 61 (.ld none) [t 60],o 62 (.fa 0) [t 2],o 63 (.ld none) [t 62],o 64 .mv [t 7],o 65 (.ia 2) [t 63,t 64],o 66 (.ld (some 2)) [t 65],ap [] false [5,60] (o 67 (lit 59 2 1) [t 66]),o 68 (.app 59 2 32) [t 61,t 67],o 69 (.fa 0) [t 5],e (.st 1) [t 69,t 68]]) (.skip))))
  (r [2,3,4,5,7] [o 49 .mv [t 7],o 50 (.bin .add) [t 49,i 1],o 7 .mv [t 50]]))
def k2_spec_l7With:Cd:=
 sq (r [4] [o 70 (.ld (some 1)) [t 5],e (.st 1) [t 4,t 70]])
 (.ret)
def k3_spec_l7With:Cd:=
 sq (r [2,3,4,5] [o 38 (.fa 0) [t 5],o 39 (.ld none) [t 38],o 40 (.ld (some 2)) [t 3],o 41 (lit 59 2 1) [t 40],o 42 (.app 59 2 32) [t 39,t 41],o 43 (.fa 0) [t 5],e (.st 1) [t 43,t 42]])
 (sq (sq (r [2,3,4,5,7] [o 7 .mv [i 0]])
   (.block 2 (.loop [2,3,4,5,7] b1_spec_l7With))) k2_spec_l7With)
def c_spec_l7With:Cd:=
 sq (r [2,3,4] [o 2 .box [t 0],o 3 .box [t 1],o 4 (.alloc [.nil]) []])
 (sq (r [2,3,4,5] [o 8 (lit 59 2 0) [],o 9 (.bld [.nil] [(0,1)]) [t 8],o 5 (.alloc [.nil]) [],e (.st 1) [t 5,t 9]])
  (sq (sq (r [2,3,4,5,6] [o 6 .mv [i 0]])
    (.block 0 (.loop [2,3,4,5,6] b0_spec_l7With))) k3_spec_l7With))
def xz:List RV:=[.cell 4 (some 1)]
def xf:Nat→Int→(List TFile)→(List UInt8)→(List UInt8)→(List TFile)→Option (List TFile)
 | 0,_,_,_,_,_=>none
 | m1+1,x7,o128_0,o192_0,o192_1,o321=>
   if x7 < (↑(List.length o128_0):Int) then ((idx o128_0 x7).bind fun y0=>
    if (xZ y0.Name o192_0||Decidable.decide (y0.Name=o192_0))=false then ((idx o128_0 x7).bind fun y1=>
     if vm 32 (List.length (o321++[{ Name:=y1.Name,Data:=y1.Data }])) then xf m1 (w64 (x7+1)) o128_0 o192_0 o192_1 (o321++[{ Name:=y1.Name,Data:=y1.Data }])
     else none)
    else xf m1 (w64 (x7+1)) o128_0 o192_0 o192_1 o321)
   else some o321
def we (N:Nat):Nat→Int→(List TFile)→(List UInt8)→(List UInt8)→(List TFile)→Option (List TFile)
 | 0,_,_,_,_,_=>none
 | m0+1,x6,o128_0,o192_0,o192_1,o321=>
   if x6 < (↑(List.length o128_0):Int) then ((idx o128_0 x6).bind fun y0=>
    if xZ y0.Name o192_0=true then ((idx o128_0 x6).bind fun y1=>
     if vm 32 (List.length (o321++[{ Name:=y1.Name,Data:=y1.Data }])) then we N m0 (w64 (x6+1)) o128_0 o192_0 o192_1 (o321++[{ Name:=y1.Name,Data:=y1.Data }])
     else none)
    else (if vm 32 (List.length (o321++[{ Name:=o192_0,Data:=o192_1 }])) then xf N 0 o128_0 o192_0 o192_1 (o321++[{ Name:=o192_0,Data:=o192_1 }])
     else none))
   else (if vm 32 (List.length (o321++[{ Name:=o192_0,Data:=o192_1 }])) then xf N 0 o128_0 o192_0 o192_1 (o321++[{ Name:=o192_0,Data:=o192_1 }])
    else none)
def qe (N:Nat) (a0_Files:List TFile) (a1_Name:List UInt8) (a1_Data:List UInt8):Option (List TFile):=
 we N N 0 a0_Files a1_Name a1_Data []
theorem jC (E:En) (hy:Hy E [] [] [] xz none (fun y=>nocap y) zi):∀ (m1:Nat) (x7:Int) (o128_0:List TFile) (o192_0:List UInt8) (o192_1:List UInt8) (o321:List TFile),gH E [2,3,4,5,7] b1_spec_l7With [KJ.b 2,KJ.c k2_spec_l7With] m1 ⟨zj [(2,A.adr 128 1 0),(3,A.adr 192 1 0),(4,A.adr 256 1 0),(5,A.adr 320 1 0),(7,.d (.int .i64 x7))],zt [(128,⟨1,.box [.d (zh (cFile) o128_0)],false⟩),(192,⟨1,.box [.d (sD o192_0),.d (sD o192_1)],false⟩),(256,⟨1,.box [A.nil],false⟩),(320,⟨1,.box [A.row 321 1],false⟩),(321,⟨1,zY (cFile) 59 none o321,false⟩)]⟩=(xf m1 x7 o128_0 o192_0 o192_1 o321).bind fun r=>some (.ret (.agg [zP (cFile) 59 none false r]) []):=by
 intro m1
 induction m1 with
 | zero=>intros; rfl
 | succ m1 ih=>
   intros
   simp (config:={maxSteps:=40000000}) only [↓yo,zV,yu,yw,rI,rS,rB,r8,rLI,yv,yr,hy.p,hy.l,hy.k,hy.r,hy.d,hy.w,hy.f,zi,oid,xz,↓zm _ _ b0_spec_l7With.eq_1,↓zm _ _ b1_spec_l7With.eq_1,↓zm _ _ k2_spec_l7With.eq_1,↓zm _ _ k3_spec_l7With.eq_1,↓zm _ _ c_spec_l7With.eq_1,wB,ih,zw,xf,zW,zG,zH,zX,zT,zU,yp,↓reduceIte,Nat.reduceMul,Nat.reduceAdd,Nat.reduceSub,Nat.reduceEqDiff,Nat.reduceBEq,Nat.reduceLeDiff,Nat.reduceLT,reduceCtorEq,Int.reduceAdd,Int.reduceSub,Int.reduceToNat,Int.reduceNeg,Int.reduceEq,Int.reduceLT,Int.reduceLE]
theorem jz (E:En) (hy:Hy E [] [] [] xz none (fun y=>nocap y) zi):∀ (m0:Nat) (x6:Int) (o128_0:List TFile) (o192_0:List UInt8) (o192_1:List UInt8) (o321:List TFile),gH E [2,3,4,5,6] b0_spec_l7With [KJ.b 0,KJ.c k3_spec_l7With] m0 ⟨zj [(2,A.adr 128 1 0),(3,A.adr 192 1 0),(4,A.adr 256 1 0),(5,A.adr 320 1 0),(6,.d (.int .i64 x6))],zt [(128,⟨1,.box [.d (zh (cFile) o128_0)],false⟩),(192,⟨1,.box [.d (sD o192_0),.d (sD o192_1)],false⟩),(256,⟨1,.box [A.nil],false⟩),(320,⟨1,.box [A.row 321 1],false⟩),(321,⟨1,zY (cFile) 59 none o321,false⟩)]⟩=(we E.n m0 x6 o128_0 o192_0 o192_1 o321).bind fun r=>some (.ret (.agg [zP (cFile) 59 none false r]) []):=by
 intro m0
 induction m0 with
 | zero=>intros; rfl
 | succ m0 ih=>
   intros
   simp (config:={maxSteps:=40000000}) only [↓yo,zV,yu,yw,rI,rS,rB,r8,rLI,yv,yr,hy.p,hy.l,hy.k,hy.r,hy.d,hy.w,hy.f,zi,oid,xz,↓zm _ _ b0_spec_l7With.eq_1,↓zm _ _ b1_spec_l7With.eq_1,↓zm _ _ k2_spec_l7With.eq_1,↓zm _ _ k3_spec_l7With.eq_1,↓zm _ _ c_spec_l7With.eq_1,wB,ih,zw,we,jC E hy,zW,zG,zH,zX,zT,zU,yp,↓reduceIte,Nat.reduceMul,Nat.reduceAdd,Nat.reduceSub,Nat.reduceEqDiff,Nat.reduceBEq,Nat.reduceLeDiff,Nat.reduceLT,reduceCtorEq,Int.reduceAdd,Int.reduceSub,Int.reduceToNat,Int.reduceNeg,Int.reduceEq,Int.reduceLT,Int.reduceLE]
theorem dk (E:En) (hy:Hy E [] [] [] xz none (fun y=>nocap y) zi) (a0_Files:List TFile) (a1_Name:List UInt8) (a1_Data:List UInt8):G E c_spec_l7With [] ⟨zj [(0,.agg [.d (zh cFile a0_Files)]),(1,.agg [.d (sD a1_Name),.d (sD a1_Data)])],zt []⟩=(qe E.n a0_Files a1_Name a1_Data).bind fun r=>some (.ret (.agg [zP (cFile) 59 none false r]) []):=by
 simp (config:={maxSteps:=40000000}) only [↓yo,zV,yu,yw,rI,rS,rB,r8,rLI,yv,yr,hy.p,hy.l,hy.k,hy.r,hy.d,hy.w,hy.f,zi,oid,xz,↓zm _ _ b0_spec_l7With.eq_1,↓zm _ _ b1_spec_l7With.eq_1,↓zm _ _ k2_spec_l7With.eq_1,↓zm _ _ k3_spec_l7With.eq_1,↓zm _ _ c_spec_l7With.eq_1,zw,qe,jz E hy,zW,zG,zH,zX,zT,zU,yp,↓reduceIte,Nat.reduceMul,Nat.reduceAdd,Nat.reduceSub,Nat.reduceEqDiff,Nat.reduceBEq,Nat.reduceLeDiff,Nat.reduceLT,reduceCtorEq,Int.reduceAdd,Int.reduceSub,Int.reduceToNat,Int.reduceNeg,Int.reduceEq,Int.reduceLT,Int.reduceLE]
def de (E:En) (L:(List TFile)→(List UInt8)→(List UInt8)→Option (List TFile)):Prop:=E.Γ.mu 31=false∧(∀ (a0_Files:List TFile) (a1_Name:List UInt8) (a1_Data:List UInt8),E.Γ 31 [.agg [.d (zh cFile a0_Files)],.agg [.d (sD a1_Name),.d (sD a1_Data)]]=(L a0_Files a1_Name a1_Data).bind fun r=>some (.ret (.agg [zP (cFile) 59 none false r]) []))
def b0_spec_l7Without:Cd:=
 sq (sq (r [1,2,4,5,6,13] [o 9 .mv [t 6],o 10 (.fa 0) [t 2],o 11 (.ld none) [t 10],o 12 (.len false) [t 11],o 13 (.bin .lss) [t 9,t 12]])
  (.cond (t 13) (.skip) (.exit 0)))
 (sq (.block 1 (sq (r [1,2,4,5,6,23] [o 16 (.fa 0) [t 2],o 17 (.ld none) [t 16],o 18 .mv [t 6],o 19 (.ia 2) [t 17,t 18],o 20 (.fa 0) [t 19],o 21 (.ld none) [t 20],o 22 .mv [t 1],o 23 (.bin .neq) [t 21,t 22]])
   (.cond (t 23) (rd [] [1,2,4,5,6] [o 24 (.fa 0) [t 5],o 25 (.ld none) [t 24],o 26 (.fa 0) [t 2],o 27 (.ld none) [t 26],o 28 .mv [t 6],o 29 (.ia 2) [t 27,t 28],o 30 (.ld (some 2)) [t 29],ap [] false [5,24] (o 31 (lit 59 2 1) [t 30]),o 32 (.app 59 2 32) [t 25,t 31],o 33 (.fa 0) [t 5],e (.st 1) [t 33,t 32]]) (.skip))))
  (r [1,2,4,5,6] [o 14 .mv [t 6],o 15 (.bin .add) [t 14,i 1],o 6 .mv [t 15]]))
def k1_spec_l7Without:Cd:=
 sq (r [4] [o 34 (.ld (some 1)) [t 5],e (.st 1) [t 4,t 34]])
 (.ret)
def c_spec_l7Without:Cd:=
 sq (r [1,2,4] [o 2 .box [t 0],o 4 (.alloc [.nil]) []])
 (sq (r [1,2,4,5] [o 7 (lit 59 2 0) [],o 8 (.bld [.nil] [(0,1)]) [t 7],o 5 (.alloc [.nil]) [],e (.st 1) [t 5,t 8]])
  (sq (sq (r [1,2,4,5,6] [o 6 .mv [i 0]])
    (.block 0 (.loop [1,2,4,5,6] b0_spec_l7Without))) k1_spec_l7Without))
def xD:List RV:=[.cell 4 (some 1)]
def yU:Nat→(List UInt8)→Int→(List TFile)→(List TFile)→Option (List TFile)
 | 0,_,_,_,_=>none
 | m0+1,x1,x6,o128_0,o321=>
   if x6 < (↑(List.length o128_0):Int) then ((idx o128_0 x6).bind fun y0=>
    if y0.Name=x1 then yU m0 x1 (w64 (x6+1)) o128_0 o321
    else ((idx o128_0 x6).bind fun y1=>
     if vm 32 (List.length (o321++[{ Name:=y1.Name,Data:=y1.Data }])) then yU m0 x1 (w64 (x6+1)) o128_0 (o321++[{ Name:=y1.Name,Data:=y1.Data }])
     else none))
   else some o321
def tm (N:Nat) (a0_Files:List TFile) (a1:List UInt8):Option (List TFile):=
 yU N a1 0 a0_Files []
theorem lK (E:En) (hy:Hy E [] [] [] xD none (fun y=>nocap y) zi):∀ (m0:Nat) (x1:List UInt8) (x6:Int) (o128_0:List TFile) (o321:List TFile),gH E [1,2,4,5,6] b0_spec_l7Without [KJ.b 0,KJ.c k1_spec_l7Without] m0 ⟨zj [(1,.d (sD x1)),(2,A.adr 128 1 0),(4,A.adr 256 1 0),(5,A.adr 320 1 0),(6,.d (.int .i64 x6))],zt [(128,⟨1,.box [.d (zh (cFile) o128_0)],false⟩),(256,⟨1,.box [A.nil],false⟩),(320,⟨1,.box [A.row 321 1],false⟩),(321,⟨1,zY (cFile) 59 none o321,false⟩)]⟩=(yU m0 x1 x6 o128_0 o321).bind fun r=>some (.ret (.agg [zP (cFile) 59 none false r]) []):=by
 intro m0
 induction m0 with
 | zero=>intros; rfl
 | succ m0 ih=>
   intros
   simp (config:={maxSteps:=40000000}) only [↓yo,zV,yu,yw,rI,rS,rB,r8,rLI,yv,yr,hy.p,hy.l,hy.k,hy.r,hy.d,hy.w,hy.f,zi,oid,xD,↓zm _ _ b0_spec_l7Without.eq_1,↓zm _ _ k1_spec_l7Without.eq_1,↓zm _ _ c_spec_l7Without.eq_1,wB,ih,zw,yU,zW,zG,zH,zX,zT,zU,yp,↓reduceIte,Nat.reduceMul,Nat.reduceAdd,Nat.reduceSub,Nat.reduceEqDiff,Nat.reduceBEq,Nat.reduceLeDiff,Nat.reduceLT,reduceCtorEq,Int.reduceAdd,Int.reduceSub,Int.reduceToNat,Int.reduceNeg,Int.reduceEq,Int.reduceLT,Int.reduceLE]
theorem it (E:En) (hy:Hy E [] [] [] xD none (fun y=>nocap y) zi) (a0_Files:List TFile) (a1:List UInt8):G E c_spec_l7Without [] ⟨zj [(0,.agg [.d (zh cFile a0_Files)]),(1,.d (sD a1))],zt []⟩=(tm E.n a0_Files a1).bind fun r=>some (.ret (.agg [zP (cFile) 59 none false r]) []):=by
 simp (config:={maxSteps:=40000000}) only [↓yo,zV,yu,yw,rI,rS,rB,r8,rLI,yv,yr,hy.p,hy.l,hy.k,hy.r,hy.d,hy.w,hy.f,zi,oid,xD,↓zm _ _ b0_spec_l7Without.eq_1,↓zm _ _ k1_spec_l7Without.eq_1,↓zm _ _ c_spec_l7Without.eq_1,zw,tm,lK E hy,zW,zG,zH,zX,zT,zU,yp,↓reduceIte,Nat.reduceMul,Nat.reduceAdd,Nat.reduceSub,Nat.reduceEqDiff,Nat.reduceBEq,Nat.reduceLeDiff,Nat.reduceLT,reduceCtorEq,Int.reduceAdd,Int.reduceSub,Int.reduceToNat,Int.reduceNeg,Int.reduceEq,Int.reduceLT,Int.reduceLE]
def ix (E:En) (L:(List TFile)→(List UInt8)→Option (List TFile)):Prop:=E.Γ.mu 32=false∧(∀ (a0_Files:List TFile) (a1:List UInt8),E.Γ 32 [.agg [.d (zh cFile a0_Files)],.d (sD a1)]=(L a0_Files a1).bind fun r=>some (.ret (.agg [zP (cFile) 59 none false r]) []))
def c_spec_l7Do:Cd:=
 sq (r [2,3,4] [o 2 .box [t 0],o 3 .box [t 1],o 4 (.alloc [.nil]) [],o 5 .mv [i 0]])
 (sq (sq (r [2,3,4,11] [o 9 (.ld (some 4)) [t 3],o 10 (.call 29) [t 9],o 11 .not [t 10]])
   (.cond (t 11) (sq (r [4,5] [o 12 (.ld (some 1)) [t 2],e (.st 1) [t 4,t 12],o 5 .mv [i 2]])
     (.ret)) (.skip)))
  (sq (r [2,3,4,6] [o 13 (.ld (some 1)) [t 2],o 14 (.fa 1) [t 3],o 15 (.ld none) [t 14],o 16 (.call 30) [t 13,t 15],o 6 .mv [t 16]])
   (sq (sq (r [2,3,4,6,19] [o 17 (.fa 0) [t 3],o 18 (.ld none) [t 17],o 19 (.bin .eql) [t 18,i 1]])
     (.cond (t 19) (sq (sq (r [2,3,4,27] [o 20 .mv [t 6],o 21 (.bin .lss) [t 20,i 0],o 22 .mv [t 21],g 22 true 23 (.fa 0) [t 2],g 22 true 24 (.ld none) [t 23],g 22 true 25 (.len false) [t 24],g 22 true 26 (.bin .geq) [t 25,i 400],o 27 .pick [t 22,t 26,b false]])
        (.cond (t 27) (sq (r [4,5] [o 28 (.ld (some 1)) [t 2],e (.st 1) [t 4,t 28],o 5 .mv [i 4]])
          (.ret)) (.skip)))
       (sq (r [4,5] [o 29 (.ld (some 1)) [t 2],o 30 (.fa 1) [t 3],o 31 (.ld none) [t 30],o 32 (.bld [(.d (sD [])),(.d (sD []))] [(0,1)]) [t 31],o 33 (.call 31) [t 29,t 32],e (.st 1) [t 4,t 33],o 5 .mv [i 0]])
        (.ret))) (.skip)))
    (sq (sq (r [2,3,4,6,35] [o 34 .mv [t 6],o 35 (.bin .lss) [t 34,i 0]])
      (.cond (t 35) (sq (r [4,5] [o 36 (.ld (some 1)) [t 2],e (.st 1) [t 4,t 36],o 5 .mv [i 3]])
        (.ret)) (.skip)))
     (sq (r [2,3,4,7] [o 37 (.fa 0) [t 2],o 38 (.ld none) [t 37],o 39 .mv [t 6],o 40 (.ia 2) [t 38,t 39],o 41 (.fa 1) [t 40],o 42 (.ld none) [t 41],o 7 .mv [t 42]])
      (sq (sq (r [2,3,4,7,45] [o 43 (.fa 0) [t 3],o 44 (.ld none) [t 43],o 45 (.bin .eql) [t 44,i 2]])
        (.cond (t 45) (sq (sq (r [2,3,4,7,52] [o 46 .mv [t 7],o 47 (.len true) [t 46],o 48 (.fa 3) [t 3],o 49 (.ld none) [t 48],o 50 (.len true) [t 49],o 51 (.bin .add) [t 47,t 50],o 52 (.bin .gtr) [t 51,i 100000]])
           (.cond (t 52) (sq (r [4,5] [o 53 (.ld (some 1)) [t 2],e (.st 1) [t 4,t 53],o 5 .mv [i 4]])
             (.ret)) (.skip)))
          (sq (r [4,5] [o 54 (.ld (some 1)) [t 2],o 55 (.fa 1) [t 3],o 56 (.ld none) [t 55],o 57 .mv [t 7],o 58 (.fa 3) [t 3],o 59 (.ld none) [t 58],o 60 (.bin .add) [t 57,t 59],o 61 (.bld [(.d (sD [])),(.d (sD []))] [(0,1),(1,1)]) [t 56,t 60],o 62 (.call 31) [t 54,t 61],e (.st 1) [t 4,t 62],o 5 .mv [i 0]])
           (.ret))) (.skip)))
       (sq (r [3,4,7,8] [o 63 (.ld (some 1)) [t 2],o 64 (.fa 1) [t 3],o 65 (.ld none) [t 64],o 66 (.call 32) [t 63,t 65],o 8 (.alloc [.nil]) [],e (.st 1) [t 8,t 66]])
        (sq (sq (r [3,4,7,8,69] [o 67 (.fa 0) [t 3],o 68 (.ld none) [t 67],o 69 (.bin .eql) [t 68,i 3]])
          (.cond (t 69) (r [4,8] [o 70 (.ld (some 1)) [t 8],o 71 (.fa 2) [t 3],o 72 (.ld none) [t 71],o 73 .mv [t 7],o 74 (.bld [(.d (sD [])),(.d (sD []))] [(0,1),(1,1)]) [t 72,t 73],o 75 (.call 31) [t 70,t 74],e (.st 1) [t 8,t 75]]) (.skip)))
         (sq (r [4,5] [o 76 (.ld (some 1)) [t 8],e (.st 1) [t 4,t 76],o 5 .mv [i 0]])
          (.ret))))))))))
def rM:List RV:=[.cell 4 (some 1),.tmp 5]
def rK (rq:Int→(List UInt8)→(List UInt8)→(List UInt8)→Option (Bool)) (pk:(List TFile)→(List UInt8)→Option (Int)) (wG:(List TFile)→(List UInt8)→(List UInt8)→Option (List TFile)) (tf:(List TFile)→(List UInt8)→Option (List TFile)) (N:Nat) (a0_Files:List TFile) (zk:Int) (a1_Name:List UInt8) (a1_To:List UInt8) (a1_Data:List UInt8):Option (Alt (List TFile×Int) (List TFile×Int)):=
 (rq zk a1_Name a1_To a1_Data).bind fun y0=>
 if y0=false then some ((.a ((a0_Files,2))))
 else ((pk a0_Files a1_Name).bind fun y1=>
  if zk=1 then (if y1 < 0 then (if 400 ≤ (↑(List.length a0_Files):Int) then some ((.a ((a0_Files,4))))
   else ((wG a0_Files a1_Name []).bind fun y2=>
    some ((.b ((y2,0))))))
   else ((wG a0_Files a1_Name []).bind fun y3=>
    some ((.b ((y3,0))))))
  else (if y1 < 0 then some ((.a ((a0_Files,3))))
   else ((idx a0_Files y1).bind fun y4=>
    if zk=2 then (if 100000 < w64 ((↑(List.length y4.Data):Int)+(↑(List.length a1_Data):Int)) then some ((.a ((a0_Files,4))))
     else (if qI (List.length (y4.Data++a1_Data)) then ((wG a0_Files a1_Name (y4.Data++a1_Data)).bind fun y5=>
      some ((.b ((y5,0)))))
      else none))
    else ((tf a0_Files a1_Name).bind fun y6=>
     if zk=3 then ((wG y6 a1_To y4.Data).bind fun y7=>
      some ((.b ((y7,0)))))
     else some ((.b ((y6,0))))))))
theorem aO (E:En) (hy:Hy E [] [] [] rM none (fun y=>nocap y) zi) (rq:Int→(List UInt8)→(List UInt8)→(List UInt8)→Option (Bool)) (h_spec_l7ActOk:fN E rq) (pk:(List TFile)→(List UInt8)→Option (Int)) (h_spec_l7At:ax E pk) (wG:(List TFile)→(List UInt8)→(List UInt8)→Option (List TFile)) (h_spec_l7With:de E wG) (tf:(List TFile)→(List UInt8)→Option (List TFile)) (h_spec_l7Without:ix E tf) (a0_Files:List TFile) (zk:Int) (a1_Name:List UInt8) (a1_To:List UInt8) (a1_Data:List UInt8):G E c_spec_l7Do [] ⟨zj [(0,.agg [.d (zh cFile a0_Files)]),(1,.agg [.d (.int .i64 zk),.d (sD a1_Name),.d (sD a1_To),.d (sD a1_Data)])],zt []⟩=(rK rq pk wG tf E.n a0_Files zk a1_Name a1_To a1_Data).bind fun r=>r.on (fun r=>some (.ret (.tup [.agg [.d (zh (cFile) r.1)],.d (.int .i64 r.2)]) [])) (fun r=>some (.ret (.tup [.agg [zP (cFile) 59 none false r.1],.d (.int .i64 r.2)]) [])):=by
 simp (config:={maxSteps:=40000000}) only [↓yo,zV,yu,yw,rI,rS,rB,r8,rLI,yv,yr,hy.p,hy.l,hy.k,hy.r,hy.d,hy.w,hy.f,zi,oid,rM,↓zm _ _ c_spec_l7Do.eq_1,h_spec_l7ActOk.2,h_spec_l7ActOk.1,h_spec_l7At.2,h_spec_l7At.1,h_spec_l7With.2,h_spec_l7With.1,h_spec_l7Without.2,h_spec_l7Without.1,zw,rK,zW,zG,zH,zX,zT,zU,yp,↓reduceIte,Nat.reduceMul,Nat.reduceAdd,Nat.reduceSub,Nat.reduceEqDiff,Nat.reduceBEq,Nat.reduceLeDiff,Nat.reduceLT,reduceCtorEq,Int.reduceAdd,Int.reduceSub,Int.reduceToNat,Int.reduceNeg,Int.reduceEq,Int.reduceLT,Int.reduceLE]
def ag (E:En) (L:(List TFile)→Int→(List UInt8)→(List UInt8)→(List UInt8)→Option (List TFile×Int)):Prop:=E.Γ.mu 16=false∧(∀ (a0_Files:List TFile) (zk:Int) (a1_Name:List UInt8) (a1_To:List UInt8) (a1_Data:List UInt8),E.Γ 16 [.agg [.d (zh cFile a0_Files)],.agg [.d (.int .i64 zk),.d (sD a1_Name),.d (sD a1_To),.d (sD a1_Data)]]=(L a0_Files zk a1_Name a1_To a1_Data).bind fun r=>some (.ret (.tup [.agg [.d (zh (cFile) r.1)],.d (.int .i64 r.2)]) []))
def c_spec_Do:Cd:=
 sq (r [2,3,4] [o 2 .box [t 0],o 3 .box [t 1],o 4 (.alloc [.nil]) [],o 5 .mv [i 0]])
 (sq (sq (r [2,3,4,8] [o 6 (.ld (some 1)) [t 2],o 7 (.call 14) [t 6],o 8 .not [t 7]])
   (.cond (t 8) (sq (r [4,5] [o 9 (.ld (some 1)) [t 2],o 10 (.call 15) [t 9],e (.st 1) [t 4,t 10],o 5 .mv [i 1]])
     (.ret)) (.skip)))
  (sq (rd [] [4,5] [o 11 (.ld (some 1)) [t 2],o 13 (.ld (some 4)) [t 3],ap [] false [3] (o 12 (.call 15) [t 11]),o 14 (.call 16) [t 12,t 13],o 15 (.ext 0) [t 14],o 16 (.ext 1) [t 14],e (.st 1) [t 4,t 15],o 5 .mv [t 16]])
   (.ret)))
def pE:List RV:=[.cell 4 (some 1),.tmp 5]
def pM (rZ:(List TFile)→Option (Bool)) (sd:(List TFile)→Option (List TFile)) (px:(List TFile)→Int→(List UInt8)→(List UInt8)→(List UInt8)→Option (List TFile×Int)) (N:Nat) (a0_Files:List TFile) (zk:Int) (a1_Name:List UInt8) (a1_To:List UInt8) (a1_Data:List UInt8):Option (List TFile×Int):=
 (rZ a0_Files).bind fun y0=>
 if y0=false then ((sd a0_Files).bind fun y1=>
  some ((y1,1)))
 else ((sd a0_Files).bind fun y2=>
  (px y2 zk a1_Name a1_To a1_Data).bind fun y3=>
  some ((y3.fst,y3.snd)))
theorem WL (E:En) (hy:Hy E [] [] [] pE none (fun y=>nocap y) zi) (rZ:(List TFile)→Option (Bool)) (h_spec_DiskOk:dq E rZ) (sd:(List TFile)→Option (List TFile)) (h_spec_l7Copy:eT E sd) (px:(List TFile)→Int→(List UInt8)→(List UInt8)→(List UInt8)→Option (List TFile×Int)) (h_spec_l7Do:ag E px) (a0_Files:List TFile) (zk:Int) (a1_Name:List UInt8) (a1_To:List UInt8) (a1_Data:List UInt8):G E c_spec_Do [] ⟨zj [(0,.agg [.d (zh cFile a0_Files)]),(1,.agg [.d (.int .i64 zk),.d (sD a1_Name),.d (sD a1_To),.d (sD a1_Data)])],zt []⟩=(pM rZ sd px E.n a0_Files zk a1_Name a1_To a1_Data).bind fun r=>some (.ret (.tup [.agg [.d (zh (cFile) r.1)],.d (.int .i64 r.2)]) []):=by
 simp (config:={maxSteps:=40000000}) only [↓yo,zV,yu,yw,rI,rS,rB,r8,rLI,yv,yr,hy.p,hy.l,hy.k,hy.r,hy.d,hy.w,hy.f,zi,oid,pE,↓zm _ _ c_spec_Do.eq_1,h_spec_DiskOk.2,h_spec_DiskOk.1,h_spec_l7Copy.2,h_spec_l7Copy.1,h_spec_l7Do.2,h_spec_l7Do.1,zw,pM,zW,zG,zH,zX,zT,zU,yp,↓reduceIte,Nat.reduceMul,Nat.reduceAdd,Nat.reduceSub,Nat.reduceEqDiff,Nat.reduceBEq,Nat.reduceLeDiff,Nat.reduceLT,reduceCtorEq,Int.reduceAdd,Int.reduceSub,Int.reduceToNat,Int.reduceNeg,Int.reduceEq,Int.reduceLT,Int.reduceLE]
def Wt (E:En) (L:(List TFile)→Int→(List UInt8)→(List UInt8)→(List UInt8)→Option (List TFile×Int)):Prop:=E.Γ.mu 6=false∧(∀ (a0_Files:List TFile) (zk:Int) (a1_Name:List UInt8) (a1_To:List UInt8) (a1_Data:List UInt8),E.Γ 6 [.agg [.d (zh cFile a0_Files)],.agg [.d (.int .i64 zk),.d (sD a1_Name),.d (sD a1_To),.d (sD a1_Data)]]=(L a0_Files zk a1_Name a1_To a1_Data).bind fun r=>some (.ret (.tup [.agg [.d (zh (cFile) r.1)],.d (.int .i64 r.2)]) []))
def c_impl_isDigit:Cd:=
 sq (r [0] [o 2 .mv [b false]])
 (sq (r [2] [o 3 .mv [t 0],o 4 (.bin .leq) [.k (.d (.int .u8 48)),t 3],o 5 .mv [t 4],g 5 true 6 .mv [t 0],g 5 true 7 (.bin .leq) [t 6,.k (.d (.int .u8 57))],o 8 .pick [t 5,t 7,b false],o 2 .mv [t 8]])
  (.ret))
def uV:List RV:=[.tmp 2]
def uE (N:Nat) (a0:Int):Option (Bool):=
 if 48 ≤ a0 then some (Decidable.decide (a0 ≤ 57))
 else some false
theorem fL (E:En) (hy:Hy E [] [] [] uV none (fun y=>nocap y) zi) (a0:Int):G E c_impl_isDigit [] ⟨zj [(0,.d (.int .u8 a0))],zt []⟩=(uE E.n a0).bind fun r=>some (.ret (.d (.bool r)) []):=by
 simp (config:={maxSteps:=40000000}) only [↓yo,zV,yu,yw,rI,rS,rB,r8,rLI,yv,yr,hy.p,hy.l,hy.k,hy.r,hy.d,hy.w,hy.f,zi,oid,uV,↓zm _ _ c_impl_isDigit.eq_1,zw,uE,zW,zG,zH,zX,zT,zU,yp,↓reduceIte,Nat.reduceMul,Nat.reduceAdd,Nat.reduceSub,Nat.reduceEqDiff,Nat.reduceBEq,Nat.reduceLeDiff,Nat.reduceLT,reduceCtorEq,Int.reduceAdd,Int.reduceSub,Int.reduceToNat,Int.reduceNeg,Int.reduceEq,Int.reduceLT,Int.reduceLE]
def me (E:En) (L:Int→Option (Bool)):Prop:=E.Γ.mu 52=false∧(∀ (a0:Int),E.Γ 52 [.d (.int .u8 a0)]=(L a0).bind fun r=>some (.ret (.d (.bool r)) []))
def c_impl_isLetter:Cd:=
 sq (r [0] [o 2 .mv [b false]])
 (sq (r [2] [o 3 .mv [t 0],o 4 (.bin .leq) [.k (.d (.int .u8 97)),t 3],o 5 .mv [t 4],g 5 true 6 .mv [t 0],g 5 true 7 (.bin .leq) [t 6,.k (.d (.int .u8 122))],o 8 .pick [t 5,t 7,b false],o 9 .mv [t 8],g 9 false 10 .mv [t 0],g 9 false 11 (.bin .leq) [.k (.d (.int .u8 65)),t 10],g 9 false 12 .mv [t 11],g 12 true 13 .mv [t 0],g 12 true 14 (.bin .leq) [t 13,.k (.d (.int .u8 90))],g 9 false 15 .pick [t 12,t 14,b false],o 16 .pick [t 9,b true,t 15],o 2 .mv [t 16]])
  (.ret))
def ua:List RV:=[.tmp 2]
def vN (N:Nat) (a0:Int):Option (Bool):=
 if 97 ≤ a0 then (if a0 ≤ 122 then some true
  else (if 65 ≤ a0 then some (Decidable.decide (a0 ≤ 90))
   else some false))
 else (if 65 ≤ a0 then some (Decidable.decide (a0 ≤ 90))
  else some false)
theorem gM (E:En) (hy:Hy E [] [] [] ua none (fun y=>nocap y) zi) (a0:Int):G E c_impl_isLetter [] ⟨zj [(0,.d (.int .u8 a0))],zt []⟩=(vN E.n a0).bind fun r=>some (.ret (.d (.bool r)) []):=by
 simp (config:={maxSteps:=40000000}) only [↓yo,zV,yu,yw,rI,rS,rB,r8,rLI,yv,yr,hy.p,hy.l,hy.k,hy.r,hy.d,hy.w,hy.f,zi,oid,ua,↓zm _ _ c_impl_isLetter.eq_1,zw,vN,zW,zG,zH,zX,zT,zU,yp,↓reduceIte,Nat.reduceMul,Nat.reduceAdd,Nat.reduceSub,Nat.reduceEqDiff,Nat.reduceBEq,Nat.reduceLeDiff,Nat.reduceLT,reduceCtorEq,Int.reduceAdd,Int.reduceSub,Int.reduceToNat,Int.reduceNeg,Int.reduceEq,Int.reduceLT,Int.reduceLE]
def nR (E:En) (L:Int→Option (Bool)):Prop:=E.Γ.mu 53=false∧(∀ (a0:Int),E.Γ 53 [.d (.int .u8 a0)]=(L a0).bind fun r=>some (.ret (.d (.bool r)) []))
def b0_impl_fileNameOk:Cd:=
 sq (r [0,13,14,15] [o 15 (.bin .lss) [t 14,t 13]])
 (sq (.cond (t 15) (.skip) (.exit 0))
  (sq (.block 1 (sq (r [0,3,13,14] [o 16 .mv [t 14],o 3 .mv [t 16]])
    (sq (r [0,13,14,40] [o 17 .mv [t 0],o 18 .mv [t 3],o 19 .ixs [t 17,t 18],o 20 (.call 52) [t 19],o 21 .not [t 20],o 22 .mv [t 21],g 22 true 23 .mv [t 0],g 22 true 24 .mv [t 3],g 22 true 25 .ixs [t 23,t 24],g 22 true 26 (.call 53) [t 25],g 22 true 27 .not [t 26],o 28 .pick [t 22,t 27,b false],o 29 .mv [t 28],g 29 true 30 .mv [t 0],g 29 true 31 .mv [t 3],g 29 true 32 .ixs [t 30,t 31],g 29 true 33 (.bin .neq) [t 32,.k (.d (.int .u8 46))],o 34 .pick [t 29,t 33,b false],o 35 .mv [t 34],g 35 true 36 .mv [t 0],g 35 true 37 .mv [t 3],g 35 true 38 .ixs [t 36,t 37],g 35 true 39 (.bin .neq) [t 38,.k (.d (.int .u8 95))],o 40 .pick [t 35,t 39,b false]])
     (.cond (t 40) (sq (r [2] [o 2 .mv [b false]])
       (.ret)) (.skip)))))
   (r [0,13,14] [o 41 (.bin .add) [t 14,i 1],o 14 .mv [t 41]])))
def k1_impl_fileNameOk:Cd:=
 sq (r [2] [o 2 .mv [b true]])
 (.ret)
def c_impl_fileNameOk:Cd:=
 sq (r [0] [o 2 .mv [b false]])
 (sq (sq (r [0,11] [o 4 .mv [t 0],o 5 (.len true) [t 4],o 6 (.bin .lss) [t 5,i 1],o 7 .mv [t 6],g 7 false 8 .mv [t 0],g 7 false 9 (.len true) [t 8],g 7 false 10 (.bin .gtr) [t 9,i 40],o 11 .pick [t 7,b true,t 10]])
   (.cond (t 11) (sq (r [2] [o 2 .mv [b false]])
     (.ret)) (.skip)))
  (sq (sq (r [0,13,14] [o 12 .mv [t 0],o 13 (.len true) [t 12],o 14 .mv [i 0]])
    (.block 0 (.loop [0,13,14] b0_impl_fileNameOk))) k1_impl_fileNameOk))
def xi:List RV:=[.tmp 2]
def yA (ym:Int→Option (Bool)) (yd:Int→Option (Bool)):Nat→(List UInt8)→Int→Int→Option (Bool)
 | 0,_,_,_=>none
 | m0+1,x0,x13,x14=>
   if x14 < x13 then ((pZ x0 x14).bind fun y0=>
    (ym y0).bind fun y1=>
    if y1=false then ((pZ x0 x14).bind fun y2=>
     (yd y2).bind fun y3=>
     if y3=false then ((pZ x0 x14).bind fun y4=>
      if y4=46 then yA ym yd m0 x0 x13 (w64 (x14+1))
      else ((pZ x0 x14).bind fun y5=>
       if y5=95 then yA ym yd m0 x0 x13 (w64 (x14+1))
       else some false))
     else yA ym yd m0 x0 x13 (w64 (x14+1)))
    else yA ym yd m0 x0 x13 (w64 (x14+1)))
   else some true
def wM (ym:Int→Option (Bool)) (yd:Int→Option (Bool)) (N:Nat) (a0:List UInt8):Option (Bool):=
 if (↑(List.length a0):Int) < 1 then some false
 else (if 40 < (↑(List.length a0):Int) then some false
  else yA ym yd N a0 ((↑(List.length a0):Int)) 0)
theorem mf (E:En) (hy:Hy E [] [] [] xi none (fun y=>nocap y) zi) (ym:Int→Option (Bool)) (h_impl_isDigit:me E ym) (yd:Int→Option (Bool)) (h_impl_isLetter:nR E yd):∀ (m0:Nat) (x0:List UInt8) (x13:Int) (x14:Int),gH E [0,13,14] b0_impl_fileNameOk [KJ.b 0,KJ.c k1_impl_fileNameOk] m0 ⟨zj [(0,.d (sD x0)),(13,.d (.int .i64 x13)),(14,.d (.int .i64 x14))],zt []⟩=(yA ym yd m0 x0 x13 x14).bind fun r=>some (.ret (.d (.bool r)) []):=by
 intro m0
 induction m0 with
 | zero=>intros; rfl
 | succ m0 ih=>
   intros
   simp (config:={maxSteps:=40000000}) only [↓yo,zV,yu,yw,rI,rS,rB,r8,rLI,yv,yr,hy.p,hy.l,hy.k,hy.r,hy.d,hy.w,hy.f,zi,oid,xi,↓zm _ _ b0_impl_fileNameOk.eq_1,↓zm _ _ k1_impl_fileNameOk.eq_1,↓zm _ _ c_impl_fileNameOk.eq_1,h_impl_isDigit.2,h_impl_isDigit.1,h_impl_isLetter.2,h_impl_isLetter.1,wB,ih,zw,yA,zW,zG,zH,zX,zT,zU,yp,↓reduceIte,Nat.reduceMul,Nat.reduceAdd,Nat.reduceSub,Nat.reduceEqDiff,Nat.reduceBEq,Nat.reduceLeDiff,Nat.reduceLT,reduceCtorEq,Int.reduceAdd,Int.reduceSub,Int.reduceToNat,Int.reduceNeg,Int.reduceEq,Int.reduceLT,Int.reduceLE]
theorem jv (E:En) (hy:Hy E [] [] [] xi none (fun y=>nocap y) zi) (ym:Int→Option (Bool)) (h_impl_isDigit:me E ym) (yd:Int→Option (Bool)) (h_impl_isLetter:nR E yd) (a0:List UInt8):G E c_impl_fileNameOk [] ⟨zj [(0,.d (sD a0))],zt []⟩=(wM ym yd E.n a0).bind fun r=>some (.ret (.d (.bool r)) []):=by
 simp (config:={maxSteps:=40000000}) only [↓yo,zV,yu,yw,rI,rS,rB,r8,rLI,yv,yr,hy.p,hy.l,hy.k,hy.r,hy.d,hy.w,hy.f,zi,oid,xi,↓zm _ _ b0_impl_fileNameOk.eq_1,↓zm _ _ k1_impl_fileNameOk.eq_1,↓zm _ _ c_impl_fileNameOk.eq_1,h_impl_isDigit.2,h_impl_isDigit.1,h_impl_isLetter.2,h_impl_isLetter.1,zw,wM,mf E hy ym h_impl_isDigit yd h_impl_isLetter,zW,zG,zH,zX,zT,zU,yp,↓reduceIte,Nat.reduceMul,Nat.reduceAdd,Nat.reduceSub,Nat.reduceEqDiff,Nat.reduceBEq,Nat.reduceLeDiff,Nat.reduceLT,reduceCtorEq,Int.reduceAdd,Int.reduceSub,Int.reduceToNat,Int.reduceNeg,Int.reduceEq,Int.reduceLT,Int.reduceLE]
def rE (E:En) (L:(List UInt8)→Option (Bool)):Prop:=E.Γ.mu 34=false∧(∀ (a0:List UInt8),E.Γ 34 [.d (sD a0)]=(L a0).bind fun r=>some (.ret (.d (.bool r)) []))
def b0_impl_DiskOk:Cd:=
 sq (r [1,10,11,12,13] [o 13 (.bin .lss) [t 12,t 11]])
 (sq (.cond (t 13) (.skip) (.exit 0))
  (sq (.block 1 (sq (r [1,3,4,10,11,12] [o 14 .mv [t 12],o 15 (.ia 2) [t 10,t 12],o 16 (.ld (some 2)) [t 15],o 4 (.alloc [(.d (sD [])),(.d (sD []))]) [],o 3 .mv [t 14],e (.st 2) [t 4,t 16]])
    (sq (rd [] [1,10,11,12,42] [o 17 (.fa 0) [t 4],o 18 (.ld none) [t 17],o 19 (.call 34) [t 18],o 20 .not [t 19],o 21 .mv [t 20],g 21 false 22 (.fa 1) [t 4],g 21 false 23 (.ld none) [t 22],g 21 false 24 (.len true) [t 23],g 21 false 25 (.bin .gtr) [t 24,i 100000],o 26 .pick [t 21,b true,t 25],o 27 .mv [t 26],g 27 false 28 .mv [t 3],g 27 false 29 (.bin .gtr) [t 28,i 0],g 27 false 30 .mv [t 29],g 30 true 31 (.fa 0) [t 1],g 30 true 32 (.ld none) [t 31],g 30 true 33 .mv [t 3],g 30 true 34 (.bin .sub) [t 33,i 1],g 30 true 35 (.ia 2) [t 32,t 34],g 30 true 36 (.fa 0) [t 35],g 30 true 37 (.ld none) [t 36],g 30 true 38 (.fa 0) [t 4],g 30 true 39 (.ld none) [t 38],g 30 true 40 (.bin .geq) [t 37,t 39],g 27 false 41 .pick [t 30,t 40,b false],o 42 .pick [t 27,b true,t 41]])
     (.cond (t 42) (sq (r [2] [o 2 .mv [b false]])
       (.ret)) (.skip)))))
   (r [1,10,11,12] [o 43 (.bin .add) [t 12,i 1],o 12 .mv [t 43]])))
def k1_impl_DiskOk:Cd:=
 sq (r [2] [o 2 .mv [b true]])
 (.ret)
def c_impl_DiskOk:Cd:=
 sq (r [1] [o 1 .box [t 0],o 2 .mv [b false]])
 (sq (sq (r [1,8] [o 5 (.fa 0) [t 1],o 6 (.ld none) [t 5],o 7 (.len false) [t 6],o 8 (.bin .gtr) [t 7,i 400]])
   (.cond (t 8) (sq (r [2] [o 2 .mv [b false]])
     (.ret)) (.skip)))
  (sq (sq (r [1,10,11,12] [o 9 (.fa 0) [t 1],o 10 (.ld none) [t 9],o 11 (.len false) [t 10],o 12 .mv [i 0]])
    (.block 0 (.loop [1,10,11,12] b0_impl_DiskOk))) k1_impl_DiskOk))
def wK:List RV:=[.tmp 2]
def xI (zE:(List UInt8)→Option (Bool)):Nat→(List TFile)→Int→Int→(List TFile)→Option (Bool)
 | 0,_,_,_,_=>none
 | m0+1,x10,x11,x12,o64_0=>
   if x12 < x11 then ((idx x10 x12).bind fun y0=>
    (zE y0.Name).bind fun y1=>
    if y1=false then some false
    else (if 100000 < (↑(List.length y0.Data):Int) then some false
     else (if 0 < x12 then ((idx o64_0 (w64 (x12 - 1))).bind fun y2=>
      if xZ y2.Name y0.Name=false then some false
      else xI zE m0 x10 x11 (w64 (x12+1)) o64_0)
      else xI zE m0 x10 x11 (w64 (x12+1)) o64_0)))
   else some true
def tZ (zE:(List UInt8)→Option (Bool)) (N:Nat) (a0_Files:List TFile):Option (Bool):=
 if 400 < (↑(List.length a0_Files):Int) then some false
 else xI zE N a0_Files ((↑(List.length a0_Files):Int)) 0 a0_Files
theorem jB (E:En) (hy:Hy E [] [] [] wK none (fun y=>nocap y) zi) (zE:(List UInt8)→Option (Bool)) (h_impl_fileNameOk:rE E zE):∀ (m0:Nat) (x10:List TFile) (x11:Int) (x12:Int) (o64_0:List TFile),gH E [1,10,11,12] b0_impl_DiskOk [KJ.b 0,KJ.c k1_impl_DiskOk] m0 ⟨zj [(1,A.adr 64 1 0),(10,.d (zh (cFile) x10)),(11,.d (.int .i64 x11)),(12,.d (.int .i64 x12))],zt [(64,⟨1,.box [.d (zh (cFile) o64_0)],false⟩)]⟩=(xI zE m0 x10 x11 x12 o64_0).bind fun r=>some (.ret (.d (.bool r)) []):=by
 intro m0
 induction m0 with
 | zero=>intros; rfl
 | succ m0 ih=>
   intros
   simp (config:={maxSteps:=40000000}) only [↓yo,zV,yu,yw,rI,rS,rB,r8,rLI,yv,yr,hy.p,hy.l,hy.k,hy.r,hy.d,hy.w,hy.f,zi,oid,wK,↓zm _ _ b0_impl_DiskOk.eq_1,↓zm _ _ k1_impl_DiskOk.eq_1,↓zm _ _ c_impl_DiskOk.eq_1,h_impl_fileNameOk.2,h_impl_fileNameOk.1,wB,ih,zw,xI,zW,zG,zH,zX,zT,zU,yp,↓reduceIte,Nat.reduceMul,Nat.reduceAdd,Nat.reduceSub,Nat.reduceEqDiff,Nat.reduceBEq,Nat.reduceLeDiff,Nat.reduceLT,reduceCtorEq,Int.reduceAdd,Int.reduceSub,Int.reduceToNat,Int.reduceNeg,Int.reduceEq,Int.reduceLT,Int.reduceLE]
theorem dh (E:En) (hy:Hy E [] [] [] wK none (fun y=>nocap y) zi) (zE:(List UInt8)→Option (Bool)) (h_impl_fileNameOk:rE E zE) (a0_Files:List TFile):G E c_impl_DiskOk [] ⟨zj [(0,.agg [.d (zh cFile a0_Files)])],zt []⟩=(tZ zE E.n a0_Files).bind fun r=>some (.ret (.d (.bool r)) []):=by
 simp (config:={maxSteps:=40000000}) only [↓yo,zV,yu,yw,rI,rS,rB,r8,rLI,yv,yr,hy.p,hy.l,hy.k,hy.r,hy.d,hy.w,hy.f,zi,oid,wK,↓zm _ _ b0_impl_DiskOk.eq_1,↓zm _ _ k1_impl_DiskOk.eq_1,↓zm _ _ c_impl_DiskOk.eq_1,h_impl_fileNameOk.2,h_impl_fileNameOk.1,zw,tZ,jB E hy zE h_impl_fileNameOk,zW,zG,zH,zX,zT,zU,yp,↓reduceIte,Nat.reduceMul,Nat.reduceAdd,Nat.reduceSub,Nat.reduceEqDiff,Nat.reduceBEq,Nat.reduceLeDiff,Nat.reduceLT,reduceCtorEq,Int.reduceAdd,Int.reduceSub,Int.reduceToNat,Int.reduceNeg,Int.reduceEq,Int.reduceLT,Int.reduceLE]
def Oq (E:En) (L:(List TFile)→Option (Bool)):Prop:=E.Γ.mu 18=false∧(∀ (a0_Files:List TFile),E.Γ 18 [.agg [.d (zh cFile a0_Files)]]=(L a0_Files).bind fun r=>some (.ret (.d (.bool r)) []))
def c_slices_Clone___impl_File_impl_File_:Cd:=
 sq (r [0] [o 2 .mv [n]])
 (sq (sq (r [0,4] [o 3 .mv [t 0],o 4 (.snil false) [t 3]])
   (.cond (t 4) (sq (r [2] [o 2 .mv [n]])
     (.ret)) (.skip)))
  (sq (r [2] [o 5 (lit 59 2 0) [],o 6 .mv [t 0],o 7 (.app 59 2 32) [t 5,t 6],o 2 .mv [t 7]])
   (.ret)))
def zC:List RV:=[.tmp 2]
def ya (N:Nat) (a0:List TFile):Option (List TFile):=
 if vm 32 (List.length a0) then some a0
 else none
theorem tP (E:En) (hy:Hy E [] [] [] zC none (fun y=>nocap (pm (.own 59 2) y)) zi) (a0:List TFile):G E c_slices_Clone___impl_File_impl_File_ [] ⟨zj [(0,.d (lw cFile a0))],zt []⟩=(ya E.n a0).bind fun r=>some (.ret (zP (cFile) 59 none false r) []):=by
 simp (config:={maxSteps:=40000000}) only [↓yo,zV,yu,yw,rI,rS,rB,r8,rLI,yv,yr,hy.p,hy.l,hy.k,hy.r,hy.d,hy.w,hy.f,zi,oid,zC,↓zm _ _ c_slices_Clone___impl_File_impl_File_.eq_1,zw,ya,zW,zG,zH,zX,zT,zU,yp,↓reduceIte,Nat.reduceMul,Nat.reduceAdd,Nat.reduceSub,Nat.reduceEqDiff,Nat.reduceBEq,Nat.reduceLeDiff,Nat.reduceLT,reduceCtorEq,Int.reduceAdd,Int.reduceSub,Int.reduceToNat,Int.reduceNeg,Int.reduceEq,Int.reduceLT,Int.reduceLE]
def yE (N:Nat):Option (List TFile):=
 some []
theorem tz (E:En) (hy:Hy E [] [] [] zC none (fun y=>nocap (pm (.own 59 2) y)) zi):G E c_slices_Clone___impl_File_impl_File_ [] ⟨zj [(0,.nil)],zt []⟩=(yE E.n).bind fun r=>some (.ret (zP (cFile) 59 none false r) []):=by
 simp (config:={maxSteps:=40000000}) only [↓yo,zV,yu,yw,rI,rS,rB,r8,rLI,yv,yr,hy.p,hy.l,hy.k,hy.r,hy.d,hy.w,hy.f,zi,oid,zC,↓zm _ _ c_slices_Clone___impl_File_impl_File_.eq_1,zw,yE,zW,zG,zH,zX,zT,zU,yp,↓reduceIte,Nat.reduceMul,Nat.reduceAdd,Nat.reduceSub,Nat.reduceEqDiff,Nat.reduceBEq,Nat.reduceLeDiff,Nat.reduceLT,reduceCtorEq,Int.reduceAdd,Int.reduceSub,Int.reduceToNat,Int.reduceNeg,Int.reduceEq,Int.reduceLT,Int.reduceLE]
def sP (E:En) (L:(List TFile)→Option (List TFile)):Prop:=E.Γ.mu 35=false∧(∀ (a0:List TFile),E.Γ 35 [.d (zh cFile a0)]=(L a0).bind fun r=>some (.ret (zP (cFile) 59 none false r) []))
def c_impl_copied:Cd:=
 sq (r [1,2] [o 1 .box [t 0],o 2 (.alloc [.nil]) []])
 (sq (r [2] [o 3 (.fa 0) [t 1],o 4 (.ld none) [t 3],o 5 (.call 35) [t 4],o 6 (.bld [.nil] [(0,1)]) [t 5],e (.st 1) [t 2,t 6]])
  (.ret))
def tJ:List RV:=[.cell 2 (some 1)]
def tt (yI:(List TFile)→Option (List TFile)) (N:Nat) (a0_Files:List TFile):Option (List TFile):=
 (yI a0_Files).bind fun y0=>
 some y0
theorem dg (E:En) (hy:Hy E [] [] [] tJ none (fun y=>nocap y) zi) (yI:(List TFile)→Option (List TFile)) (h_slices_Clone___impl_File_impl_File_:sP E yI) (a0_Files:List TFile):G E c_impl_copied [] ⟨zj [(0,.agg [.d (zh cFile a0_Files)])],zt []⟩=(tt yI E.n a0_Files).bind fun r=>some (.ret (.agg [zP (cFile) 59 none false r]) []):=by
 simp (config:={maxSteps:=40000000}) only [↓yo,zV,yu,yw,rI,rS,rB,r8,rLI,yv,yr,hy.p,hy.l,hy.k,hy.r,hy.d,hy.w,hy.f,zi,oid,tJ,↓zm _ _ c_impl_copied.eq_1,h_slices_Clone___impl_File_impl_File_.2,h_slices_Clone___impl_File_impl_File_.1,zw,tt,zW,zG,zH,zX,zT,zU,yp,↓reduceIte,Nat.reduceMul,Nat.reduceAdd,Nat.reduceSub,Nat.reduceEqDiff,Nat.reduceBEq,Nat.reduceLeDiff,Nat.reduceLT,reduceCtorEq,Int.reduceAdd,Int.reduceSub,Int.reduceToNat,Int.reduceNeg,Int.reduceEq,Int.reduceLT,Int.reduceLE]
def Oo (E:En) (L:(List TFile)→Option (List TFile)):Prop:=E.Γ.mu 19=false∧(∀ (a0_Files:List TFile),E.Γ 19 [.agg [.d (zh cFile a0_Files)]]=(L a0_Files).bind fun r=>some (.ret (.agg [zP (cFile) 59 none false r]) []))
def c_impl_actOk:Cd:=
 sq (r [1] [o 1 .box [t 0],o 2 .mv [b false]])
 (sq (sq (r [1,26] [o 3 (.fa 0) [t 1],o 4 (.ld none) [t 3],o 5 (.bin .lss) [t 4,i 1],o 6 .mv [t 5],g 6 false 7 (.fa 0) [t 1],g 6 false 8 (.ld none) [t 7],g 6 false 9 (.bin .gtr) [t 8,i 4],o 10 .pick [t 6,b true,t 9],o 11 .mv [t 10],g 11 false 12 (.fa 1) [t 1],g 11 false 13 (.ld none) [t 12],g 11 false 14 (.call 34) [t 13],g 11 false 15 .not [t 14],o 16 .pick [t 11,b true,t 15],o 17 .mv [t 16],g 17 false 18 (.fa 3) [t 1],g 17 false 19 (.ld none) [t 18],g 17 false 20 (.bin .neq) [t 19,s []],g 17 false 21 .mv [t 20],g 21 true 22 (.fa 0) [t 1],g 21 true 23 (.ld none) [t 22],g 21 true 24 (.bin .neq) [t 23,i 2],g 17 false 25 .pick [t 21,t 24,b false],o 26 .pick [t 17,b true,t 25]])
   (.cond (t 26) (sq (r [2] [o 2 .mv [b false]])
     (.ret)) (.skip)))
  (sq (r [2] [o 27 (.fa 0) [t 1],o 28 (.ld none) [t 27],o 29 (.bin .eql) [t 28,i 3],o 30 .mv [t 29],g 30 true 31 (.fa 2) [t 1],g 30 true 32 (.ld none) [t 31],g 30 true 33 (.call 34) [t 32],o 34 .pick [t 30,t 33,b false],o 35 .mv [t 34],g 35 false 36 (.fa 0) [t 1],g 35 false 37 (.ld none) [t 36],g 35 false 38 (.bin .neq) [t 37,i 3],g 35 false 39 .mv [t 38],g 39 true 40 (.fa 2) [t 1],g 39 true 41 (.ld none) [t 40],g 39 true 42 (.bin .eql) [t 41,s []],g 35 false 43 .pick [t 39,t 42,b false],o 44 .pick [t 35,b true,t 43],o 2 .mv [t 44]])
   (.ret)))
def sS:List RV:=[.tmp 2]
def re (zE:(List UInt8)→Option (Bool)) (N:Nat) (zo:Int) (zf:List UInt8) (zB:List UInt8) (zg:List UInt8):Option (Bool):=
 if zo < 1 then some false
 else (if 4 < zo then some false
  else ((zE zf).bind fun y0=>
   if y0=false then some false
   else (if zg=[] then (if zo=3 then ((zE zB).bind fun y1=>
     if y1=true then some true
     else (if zo=3 then some false
      else some (Decidable.decide (zB=[]))))
    else (if zo=3 then some false
     else some (Decidable.decide (zB=[]))))
    else (if zo=2 then (if zo=3 then ((zE zB).bind fun y2=>
      if y2=true then some true
      else (if zo=3 then some false
       else some (Decidable.decide (zB=[]))))
     else (if zo=3 then some false
      else some (Decidable.decide (zB=[]))))
     else some false))))
theorem bX (E:En) (hy:Hy E [] [] [] sS none (fun y=>nocap y) zi) (zE:(List UInt8)→Option (Bool)) (h_impl_fileNameOk:rE E zE) (zo:Int) (zf:List UInt8) (zB:List UInt8) (zg:List UInt8):G E c_impl_actOk [] ⟨zj [(0,.agg [.d (.int .i64 zo),.d (sD zf),.d (sD zB),.d (sD zg)])],zt []⟩=(re zE E.n zo zf zB zg).bind fun r=>some (.ret (.d (.bool r)) []):=by
 simp (config:={maxSteps:=40000000}) only [↓yo,zV,yu,yw,rI,rS,rB,r8,rLI,yv,yr,hy.p,hy.l,hy.k,hy.r,hy.d,hy.w,hy.f,zi,oid,sS,↓zm _ _ c_impl_actOk.eq_1,h_impl_fileNameOk.2,h_impl_fileNameOk.1,zw,re,zW,zG,zH,zX,zT,zU,yp,↓reduceIte,Nat.reduceMul,Nat.reduceAdd,Nat.reduceSub,Nat.reduceEqDiff,Nat.reduceBEq,Nat.reduceLeDiff,Nat.reduceLT,reduceCtorEq,Int.reduceAdd,Int.reduceSub,Int.reduceToNat,Int.reduceNeg,Int.reduceEq,Int.reduceLT,Int.reduceLE]
def N4 (E:En) (L:Int→(List UInt8)→(List UInt8)→(List UInt8)→Option (Bool)):Prop:=E.Γ.mu 43=false∧(∀ (zo:Int) (zf:List UInt8) (zB:List UInt8) (zg:List UInt8),E.Γ 43 [.agg [.d (.int .i64 zo),.d (sD zf),.d (sD zB),.d (sD zg)]]=(L zo zf zB zg).bind fun r=>some (.ret (.d (.bool r)) []))
def V2 (E:En) (L:(List TFile)→Int→(List UInt8)→(List UInt8)→(List UInt8)→Option (List TFile×Int)):Prop:=E.Γ.mu 9=false∧(∀ (a0_Files:List TFile) (zk:Int) (a1_Name:List UInt8) (a1_To:List UInt8) (a1_Data:List UInt8),E.Γ 9 [.agg [.d (zh cFile a0_Files)],.agg [.d (.int .i64 zk),.d (sD a1_Name),.d (sD a1_To),.d (sD a1_Data)]]=(L a0_Files zk a1_Name a1_To a1_Data).bind fun r=>some (.ret (.tup [.agg [zP (cFile) 59 none false r.1],.d (.int .i64 r.2)]) []))
def c_laws_eqFile:Cd:=
 sq (r [2,3] [o 2 .box [t 0],o 3 .box [t 1],o 4 .mv [b false]])
 (sq (sq (r [2,3,9] [o 5 (.fa 0) [t 2],o 6 (.ld none) [t 5],o 7 (.fa 0) [t 3],o 8 (.ld none) [t 7],o 9 (.bin .neq) [t 6,t 8]])
   (.cond (t 9) (sq (r [4] [o 4 .mv [b false]])
     (.ret)) (.skip)))
  (sq (sq (r [14] [o 10 (.fa 1) [t 2],o 11 (.ld none) [t 10],o 12 (.fa 1) [t 3],o 13 (.ld none) [t 12],o 14 (.bin .neq) [t 11,t 13]])
    (.cond (t 14) (sq (r [4] [o 4 .mv [b false]])
      (.ret)) (.skip)))
   (sq (r [4] [o 4 .mv [b true]])
    (.ret))))
def tH:List RV:=[.tmp 4]
def sr (N:Nat) (zf:List UInt8) (zg:List UInt8) (a1_Name:List UInt8) (a1_Data:List UInt8):Option (Bool):=
 if zf=a1_Name then (if zg=a1_Data then some true
  else some false)
 else some false
theorem du (E:En) (hy:Hy E [] [] [] tH none (fun y=>nocap y) zi) (zf:List UInt8) (zg:List UInt8) (a1_Name:List UInt8) (a1_Data:List UInt8):G E c_laws_eqFile [] ⟨zj [(0,.agg [.d (sD zf),.d (sD zg)]),(1,.agg [.d (sD a1_Name),.d (sD a1_Data)])],zt []⟩=(sr E.n zf zg a1_Name a1_Data).bind fun r=>some (.ret (.d (.bool r)) []):=by
 simp (config:={maxSteps:=40000000}) only [↓yo,zV,yu,yw,rI,rS,rB,r8,rLI,yv,yr,hy.p,hy.l,hy.k,hy.r,hy.d,hy.w,hy.f,zi,oid,tH,↓zm _ _ c_laws_eqFile.eq_1,zw,sr,zW,zG,zH,zX,zT,zU,yp,↓reduceIte,Nat.reduceMul,Nat.reduceAdd,Nat.reduceSub,Nat.reduceEqDiff,Nat.reduceBEq,Nat.reduceLeDiff,Nat.reduceLT,reduceCtorEq,Int.reduceAdd,Int.reduceSub,Int.reduceToNat,Int.reduceNeg,Int.reduceEq,Int.reduceLT,Int.reduceLE]
def l5 (E:En) (L:(List UInt8)→(List UInt8)→(List UInt8)→(List UInt8)→Option (Bool)):Prop:=E.Γ.mu 48=false∧(∀ (zf:List UInt8) (zg:List UInt8) (a1_Name:List UInt8) (a1_Data:List UInt8),E.Γ 48 [.agg [.d (sD zf),.d (sD zg)],.agg [.d (sD a1_Name),.d (sD a1_Data)]]=(L zf zg a1_Name a1_Data).bind fun r=>some (.ret (.d (.bool r)) []))
def b0_laws_eqFileS:Cd:=
 sq (sq (r [0,1,5,14] [o 11 .mv [t 5],o 12 .mv [t 0],o 13 (.len false) [t 12],o 14 (.bin .lss) [t 11,t 13]])
  (.cond (t 14) (.skip) (.exit 0)))
 (sq (.block 1 (sq (rd [] [0,1,5,26] [o 17 .mv [t 0],o 18 .mv [t 5],o 19 (.ia 2) [t 17,t 18],o 20 (.ld (some 2)) [t 19],o 21 .mv [t 1],o 22 .mv [t 5],o 23 (.ia 2) [t 21,t 22],o 24 (.ld (some 2)) [t 23],o 25 (.call 48) [t 20,t 24],o 26 .not [t 25]])
   (.cond (t 26) (sq (r [4] [o 4 .mv [b false]])
     (.ret)) (.skip))))
  (r [0,1,5] [o 15 .mv [t 5],o 16 (.bin .add) [t 15,i 1],o 5 .mv [t 16]]))
def k1_laws_eqFileS:Cd:=
 sq (r [4] [o 4 .mv [b true]])
 (.ret)
def c_laws_eqFileS:Cd:=
 sq (r [0,1] [o 4 .mv [b false]])
 (sq (sq (r [0,1,10] [o 6 .mv [t 0],o 7 (.len false) [t 6],o 8 .mv [t 1],o 9 (.len false) [t 8],o 10 (.bin .neq) [t 7,t 9]])
   (.cond (t 10) (sq (r [4] [o 4 .mv [b false]])
     (.ret)) (.skip)))
  (sq (sq (r [0,1,5] [o 5 .mv [i 0]])
    (.block 0 (.loop [0,1,5] b0_laws_eqFileS))) k1_laws_eqFileS))
def wg:List RV:=[.tmp 4]
def xU (yN:(List UInt8)→(List UInt8)→(List UInt8)→(List UInt8)→Option (Bool)):Nat→(List TFile)→(List TFile)→Int→Option (Bool)
 | 0,_,_,_=>none
 | m0+1,x0,x1,x5=>
   if x5 < (↑(List.length x0):Int) then ((idx x0 x5).bind fun y0=>
    (idx x1 x5).bind fun y1=>
    (yN y0.Name y0.Data y1.Name y1.Data).bind fun y2=>
    if y2=false then some false
    else xU yN m0 x0 x1 (w64 (x5+1)))
   else some true
def uF (yN:(List UInt8)→(List UInt8)→(List UInt8)→(List UInt8)→Option (Bool)) (N:Nat) (a0:List TFile) (a1:List TFile):Option (Bool):=
 if (↑(List.length a0):Int)=(↑(List.length a1):Int) then xU yN N a0 a1 0
 else some false
theorem kN (E:En) (hy:Hy E [] [] [] wg none (fun y=>nocap y) zi) (yN:(List UInt8)→(List UInt8)→(List UInt8)→(List UInt8)→Option (Bool)) (h_laws_eqFile:l5 E yN):∀ (m0:Nat) (x0:List TFile) (x1:List TFile) (x5:Int),gH E [0,1,5] b0_laws_eqFileS [KJ.b 0,KJ.c k1_laws_eqFileS] m0 ⟨zj [(0,.d (zh (cFile) x0)),(1,.d (zh (cFile) x1)),(5,.d (.int .i64 x5))],zt []⟩=(xU yN m0 x0 x1 x5).bind fun r=>some (.ret (.d (.bool r)) []):=by
 intro m0
 induction m0 with
 | zero=>intros; rfl
 | succ m0 ih=>
   intros
   simp (config:={maxSteps:=40000000}) only [↓yo,zV,yu,yw,rI,rS,rB,r8,rLI,yv,yr,hy.p,hy.l,hy.k,hy.r,hy.d,hy.w,hy.f,zi,oid,wg,↓zm _ _ b0_laws_eqFileS.eq_1,↓zm _ _ k1_laws_eqFileS.eq_1,↓zm _ _ c_laws_eqFileS.eq_1,h_laws_eqFile.2,h_laws_eqFile.1,wB,ih,zw,xU,zW,zG,zH,zX,zT,zU,yp,↓reduceIte,Nat.reduceMul,Nat.reduceAdd,Nat.reduceSub,Nat.reduceEqDiff,Nat.reduceBEq,Nat.reduceLeDiff,Nat.reduceLT,reduceCtorEq,Int.reduceAdd,Int.reduceSub,Int.reduceToNat,Int.reduceNeg,Int.reduceEq,Int.reduceLT,Int.reduceLE]
theorem fB (E:En) (hy:Hy E [] [] [] wg none (fun y=>nocap y) zi) (yN:(List UInt8)→(List UInt8)→(List UInt8)→(List UInt8)→Option (Bool)) (h_laws_eqFile:l5 E yN) (a0:List TFile) (a1:List TFile):G E c_laws_eqFileS [] ⟨zj [(0,.d (zh cFile a0)),(1,.d (zh cFile a1))],zt []⟩=(uF yN E.n a0 a1).bind fun r=>some (.ret (.d (.bool r)) []):=by
 simp (config:={maxSteps:=40000000}) only [↓yo,zV,yu,yw,rI,rS,rB,r8,rLI,yv,yr,hy.p,hy.l,hy.k,hy.r,hy.d,hy.w,hy.f,zi,oid,wg,↓zm _ _ b0_laws_eqFileS.eq_1,↓zm _ _ k1_laws_eqFileS.eq_1,↓zm _ _ c_laws_eqFileS.eq_1,h_laws_eqFile.2,h_laws_eqFile.1,zw,uF,kN E hy yN h_laws_eqFile,zW,zG,zH,zX,zT,zU,yp,↓reduceIte,Nat.reduceMul,Nat.reduceAdd,Nat.reduceSub,Nat.reduceEqDiff,Nat.reduceBEq,Nat.reduceLeDiff,Nat.reduceLT,reduceCtorEq,Int.reduceAdd,Int.reduceSub,Int.reduceToNat,Int.reduceNeg,Int.reduceEq,Int.reduceLT,Int.reduceLE]
def fA (E:En) (L:(List TFile)→(List TFile)→Option (Bool)):Prop:=E.Γ.mu 24=false∧(∀ (a0:List TFile) (a1:List TFile),E.Γ 24 [.d (zh cFile a0),.d (zh cFile a1)]=(L a0 a1).bind fun r=>some (.ret (.d (.bool r)) []))
def c_laws_eqDisk:Cd:=
 sq (r [2,3] [o 2 .box [t 0],o 3 .box [t 1],o 4 .mv [b false]])
 (sq (sq (r [10] [o 5 (.fa 0) [t 2],o 6 (.ld none) [t 5],o 7 (.fa 0) [t 3],o 8 (.ld none) [t 7],o 9 (.call 24) [t 6,t 8],o 10 .not [t 9]])
   (.cond (t 10) (sq (r [4] [o 4 .mv [b false]])
     (.ret)) (.skip)))
  (sq (r [4] [o 4 .mv [b true]])
   (.ret)))
def tY:List RV:=[.tmp 4]
def tW (rp:(List TFile)→(List TFile)→Option (Bool)) (N:Nat) (a0_Files:List TFile) (xn:List TFile):Option (Bool):=
 (rp a0_Files xn).bind fun y0=>
 if y0=false then some false
 else some true
theorem dN (E:En) (hy:Hy E [] [] [] tY none (fun y=>nocap y) zi) (rp:(List TFile)→(List TFile)→Option (Bool)) (h_laws_eqFileS:fA E rp) (a0_Files:List TFile) (xn:List TFile):G E c_laws_eqDisk [] ⟨zj [(0,.agg [.d (zh cFile a0_Files)]),(1,.agg [.d (zh cFile xn)])],zt []⟩=(tW rp E.n a0_Files xn).bind fun r=>some (.ret (.d (.bool r)) []):=by
 simp (config:={maxSteps:=40000000}) only [↓yo,zV,yu,yw,rI,rS,rB,r8,rLI,yv,yr,hy.p,hy.l,hy.k,hy.r,hy.d,hy.w,hy.f,zi,oid,tY,↓zm _ _ c_laws_eqDisk.eq_1,h_laws_eqFileS.2,h_laws_eqFileS.1,zw,tW,zW,zG,zH,zX,zT,zU,yp,↓reduceIte,Nat.reduceMul,Nat.reduceAdd,Nat.reduceSub,Nat.reduceEqDiff,Nat.reduceBEq,Nat.reduceLeDiff,Nat.reduceLT,reduceCtorEq,Int.reduceAdd,Int.reduceSub,Int.reduceToNat,Int.reduceNeg,Int.reduceEq,Int.reduceLT,Int.reduceLE]
def eR (E:En) (L:(List TFile)→(List TFile)→Option (Bool)):Prop:=E.Γ.mu 10=false∧(∀ (a0_Files:List TFile) (xn:List TFile),E.Γ 10 [.agg [.d (zh cFile a0_Files)],.agg [.d (zh cFile xn)]]=(L a0_Files xn).bind fun r=>some (.ret (.d (.bool r)) []))
def b0_laws_markText:Cd:=
 sq (sq (r [0,3,7] [o 6 .mv [t 0],o 7 (.bin .gtr) [t 6,i 0]])
  (.cond (t 7) (.skip) (.exit 0)))
 (.block 1 (sq (r [0,3] [o 8 .mv [t 0],o 9 (.bin .rem) [t 8,i 10],o 10 (.bin .add) [i 48,t 9],o 11 (.cvt .u8) [t 10],o 12 (lit 5 1 1) [t 11],o 13 .b2s [t 12],o 14 .mv [t 3],o 15 (.bin .add) [t 13,t 14],o 3 .mv [t 15]])
   (r [0,3] [o 16 .mv [t 0],o 17 (.bin .quo) [t 16,i 10],o 0 .mv [t 17]])))
def k1_laws_markText:Cd:=
 sq (r [2] [o 18 .mv [t 3],o 19 (.bin .add) [s [109],t 18],o 2 .mv [t 19]])
 (.ret)
def c_laws_markText:Cd:=
 sq (r [0] [o 2 .mv [s []]])
 (sq (sq (r [0,5] [o 4 .mv [t 0],o 5 (.bin .leq) [t 4,i 0]])
   (.cond (t 5) (sq (r [2] [o 2 .mv [s [109,48]]])
     (.ret)) (.skip)))
  (sq (r [0,3] [o 3 .mv [s []]])
   (sq (.block 0 (.loop [0,3] b0_laws_markText)) k1_laws_markText)))
def xS:List RV:=[.tmp 2]
def xA:Nat→Int→(List UInt8)→Option (List UInt8)
 | 0,_,_=>none
 | m0+1,x0,x3=>
   if 0 < x0 then (if qI (List.length (qx [Go.IntKind.wrap .u8 (w64 (48+Int.tmod x0 10))]++x3)) then xA m0 (w64 (Int.tdiv x0 10)) (qx [Go.IntKind.wrap .u8 (w64 (48+Int.tmod x0 10))]++x3)
    else none)
   else (if qI (List.length x3+1) then some (109 :: x3)
    else none)
def uc (N:Nat) (a0:Int):Option (List UInt8):=
 if a0 ≤ 0 then some ([109,48])
 else xA N a0 []
theorem kb (E:En) (hy:Hy E [] [] [] xS none (fun y=>nocap y) zi):∀ (m0:Nat) (x0:Int) (x3:List UInt8),gH E [0,3] b0_laws_markText [KJ.b 0,KJ.c k1_laws_markText] m0 ⟨zj [(0,.d (.int .i64 x0)),(3,.d (sD x3))],zt []⟩=(xA m0 x0 x3).bind fun r=>some (.ret (.d (sD r)) []):=by
 intro m0
 induction m0 with
 | zero=>intros; rfl
 | succ m0 ih=>
   intros
   simp (config:={maxSteps:=40000000}) only [↓yo,zV,yu,yw,rI,rS,rB,r8,rLI,yv,yr,hy.p,hy.l,hy.k,hy.r,hy.d,hy.w,hy.f,zi,oid,xS,↓zm _ _ b0_laws_markText.eq_1,↓zm _ _ k1_laws_markText.eq_1,↓zm _ _ c_laws_markText.eq_1,wB,ih,zw,xA,zW,zG,zH,zX,zT,zU,yp,↓reduceIte,Nat.reduceMul,Nat.reduceAdd,Nat.reduceSub,Nat.reduceEqDiff,Nat.reduceBEq,Nat.reduceLeDiff,Nat.reduceLT,reduceCtorEq,Int.reduceAdd,Int.reduceSub,Int.reduceToNat,Int.reduceNeg,Int.reduceEq,Int.reduceLT,Int.reduceLE]
theorem iG (E:En) (hy:Hy E [] [] [] xS none (fun y=>nocap y) zi) (a0:Int):G E c_laws_markText [] ⟨zj [(0,.d (.int .i64 a0))],zt []⟩=(uc E.n a0).bind fun r=>some (.ret (.d (sD r)) []):=by
 simp (config:={maxSteps:=40000000}) only [↓yo,zV,yu,yw,rI,rS,rB,r8,rLI,yv,yr,hy.p,hy.l,hy.k,hy.r,hy.d,hy.w,hy.f,zi,oid,xS,↓zm _ _ b0_laws_markText.eq_1,↓zm _ _ k1_laws_markText.eq_1,↓zm _ _ c_laws_markText.eq_1,zw,uc,kb E hy,zW,zG,zH,zX,zT,zU,yp,↓reduceIte,Nat.reduceMul,Nat.reduceAdd,Nat.reduceSub,Nat.reduceEqDiff,Nat.reduceBEq,Nat.reduceLeDiff,Nat.reduceLT,reduceCtorEq,Int.reduceAdd,Int.reduceSub,Int.reduceToNat,Int.reduceNeg,Int.reduceEq,Int.reduceLT,Int.reduceLE]
def sH (E:En) (L:Int→Option (List UInt8)):Prop:=E.Γ.mu 49=false∧(∀ (a0:Int),E.Γ 49 [.d (.int .i64 a0)]=(L a0).bind fun r=>some (.ret (.d (sD r)) []))
def b0_laws_markFileS:Cd:=
 sq (sq (r [0,1,5,9] [o 6 .mv [t 5],o 7 .mv [t 0],o 8 (.len false) [t 7],o 9 (.bin .lss) [t 6,t 8]])
  (.cond (t 9) (.skip) (.exit 0)))
 (sq (.block 1 (sq (r [0,1,5] [o 12 .mv [t 0],o 13 .mv [t 5],o 14 .mv [t 1],o 15 (.call 49) [t 14],o 16 (.ia 2) [t 12,t 13],o 17 (.fa 0) [t 16],e (.st 1) [t 17,t 15]])
   (sq (r [0,1,5] [o 18 .mv [t 1],o 19 (.bin .add) [t 18,i 1],o 1 .mv [t 19]])
    (sq (r [0,1,5] [o 20 .mv [t 0],o 21 .mv [t 5],o 22 .mv [t 1],o 23 (.call 49) [t 22],o 24 (.ia 2) [t 20,t 21],o 25 (.fa 1) [t 24],e (.st 1) [t 25,t 23]])
     (r [0,1,5] [o 26 .mv [t 1],o 27 (.bin .add) [t 26,i 1],o 1 .mv [t 27]])))))
  (r [0,1,5] [o 10 .mv [t 5],o 11 (.bin .add) [t 10,i 1],o 5 .mv [t 11]]))
def k1_laws_markFileS:Cd:=
 sq (r [4] [o 28 .mv [t 1],o 4 .mv [t 28]])
 (.ret)
def c_laws_markFileS:Cd:=
 sq (r [0,1] [o 4 .mv [i 0]])
 (sq (sq (r [0,1,5] [o 5 .mv [i 0]])
   (.block 0 (.loop [0,1,5] b0_laws_markFileS))) k1_laws_markFileS)
def xB:List RV:=[.tmp 4]
def xl (zz:Int→Option (List UInt8)):Nat→Int→Int→(List TFile)→Option (Int×List TFile)
 | 0,_,_,_=>none
 | m0+1,x1,x5,o0=>
   if x5 < (↑(List.length o0):Int) then ((zz x1).bind fun y0=>
    if 0 ≤ x5∧x5 < (↑(List.length o0):Int) then ((o0[Int.toNat x5]?).bind fun y1=>
     (zz (w64 (x1+1))).bind fun y2=>
     if 0 ≤ x5∧x5 < (↑(List.length (List.set o0 (Int.toNat x5) { Name:=y0,Data:=y1.Data })):Int) then (((List.set o0 (Int.toNat x5) { Name:=y0,Data:=y1.Data })[Int.toNat x5]?).bind fun y3=>
      xl zz m0 (w64 (w64 (x1+1)+1)) (w64 (x5+1)) (List.set (List.set o0 (Int.toNat x5) { Name:=y0,Data:=y1.Data }) (Int.toNat x5) { Name:=y3.Name,Data:=y2 }))
     else none)
    else none)
   else some ((x1,o0))
def vn (zz:Int→Option (List UInt8)) (N:Nat) (a0:List TFile) (a1:Int):Option (Int×List TFile):=
 xl zz N a1 0 a0
theorem lJ (E:En) (hy:Hy E [0] [0] [(0,.row 59 2)] xB none (fun y=>nocap y) zi) (zz:Int→Option (List UInt8)) (h_laws_markText:sH E zz):∀ (m0:Nat) (x1:Int) (x5:Int) (o0:List TFile),gH E [0,1,5] b0_laws_markFileS [KJ.b 0,KJ.c k1_laws_markFileS] m0 ⟨zj [(0,A.row 0 1),(1,.d (.int .i64 x1)),(5,.d (.int .i64 x5))],zt [(0,⟨1,zY (cFile) 59 none o0,false⟩)]⟩=(xl zz m0 x1 x5 o0).bind fun r=>some (.ret (.d (.int .i64 r.1)) [[zh (cFile) r.2]]):=by
 intro m0
 induction m0 with
 | zero=>intros; rfl
 | succ m0 ih=>
   intros
   simp (config:={maxSteps:=40000000}) only [↓yo,zV,yu,yw,rI,rS,rB,r8,rLI,yv,yr,hy.p,hy.l,hy.k,hy.r,hy.d,hy.w,hy.f,zi,oid,xB,↓zm _ _ b0_laws_markFileS.eq_1,↓zm _ _ k1_laws_markFileS.eq_1,↓zm _ _ c_laws_markFileS.eq_1,h_laws_markText.2,h_laws_markText.1,wB,ih,zw,xl,zW,zG,zH,zX,zT,zU,yp,↓reduceIte,Nat.reduceMul,Nat.reduceAdd,Nat.reduceSub,Nat.reduceEqDiff,Nat.reduceBEq,Nat.reduceLeDiff,Nat.reduceLT,reduceCtorEq,Int.reduceAdd,Int.reduceSub,Int.reduceToNat,Int.reduceNeg,Int.reduceEq,Int.reduceLT,Int.reduceLE]
theorem iy (E:En) (hy:Hy E [0] [0] [(0,.row 59 2)] xB none (fun y=>nocap y) zi) (zz:Int→Option (List UInt8)) (h_laws_markText:sH E zz) (a0:List TFile) (a1:Int):G E c_laws_markFileS [] ⟨zj [(0,.row 0 1),(1,.d (.int .i64 a1))],zt [(0,⟨1,zY cFile 59 none a0,false⟩)]⟩=(vn zz E.n a0 a1).bind fun r=>some (.ret (.d (.int .i64 r.1)) [[zh (cFile) r.2]]):=by
 simp (config:={maxSteps:=40000000}) only [↓yo,zV,yu,yw,rI,rS,rB,r8,rLI,yv,yr,hy.p,hy.l,hy.k,hy.r,hy.d,hy.w,hy.f,zi,oid,xB,↓zm _ _ b0_laws_markFileS.eq_1,↓zm _ _ k1_laws_markFileS.eq_1,↓zm _ _ c_laws_markFileS.eq_1,h_laws_markText.2,h_laws_markText.1,zw,vn,lJ E hy zz h_laws_markText,zW,zG,zH,zX,zT,zU,yp,↓reduceIte,Nat.reduceMul,Nat.reduceAdd,Nat.reduceSub,Nat.reduceEqDiff,Nat.reduceBEq,Nat.reduceLeDiff,Nat.reduceLT,reduceCtorEq,Int.reduceAdd,Int.reduceSub,Int.reduceToNat,Int.reduceNeg,Int.reduceEq,Int.reduceLT,Int.reduceLE]
def j2 (E:En) (L:(List TFile)→Int→Option (Int×List TFile)):Prop:=E.Γ.mu 25=true∧(∀ (a0:List TFile) (a1:Int),E.Γ 25 [zP cFile 59 none false a0,.d (.int .i64 a1)]=(L a0 a1).bind fun r=>some (.ret (.d (.int .i64 r.1)) [[zh (cFile) r.2]]))
def c_laws_markDisk:Cd:=
 sq (r [1,2] [o 2 .box [t 0],o 4 .mv [i 0]])
 (sq (r [1] [o 5 (.fa 0) [t 2],o 6 (.ld none) [t 5],o 7 .mv [t 1],o 8 (.call 25) [t 6,t 7],o 1 .mv [t 8]])
  (sq (r [4] [o 9 .mv [t 1],o 4 .mv [t 9]])
   (.ret)))
def vX:List RV:=[.tmp 4]
def ug (u7:(List TFile)→Int→Option (Int×List TFile)) (N:Nat) (a0_Files:List TFile) (a1:Int):Option (Int×List TFile):=
 (u7 a0_Files a1).bind fun y0=>
 some ((y0.fst,y0.snd))
theorem gF (E:En) (hy:Hy E [0] [0] [(0,.row 59 2)] vX none (fun y=>nocap y) zi) (u7:(List TFile)→Int→Option (Int×List TFile)) (h_laws_markFileS:j2 E u7) (a0_Files:List TFile) (a1:Int):G E c_laws_markDisk [] ⟨zj [(0,.agg [.row 0 1]),(1,.d (.int .i64 a1))],zt [(0,⟨1,zY cFile 59 none a0_Files,false⟩)]⟩=(ug u7 E.n a0_Files a1).bind fun r=>some (.ret (.d (.int .i64 r.1)) [[zh (cFile) r.2]]):=by
 simp (config:={maxSteps:=40000000}) only [↓yo,zV,yu,yw,rI,rS,rB,r8,rLI,yv,yr,hy.p,hy.l,hy.k,hy.r,hy.d,hy.w,hy.f,zi,oid,vX,↓zm _ _ c_laws_markDisk.eq_1,h_laws_markFileS.2,h_laws_markFileS.1,zw,ug,zW,zG,zH,zX,zT,zU,yp,↓reduceIte,Nat.reduceMul,Nat.reduceAdd,Nat.reduceSub,Nat.reduceEqDiff,Nat.reduceBEq,Nat.reduceLeDiff,Nat.reduceLT,reduceCtorEq,Int.reduceAdd,Int.reduceSub,Int.reduceToNat,Int.reduceNeg,Int.reduceEq,Int.reduceLT,Int.reduceLE]
def gu (E:En) (L:(List TFile)→Int→Option (Int×List TFile)):Prop:=E.Γ.mu 11=true∧(∀ (a0_Files:List TFile) (a1:Int),E.Γ 11 [.agg [zP cFile 59 none false a0_Files],.d (.int .i64 a1)]=(L a0_Files a1).bind fun r=>some (.ret (.d (.int .i64 r.1)) [[zh (cFile) r.2]]))
def b0_laws_heldFileS:Cd:=
 sq (sq (r [0,1,5,9] [o 6 .mv [t 5],o 7 .mv [t 0],o 8 (.len false) [t 7],o 9 (.bin .lss) [t 6,t 8]])
  (.cond (t 9) (.skip) (.exit 0)))
 (sq (.block 1 (sq (sq (rd [] [0,1,5,19] [o 12 .mv [t 0],o 13 .mv [t 5],o 14 (.ia 2) [t 12,t 13],o 15 (.fa 0) [t 14],o 16 (.ld none) [t 15],o 17 .mv [t 1],ap [] false [12,13,14,15] (o 18 (.call 49) [t 17]),o 19 (.bin .neq) [t 16,t 18]])
     (.cond (t 19) (sq (r [4] [o 4 .mv [i (-1)]])
       (.ret)) (.skip)))
   (sq (r [0,1,5] [o 20 .mv [t 1],o 21 (.bin .add) [t 20,i 1],o 1 .mv [t 21]])
    (sq (sq (rd [] [0,1,5,29] [o 22 .mv [t 0],o 23 .mv [t 5],o 24 (.ia 2) [t 22,t 23],o 25 (.fa 1) [t 24],o 26 (.ld none) [t 25],o 27 .mv [t 1],ap [] false [22,23,24,25] (o 28 (.call 49) [t 27]),o 29 (.bin .neq) [t 26,t 28]])
      (.cond (t 29) (sq (r [4] [o 4 .mv [i (-1)]])
        (.ret)) (.skip)))
     (r [0,1,5] [o 30 .mv [t 1],o 31 (.bin .add) [t 30,i 1],o 1 .mv [t 31]])))))
  (r [0,1,5] [o 10 .mv [t 5],o 11 (.bin .add) [t 10,i 1],o 5 .mv [t 11]]))
def k1_laws_heldFileS:Cd:=
 sq (r [4] [o 32 .mv [t 1],o 4 .mv [t 32]])
 (.ret)
def c_laws_heldFileS:Cd:=
 sq (r [0,1] [o 4 .mv [i 0]])
 (sq (sq (r [0,1,5] [o 5 .mv [i 0]])
   (.block 0 (.loop [0,1,5] b0_laws_heldFileS))) k1_laws_heldFileS)
def xC:List RV:=[.tmp 4]
def xm (zz:Int→Option (List UInt8)):Nat→(List TFile)→Int→Int→Option (Int)
 | 0,_,_,_=>none
 | m0+1,x0,x1,x5=>
   if x5 < (↑(List.length x0):Int) then ((idx x0 x5).bind fun y0=>
    (zz x1).bind fun y1=>
    if y0.Name=y1 then ((idx x0 x5).bind fun y2=>
     (zz (w64 (x1+1))).bind fun y3=>
     if y2.Data=y3 then xm zz m0 x0 (w64 (w64 (x1+1)+1)) (w64 (x5+1))
     else some (-1))
    else some (-1))
   else some x1
def vh (zz:Int→Option (List UInt8)) (N:Nat) (a0:List TFile) (a1:Int):Option (Int):=
 xm zz N a0 a1 0
theorem ly (E:En) (hy:Hy E [] [] [] xC none (fun y=>nocap y) zi) (zz:Int→Option (List UInt8)) (h_laws_markText:sH E zz):∀ (m0:Nat) (x0:List TFile) (x1:Int) (x5:Int),gH E [0,1,5] b0_laws_heldFileS [KJ.b 0,KJ.c k1_laws_heldFileS] m0 ⟨zj [(0,.d (zh (cFile) x0)),(1,.d (.int .i64 x1)),(5,.d (.int .i64 x5))],zt []⟩=(xm zz m0 x0 x1 x5).bind fun r=>some (.ret (.d (.int .i64 r)) []):=by
 intro m0
 induction m0 with
 | zero=>intros; rfl
 | succ m0 ih=>
   intros
   simp (config:={maxSteps:=40000000}) only [↓yo,zV,yu,yw,rI,rS,rB,r8,rLI,yv,yr,hy.p,hy.l,hy.k,hy.r,hy.d,hy.w,hy.f,zi,oid,xC,↓zm _ _ b0_laws_heldFileS.eq_1,↓zm _ _ k1_laws_heldFileS.eq_1,↓zm _ _ c_laws_heldFileS.eq_1,h_laws_markText.2,h_laws_markText.1,wB,ih,zw,xm,zW,zG,zH,zX,zT,zU,yp,↓reduceIte,Nat.reduceMul,Nat.reduceAdd,Nat.reduceSub,Nat.reduceEqDiff,Nat.reduceBEq,Nat.reduceLeDiff,Nat.reduceLT,reduceCtorEq,Int.reduceAdd,Int.reduceSub,Int.reduceToNat,Int.reduceNeg,Int.reduceEq,Int.reduceLT,Int.reduceLE]
theorem iu (E:En) (hy:Hy E [] [] [] xC none (fun y=>nocap y) zi) (zz:Int→Option (List UInt8)) (h_laws_markText:sH E zz) (a0:List TFile) (a1:Int):G E c_laws_heldFileS [] ⟨zj [(0,.d (zh cFile a0)),(1,.d (.int .i64 a1))],zt []⟩=(vh zz E.n a0 a1).bind fun r=>some (.ret (.d (.int .i64 r)) []):=by
 simp (config:={maxSteps:=40000000}) only [↓yo,zV,yu,yw,rI,rS,rB,r8,rLI,yv,yr,hy.p,hy.l,hy.k,hy.r,hy.d,hy.w,hy.f,zi,oid,xC,↓zm _ _ b0_laws_heldFileS.eq_1,↓zm _ _ k1_laws_heldFileS.eq_1,↓zm _ _ c_laws_heldFileS.eq_1,h_laws_markText.2,h_laws_markText.1,zw,vh,ly E hy zz h_laws_markText,zW,zG,zH,zX,zT,zU,yp,↓reduceIte,Nat.reduceMul,Nat.reduceAdd,Nat.reduceSub,Nat.reduceEqDiff,Nat.reduceBEq,Nat.reduceLeDiff,Nat.reduceLT,reduceCtorEq,Int.reduceAdd,Int.reduceSub,Int.reduceToNat,Int.reduceNeg,Int.reduceEq,Int.reduceLT,Int.reduceLE]
def iw (E:En) (L:(List TFile)→Int→Option (Int)):Prop:=E.Γ.mu 26=false∧(∀ (a0:List TFile) (a1:Int),E.Γ 26 [.d (zh cFile a0),.d (.int .i64 a1)]=(L a0 a1).bind fun r=>some (.ret (.d (.int .i64 r)) []))
def c_laws_heldDisk:Cd:=
 sq (r [1,2] [o 2 .box [t 0],o 4 .mv [i 0]])
 (sq (r [1] [o 5 (.fa 0) [t 2],o 6 (.ld none) [t 5],o 7 .mv [t 1],o 8 (.call 26) [t 6,t 7],o 1 .mv [t 8]])
  (sq (sq (r [1,10] [o 9 .mv [t 1],o 10 (.bin .lss) [t 9,i 0]])
    (.cond (t 10) (sq (r [4] [o 4 .mv [i (-1)]])
      (.ret)) (.skip)))
   (sq (r [4] [o 11 .mv [t 1],o 4 .mv [t 11]])
    (.ret))))
def v6:List RV:=[.tmp 4]
def ui (u5:(List TFile)→Int→Option (Int)) (N:Nat) (a0_Files:List TFile) (a1:Int):Option (Int):=
 (u5 a0_Files a1).bind fun y0=>
 if y0 < 0 then some (-1)
 else some y0
theorem hP (E:En) (hy:Hy E [] [] [] v6 none (fun y=>nocap y) zi) (u5:(List TFile)→Int→Option (Int)) (h_laws_heldFileS:iw E u5) (a0_Files:List TFile) (a1:Int):G E c_laws_heldDisk [] ⟨zj [(0,.agg [.d (zh cFile a0_Files)]),(1,.d (.int .i64 a1))],zt []⟩=(ui u5 E.n a0_Files a1).bind fun r=>some (.ret (.d (.int .i64 r)) []):=by
 simp (config:={maxSteps:=40000000}) only [↓yo,zV,yu,yw,rI,rS,rB,r8,rLI,yv,yr,hy.p,hy.l,hy.k,hy.r,hy.d,hy.w,hy.f,zi,oid,v6,↓zm _ _ c_laws_heldDisk.eq_1,h_laws_heldFileS.2,h_laws_heldFileS.1,zw,ui,zW,zG,zH,zX,zT,zU,yp,↓reduceIte,Nat.reduceMul,Nat.reduceAdd,Nat.reduceSub,Nat.reduceEqDiff,Nat.reduceBEq,Nat.reduceLeDiff,Nat.reduceLT,reduceCtorEq,Int.reduceAdd,Int.reduceSub,Int.reduceToNat,Int.reduceNeg,Int.reduceEq,Int.reduceLT,Int.reduceLE]
def gh (E:En) (L:(List TFile)→Int→Option (Int)):Prop:=E.Γ.mu 12=false∧(∀ (a0_Files:List TFile) (a1:Int),E.Γ 12 [.agg [.d (zh cFile a0_Files)],.d (.int .i64 a1)]=(L a0_Files a1).bind fun r=>some (.ret (.d (.int .i64 r)) []))
def c_laws_FnExactDo:Cd:=
 sq (r [2,3] [o 2 .box [t 0],o 3 .box [t 1],o 4 .mv [b false]])
 (sq (r [2,3,5] [o 5 .mv [i 1048576]])
  (sq (r [2,3,5] [o 16 (.ld (some 1)) [t 2],o 17 .mv [t 5],o 18 (.call 4) [t 16,t 17],o 5 .mv [t 18]])
   (sq (sq (r [2,3,5,20] [o 19 .mv [t 5],o 20 (.bin .lss) [t 19,i 0]])
     (.cond (t 20) (sq (r [4] [o 4 .mv [b true]])
       (.ret)) (.skip)))
    (sq (r [2,3,5] [o 21 (.ld (some 4)) [t 3],o 22 .mv [t 5],o 23 (.call 5) [t 21,t 22],o 5 .mv [t 23]])
     (sq (sq (r [2,3,25] [o 24 .mv [t 5],o 25 (.bin .lss) [t 24,i 0]])
       (.cond (t 25) (sq (r [4] [o 4 .mv [b true]])
         (.ret)) (.skip)))
      (sq (rd [] [2,3,6,7] [ap [384] false [] (o 27 (.ld (some 1)) [t 2]),ap [384] false [] (o 29 (.ld (some 4)) [t 3]),ap [] true [2,3] (o 6 (.alloc [.nil]) []),ap [384] false [3] (o 28 (.call 7) [t 27]),ap [384] false [] (o 30 (.call 8) [t 29]),ap [384] false [] (o 31 (.call 6) [t 28,t 30]),ap [384] false [] (o 26 .mv [t 31]),ap [384] false [] (o 32 (.ext 0) [t 26]),ap [384] false [] (o 33 (.ext 1) [t 26]),e (.st 1) [t 6,t 32],o 7 .mv [t 33]])
       (sq (r [2,3,6,7,8] [o 34 (.ld (some 1)) [t 2],o 35 (.call 7) [t 34],o 8 (.alloc [.nil]) [],e (.st 1) [t 8,t 35]])
        (sq (rd [] [2,3,6,7,8,9,10] [ap [576] false [] (o 37 (.ld (some 1)) [t 8]),ap [576] false [] (o 38 (.ld (some 4)) [t 3]),ap [] true [8,3] (o 9 (.alloc [.nil]) []),ap [576] false [8] (o 39 (.call 8) [t 38]),ap [576] false [] (o 40 (.call 9) [t 37,t 39]),ap [576] false [] (o 36 .mv [t 40]),ap [576] false [] (o 41 (.ext 0) [t 36]),ap [576] false [] (o 42 (.ext 1) [t 36]),e (.st 1) [t 9,t 41],o 10 .mv [t 42]])
         (sq (sq (r [2,3,6,7,8,9,10,51] [o 43 (.ld (some 1)) [t 9],o 44 (.ld (some 1)) [t 6],o 45 (.call 10) [t 43,t 44],o 46 .not [t 45],o 47 .mv [t 46],g 47 false 48 .mv [t 10],g 47 false 49 .mv [t 7],g 47 false 50 (.bin .neq) [t 48,t 49],o 51 .pick [t 47,b true,t 50]])
           (.cond (t 51) (sq (r [4] [o 4 .mv [b false]])
             (.ret)) (.skip)))
          (sq (sq (rd [] [2,3,6,7,8,9,10,56] [o 52 (.ld (some 1)) [t 8],o 53 (.ld (some 1)) [t 2],ap [] false [8] (o 54 (.call 7) [t 53]),o 55 (.call 10) [t 52,t 54],o 56 .not [t 55]])
            (.cond (t 56) (sq (r [4] [o 4 .mv [b false]])
              (.ret)) (.skip)))
           (sq (r [2,3,6,7,8,9,10,11] [o 11 .mv [i 1]])
            (sq (r [2,3,6,7,9,10,11] [o 57 (.ld (some 1)) [t 8],o 58 .mv [t 11],o 59 (.call 11) [t 57,t 58],o 11 .mv [t 59]])
             (sq (sq (r [2,3,6,7,9,72] [o 60 .mv [t 11],o 61 (.bin .lss) [t 60,i 0],o 62 .mv [t 61],g 62 false 63 (.ld (some 1)) [t 9],g 62 false 64 (.ld (some 1)) [t 6],g 62 false 65 (.call 10) [t 63,t 64],g 62 false 66 .not [t 65],o 67 .pick [t 62,b true,t 66],o 68 .mv [t 67],g 68 false 69 .mv [t 10],g 68 false 70 .mv [t 7],g 68 false 71 (.bin .neq) [t 69,t 70],o 72 .pick [t 68,b true,t 71]])
               (.cond (t 72) (sq (r [4] [o 4 .mv [b false]])
                 (.ret)) (.skip)))
              (sq (r [2,3,6,7,9,12] [o 12 .mv [i 1]])
               (sq (r [2,3,6,7,9,12] [o 73 (.ld (some 1)) [t 9],o 74 .mv [t 12],o 75 (.call 11) [t 73,t 74],o 12 .mv [t 75]])
                (sq (r [2,3,6,7,9,12,13] [o 13 .mv [i 1]])
                 (sq (r [2,3,6,7,9,12,13] [o 76 (.ld (some 1)) [t 9],o 77 .mv [t 13],o 78 (.call 12) [t 76,t 77],o 13 .mv [t 78]])
                  (sq (sq (r [2,3,6,7,9,12,13,80] [o 79 .mv [t 13],o 80 (.bin .lss) [t 79,i 0]])
                    (.cond (t 80) (sq (r [4] [o 4 .mv [b false]])
                      (.ret)) (.skip)))
                   (sq (sq (r [2,3,6,7,9,12,83] [o 81 .mv [t 13],o 82 .mv [t 12],o 83 (.bin .neq) [t 81,t 82]])
                     (.cond (t 83) (sq (r [4] [o 4 .mv [b false]])
                       (.ret)) (.skip)))
                    (sq (rd [] [6,7,9,12,14,15] [ap [896] false [] (o 85 (.ld (some 1)) [t 2]),ap [896] false [] (o 87 (.ld (some 4)) [t 3]),ap [] true [2,3] (o 14 (.alloc [.nil]) []),ap [896] false [3] (o 86 (.call 7) [t 85]),ap [896] false [] (o 88 (.call 8) [t 87]),ap [896] false [] (o 89 (.call 9) [t 86,t 88]),ap [896] false [] (o 84 .mv [t 89]),ap [896] false [] (o 90 (.ext 0) [t 84]),ap [896] false [] (o 91 (.ext 1) [t 84]),e (.st 1) [t 14,t 90],o 15 .mv [t 91]])
                     (sq (sq (r [9,12,100] [o 92 (.ld (some 1)) [t 14],o 93 (.ld (some 1)) [t 6],o 94 (.call 10) [t 92,t 93],o 95 .not [t 94],o 96 .mv [t 95],g 96 false 97 .mv [t 15],g 96 false 98 .mv [t 7],g 96 false 99 (.bin .neq) [t 97,t 98],o 100 .pick [t 96,b true,t 99]])
                       (.cond (t 100) (sq (r [4] [o 4 .mv [b false]])
                         (.ret)) (.skip)))
                      (sq (r [9,12,13] [o 13 .mv [i 1]])
                       (sq (r [12,13] [o 101 (.ld (some 1)) [t 9],o 102 .mv [t 13],o 103 (.call 12) [t 101,t 102],o 13 .mv [t 103]])
                        (sq (sq (r [12,13,105] [o 104 .mv [t 13],o 105 (.bin .lss) [t 104,i 0]])
                          (.cond (t 105) (sq (r [4] [o 4 .mv [b false]])
                            (.ret)) (.skip)))
                         (sq (sq (r [108] [o 106 .mv [t 13],o 107 .mv [t 12],o 108 (.bin .neq) [t 106,t 107]])
                           (.cond (t 108) (sq (r [4] [o 4 .mv [b false]])
                             (.ret)) (.skip)))
                          (sq (r [4] [o 4 .mv [b true]])
                           (.ret)))))))))))))))))))))))))))
def vp:List RV:=[.tmp 4]
def vf (rT:(List TFile)→Int→Option (Int)) (qF:Int→(List UInt8)→(List UInt8)→(List UInt8)→Int→Option (Int)) (wI:(List TFile)→Option (List TFile)) (uB:Int→(List UInt8)→(List UInt8)→(List UInt8)→Option (Int×List UInt8×List UInt8×List UInt8)) (nw:(List TFile)→Int→(List UInt8)→(List UInt8)→(List UInt8)→Option (List TFile×Int)) (pJ:(List TFile)→Int→(List UInt8)→(List UInt8)→(List UInt8)→Option (List TFile×Int)) (wJ:(List TFile)→(List TFile)→Option (Bool)) (vK:(List TFile)→Int→Option (Int×List TFile)) (vY:(List TFile)→Int→Option (Int)) (N:Nat) (a0_Files:List TFile) (zk:Int) (a1_Name:List UInt8) (a1_To:List UInt8) (a1_Data:List UInt8):Option (Bool):=
 (rT a0_Files 1048576).bind fun y0=>
 if y0 < 0 then some true
 else ((qF zk a1_Name a1_To a1_Data y0).bind fun y1=>
  if y1 < 0 then some true
  else ((wI a0_Files).bind fun y2=>
   (uB zk a1_Name a1_To a1_Data).bind fun y3=>
   (nw y2 y3.fst y3.snd.fst y3.snd.snd.fst y3.snd.snd.snd).bind fun y4=>
   (wI a0_Files).bind fun y5=>
   (uB zk a1_Name a1_To a1_Data).bind fun y6=>
   (pJ y5 y6.fst y6.snd.fst y6.snd.snd.fst y6.snd.snd.snd).bind fun y7=>
   (wJ y7.fst y4.fst).bind fun y8=>
   if y8=false then some false
   else (if y7.snd=y4.snd then ((wI a0_Files).bind fun y9=>
    (wJ y5 y9).bind fun y10=>
    if y10=false then some false
    else ((vK y5 1).bind fun y11=>
     if y11.fst < 0 then some false
     else ((wJ y7.fst y4.fst).bind fun y12=>
      if y12=false then some false
      else (if y7.snd=y4.snd then ((vK y7.fst 1).bind fun y13=>
       (vY y13.snd 1).bind fun y14=>
       if y14 < 0 then some false
       else (if y14=y13.fst then ((wI a0_Files).bind fun y15=>
        (uB zk a1_Name a1_To a1_Data).bind fun y16=>
        (pJ y15 y16.fst y16.snd.fst y16.snd.snd.fst y16.snd.snd.snd).bind fun y17=>
        (wJ y17.fst y4.fst).bind fun y18=>
        if y18=false then some false
        else (if y17.snd=y4.snd then ((vY y13.snd 1).bind fun y19=>
         if y19 < 0 then some false
         else (if y19=y13.fst then some true
          else some false))
         else some false))
        else some false))
       else some false))))
    else some false)))
theorem iq (E:En) (hy:Hy E [] [] [] vp none (fun y=>nocap y) zi) (rT:(List TFile)→Int→Option (Int)) (h_laws_szDisk:eW E rT) (qF:Int→(List UInt8)→(List UInt8)→(List UInt8)→Int→Option (Int)) (h_laws_szAct:bF E qF) (wI:(List TFile)→Option (List TFile)) (h_laws_toDisk:dD E wI) (uB:Int→(List UInt8)→(List UInt8)→(List UInt8)→Option (Int×List UInt8×List UInt8×List UInt8)) (h_laws_toAct:bq E uB) (nw:(List TFile)→Int→(List UInt8)→(List UInt8)→(List UInt8)→Option (List TFile×Int)) (h_spec_Do:Wt E nw) (pJ:(List TFile)→Int→(List UInt8)→(List UInt8)→(List UInt8)→Option (List TFile×Int)) (h_impl_Do:V2 E pJ) (wJ:(List TFile)→(List TFile)→Option (Bool)) (h_laws_eqDisk:eR E wJ) (vK:(List TFile)→Int→Option (Int×List TFile)) (h_laws_markDisk:gu E vK) (vY:(List TFile)→Int→Option (Int)) (h_laws_heldDisk:gh E vY) (a0_Files:List TFile) (zk:Int) (a1_Name:List UInt8) (a1_To:List UInt8) (a1_Data:List UInt8):G E c_laws_FnExactDo [] ⟨zj [(0,.agg [.d (zh cFile a0_Files)]),(1,.agg [.d (.int .i64 zk),.d (sD a1_Name),.d (sD a1_To),.d (sD a1_Data)])],zt []⟩=(vf rT qF wI uB nw pJ wJ vK vY E.n a0_Files zk a1_Name a1_To a1_Data).bind fun r=>some (.ret (.d (.bool r)) []):=by
 simp (config:={maxSteps:=40000000}) only [↓yo,zV,yu,yw,rI,rS,rB,r8,rLI,yv,yr,hy.p,hy.l,hy.k,hy.r,hy.d,hy.w,hy.f,zi,oid,vp,↓zm _ _ c_laws_FnExactDo.eq_1,h_laws_szDisk.2,h_laws_szDisk.1,h_laws_szAct.2,h_laws_szAct.1,h_laws_toDisk.2,h_laws_toDisk.1,h_laws_toAct.2,h_laws_toAct.1,h_spec_Do.2,h_spec_Do.1,h_impl_Do.2,h_impl_Do.1,h_laws_eqDisk.2,h_laws_eqDisk.1,h_laws_markDisk.2,h_laws_markDisk.1,h_laws_heldDisk.2,h_laws_heldDisk.1,zw,vf,zW,zG,zH,zX,zT,zU,yp,↓reduceIte,Nat.reduceMul,Nat.reduceAdd,Nat.reduceSub,Nat.reduceEqDiff,Nat.reduceBEq,Nat.reduceLeDiff,Nat.reduceLT,reduceCtorEq,Int.reduceAdd,Int.reduceSub,Int.reduceToNat,Int.reduceNeg,Int.reduceEq,Int.reduceLT,Int.reduceLE]
def SN (E:En) (L:(List TFile)→Int→(List UInt8)→(List UInt8)→(List UInt8)→Option (Bool)):Prop:=E.Γ.mu 3=false∧(∀ (a0_Files:List TFile) (zk:Int) (a1_Name:List UInt8) (a1_To:List UInt8) (a1_Data:List UInt8),E.Γ 3 [.agg [.d (zh cFile a0_Files)],.agg [.d (.int .i64 zk),.d (sD a1_Name),.d (sD a1_To),.d (sD a1_Data)]]=(L a0_Files zk a1_Name a1_To a1_Data).bind fun r=>some (.ret (.d (.bool r)) []))
end Go.Vm
