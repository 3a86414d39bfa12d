/- The functions under laws_FnExactParseTests: the abstract machine's codes, and what they come to in plain terms. Printed by a program of this session. -/
import Derived.Test.YtpjfklhaogdfeaaDoorVmKind
set_option linter.all false
set_option maxRecDepth 100000
set_option maxHeartbeats 4000000
namespace Go.Vm
structure TTest where
 In_Shape:List Int
 In_Data:List Int
 Want_Shape:List Int
 Want_Data:List Int
 deriving DecidableEq
def gp (x:TTest):List D:=[zb cI x.In_Shape,zb cI x.In_Data,zb cI x.Want_Shape,zb cI x.Want_Data]
def kr:List D→Option TTest
 | [d0,d1,d2,d3]=>(na cI d0).bind fun a0=>(na cI d1).bind fun a1=>(na cI d2).bind fun a2=>(na cI d3).bind fun a3=>some ⟨a0,a1,a2,a3⟩
 | _=>none
theorem Zi:∀ xs x,kr xs=some x→xs=gp x:=by
 intro xs x h
 unfold kr at h
 split at h
 ·have hh:=Option.bind_eq_some_iff.mp h; clear h; obtain ⟨a0,h0,h⟩:=hh; have e0:=nG h0; clear h0; subst e0; have hh:=Option.bind_eq_some_iff.mp h; clear h; obtain ⟨a1,h1,h⟩:=hh; have e1:=nG h1; clear h1; subst e1; have hh:=Option.bind_eq_some_iff.mp h; clear h; obtain ⟨a2,h2,h⟩:=hh; have e2:=nG h2; clear h2; subst e2; have hh:=Option.bind_eq_some_iff.mp h; clear h; obtain ⟨a3,h3,h⟩:=hh; have e3:=nG h3; clear h3; subst e3; cases h; rfl
 ·cases h
def cTest:Enc TTest:=⟨4,gp,kr,fun _=>rfl,by decide,Zi,fun x=>by simp only [gp,kr,pT,Option.bind_some]⟩
theorem Z5 (x:TTest):cTest.enc x=[zb cI x.In_Shape,zb cI x.In_Data,zb cI x.Want_Shape,zb cI x.Want_Data]:=rfl
theorem Xa (x_In_Shape:List Int) (x_In_Data:List Int) (x_Want_Shape:List Int) (x_Want_Data:List Int):cTest.dec [zb cI x_In_Shape,zb cI x_In_Data,zb cI x_Want_Shape,zb cI x_Want_Data]=some ⟨x_In_Shape,x_In_Data,x_Want_Shape,x_Want_Data⟩:=cTest.edc ⟨x_In_Shape,x_In_Data,x_Want_Shape,x_Want_Data⟩
theorem aD (a:D):cTest.dec [a]=none:=by cases a <;> first | rfl | (rename_i k n; cases k <;> rfl)
def yo:=And.intro (aD) <| And.intro (kj cTest 4 rfl) <| And.intro (Z5) <| And.intro (Xa) <| And.intro (bI cTest) <| And.intro ((fun l m=>az cTest 4 l m 1 (by decide) rfl)) <| And.intro ((fun e cap l m xs z hz=>hZ cTest 4 e cap l m 1 xs z hz rfl)) <| And.intro ((fun l m=>az cTest 4 l m 2 (by decide) rfl)) <| And.intro ((fun e cap l m xs z hz=>hZ cTest 4 e cap l m 2 xs z hz rfl)) <| And.intro ((fun l m=>az cTest 4 l m 3 (by decide) rfl)) <| And.intro ((fun e cap l m xs z hz=>hZ cTest 4 e cap l m 3 xs z hz rfl)) <| And.intro (pY cTest 1 4 rfl) <| (pY cTest 2 8 rfl)
def ym:=ZV cI 3 1 rfl [iD 0] 0 rfl
def zT:=ZV cTest 34 4 rfl [.lst 0 [],.lst 0 [],.lst 0 [],.lst 0 []] ⟨[],[],[],[]⟩ rfl
def yl:=ZV c8 5 1 rfl [.int .u8 0] 0 rfl
def yp:=ZV cS 9 1 rfl [sD []] [] rfl
def zi (e:Nat):Bool:=e == 3||e == 5||e == 9
def b0_spec_l1Cut:Cd:=
 sq (sq (r [0,1,5,6,7,12] [o 9 .mv [t 7],o 10 .mv [t 0],o 11 (.len true) [t 10],o 12 (.bin .leq) [t 9,t 11]])
  (.cond (t 12) (.skip) (.exit 0)))
 (sq (.block 1 (sq (r [0,1,5,6,7,25] [o 15 .mv [t 7],o 16 .mv [t 0],o 17 (.len true) [t 16],o 18 (.bin .eql) [t 15,t 17],o 19 .mv [t 18],g 19 false 20 .mv [t 0],g 19 false 21 .mv [t 7],g 19 false 22 .ixs [t 20,t 21],g 19 false 23 .mv [t 1],g 19 false 24 (.bin .eql) [t 22,t 23],o 25 .pick [t 19,b true,t 24]])
   (.cond (t 25) (sq (r [0,1,5,7] [o 26 .mv [t 5],o 27 .mv [t 0],o 28 .mv [t 6],o 29 .mv [t 7],o 30 (.slc true 1 true true) [t 27,t 28,t 29],o 31 (lit 9 1 1) [t 30],o 32 (.app 9 1 16) [t 26,t 31],o 5 .mv [t 32]])
     (r [0,1,5,6,7] [o 33 .mv [t 7],o 34 (.bin .add) [t 33,i 1],o 6 .mv [t 34]])) (.skip))))
  (r [0,1,5,6,7] [o 13 .mv [t 7],o 14 (.bin .add) [t 13,i 1],o 7 .mv [t 14]]))
def k1_spec_l1Cut:Cd:=
 sq (r [4] [o 35 .mv [t 5],o 4 .mv [t 35]])
 (.ret)
def c_spec_l1Cut:Cd:=
 sq (r [0,1] [o 4 .mv [n]])
 (sq (r [0,1,5] [o 8 (lit 9 1 0) [],o 5 .mv [t 8]])
  (sq (r [0,1,5,6] [o 6 .mv [i 0]])
   (sq (sq (r [0,1,5,6,7] [o 7 .mv [i 0]])
     (.block 0 (.loop [0,1,5,6,7] b0_spec_l1Cut))) k1_spec_l1Cut)))
def vK:List RV:=[.tmp 4]
def xz:Nat→(List UInt8)→Int→Int→Int→(List (List UInt8))→Option (List (List UInt8))
 | 0,_,_,_,_,_=>none
 | m0+1,x0,x1,x6,x7,o320=>
   if x7 ≤ (↑(List.length x0):Int) then (if x7=(↑(List.length x0):Int) then ((cut x0 x6 x7).bind fun y0=>
    if tl 16 (List.length (o320++[y0])) then xz m0 x0 x1 (w64 (x7+1)) (w64 (x7+1)) (o320++[y0])
    else none)
    else ((qx x0 x7).bind fun y1=>
     if y1=x1 then ((cut x0 x6 x7).bind fun y2=>
      if tl 16 (List.length (o320++[y2])) then xz m0 x0 x1 (w64 (x7+1)) (w64 (x7+1)) (o320++[y2])
      else none)
     else xz m0 x0 x1 x6 (w64 (x7+1)) o320))
   else some o320
def sB (N:Nat) (a0:List UInt8) (a1:Int):Option (List (List UInt8)):=
 xz N a0 a1 0 0 []
theorem jj (E:En) (hy:Hy E [] [] [] vK none (fun y=>nocap y) zi):∀ (m0:Nat) (x0:List UInt8) (x1:Int) (x6:Int) (x7:Int) (o320:List (List UInt8)),gH E [0,1,5,6,7] b0_spec_l1Cut [KJ.b 0,KJ.c k1_spec_l1Cut] m0 ⟨zh [(0,.d (sD x0)),(1,.d (.int .u8 x1)),(5,A.row 320 1),(6,.d (.int .i64 x6)),(7,.d (.int .i64 x7))],zt [(320,⟨1,zP (cS) 9 none o320,false⟩)]⟩=(xz m0 x0 x1 x6 x7 o320).bind fun r=>some (.ret (zx (cS) 9 none false r) []):=by
 intro m0
 induction m0 with
 | zero=>intros; rfl
 | succ m0 ih=>
   intros
   simp (config:={maxSteps:=40000000}) only [↓yR,yn,yM,yL,rI,rS,rB,r8,rLI,yJ,yQ,hy.p,hy.l,hy.k,hy.r,hy.d,hy.w,hy.f,zi,oid,vK,↓zj _ _ b0_spec_l1Cut.eq_1,↓zj _ _ k1_spec_l1Cut.eq_1,↓zj _ _ c_spec_l1Cut.eq_1,wd,ih,zz,xz,ym,yo,zT,yl,yp,yN,↓reduceIte,Nat.reduceMul,Nat.reduceAdd,Nat.reduceSub,Nat.reduceEqDiff,Nat.reduceBEq,Nat.reduceLeDiff,Nat.reduceLT,reduceCtorEq,Int.reduceAdd,Int.reduceSub,Int.reduceToNat,Int.reduceNeg,Int.reduceEq,Int.reduceLT,Int.reduceLE]
theorem dF (E:En) (hy:Hy E [] [] [] vK none (fun y=>nocap y) zi) (a0:List UInt8) (a1:Int):G E c_spec_l1Cut [] ⟨zh [(0,.d (sD a0)),(1,.d (.int .u8 a1))],zt []⟩=(sB E.n a0 a1).bind fun r=>some (.ret (zx (cS) 9 none false r) []):=by
 simp (config:={maxSteps:=40000000}) only [↓yR,yn,yM,yL,rI,rS,rB,r8,rLI,yJ,yQ,hy.p,hy.l,hy.k,hy.r,hy.d,hy.w,hy.f,zi,oid,vK,↓zj _ _ b0_spec_l1Cut.eq_1,↓zj _ _ k1_spec_l1Cut.eq_1,↓zj _ _ c_spec_l1Cut.eq_1,zz,sB,jj E hy,ym,yo,zT,yl,yp,yN,↓reduceIte,Nat.reduceMul,Nat.reduceAdd,Nat.reduceSub,Nat.reduceEqDiff,Nat.reduceBEq,Nat.reduceLeDiff,Nat.reduceLT,reduceCtorEq,Int.reduceAdd,Int.reduceSub,Int.reduceToNat,Int.reduceNeg,Int.reduceEq,Int.reduceLT,Int.reduceLE]
def sK (E:En) (L:(List UInt8)→Int→Option (List (List UInt8))):Prop:=E.Γ.mu 9=false∧(∀ (a0:List UInt8) (a1:Int),E.Γ 9 [.d (sD a0),.d (.int .u8 a1)]=(L a0 a1).bind fun r=>some (.ret (zx (cS) 9 none false r) []))
def c_spec_l1Dec:Cd:=
 sq (r [0] [o 2 .mv [s []]])
 (sq (sq (r [0,4] [o 3 .mv [t 0],o 4 (.bin .lss) [t 3,i 0]])
   (.cond (t 4) (sq (r [2] [o 5 .mv [t 0],o 6 .neg [t 5],o 7 (.call 46) [t 6],o 8 (.bin .add) [s [45],t 7],o 2 .mv [t 8]])
     (.ret)) (.skip)))
  (sq (sq (r [0,10] [o 9 .mv [t 0],o 10 (.bin .lss) [t 9,i 10]])
    (.cond (t 10) (sq (r [2] [o 11 .mv [t 0],o 12 (.bin .add) [i 48,t 11],o 13 (.cvt .u8) [t 12],o 14 (lit 5 1 1) [t 13],o 15 .b2s [t 14],o 2 .mv [t 15]])
      (.ret)) (.skip)))
   (sq (rd [] [2] [ap [1472] false [] (o 16 .mv [t 0]),ap [1472] false [] (o 17 (.bin .quo) [t 16,i 10]),o 19 .mv [t 0],o 20 (.bin .rem) [t 19,i 10],o 21 (.bin .add) [i 48,t 20],o 22 (.cvt .u8) [t 21],ap [] true [] (o 23 (lit 5 1 1) [t 22]),o 24 .b2s [t 23],ap [1472] false [23] (o 18 (.call 46) [t 17]),o 25 (.bin .add) [t 18,t 24],o 2 .mv [t 25]])
    (.ret))))
def sF:List RV:=[.tmp 2]
def ol (E:En) (L:Int→Option (List UInt8)):Prop:=E.Γ.mu 46=false∧(∀ (a0:Int),E.Γ 46 [.d (.int .i64 a0)]=(L a0).bind fun r=>some (.ret (.d (sD r)) []))
def sn (zI:Int→Option (List UInt8)) (N:Nat) (a0:Int):Option (List UInt8):=
 if a0 < 0 then ((zI (w64 (0 - a0))).bind fun y0=>
  if oO (List.length y0+1) then some (45 :: y0)
  else none)
 else (if a0 < 10 then some (qR [Go.IntKind.wrap .u8 (w64 (48+a0))])
  else ((zI (w64 (Int.tdiv a0 10))).bind fun y1=>
   if oO (List.length (y1++qR [Go.IntKind.wrap .u8 (w64 (48+Int.tmod a0 10))])) then some (y1++qR [Go.IntKind.wrap .u8 (w64 (48+Int.tmod a0 10))])
   else none))
theorem dr (E:En) (hy:Hy E [] [] [] sF none (fun y=>nocap y) zi) (zI:Int→Option (List UInt8)) (h_spec_l1Dec:ol E zI) (a0:Int):G E c_spec_l1Dec [] ⟨zh [(0,.d (.int .i64 a0))],zt []⟩=(sn zI E.n a0).bind fun r=>some (.ret (.d (sD r)) []):=by
 simp (config:={maxSteps:=40000000}) only [↓yR,yn,yM,yL,rI,rS,rB,r8,rLI,yJ,yQ,hy.p,hy.l,hy.k,hy.r,hy.d,hy.w,hy.f,zi,oid,sF,↓zj _ _ c_spec_l1Dec.eq_1,h_spec_l1Dec.2,h_spec_l1Dec.1,zz,sn,ym,yo,zT,yl,yp,yN,↓reduceIte,Nat.reduceMul,Nat.reduceAdd,Nat.reduceSub,Nat.reduceEqDiff,Nat.reduceBEq,Nat.reduceLeDiff,Nat.reduceLT,reduceCtorEq,Int.reduceAdd,Int.reduceSub,Int.reduceToNat,Int.reduceNeg,Int.reduceEq,Int.reduceLT,Int.reduceLE]
def b0_spec_l1Num:Cd:=
 sq (sq (r [0,4,5,6,10] [o 7 .mv [t 6],o 8 .mv [t 0],o 9 (.len true) [t 8],o 10 (.bin .lss) [t 7,t 9]])
  (.cond (t 10) (.skip) (.exit 0)))
 (sq (.block 1 (sq (r [0,4,5,6,26] [o 13 .mv [t 0],o 14 .mv [t 6],o 15 .ixs [t 13,t 14],o 16 (.bin .geq) [t 15,.k (.d (.int .u8 48))],o 17 .mv [t 16],g 17 true 18 .mv [t 0],g 17 true 19 .mv [t 6],g 17 true 20 .ixs [t 18,t 19],g 17 true 21 (.bin .leq) [t 20,.k (.d (.int .u8 57))],o 22 .pick [t 17,t 21,b false],o 23 .mv [t 22],g 23 true 24 .mv [t 5],g 23 true 25 (.bin .lss) [t 24,i 10],o 26 .pick [t 23,t 25,b false]])
   (.cond (t 26) (sq (r [0,4,5,6] [o 27 .mv [t 4],o 28 (.bin .mul) [t 27,i 10],o 29 .mv [t 0],o 30 .mv [t 6],o 31 .ixs [t 29,t 30],o 32 (.bin .sub) [t 31,.k (.d (.int .u8 48))],o 33 (.cvt .i64) [t 32],o 34 (.bin .add) [t 28,t 33],o 4 .mv [t 34]])
     (r [0,4,5,6] [o 35 .mv [t 5],o 36 (.bin .add) [t 35,i 1],o 5 .mv [t 36]])) (sq (r [0,4,5,6,44] [o 37 .mv [t 6],o 38 (.bin .gtr) [t 37,i 0],o 39 .mv [t 38],g 39 false 40 .mv [t 0],g 39 false 41 .mv [t 6],g 39 false 42 .ixs [t 40,t 41],g 39 false 43 (.bin .neq) [t 42,.k (.d (.int .u8 45))],o 44 .pick [t 39,b true,t 43]])
     (.cond (t 44) (sq (r [2,3] [o 2 .mv [i 0],o 3 .mv [b false]])
       (.ret)) (.skip))))))
  (r [0,4,5,6] [o 11 .mv [t 6],o 12 (.bin .add) [t 11,i 1],o 6 .mv [t 12]]))
def k1_spec_l1Num:Cd:=
 sq (sq (r [0,4,5,52] [o 45 .mv [t 0],o 46 (.len true) [t 45],o 47 (.bin .gtr) [t 46,i 0],o 48 .mv [t 47],g 48 true 49 .mv [t 0],g 48 true 50 .ixs [t 49,i 0],g 48 true 51 (.bin .eql) [t 50,.k (.d (.int .u8 45))],o 52 .pick [t 48,t 51,b false]])
  (.cond (t 52) (r [0,4,5] [o 53 .mv [t 4],o 54 .neg [t 53],o 4 .mv [t 54]]) (.skip)))
 (sq (r [2,3] [o 55 .mv [t 4],o 56 .mv [t 5],o 57 (.bin .gtr) [t 56,i 0],o 58 .mv [t 57],g 58 true 59 .mv [t 4],g 58 true 60 (.call 46) [t 59],g 58 true 61 .mv [t 0],g 58 true 62 (.bin .eql) [t 60,t 61],o 63 .pick [t 58,t 62,b false],o 2 .mv [t 55],o 3 .mv [t 63]])
  (.ret))
def c_spec_l1Num:Cd:=
 sq (r [0] [o 2 .mv [i 0],o 3 .mv [b false]])
 (sq (r [0,4] [o 4 .mv [i 0]])
  (sq (r [0,4,5] [o 5 .mv [i 0]])
   (sq (sq (r [0,4,5,6] [o 6 .mv [i 0]])
     (.block 0 (.loop [0,4,5,6] b0_spec_l1Num))) k1_spec_l1Num)))
def vM:List RV:=[.tmp 2,.tmp 3]
def yP (zI:Int→Option (List UInt8)):Nat→(List UInt8)→Int→Int→Int→Option (Int×Bool)
 | 0,_,_,_,_=>none
 | m0+1,x0,x4,x5,x6=>
   if x6 < (↑(List.length x0):Int) then ((qx x0 x6).bind fun y0=>
    if 48 ≤ y0 then ((qx x0 x6).bind fun y1=>
     if y1 ≤ 57 then (if x5 < 10 then ((qx x0 x6).bind fun y2=>
      yP zI m0 x0 (w64 (w64 (x4 * 10)+w64 (Go.IntKind.wrap .u8 (y2 - 48)))) (w64 (x5+1)) (w64 (x6+1)))
      else (if 0 < x6 then some ((0,false))
       else ((qx x0 x6).bind fun y3=>
        if y3=45 then yP zI m0 x0 x4 x5 (w64 (x6+1))
        else some ((0,false)))))
     else (if 0 < x6 then some ((0,false))
      else ((qx x0 x6).bind fun y4=>
       if y4=45 then yP zI m0 x0 x4 x5 (w64 (x6+1))
       else some ((0,false)))))
    else (if 0 < x6 then some ((0,false))
     else ((qx x0 x6).bind fun y5=>
      if y5=45 then yP zI m0 x0 x4 x5 (w64 (x6+1))
      else some ((0,false)))))
   else (if 0 < (↑(List.length x0):Int) then ((qx x0 0).bind fun y6=>
    if y6=45 then (if 0 < x5 then ((zI (w64 (0 - x4))).bind fun y7=>
     some ((w64 (0 - x4),Decidable.decide (y7=x0))))
     else some ((w64 (0 - x4),false)))
    else (if 0 < x5 then ((zI x4).bind fun y8=>
     some ((x4,Decidable.decide (y8=x0))))
     else some ((x4,false))))
    else (if 0 < x5 then ((zI x4).bind fun y9=>
     some ((x4,Decidable.decide (y9=x0))))
     else some ((x4,false))))
def rY (zI:Int→Option (List UInt8)) (N:Nat) (a0:List UInt8):Option (Int×Bool):=
 yP zI N a0 0 0 0
theorem jI (E:En) (hy:Hy E [] [] [] vM none (fun y=>nocap y) zi) (zI:Int→Option (List UInt8)) (h_spec_l1Dec:ol E zI):∀ (m0:Nat) (x0:List UInt8) (x4:Int) (x5:Int) (x6:Int),gH E [0,4,5,6] b0_spec_l1Num [KJ.b 0,KJ.c k1_spec_l1Num] m0 ⟨zh [(0,.d (sD x0)),(4,.d (.int .i64 x4)),(5,.d (.int .i64 x5)),(6,.d (.int .i64 x6))],zt []⟩=(yP zI m0 x0 x4 x5 x6).bind fun r=>some (.ret (.tup [.d (.int .i64 r.1),.d (.bool r.2)]) []):=by
 intro m0
 induction m0 with
 | zero=>intros; rfl
 | succ m0 ih=>
   intros
   simp (config:={maxSteps:=40000000}) only [↓yR,yn,yM,yL,rI,rS,rB,r8,rLI,yJ,yQ,hy.p,hy.l,hy.k,hy.r,hy.d,hy.w,hy.f,zi,oid,vM,↓zj _ _ b0_spec_l1Num.eq_1,↓zj _ _ k1_spec_l1Num.eq_1,↓zj _ _ c_spec_l1Num.eq_1,h_spec_l1Dec.2,h_spec_l1Dec.1,wd,ih,zz,yP,ym,yo,zT,yl,yp,yN,↓reduceIte,Nat.reduceMul,Nat.reduceAdd,Nat.reduceSub,Nat.reduceEqDiff,Nat.reduceBEq,Nat.reduceLeDiff,Nat.reduceLT,reduceCtorEq,Int.reduceAdd,Int.reduceSub,Int.reduceToNat,Int.reduceNeg,Int.reduceEq,Int.reduceLT,Int.reduceLE]
theorem de (E:En) (hy:Hy E [] [] [] vM none (fun y=>nocap y) zi) (zI:Int→Option (List UInt8)) (h_spec_l1Dec:ol E zI) (a0:List UInt8):G E c_spec_l1Num [] ⟨zh [(0,.d (sD a0))],zt []⟩=(rY zI E.n a0).bind fun r=>some (.ret (.tup [.d (.int .i64 r.1),.d (.bool r.2)]) []):=by
 simp (config:={maxSteps:=40000000}) only [↓yR,yn,yM,yL,rI,rS,rB,r8,rLI,yJ,yQ,hy.p,hy.l,hy.k,hy.r,hy.d,hy.w,hy.f,zi,oid,vM,↓zj _ _ b0_spec_l1Num.eq_1,↓zj _ _ k1_spec_l1Num.eq_1,↓zj _ _ c_spec_l1Num.eq_1,h_spec_l1Dec.2,h_spec_l1Dec.1,zz,rY,jI E hy zI h_spec_l1Dec,ym,yo,zT,yl,yp,yN,↓reduceIte,Nat.reduceMul,Nat.reduceAdd,Nat.reduceSub,Nat.reduceEqDiff,Nat.reduceBEq,Nat.reduceLeDiff,Nat.reduceLT,reduceCtorEq,Int.reduceAdd,Int.reduceSub,Int.reduceToNat,Int.reduceNeg,Int.reduceEq,Int.reduceLT,Int.reduceLE]
def lh (E:En) (L:(List UInt8)→Option (Int×Bool)):Prop:=E.Γ.mu 33=false∧(∀ (a0:List UInt8),E.Γ 33 [.d (sD a0)]=(L a0).bind fun r=>some (.ret (.tup [.d (.int .i64 r.1),.d (.bool r.2)]) []))
def b0_spec_l1Nums:Cd:=
 sq (sq (r [4,5,6,18] [o 15 .mv [t 6],o 16 .mv [t 5],o 17 (.len false) [t 16],o 18 (.bin .lss) [t 15,t 17]])
  (.cond (t 18) (.skip) (.exit 0)))
 (sq (.block 1 (sq (r [4,5,6,7,8] [o 22 .mv [t 5],o 23 .mv [t 6],o 24 (.ia 1) [t 22,t 23],o 25 (.ld none) [t 24],o 26 (.call 33) [t 25],o 21 .mv [t 26],o 27 (.ext 0) [t 21],o 28 (.ext 1) [t 21],o 7 .mv [t 27],o 8 .mv [t 28]])
   (sq (sq (r [4,5,6,7,30] [o 29 .mv [t 8],o 30 .not [t 29]])
     (.cond (t 30) (sq (r [2,3] [o 31 .mv [t 4],o 2 .mv [t 31],o 3 .mv [b false]])
       (.ret)) (.skip)))
    (r [4,5,6] [o 32 .mv [t 4],o 33 .mv [t 7],o 34 (lit 3 1 1) [t 33],o 35 (.app 3 1 8) [t 32,t 34],o 4 .mv [t 35]]))))
  (r [4,5,6] [o 19 .mv [t 6],o 20 (.bin .add) [t 19,i 1],o 6 .mv [t 20]]))
def k1_spec_l1Nums:Cd:=
 sq (r [2,3] [o 36 .mv [t 4],o 2 .mv [t 36],o 3 .mv [b true]])
 (.ret)
def c_spec_l1Nums:Cd:=
 sq (r [0] [o 2 .mv [n],o 3 .mv [b false]])
 (sq (r [0,4] [o 9 (lit 3 1 0) [],o 4 .mv [t 9]])
  (sq (sq (r [0,4,11] [o 10 .mv [t 0],o 11 (.bin .eql) [t 10,s []]])
    (.cond (t 11) (sq (r [2,3] [o 12 .mv [t 4],o 2 .mv [t 12],o 3 .mv [b true]])
      (.ret)) (.skip)))
   (sq (r [4,5] [o 13 .mv [t 0],o 14 (.call 9) [t 13,.k (.d (.int .u8 32))],o 5 .mv [t 14]])
    (sq (sq (r [4,5,6] [o 6 .mv [i 0]])
      (.block 0 (.loop [4,5,6] b0_spec_l1Nums))) k1_spec_l1Nums))))
def wZ:List RV:=[.tmp 2,.tmp 3]
def wx (zw:(List UInt8)→Int→Option (List (List UInt8))) (xe:(List UInt8)→Option (Int×Bool)):Nat→Int→(List Int)→(List (List UInt8))→Option (List Int×Bool)
 | 0,_,_,_=>none
 | m0+1,x6,o256,o320=>
   if x6 < (↑(List.length o320):Int) then (if 0 ≤ x6∧x6 < (↑(List.length o320):Int) then ((o320[Int.toNat x6]?).bind fun y0=>
    (xe y0).bind fun y1=>
    if y1.snd=false then some ((o256,false))
    else (if tl 8 (List.length (o256++[y1.fst])) then wx zw xe m0 (w64 (x6+1)) (o256++[y1.fst]) o320
     else none))
    else none)
   else some ((o256,true))
def tX (zw:(List UInt8)→Int→Option (List (List UInt8))) (xe:(List UInt8)→Option (Int×Bool)) (N:Nat) (a0:List UInt8):Option (List Int×Bool):=
 if a0=[] then some (([],true))
 else ((zw a0 32).bind fun y0=>
  wx zw xe N 0 [] y0)
theorem kK (E:En) (hy:Hy E [] [] [] wZ none (fun y=>nocap y) zi) (zw:(List UInt8)→Int→Option (List (List UInt8))) (h_spec_l1Cut:sK E zw) (xe:(List UInt8)→Option (Int×Bool)) (h_spec_l1Num:lh E xe):∀ (m0:Nat) (x6:Int) (o256:List Int) (o320:List (List UInt8)),gH E [4,5,6] b0_spec_l1Nums [KJ.b 0,KJ.c k1_spec_l1Nums] m0 ⟨zh [(4,A.row 256 1),(5,A.row 320 1),(6,.d (.int .i64 x6))],zt [(256,⟨1,zP (cI) 3 none o256,false⟩),(320,⟨1,zP (cS) 9 none o320,false⟩)]⟩=(wx zw xe m0 x6 o256 o320).bind fun r=>some (.ret (.tup [zx (cI) 3 none false r.1,.d (.bool r.2)]) []):=by
 intro m0
 induction m0 with
 | zero=>intros; rfl
 | succ m0 ih=>
   intros
   simp (config:={maxSteps:=40000000}) only [↓yR,yn,yM,yL,rI,rS,rB,r8,rLI,yJ,yQ,hy.p,hy.l,hy.k,hy.r,hy.d,hy.w,hy.f,zi,oid,wZ,↓zj _ _ b0_spec_l1Nums.eq_1,↓zj _ _ k1_spec_l1Nums.eq_1,↓zj _ _ c_spec_l1Nums.eq_1,h_spec_l1Cut.2,h_spec_l1Cut.1,h_spec_l1Num.2,h_spec_l1Num.1,wd,ih,zz,wx,ym,yo,zT,yl,yp,yN,↓reduceIte,Nat.reduceMul,Nat.reduceAdd,Nat.reduceSub,Nat.reduceEqDiff,Nat.reduceBEq,Nat.reduceLeDiff,Nat.reduceLT,reduceCtorEq,Int.reduceAdd,Int.reduceSub,Int.reduceToNat,Int.reduceNeg,Int.reduceEq,Int.reduceLT,Int.reduceLE]
theorem fR (E:En) (hy:Hy E [] [] [] wZ none (fun y=>nocap y) zi) (zw:(List UInt8)→Int→Option (List (List UInt8))) (h_spec_l1Cut:sK E zw) (xe:(List UInt8)→Option (Int×Bool)) (h_spec_l1Num:lh E xe) (a0:List UInt8):G E c_spec_l1Nums [] ⟨zh [(0,.d (sD a0))],zt []⟩=(tX zw xe E.n a0).bind fun r=>some (.ret (.tup [zx (cI) 3 none false r.1,.d (.bool r.2)]) []):=by
 simp (config:={maxSteps:=40000000}) only [↓yR,yn,yM,yL,rI,rS,rB,r8,rLI,yJ,yQ,hy.p,hy.l,hy.k,hy.r,hy.d,hy.w,hy.f,zi,oid,wZ,↓zj _ _ b0_spec_l1Nums.eq_1,↓zj _ _ k1_spec_l1Nums.eq_1,↓zj _ _ c_spec_l1Nums.eq_1,h_spec_l1Cut.2,h_spec_l1Cut.1,h_spec_l1Num.2,h_spec_l1Num.1,zz,tX,kK E hy zw h_spec_l1Cut xe h_spec_l1Num,ym,yo,zT,yl,yp,yN,↓reduceIte,Nat.reduceMul,Nat.reduceAdd,Nat.reduceSub,Nat.reduceEqDiff,Nat.reduceBEq,Nat.reduceLeDiff,Nat.reduceLT,reduceCtorEq,Int.reduceAdd,Int.reduceSub,Int.reduceToNat,Int.reduceNeg,Int.reduceEq,Int.reduceLT,Int.reduceLE]
def fT (E:En) (L:(List UInt8)→Option (List Int×Bool)):Prop:=E.Γ.mu 23=false∧(∀ (a0:List UInt8),E.Γ 23 [.d (sD a0)]=(L a0).bind fun r=>some (.ret (.tup [zx (cI) 3 none false r.1,.d (.bool r.2)]) []))
def b0_spec_l1Product:Cd:=
 sq (sq (r [0,3,4,8] [o 5 .mv [t 4],o 6 .mv [t 0],o 7 (.len false) [t 6],o 8 (.bin .lss) [t 5,t 7]])
  (.cond (t 8) (.skip) (.exit 0)))
 (sq (.block 1 (sq (r [0,3,4] [o 11 .mv [t 3],o 12 .mv [t 0],o 13 .mv [t 4],o 14 (.ia 1) [t 12,t 13],o 15 (.ld none) [t 14],o 16 (.bin .mul) [t 11,t 15],o 3 .mv [t 16]])
   (sq (r [0,3,4,18] [o 17 .mv [t 3],o 18 (.bin .gtr) [t 17,i 1000]])
    (.cond (t 18) (r [0,3,4] [o 3 .mv [i 1001]]) (.skip)))))
  (r [0,3,4] [o 9 .mv [t 4],o 10 (.bin .add) [t 9,i 1],o 4 .mv [t 10]]))
def k1_spec_l1Product:Cd:=
 sq (r [2] [o 19 .mv [t 3],o 2 .mv [t 19]])
 (.ret)
def c_spec_l1Product:Cd:=
 sq (r [0] [o 2 .mv [i 0]])
 (sq (r [0,3] [o 3 .mv [i 1]])
  (sq (sq (r [0,3,4] [o 4 .mv [i 0]])
    (.block 0 (.loop [0,3,4] b0_spec_l1Product))) k1_spec_l1Product))
def xC:List RV:=[.tmp 2]
def yV:Nat→(List Int)→Int→Int→Option (Int)
 | 0,_,_,_=>none
 | m0+1,x0,x3,x4=>
   if x4 < (↑(List.length x0):Int) then ((idx x0 x4).bind fun y0=>
    if 1000 < w64 (x3 * y0) then yV m0 x0 1001 (w64 (x4+1))
    else yV m0 x0 (w64 (x3 * y0)) (w64 (x4+1)))
   else some x3
def tx (N:Nat) (a0:List Int):Option (Int):=
 yV N a0 1 0
theorem mg (E:En) (hy:Hy E [] [] [] xC none (fun y=>nocap y) zi):∀ (m0:Nat) (x0:List Int) (x3:Int) (x4:Int),gH E [0,3,4] b0_spec_l1Product [KJ.b 0,KJ.c k1_spec_l1Product] m0 ⟨zh [(0,.d (zb (cI) x0)),(3,.d (.int .i64 x3)),(4,.d (.int .i64 x4))],zt []⟩=(yV m0 x0 x3 x4).bind fun r=>some (.ret (.d (.int .i64 r)) []):=by
 intro m0
 induction m0 with
 | zero=>intros; rfl
 | succ m0 ih=>
   intros
   simp (config:={maxSteps:=40000000}) only [↓yR,yn,yM,yL,rI,rS,rB,r8,rLI,yJ,yQ,hy.p,hy.l,hy.k,hy.r,hy.d,hy.w,hy.f,zi,oid,xC,↓zj _ _ b0_spec_l1Product.eq_1,↓zj _ _ k1_spec_l1Product.eq_1,↓zj _ _ c_spec_l1Product.eq_1,wd,ih,zz,yV,ym,yo,zT,yl,yp,yN,↓reduceIte,Nat.reduceMul,Nat.reduceAdd,Nat.reduceSub,Nat.reduceEqDiff,Nat.reduceBEq,Nat.reduceLeDiff,Nat.reduceLT,reduceCtorEq,Int.reduceAdd,Int.reduceSub,Int.reduceToNat,Int.reduceNeg,Int.reduceEq,Int.reduceLT,Int.reduceLE]
theorem jt (E:En) (hy:Hy E [] [] [] xC none (fun y=>nocap y) zi) (a0:List Int):G E c_spec_l1Product [] ⟨zh [(0,.d (zb cI a0))],zt []⟩=(tx E.n a0).bind fun r=>some (.ret (.d (.int .i64 r)) []):=by
 simp (config:={maxSteps:=40000000}) only [↓yR,yn,yM,yL,rI,rS,rB,r8,rLI,yJ,yQ,hy.p,hy.l,hy.k,hy.r,hy.d,hy.w,hy.f,zi,oid,xC,↓zj _ _ b0_spec_l1Product.eq_1,↓zj _ _ k1_spec_l1Product.eq_1,↓zj _ _ c_spec_l1Product.eq_1,zz,tx,mg E hy,ym,yo,zT,yl,yp,yN,↓reduceIte,Nat.reduceMul,Nat.reduceAdd,Nat.reduceSub,Nat.reduceEqDiff,Nat.reduceBEq,Nat.reduceLeDiff,Nat.reduceLT,reduceCtorEq,Int.reduceAdd,Int.reduceSub,Int.reduceToNat,Int.reduceNeg,Int.reduceEq,Int.reduceLT,Int.reduceLE]
def tu (E:En) (L:(List Int)→Option (Int)):Prop:=E.Γ.mu 35=false∧(∀ (a0:List Int),E.Γ 35 [.d (zb cI a0)]=(L a0).bind fun r=>some (.ret (.d (.int .i64 r)) []))
def b0_spec_l1Fits:Cd:=
 sq (sq (r [0,3,10] [o 7 .mv [t 3],o 8 .mv [t 0],o 9 (.len false) [t 8],o 10 (.bin .lss) [t 7,t 9]])
  (.cond (t 10) (.skip) (.exit 0)))
 (sq (.block 1 (sq (r [0,3,24] [o 13 .mv [t 0],o 14 .mv [t 3],o 15 (.ia 1) [t 13,t 14],o 16 (.ld none) [t 15],o 17 (.bin .lss) [t 16,i 0],o 18 .mv [t 17],g 18 false 19 .mv [t 0],g 18 false 20 .mv [t 3],g 18 false 21 (.ia 1) [t 19,t 20],g 18 false 22 (.ld none) [t 21],g 18 false 23 (.bin .gtr) [t 22,i 1000],o 24 .pick [t 18,b true,t 23]])
   (.cond (t 24) (sq (r [2] [o 2 .mv [b false]])
     (.ret)) (.skip))))
  (r [0,3] [o 11 .mv [t 3],o 12 (.bin .add) [t 11,i 1],o 3 .mv [t 12]]))
def k1_spec_l1Fits:Cd:=
 sq (r [2] [o 25 .mv [t 0],o 26 (.call 35) [t 25],o 27 (.bin .leq) [t 26,i 1000],o 2 .mv [t 27]])
 (.ret)
def c_spec_l1Fits:Cd:=
 sq (r [0] [o 2 .mv [b false]])
 (sq (sq (r [0,6] [o 4 .mv [t 0],o 5 (.len false) [t 4],o 6 (.bin .gtr) [t 5,i 3]])
   (.cond (t 6) (sq (r [2] [o 2 .mv [b false]])
     (.ret)) (.skip)))
  (sq (sq (r [0,3] [o 3 .mv [i 0]])
    (.block 0 (.loop [0,3] b0_spec_l1Fits))) k1_spec_l1Fits))
def wU:List RV:=[.tmp 2]
def wz (zq:(List Int)→Option (Int)):Nat→(List Int)→Int→Option (Bool)
 | 0,_,_=>none
 | m0+1,x0,x3=>
   if x3 < (↑(List.length x0):Int) then ((idx x0 x3).bind fun y0=>
    if y0 < 0 then some false
    else ((idx x0 x3).bind fun y1=>
     if 1000 < y1 then some false
     else wz zq m0 x0 (w64 (x3+1))))
   else ((zq x0).bind fun y2=>
    some (Decidable.decide (y2 ≤ 1000)))
def tG (zq:(List Int)→Option (Int)) (N:Nat) (a0:List Int):Option (Bool):=
 if 3 < (↑(List.length a0):Int) then some false
 else wz zq N a0 0
theorem kH (E:En) (hy:Hy E [] [] [] wU none (fun y=>nocap y) zi) (zq:(List Int)→Option (Int)) (h_spec_l1Product:tu E zq):∀ (m0:Nat) (x0:List Int) (x3:Int),gH E [0,3] b0_spec_l1Fits [KJ.b 0,KJ.c k1_spec_l1Fits] m0 ⟨zh [(0,.d (zb (cI) x0)),(3,.d (.int .i64 x3))],zt []⟩=(wz zq m0 x0 x3).bind fun r=>some (.ret (.d (.bool r)) []):=by
 intro m0
 induction m0 with
 | zero=>intros; rfl
 | succ m0 ih=>
   intros
   simp (config:={maxSteps:=40000000}) only [↓yR,yn,yM,yL,rI,rS,rB,r8,rLI,yJ,yQ,hy.p,hy.l,hy.k,hy.r,hy.d,hy.w,hy.f,zi,oid,wU,↓zj _ _ b0_spec_l1Fits.eq_1,↓zj _ _ k1_spec_l1Fits.eq_1,↓zj _ _ c_spec_l1Fits.eq_1,h_spec_l1Product.2,h_spec_l1Product.1,wd,ih,zz,wz,ym,yo,zT,yl,yp,yN,↓reduceIte,Nat.reduceMul,Nat.reduceAdd,Nat.reduceSub,Nat.reduceEqDiff,Nat.reduceBEq,Nat.reduceLeDiff,Nat.reduceLT,reduceCtorEq,Int.reduceAdd,Int.reduceSub,Int.reduceToNat,Int.reduceNeg,Int.reduceEq,Int.reduceLT,Int.reduceLE]
theorem fS (E:En) (hy:Hy E [] [] [] wU none (fun y=>nocap y) zi) (zq:(List Int)→Option (Int)) (h_spec_l1Product:tu E zq) (a0:List Int):G E c_spec_l1Fits [] ⟨zh [(0,.d (zb cI a0))],zt []⟩=(tG zq E.n a0).bind fun r=>some (.ret (.d (.bool r)) []):=by
 simp (config:={maxSteps:=40000000}) only [↓yR,yn,yM,yL,rI,rS,rB,r8,rLI,yJ,yQ,hy.p,hy.l,hy.k,hy.r,hy.d,hy.w,hy.f,zi,oid,wU,↓zj _ _ b0_spec_l1Fits.eq_1,↓zj _ _ k1_spec_l1Fits.eq_1,↓zj _ _ c_spec_l1Fits.eq_1,h_spec_l1Product.2,h_spec_l1Product.1,zz,tG,kH E hy zq h_spec_l1Product,ym,yo,zT,yl,yp,yN,↓reduceIte,Nat.reduceMul,Nat.reduceAdd,Nat.reduceSub,Nat.reduceEqDiff,Nat.reduceBEq,Nat.reduceLeDiff,Nat.reduceLT,reduceCtorEq,Int.reduceAdd,Int.reduceSub,Int.reduceToNat,Int.reduceNeg,Int.reduceEq,Int.reduceLT,Int.reduceLE]
def mJ (E:En) (L:(List Int)→Option (Bool)):Prop:=E.Γ.mu 34=false∧(∀ (a0:List Int),E.Γ 34 [.d (zb cI a0)]=(L a0).bind fun r=>some (.ret (.d (.bool r)) []))
def b0_spec_ArrayOk:Cd:=
 sq (sq (r [1,3,21] [o 17 .mv [t 3],o 18 (.fa 1) [t 1],o 19 (.ld none) [t 18],o 20 (.len false) [t 19],o 21 (.bin .lss) [t 17,t 20]])
  (.cond (t 21) (.skip) (.exit 0)))
 (sq (.block 1 (sq (r [1,3,37] [o 24 (.fa 1) [t 1],o 25 (.ld none) [t 24],o 26 .mv [t 3],o 27 (.ia 1) [t 25,t 26],o 28 (.ld none) [t 27],o 29 (.bin .lss) [t 28,i (-3000000000)],o 30 .mv [t 29],g 30 false 31 (.fa 1) [t 1],g 30 false 32 (.ld none) [t 31],g 30 false 33 .mv [t 3],g 30 false 34 (.ia 1) [t 32,t 33],g 30 false 35 (.ld none) [t 34],g 30 false 36 (.bin .gtr) [t 35,i 3000000000],o 37 .pick [t 30,b true,t 36]])
   (.cond (t 37) (sq (r [2] [o 2 .mv [b false]])
     (.ret)) (.skip))))
  (r [1,3] [o 22 .mv [t 3],o 23 (.bin .add) [t 22,i 1],o 3 .mv [t 23]]))
def k1_spec_ArrayOk:Cd:=
 sq (r [2] [o 2 .mv [b true]])
 (.ret)
def c_spec_ArrayOk:Cd:=
 sq (r [1] [o 1 .box [t 0],o 2 .mv [b false]])
 (sq (sq (rd [] [1,16] [o 4 (.fa 0) [t 1],o 5 (.ld none) [t 4],o 6 (.call 34) [t 5],o 7 .not [t 6],o 8 .mv [t 7],g 8 false 9 (.fa 1) [t 1],g 8 false 10 (.ld none) [t 9],g 8 false 11 (.len false) [t 10],g 8 false 12 (.fa 0) [t 1],g 8 false 13 (.ld none) [t 12],ap [] false [1,8,9,8,10,8] (g 8 false 14 (.call 35) [t 13]),g 8 false 15 (.bin .neq) [t 11,t 14],o 16 .pick [t 8,b true,t 15]])
   (.cond (t 16) (sq (r [2] [o 2 .mv [b false]])
     (.ret)) (.skip)))
  (sq (sq (r [1,3] [o 3 .mv [i 0]])
    (.block 0 (.loop [1,3] b0_spec_ArrayOk))) k1_spec_ArrayOk))
def wG:List RV:=[.tmp 2]
def xW (yO:(List Int)→Option (Bool)) (zq:(List Int)→Option (Int)):Nat→Int→(List Int)→(List Int)→Option (Bool)
 | 0,_,_,_=>none
 | m0+1,x3,o64_0,o64_1=>
   if x3 < (↑(List.length o64_1):Int) then ((idx o64_1 x3).bind fun y0=>
    if y0 < -3000000000 then some false
    else ((idx o64_1 x3).bind fun y1=>
     if 3000000000 < y1 then some false
     else xW yO zq m0 (w64 (x3+1)) o64_0 o64_1))
   else some true
def uU (yO:(List Int)→Option (Bool)) (zq:(List Int)→Option (Int)) (N:Nat) (zo:List Int) (zr:List Int):Option (Bool):=
 (yO zo).bind fun y0=>
 if y0=false then some false
 else ((zq zo).bind fun y1=>
  if (↑(List.length zr):Int)=y1 then xW yO zq N 0 zo zr
  else some false)
theorem lV (E:En) (hy:Hy E [] [] [] wG none (fun y=>nocap y) zi) (yO:(List Int)→Option (Bool)) (h_spec_l1Fits:mJ E yO) (zq:(List Int)→Option (Int)) (h_spec_l1Product:tu E zq):∀ (m0:Nat) (x3:Int) (o64_0:List Int) (o64_1:List Int),gH E [1,3] b0_spec_ArrayOk [KJ.b 0,KJ.c k1_spec_ArrayOk] m0 ⟨zh [(1,A.adr 64 1 0),(3,.d (.int .i64 x3))],zt [(64,⟨1,.box [.d (zb (cI) o64_0),.d (zb (cI) o64_1)],false⟩)]⟩=(xW yO zq m0 x3 o64_0 o64_1).bind fun r=>some (.ret (.d (.bool r)) []):=by
 intro m0
 induction m0 with
 | zero=>intros; rfl
 | succ m0 ih=>
   intros
   simp (config:={maxSteps:=40000000}) only [↓yR,yn,yM,yL,rI,rS,rB,r8,rLI,yJ,yQ,hy.p,hy.l,hy.k,hy.r,hy.d,hy.w,hy.f,zi,oid,wG,↓zj _ _ b0_spec_ArrayOk.eq_1,↓zj _ _ k1_spec_ArrayOk.eq_1,↓zj _ _ c_spec_ArrayOk.eq_1,h_spec_l1Fits.2,h_spec_l1Fits.1,h_spec_l1Product.2,h_spec_l1Product.1,wd,ih,zz,xW,ym,yo,zT,yl,yp,yN,↓reduceIte,Nat.reduceMul,Nat.reduceAdd,Nat.reduceSub,Nat.reduceEqDiff,Nat.reduceBEq,Nat.reduceLeDiff,Nat.reduceLT,reduceCtorEq,Int.reduceAdd,Int.reduceSub,Int.reduceToNat,Int.reduceNeg,Int.reduceEq,Int.reduceLT,Int.reduceLE]
theorem iM (E:En) (hy:Hy E [] [] [] wG none (fun y=>nocap y) zi) (yO:(List Int)→Option (Bool)) (h_spec_l1Fits:mJ E yO) (zq:(List Int)→Option (Int)) (h_spec_l1Product:tu E zq) (zo:List Int) (zr:List Int):G E c_spec_ArrayOk [] ⟨zh [(0,.agg [.d (zb cI zo),.d (zb cI zr)])],zt []⟩=(uU yO zq E.n zo zr).bind fun r=>some (.ret (.d (.bool r)) []):=by
 simp (config:={maxSteps:=40000000}) only [↓yR,yn,yM,yL,rI,rS,rB,r8,rLI,yJ,yQ,hy.p,hy.l,hy.k,hy.r,hy.d,hy.w,hy.f,zi,oid,wG,↓zj _ _ b0_spec_ArrayOk.eq_1,↓zj _ _ k1_spec_ArrayOk.eq_1,↓zj _ _ c_spec_ArrayOk.eq_1,h_spec_l1Fits.2,h_spec_l1Fits.1,h_spec_l1Product.2,h_spec_l1Product.1,zz,uU,lV E hy yO h_spec_l1Fits zq h_spec_l1Product,ym,yo,zT,yl,yp,yN,↓reduceIte,Nat.reduceMul,Nat.reduceAdd,Nat.reduceSub,Nat.reduceEqDiff,Nat.reduceBEq,Nat.reduceLeDiff,Nat.reduceLT,reduceCtorEq,Int.reduceAdd,Int.reduceSub,Int.reduceToNat,Int.reduceNeg,Int.reduceEq,Int.reduceLT,Int.reduceLE]
def iS (E:En) (L:(List Int)→(List Int)→Option (Bool)):Prop:=E.Γ.mu 24=false∧(∀ (zo:List Int) (zr:List Int),E.Γ 24 [.agg [.d (zb cI zo),.d (zb cI zr)]]=(L zo zr).bind fun r=>some (.ret (.d (.bool r)) []))
def c_spec_ParseArray:Cd:=
 sq (r [0,2] [o 2 (.alloc [.nil,.nil]) [],o 3 .mv [i 0]])
 (sq (sq (r [0,2,12] [o 10 .mv [t 0],o 11 (.len true) [t 10],o 12 (.bin .gtr) [t 11,i 20000]])
   (.cond (t 12) (sq (r [2,3] [o 13 (.bld [.nil,.nil] []) [],e (.st 2) [t 2,t 13],o 3 .mv [i 1]])
     (.ret)) (.skip)))
  (sq (r [2,4] [o 14 .mv [t 0],o 15 (.call 9) [t 14,.k (.d (.int .u8 58))],o 4 .mv [t 15]])
   (sq (sq (r [2,4,18] [o 16 .mv [t 4],o 17 (.len false) [t 16],o 18 (.bin .neq) [t 17,i 2]])
     (.cond (t 18) (sq (r [2,3] [o 19 (.bld [.nil,.nil] []) [],e (.st 2) [t 2,t 19],o 3 .mv [i 1]])
       (.ret)) (.skip)))
    (sq (r [2,4,5,6] [o 21 .mv [t 4],o 22 (.ia 1) [t 21,i 0],o 23 (.ld none) [t 22],o 24 (.call 23) [t 23],o 20 .mv [t 24],o 25 (.ext 0) [t 20],o 26 (.ext 1) [t 20],o 5 .mv [t 25],o 6 .mv [t 26]])
     (sq (r [2,5,6,7,8] [o 28 .mv [t 4],o 29 (.ia 1) [t 28,i 1],o 30 (.ld none) [t 29],o 31 (.call 23) [t 30],o 27 .mv [t 31],o 32 (.ext 0) [t 27],o 33 (.ext 1) [t 27],o 7 .mv [t 32],o 8 .mv [t 33]])
      (sq (r [2,6,8,9] [o 34 .mv [t 5],o 35 .mv [t 7],o 36 (.bld [.nil,.nil] [(0,1),(1,1)]) [t 34,t 35],o 9 (.alloc [.nil,.nil]) [],e (.st 2) [t 9,t 36]])
       (sq (sq (r [2,9,47] [o 37 .mv [t 6],o 38 .not [t 37],o 39 .mv [t 38],g 39 false 40 .mv [t 8],g 39 false 41 .not [t 40],o 42 .pick [t 39,b true,t 41],o 43 .mv [t 42],g 43 false 44 (.ld (some 2)) [t 9],g 43 false 45 (.call 24) [t 44],g 43 false 46 .not [t 45],o 47 .pick [t 43,b true,t 46]])
         (.cond (t 47) (sq (r [2,3] [o 48 (.bld [.nil,.nil] []) [],e (.st 2) [t 2,t 48],o 3 .mv [i 1]])
           (.ret)) (.skip)))
        (sq (r [2,3] [o 49 (.ld (some 2)) [t 9],e (.st 2) [t 2,t 49],o 3 .mv [i 0]])
         (.ret)))))))))
def vb:List RV:=[.cell 2 (some 2),.tmp 3]
def w6 (zw:(List UInt8)→Int→Option (List (List UInt8))) (tW:(List UInt8)→Option (List Int×Bool)) (sV:(List Int)→(List Int)→Option (Bool)) (N:Nat) (a0:List UInt8):Option (List Int×List Int×Int):=
 if 20000 < (↑(List.length a0):Int) then some (([],[],1))
 else ((zw a0 58).bind fun y0=>
  if (↑(List.length y0):Int)=2 then (if 0 < (↑(List.length y0):Int) then ((y0[0]?).bind fun y1=>
   (tW y1).bind fun y2=>
   if 1 < (↑(List.length y0):Int) then ((y0[1]?).bind fun y3=>
    (tW y3).bind fun y4=>
    if y2.snd=false then some (([],[],1))
    else (if y4.snd=false then some (([],[],1))
     else ((sV y2.fst y4.fst).bind fun y5=>
      if y5=false then some (([],[],1))
      else some ((y2.fst,y4.fst,0)))))
   else none)
   else none)
  else some (([],[],1)))
theorem kx (E:En) (hy:Hy E [] [] [] vb none (fun y=>nocap (wK (.node [.node [.own 3 1,.own 3 1],.k]) y)) zi) (zw:(List UInt8)→Int→Option (List (List UInt8))) (h_spec_l1Cut:sK E zw) (tW:(List UInt8)→Option (List Int×Bool)) (h_spec_l1Nums:fT E tW) (sV:(List Int)→(List Int)→Option (Bool)) (h_spec_ArrayOk:iS E sV) (a0:List UInt8):G E c_spec_ParseArray [] ⟨zh [(0,.d (sD a0))],zt []⟩=(w6 zw tW sV E.n a0).bind fun r=>some (.ret (.tup [.agg [zx (cI) 3 none false r.1,zx (cI) 3 none false r.2.1],.d (.int .i64 r.2.2)]) []):=by
 simp (config:={maxSteps:=40000000}) only [↓yR,yn,yM,yL,rI,rS,rB,r8,rLI,yJ,yQ,hy.p,hy.l,hy.k,hy.r,hy.d,hy.w,hy.f,zi,oid,vb,↓zj _ _ c_spec_ParseArray.eq_1,h_spec_l1Cut.2,h_spec_l1Cut.1,h_spec_l1Nums.2,h_spec_l1Nums.1,h_spec_ArrayOk.2,h_spec_ArrayOk.1,zz,w6,ym,yo,zT,yl,yp,yN,↓reduceIte,Nat.reduceMul,Nat.reduceAdd,Nat.reduceSub,Nat.reduceEqDiff,Nat.reduceBEq,Nat.reduceLeDiff,Nat.reduceLT,reduceCtorEq,Int.reduceAdd,Int.reduceSub,Int.reduceToNat,Int.reduceNeg,Int.reduceEq,Int.reduceLT,Int.reduceLE]
def pr (E:En) (L:(List UInt8)→Option (List Int×List Int×Int)):Prop:=E.Γ.mu 17=false∧(∀ (a0:List UInt8),E.Γ 17 [.d (sD a0)]=(L a0).bind fun r=>some (.ret (.tup [.agg [zx (cI) 3 none false r.1,zx (cI) 3 none false r.2.1],.d (.int .i64 r.2.2)]) []))
def b0_spec_l5Test:Cd:=
 sq (sq (r [0,2,4,13] [o 9 .mv [t 4],o 10 (.bin .add) [t 9,i 4],o 11 .mv [t 0],o 12 (.len true) [t 11],o 13 (.bin .leq) [t 10,t 12]])
  (.cond (t 13) (.skip) (.exit 0)))
 (sq (.block 1 (sq (r [0,2,4,21] [o 16 .mv [t 0],o 17 .mv [t 4],o 18 .mv [t 4],o 19 (.bin .add) [t 18,i 4],o 20 (.slc true 1 true true) [t 16,t 17,t 19],o 21 (.bin .eql) [t 20,s [32,61,62,32]]])
   (.cond (t 21) (sq (r [0,2,4,5,6] [o 23 .mv [t 0],o 24 .mv [t 4],o 25 (.slc true 1 false true) [t 23,t 24],o 26 (.call 17) [t 25],o 22 .mv [t 26],o 27 (.ext 0) [t 22],o 28 (.ext 1) [t 22],o 5 (.alloc [.nil,.nil]) [],e (.st 2) [t 5,t 27],o 6 .mv [t 28]])
     (sq (r [2,5,6,7,8] [o 30 .mv [t 0],o 31 .mv [t 4],o 32 (.bin .add) [t 31,i 4],o 33 (.slc true 1 true false) [t 30,t 32],o 34 (.call 17) [t 33],o 29 .mv [t 34],o 35 (.ext 0) [t 29],o 36 (.ext 1) [t 29],o 7 (.alloc [.nil,.nil]) [],e (.st 2) [t 7,t 35],o 8 .mv [t 36]])
      (sq (r [2,3] [o 37 (.ld (some 2)) [t 5],o 38 (.ld (some 2)) [t 7],o 39 (.bld [.nil,.nil,.nil,.nil] [(0,2),(2,2)]) [t 37,t 38],o 40 .mv [t 6],o 41 (.bin .eql) [t 40,i 0],o 42 .mv [t 41],g 42 true 43 .mv [t 8],g 42 true 44 (.bin .eql) [t 43,i 0],o 45 .pick [t 42,t 44,b false],e (.st 4) [t 2,t 39],o 3 .mv [t 45]])
       (.ret)))) (.skip))))
  (r [0,2,4] [o 14 .mv [t 4],o 15 (.bin .add) [t 14,i 1],o 4 .mv [t 15]]))
def k1_spec_l5Test:Cd:=
 sq (r [2,3] [o 46 (.bld [.nil,.nil,.nil,.nil] []) [],e (.st 4) [t 2,t 46],o 3 .mv [b false]])
 (.ret)
def c_spec_l5Test:Cd:=
 sq (r [0,2] [o 2 (.alloc [.nil,.nil,.nil,.nil]) [],o 3 .mv [b false]])
 (sq (sq (r [0,2,4] [o 4 .mv [i 0]])
   (.block 0 (.loop [0,2,4] b0_spec_l5Test))) k1_spec_l5Test)
def wW:List RV:=[.cell 2 (some 4),.tmp 3]
def vG (zY:(List UInt8)→Option (List Int×List Int×Int)):Nat→(List UInt8)→Int→Option (List Int×List Int×List Int×List Int×Bool)
 | 0,_,_=>none
 | m0+1,x0,x4=>
   if w64 (x4+4) ≤ (↑(List.length x0):Int) then ((cut x0 x4 (w64 (x4+4))).bind fun y0=>
    if y0=[32,61,62,32] then ((cut x0 0 x4).bind fun y1=>
     (zY y1).bind fun y2=>
     (cut x0 (w64 (x4+4)) (↑(List.length x0):Int)).bind fun y3=>
     (zY y3).bind fun y4=>
     if y2.snd.snd=0 then some ((y2.fst,y2.snd.fst,y4.fst,y4.snd.fst,Decidable.decide (y4.snd.snd=0)))
     else some ((y2.fst,y2.snd.fst,y4.fst,y4.snd.fst,false)))
    else vG zY m0 x0 (w64 (x4+1)))
   else some (([],[],[],[],false))
def rm (zY:(List UInt8)→Option (List Int×List Int×Int)) (N:Nat) (a0:List UInt8):Option (List Int×List Int×List Int×List Int×Bool):=
 vG zY N a0 0
theorem kO (E:En) (hy:Hy E [] [] [] wW none (fun y=>nocap (wK (.node [.node [.own 3 1,.own 3 1,.own 3 1,.own 3 1],.k]) y)) zi) (zY:(List UInt8)→Option (List Int×List Int×Int)) (h_spec_ParseArray:pr E zY):∀ (m0:Nat) (x0:List UInt8) (x4:Int),gH E [0,2,4] b0_spec_l5Test [KJ.b 0,KJ.c k1_spec_l5Test] m0 ⟨zh [(0,.d (sD x0)),(2,A.adr 128 1 0),(4,.d (.int .i64 x4))],zt [(128,⟨1,.box [A.nil,A.nil,A.nil,A.nil],false⟩)]⟩=(vG zY m0 x0 x4).bind fun r=>some (.ret (.tup [.agg [zx (cI) 3 none false r.1,zx (cI) 3 none false r.2.1,zx (cI) 3 none false r.2.2.1,zx (cI) 3 none false r.2.2.2.1],.d (.bool r.2.2.2.2)]) []):=by
 intro m0
 induction m0 with
 | zero=>intros; rfl
 | succ m0 ih=>
   intros
   simp (config:={maxSteps:=40000000}) only [↓yR,yn,yM,yL,rI,rS,rB,r8,rLI,yJ,yQ,hy.p,hy.l,hy.k,hy.r,hy.d,hy.w,hy.f,zi,oid,wW,↓zj _ _ b0_spec_l5Test.eq_1,↓zj _ _ k1_spec_l5Test.eq_1,↓zj _ _ c_spec_l5Test.eq_1,h_spec_ParseArray.2,h_spec_ParseArray.1,wd,ih,zz,vG,ym,yo,zT,yl,yp,yN,↓reduceIte,Nat.reduceMul,Nat.reduceAdd,Nat.reduceSub,Nat.reduceEqDiff,Nat.reduceBEq,Nat.reduceLeDiff,Nat.reduceLT,reduceCtorEq,Int.reduceAdd,Int.reduceSub,Int.reduceToNat,Int.reduceNeg,Int.reduceEq,Int.reduceLT,Int.reduceLE]
theorem fN (E:En) (hy:Hy E [] [] [] wW none (fun y=>nocap (wK (.node [.node [.own 3 1,.own 3 1,.own 3 1,.own 3 1],.k]) y)) zi) (zY:(List UInt8)→Option (List Int×List Int×Int)) (h_spec_ParseArray:pr E zY) (a0:List UInt8):G E c_spec_l5Test [] ⟨zh [(0,.d (sD a0))],zt []⟩=(rm zY E.n a0).bind fun r=>some (.ret (.tup [.agg [zx (cI) 3 none false r.1,zx (cI) 3 none false r.2.1,zx (cI) 3 none false r.2.2.1,zx (cI) 3 none false r.2.2.2.1],.d (.bool r.2.2.2.2)]) []):=by
 simp (config:={maxSteps:=40000000}) only [↓yR,yn,yM,yL,rI,rS,rB,r8,rLI,yJ,yQ,hy.p,hy.l,hy.k,hy.r,hy.d,hy.w,hy.f,zi,oid,wW,↓zj _ _ b0_spec_l5Test.eq_1,↓zj _ _ k1_spec_l5Test.eq_1,↓zj _ _ c_spec_l5Test.eq_1,h_spec_ParseArray.2,h_spec_ParseArray.1,zz,rm,kO E hy zY h_spec_ParseArray,ym,yo,zT,yl,yp,yN,↓reduceIte,Nat.reduceMul,Nat.reduceAdd,Nat.reduceSub,Nat.reduceEqDiff,Nat.reduceBEq,Nat.reduceLeDiff,Nat.reduceLT,reduceCtorEq,Int.reduceAdd,Int.reduceSub,Int.reduceToNat,Int.reduceNeg,Int.reduceEq,Int.reduceLT,Int.reduceLE]
def mM (E:En) (L:(List UInt8)→Option (List Int×List Int×List Int×List Int×Bool)):Prop:=E.Γ.mu 10=false∧(∀ (a0:List UInt8),E.Γ 10 [.d (sD a0)]=(L a0).bind fun r=>some (.ret (.tup [.agg [zx (cI) 3 none false r.1,zx (cI) 3 none false r.2.1,zx (cI) 3 none false r.2.2.1,zx (cI) 3 none false r.2.2.2.1],.d (.bool r.2.2.2.2)]) []))
def b0_spec_ParseTests:Cd:=
 sq (sq (r [5,6,7,8,22] [o 19 .mv [t 8],o 20 .mv [t 7],o 21 (.len false) [t 20],o 22 (.bin .lss) [t 19,t 21]])
  (.cond (t 22) (.skip) (.exit 0)))
 (sq (.block 1 (sq (sq (r [5,6,7,8,29] [o 25 .mv [t 7],o 26 .mv [t 8],o 27 (.ia 1) [t 25,t 26],o 28 (.ld none) [t 27],o 29 (.bin .eql) [t 28,s []]])
     (.cond (t 29) (.exit 1) (.skip)))
   (sq (r [5,6,7,8,9,10] [o 31 .mv [t 7],o 32 .mv [t 8],o 33 (.ia 1) [t 31,t 32],o 34 (.ld none) [t 33],o 35 (.call 10) [t 34],o 30 .mv [t 35],o 36 (.ext 0) [t 30],o 37 (.ext 1) [t 30],o 9 (.alloc [.nil,.nil,.nil,.nil]) [],e (.st 4) [t 9,t 36],o 10 .mv [t 37]])
    (sq (sq (r [5,6,7,8,9,39] [o 38 .mv [t 10],o 39 .not [t 38]])
      (.cond (t 39) (sq (r [2,3,4] [o 40 .mv [t 5],o 41 .mv [t 8],o 42 (.bin .add) [t 41,i 1],o 2 .mv [t 40],o 3 .mv [i 2],o 4 .mv [t 42]])
        (.ret)) (.skip)))
     (sq (sq (r [5,6,7,8,9,45] [o 43 .mv [t 6],o 44 (.len false) [t 43],o 45 (.bin .eql) [t 44,i 20]])
       (.cond (t 45) (sq (r [2,3,4] [o 46 .mv [t 5],o 47 .mv [t 8],o 48 (.bin .add) [t 47,i 1],o 2 .mv [t 46],o 3 .mv [i 3],o 4 .mv [t 48]])
         (.ret)) (.skip)))
      (r [5,6,7,8] [o 49 .mv [t 6],o 50 (.ld (some 4)) [t 9],o 51 (lit 34 4 1) [t 50],o 52 (.app 34 4 96) [t 49,t 51],o 6 .mv [t 52]]))))))
  (r [5,6,7,8] [o 23 .mv [t 8],o 24 (.bin .add) [t 23,i 1],o 8 .mv [t 24]]))
def k1_spec_ParseTests:Cd:=
 sq (r [2,3,4] [o 53 .mv [t 6],o 2 .mv [t 53],o 3 .mv [i 0],o 4 .mv [i 0]])
 (.ret)
def c_spec_ParseTests:Cd:=
 sq (r [0] [o 2 .mv [n],o 3 .mv [i 0],o 4 .mv [i 0]])
 (sq (r [0,5] [o 11 (lit 34 4 0) [],o 5 .mv [t 11]])
  (sq (sq (r [0,5,14] [o 12 .mv [t 0],o 13 (.len true) [t 12],o 14 (.bin .gtr) [t 13,i 50000]])
    (.cond (t 14) (sq (r [2,3,4] [o 15 .mv [t 5],o 2 .mv [t 15],o 3 .mv [i 1],o 4 .mv [i 0]])
      (.ret)) (.skip)))
   (sq (r [0,5,6] [o 16 (lit 34 4 0) [],o 6 .mv [t 16]])
    (sq (r [5,6,7] [o 17 .mv [t 0],o 18 (.call 9) [t 17,.k (.d (.int .u8 10))],o 7 .mv [t 18]])
     (sq (sq (r [5,6,7,8] [o 8 .mv [i 0]])
       (.block 0 (.loop [5,6,7,8] b0_spec_ParseTests))) k1_spec_ParseTests)))))
def xp:List RV:=[.tmp 2,.tmp 3,.tmp 4]
def yG (zw:(List UInt8)→Int→Option (List (List UInt8))) (yB:(List UInt8)→Option (List Int×List Int×List Int×List Int×Bool)):Nat→Int→(List TTest)→(List TTest)→(List (List UInt8))→Option (List TTest×Int×Int)
 | 0,_,_,_,_=>none
 | m0+1,x8,o320,o384,o448=>
   if x8 < (↑(List.length o448):Int) then (if 0 ≤ x8∧x8 < (↑(List.length o448):Int) then ((o448[Int.toNat x8]?).bind fun y0=>
    if y0=[] then yG zw yB m0 (w64 (x8+1)) o320 o384 o448
    else (if 0 ≤ x8∧x8 < (↑(List.length o448):Int) then ((o448[Int.toNat x8]?).bind fun y1=>
     (yB y1).bind fun y2=>
     if y2.snd.snd.snd.snd=false then some ((o320,2,w64 (x8+1)))
     else (if (↑(List.length o384):Int)=20 then some ((o320,3,w64 (x8+1)))
      else (if tl 96 (List.length (o384++[{ In_Shape:=y2.fst,In_Data:=y2.snd.fst,Want_Shape:=y2.snd.snd.fst,Want_Data:=y2.snd.snd.snd.fst }])) then yG zw yB m0 (w64 (x8+1)) o320 (o384++[{ In_Shape:=y2.fst,In_Data:=y2.snd.fst,Want_Shape:=y2.snd.snd.fst,Want_Data:=y2.snd.snd.snd.fst }]) o448
       else none)))
     else none))
    else none)
   else some ((o384,0,0))
def vc (zw:(List UInt8)→Int→Option (List (List UInt8))) (yB:(List UInt8)→Option (List Int×List Int×List Int×List Int×Bool)) (N:Nat) (a0:List UInt8):Option (List TTest×Int×Int):=
 if 50000 < (↑(List.length a0):Int) then some (([],1,0))
 else ((zw a0 10).bind fun y0=>
  yG zw yB N 0 [] [] y0)
theorem ng (E:En) (hy:Hy E [] [] [] xp none (fun y=>nocap y) zi) (zw:(List UInt8)→Int→Option (List (List UInt8))) (h_spec_l1Cut:sK E zw) (yB:(List UInt8)→Option (List Int×List Int×List Int×List Int×Bool)) (h_spec_l5Test:mM E yB):∀ (m0:Nat) (x8:Int) (o320:List TTest) (o384:List TTest) (o448:List (List UInt8)),gH E [5,6,7,8] b0_spec_ParseTests [KJ.b 0,KJ.c k1_spec_ParseTests] m0 ⟨zh [(5,A.row 320 1),(6,A.row 384 1),(7,A.row 448 1),(8,.d (.int .i64 x8))],zt [(320,⟨1,zP (cTest) 34 none o320,false⟩),(384,⟨1,zP (cTest) 34 none o384,false⟩),(448,⟨1,zP (cS) 9 none o448,false⟩)]⟩=(yG zw yB m0 x8 o320 o384 o448).bind fun r=>some (.ret (.tup [zx (cTest) 34 none false r.1,.d (.int .i64 r.2.1),.d (.int .i64 r.2.2)]) []):=by
 intro m0
 induction m0 with
 | zero=>intros; rfl
 | succ m0 ih=>
   intros
   simp (config:={maxSteps:=40000000}) only [↓yR,yn,yM,yL,rI,rS,rB,r8,rLI,yJ,yQ,hy.p,hy.l,hy.k,hy.r,hy.d,hy.w,hy.f,zi,oid,xp,↓zj _ _ b0_spec_ParseTests.eq_1,↓zj _ _ k1_spec_ParseTests.eq_1,↓zj _ _ c_spec_ParseTests.eq_1,h_spec_l1Cut.2,h_spec_l1Cut.1,h_spec_l5Test.2,h_spec_l5Test.1,wd,ih,zz,yG,ym,yo,zT,yl,yp,yN,↓reduceIte,Nat.reduceMul,Nat.reduceAdd,Nat.reduceSub,Nat.reduceEqDiff,Nat.reduceBEq,Nat.reduceLeDiff,Nat.reduceLT,reduceCtorEq,Int.reduceAdd,Int.reduceSub,Int.reduceToNat,Int.reduceNeg,Int.reduceEq,Int.reduceLT,Int.reduceLE]
theorem kC (E:En) (hy:Hy E [] [] [] xp none (fun y=>nocap y) zi) (zw:(List UInt8)→Int→Option (List (List UInt8))) (h_spec_l1Cut:sK E zw) (yB:(List UInt8)→Option (List Int×List Int×List Int×List Int×Bool)) (h_spec_l5Test:mM E yB) (a0:List UInt8):G E c_spec_ParseTests [] ⟨zh [(0,.d (sD a0))],zt []⟩=(vc zw yB E.n a0).bind fun r=>some (.ret (.tup [zx (cTest) 34 none false r.1,.d (.int .i64 r.2.1),.d (.int .i64 r.2.2)]) []):=by
 simp (config:={maxSteps:=40000000}) only [↓yR,yn,yM,yL,rI,rS,rB,r8,rLI,yJ,yQ,hy.p,hy.l,hy.k,hy.r,hy.d,hy.w,hy.f,zi,oid,xp,↓zj _ _ b0_spec_ParseTests.eq_1,↓zj _ _ k1_spec_ParseTests.eq_1,↓zj _ _ c_spec_ParseTests.eq_1,h_spec_l1Cut.2,h_spec_l1Cut.1,h_spec_l5Test.2,h_spec_l5Test.1,zz,vc,ng E hy zw h_spec_l1Cut yB h_spec_l5Test,ym,yo,zT,yl,yp,yN,↓reduceIte,Nat.reduceMul,Nat.reduceAdd,Nat.reduceSub,Nat.reduceEqDiff,Nat.reduceBEq,Nat.reduceLeDiff,Nat.reduceLT,reduceCtorEq,Int.reduceAdd,Int.reduceSub,Int.reduceToNat,Int.reduceNeg,Int.reduceEq,Int.reduceLT,Int.reduceLE]
def kz (E:En) (L:(List UInt8)→Option (List TTest×Int×Int)):Prop:=E.Γ.mu 4=false∧(∀ (a0:List UInt8),E.Γ 4 [.d (sD a0)]=(L a0).bind fun r=>some (.ret (.tup [zx (cTest) 34 none false r.1,.d (.int .i64 r.2.1),.d (.int .i64 r.2.2)]) []))
def fW (E:En) (L:(List UInt8)→(List UInt8)→Option (List UInt8×List UInt8×Bool)):Prop:=E.Γ.mu 12=false∧(∀ (a0:List UInt8) (a1:List UInt8),E.Γ 12 [.d (sD a0),.d (sD a1)]=(L a0 a1).bind fun r=>some (.ret (.tup [.d (sD r.1),.d (sD r.2.1),.d (.bool r.2.2)]) []))
def oB (E:En) (L:(List UInt8)→(List UInt8)→Option (List (List UInt8))):Prop:=E.Γ.mu 11=false∧(∀ (a0:List UInt8) (a1:List UInt8),E.Γ 11 [.d (sD a0),.d (sD a1)]=(L a0 a1).bind fun r=>some (.ret (.d (zb cS r)) []))
def nH (E:En) (L:(List UInt8)→Option (Alt Int Int)):Prop:=E.Γ.mu 29=false∧(∀ (a0:List UInt8),E.Γ 29 [.d (sD a0)]=(L a0).bind fun r=>r.on (fun r=>some (.ret (.tup [.d (.int .i64 r),.d .nili]) [])) (fun r=>some (.ret (.tup [.d (.int .i64 r),.d (.iface 76 .opq)]) [])))
def nM (E:En) (L:Int→Option (List UInt8)):Prop:=E.Γ.mu 30=false∧(∀ (a0:Int),E.Γ 30 [.d (.int .i64 a0)]=(L a0).bind fun r=>some (.ret (.d (sD r)) []))
def b0_impl_numbers:Cd:=
 sq (r [4,13,14,15,16] [o 16 (.bin .lss) [t 15,t 14]])
 (sq (.cond (t 16) (.skip) (.exit 0))
  (sq (.block 1 (sq (r [4,6,13,14,15] [o 17 (.ia 1) [t 13,t 15],o 18 (.ld none) [t 17],o 6 .mv [t 18]])
    (sq (r [4,6,7,8,13,14,15] [o 20 .mv [t 6],o 21 (.call 29) [t 20],o 19 .mv [t 21],o 22 (.ext 0) [t 19],o 23 (.ext 1) [t 19],o 7 .mv [t 22],o 8 .mv [t 23]])
     (sq (sq (r [4,7,13,14,15,31] [o 24 .mv [t 8],o 25 (.inil true) [t 24],o 26 .mv [t 25],g 26 false 27 .mv [t 7],g 26 false 28 (.call 30) [t 27],g 26 false 29 .mv [t 6],g 26 false 30 (.bin .neq) [t 28,t 29],o 31 .pick [t 26,b true,t 30]])
       (.cond (t 31) (sq (r [2,3] [o 2 .mv [n],o 3 .mv [b false]])
         (.ret)) (.skip)))
      (r [4,13,14,15] [o 32 .mv [t 4],o 33 .mv [t 7],o 34 (lit 3 1 1) [t 33],o 35 (.app 3 1 8) [t 32,t 34],o 4 .mv [t 35]])))))
   (r [4,13,14,15] [o 36 (.bin .add) [t 15,i 1],o 15 .mv [t 36]])))
def k1_impl_numbers:Cd:=
 sq (r [2,3] [o 37 .mv [t 4],o 2 .mv [t 37],o 3 .mv [b true]])
 (.ret)
def c_impl_numbers:Cd:=
 sq (r [0] [o 2 .mv [n],o 3 .mv [b false]])
 (sq (sq (r [0,10] [o 9 .mv [t 0],o 10 (.bin .eql) [t 9,s []]])
   (.cond (t 10) (sq (r [2,3] [o 2 .mv [n],o 3 .mv [b true]])
     (.ret)) (.skip)))
  (sq (r [0,4] [o 11 (lit 3 1 0) [],o 4 .mv [t 11]])
   (sq (sq (r [4,13,14,15] [o 12 .mv [t 0],o 13 (.call 11) [t 12,s [32]],o 14 (.len false) [t 13],o 15 .mv [i 0]])
     (.block 0 (.loop [4,13,14,15] b0_impl_numbers))) k1_impl_numbers)))
def wC:List RV:=[.tmp 2,.tmp 3]
def xU (yw:(List UInt8)→(List UInt8)→Option (List (List UInt8))) (yD:(List UInt8)→Option (Alt Int Int)) (yF:Int→Option (List UInt8)):Nat→(List (List UInt8))→Int→Int→(List Int)→Option (List Int×Bool)
 | 0,_,_,_,_=>none
 | m0+1,x13,x14,x15,o256=>
   if x15 < x14 then ((idx x13 x15).bind fun y0=>
    (yD y0).bind fun y1=>
    (y1).on (fun y2=>(yF y2).bind fun y3=>
     if y3=y0 then (if tl 8 (List.length (o256++[y2])) then xU yw yD yF m0 x13 x14 (w64 (x15+1)) (o256++[y2])
      else none)
     else some (([],false))) (fun y2=>some (([],false))))
   else some ((o256,true))
def uP (yw:(List UInt8)→(List UInt8)→Option (List (List UInt8))) (yD:(List UInt8)→Option (Alt Int Int)) (yF:Int→Option (List UInt8)) (N:Nat) (a0:List UInt8):Option (List Int×Bool):=
 if a0=[] then some (([],true))
 else ((yw a0 [32]).bind fun y0=>
  xU yw yD yF N y0 ((↑(List.length y0):Int)) 0 [])
theorem mZ (E:En) (hy:Hy E [] [] [] wC none (fun y=>nocap (wK (.node [.own 3 1,.k]) y)) zi) (yw:(List UInt8)→(List UInt8)→Option (List (List UInt8))) (h_strings_Split:oB E yw) (yD:(List UInt8)→Option (Alt Int Int)) (h_strconv_Atoi:nH E yD) (yF:Int→Option (List UInt8)) (h_strconv_Itoa:nM E yF):∀ (m0:Nat) (x13:List (List UInt8)) (x14:Int) (x15:Int) (o256:List Int),gH E [4,13,14,15] b0_impl_numbers [KJ.b 0,KJ.c k1_impl_numbers] m0 ⟨zh [(4,A.row 256 1),(13,.d (zb (cS) x13)),(14,.d (.int .i64 x14)),(15,.d (.int .i64 x15))],zt [(256,⟨1,zP (cI) 3 none o256,false⟩)]⟩=(xU yw yD yF m0 x13 x14 x15 o256).bind fun r=>some (.ret (.tup [zx (cI) 3 none false r.1,.d (.bool r.2)]) []):=by
 intro m0
 induction m0 with
 | zero=>intros; rfl
 | succ m0 ih=>
   intros
   simp (config:={maxSteps:=40000000}) only [↓yR,yn,yM,yL,rI,rS,rB,r8,rLI,yJ,yQ,hy.p,hy.l,hy.k,hy.r,hy.d,hy.w,hy.f,zi,oid,wC,↓zj _ _ b0_impl_numbers.eq_1,↓zj _ _ k1_impl_numbers.eq_1,↓zj _ _ c_impl_numbers.eq_1,h_strings_Split.2,h_strings_Split.1,h_strconv_Atoi.2,h_strconv_Atoi.1,h_strconv_Itoa.2,h_strconv_Itoa.1,wd,ih,zz,xU,ym,yo,zT,yl,yp,yN,↓reduceIte,Nat.reduceMul,Nat.reduceAdd,Nat.reduceSub,Nat.reduceEqDiff,Nat.reduceBEq,Nat.reduceLeDiff,Nat.reduceLT,reduceCtorEq,Int.reduceAdd,Int.reduceSub,Int.reduceToNat,Int.reduceNeg,Int.reduceEq,Int.reduceLT,Int.reduceLE]
theorem iN (E:En) (hy:Hy E [] [] [] wC none (fun y=>nocap (wK (.node [.own 3 1,.k]) y)) zi) (yw:(List UInt8)→(List UInt8)→Option (List (List UInt8))) (h_strings_Split:oB E yw) (yD:(List UInt8)→Option (Alt Int Int)) (h_strconv_Atoi:nH E yD) (yF:Int→Option (List UInt8)) (h_strconv_Itoa:nM E yF) (a0:List UInt8):G E c_impl_numbers [] ⟨zh [(0,.d (sD a0))],zt []⟩=(uP yw yD yF E.n a0).bind fun r=>some (.ret (.tup [zx (cI) 3 none false r.1,.d (.bool r.2)]) []):=by
 simp (config:={maxSteps:=40000000}) only [↓yR,yn,yM,yL,rI,rS,rB,r8,rLI,yJ,yQ,hy.p,hy.l,hy.k,hy.r,hy.d,hy.w,hy.f,zi,oid,wC,↓zj _ _ b0_impl_numbers.eq_1,↓zj _ _ k1_impl_numbers.eq_1,↓zj _ _ c_impl_numbers.eq_1,h_strings_Split.2,h_strings_Split.1,h_strconv_Atoi.2,h_strconv_Atoi.1,h_strconv_Itoa.2,h_strconv_Itoa.1,zz,uP,mZ E hy yw h_strings_Split yD h_strconv_Atoi yF h_strconv_Itoa,ym,yo,zT,yl,yp,yN,↓reduceIte,Nat.reduceMul,Nat.reduceAdd,Nat.reduceSub,Nat.reduceEqDiff,Nat.reduceBEq,Nat.reduceLeDiff,Nat.reduceLT,reduceCtorEq,Int.reduceAdd,Int.reduceSub,Int.reduceToNat,Int.reduceNeg,Int.reduceEq,Int.reduceLT,Int.reduceLE]
def hP (E:En) (L:(List UInt8)→Option (List Int×Bool)):Prop:=E.Γ.mu 20=false∧(∀ (a0:List UInt8),E.Γ 20 [.d (sD a0)]=(L a0).bind fun r=>some (.ret (.tup [zx (cI) 3 none false r.1,.d (.bool r.2)]) []))
def b0_impl_cellsOf:Cd:=
 sq (r [4,10,11,12,13] [o 13 (.bin .lss) [t 12,t 11]])
 (sq (.cond (t 13) (.skip) (.exit 0))
  (sq (.block 1 (sq (r [4,6,10,11,12] [o 14 (.ia 1) [t 10,t 12],o 15 (.ld none) [t 14],o 6 .mv [t 15]])
    (sq (sq (r [4,6,10,11,12,21] [o 16 .mv [t 6],o 17 (.bin .lss) [t 16,i 0],o 18 .mv [t 17],g 18 false 19 .mv [t 6],g 18 false 20 (.bin .gtr) [t 19,i 1000],o 21 .pick [t 18,b true,t 20]])
      (.cond (t 21) (sq (r [2,3] [o 2 .mv [i 0],o 3 .mv [b false]])
        (.ret)) (.skip)))
     (r [4,10,11,12] [o 22 .mv [t 4],o 23 .mv [t 6],o 24 (.bin .mul) [t 22,t 23],o 4 .mv [t 24]]))))
   (r [4,10,11,12] [o 25 (.bin .add) [t 12,i 1],o 12 .mv [t 25]])))
def k1_impl_cellsOf:Cd:=
 sq (r [2,3] [o 26 .mv [t 4],o 27 .mv [t 4],o 28 (.bin .leq) [t 27,i 1000],o 2 .mv [t 26],o 3 .mv [t 28]])
 (.ret)
def c_impl_cellsOf:Cd:=
 sq (r [0] [o 2 .mv [i 0],o 3 .mv [b false]])
 (sq (sq (r [0,9] [o 7 .mv [t 0],o 8 (.len false) [t 7],o 9 (.bin .gtr) [t 8,i 3]])
   (.cond (t 9) (sq (r [2,3] [o 2 .mv [i 0],o 3 .mv [b false]])
     (.ret)) (.skip)))
  (sq (r [0,4] [o 4 .mv [i 1]])
   (sq (sq (r [4,10,11,12] [o 10 .mv [t 0],o 11 (.len false) [t 10],o 12 .mv [i 0]])
     (.block 0 (.loop [4,10,11,12] b0_impl_cellsOf))) k1_impl_cellsOf)))
def wB:List RV:=[.tmp 2,.tmp 3]
def xV:Nat→Int→(List Int)→Int→Int→Option (Int×Bool)
 | 0,_,_,_,_=>none
 | m0+1,x4,x10,x11,x12=>
   if x12 < x11 then ((idx x10 x12).bind fun y0=>
    if y0 < 0 then some ((0,false))
    else (if 1000 < y0 then some ((0,false))
     else xV m0 (w64 (x4 * y0)) x10 x11 (w64 (x12+1))))
   else some ((x4,Decidable.decide (x4 ≤ 1000)))
def uI (N:Nat) (a0:List Int):Option (Int×Bool):=
 if 3 < (↑(List.length a0):Int) then some ((0,false))
 else xV N 1 a0 ((↑(List.length a0):Int)) 0
theorem lm (E:En) (hy:Hy E [] [] [] wB none (fun y=>nocap y) zi):∀ (m0:Nat) (x4:Int) (x10:List Int) (x11:Int) (x12:Int),gH E [4,10,11,12] b0_impl_cellsOf [KJ.b 0,KJ.c k1_impl_cellsOf] m0 ⟨zh [(4,.d (.int .i64 x4)),(10,.d (zb (cI) x10)),(11,.d (.int .i64 x11)),(12,.d (.int .i64 x12))],zt []⟩=(xV m0 x4 x10 x11 x12).bind fun r=>some (.ret (.tup [.d (.int .i64 r.1),.d (.bool r.2)]) []):=by
 intro m0
 induction m0 with
 | zero=>intros; rfl
 | succ m0 ih=>
   intros
   simp (config:={maxSteps:=40000000}) only [↓yR,yn,yM,yL,rI,rS,rB,r8,rLI,yJ,yQ,hy.p,hy.l,hy.k,hy.r,hy.d,hy.w,hy.f,zi,oid,wB,↓zj _ _ b0_impl_cellsOf.eq_1,↓zj _ _ k1_impl_cellsOf.eq_1,↓zj _ _ c_impl_cellsOf.eq_1,wd,ih,zz,xV,ym,yo,zT,yl,yp,yN,↓reduceIte,Nat.reduceMul,Nat.reduceAdd,Nat.reduceSub,Nat.reduceEqDiff,Nat.reduceBEq,Nat.reduceLeDiff,Nat.reduceLT,reduceCtorEq,Int.reduceAdd,Int.reduceSub,Int.reduceToNat,Int.reduceNeg,Int.reduceEq,Int.reduceLT,Int.reduceLE]
theorem iV (E:En) (hy:Hy E [] [] [] wB none (fun y=>nocap y) zi) (a0:List Int):G E c_impl_cellsOf [] ⟨zh [(0,.d (zb cI a0))],zt []⟩=(uI E.n a0).bind fun r=>some (.ret (.tup [.d (.int .i64 r.1),.d (.bool r.2)]) []):=by
 simp (config:={maxSteps:=40000000}) only [↓yR,yn,yM,yL,rI,rS,rB,r8,rLI,yJ,yQ,hy.p,hy.l,hy.k,hy.r,hy.d,hy.w,hy.f,zi,oid,wB,↓zj _ _ b0_impl_cellsOf.eq_1,↓zj _ _ k1_impl_cellsOf.eq_1,↓zj _ _ c_impl_cellsOf.eq_1,zz,uI,lm E hy,ym,yo,zT,yl,yp,yN,↓reduceIte,Nat.reduceMul,Nat.reduceAdd,Nat.reduceSub,Nat.reduceEqDiff,Nat.reduceBEq,Nat.reduceLeDiff,Nat.reduceLT,reduceCtorEq,Int.reduceAdd,Int.reduceSub,Int.reduceToNat,Int.reduceNeg,Int.reduceEq,Int.reduceLT,Int.reduceLE]
def nK (E:En) (L:(List Int)→Option (Int×Bool)):Prop:=E.Γ.mu 31=false∧(∀ (a0:List Int),E.Γ 31 [.d (zb cI a0)]=(L a0).bind fun r=>some (.ret (.tup [.d (.int .i64 r.1),.d (.bool r.2)]) []))
def b0_impl_ArrayOk:Cd:=
 sq (r [23,24,25,26] [o 26 (.bin .lss) [t 25,t 24]])
 (sq (.cond (t 26) (.skip) (.exit 0))
  (sq (.block 1 (sq (r [6,23,24,25] [o 27 (.ia 1) [t 23,t 25],o 28 (.ld none) [t 27],o 6 .mv [t 28]])
    (sq (r [23,24,25,34] [o 29 .mv [t 6],o 30 (.bin .lss) [t 29,i (-3000000000)],o 31 .mv [t 30],g 31 false 32 .mv [t 6],g 31 false 33 (.bin .gtr) [t 32,i 3000000000],o 34 .pick [t 31,b true,t 33]])
     (.cond (t 34) (sq (r [2] [o 2 .mv [b false]])
       (.ret)) (.skip)))))
   (r [23,24,25] [o 35 (.bin .add) [t 25,i 1],o 25 .mv [t 35]])))
def k1_impl_ArrayOk:Cd:=
 sq (r [2] [o 2 .mv [b true]])
 (.ret)
def c_impl_ArrayOk:Cd:=
 sq (r [1] [o 1 .box [t 0],o 2 .mv [b false]])
 (sq (r [1,3,4] [o 8 (.fa 0) [t 1],o 9 (.ld none) [t 8],o 10 (.call 31) [t 9],o 7 .mv [t 10],o 11 (.ext 0) [t 7],o 12 (.ext 1) [t 7],o 3 .mv [t 11],o 4 .mv [t 12]])
  (sq (sq (r [1,21] [o 13 .mv [t 4],o 14 .not [t 13],o 15 .mv [t 14],g 15 false 16 .mv [t 3],g 15 false 17 (.fa 1) [t 1],g 15 false 18 (.ld none) [t 17],g 15 false 19 (.len false) [t 18],g 15 false 20 (.bin .neq) [t 16,t 19],o 21 .pick [t 15,b true,t 20]])
    (.cond (t 21) (sq (r [2] [o 2 .mv [b false]])
      (.ret)) (.skip)))
   (sq (sq (r [23,24,25] [o 22 (.fa 1) [t 1],o 23 (.ld none) [t 22],o 24 (.len false) [t 23],o 25 .mv [i 0]])
     (.block 0 (.loop [23,24,25] b0_impl_ArrayOk))) k1_impl_ArrayOk)))
def wy:List RV:=[.tmp 2]
def xQ (yE:(List Int)→Option (Int×Bool)):Nat→(List Int)→Int→Int→Option (Bool)
 | 0,_,_,_=>none
 | m0+1,x23,x24,x25=>
   if x25 < x24 then ((idx x23 x25).bind fun y0=>
    if y0 < -3000000000 then some false
    else (if 3000000000 < y0 then some false
     else xQ yE m0 x23 x24 (w64 (x25+1))))
   else some true
def uE (yE:(List Int)→Option (Int×Bool)) (N:Nat) (zo:List Int) (zr:List Int):Option (Bool):=
 (yE zo).bind fun y0=>
 if y0.snd=false then some false
 else (if y0.fst=(↑(List.length zr):Int) then xQ yE N zr ((↑(List.length zr):Int)) 0
  else some false)
theorem lI (E:En) (hy:Hy E [] [] [] wy none (fun y=>nocap y) zi) (yE:(List Int)→Option (Int×Bool)) (h_impl_cellsOf:nK E yE):∀ (m0:Nat) (x23:List Int) (x24:Int) (x25:Int),gH E [23,24,25] b0_impl_ArrayOk [KJ.b 0,KJ.c k1_impl_ArrayOk] m0 ⟨zh [(23,.d (zb (cI) x23)),(24,.d (.int .i64 x24)),(25,.d (.int .i64 x25))],zt []⟩=(xQ yE m0 x23 x24 x25).bind fun r=>some (.ret (.d (.bool r)) []):=by
 intro m0
 induction m0 with
 | zero=>intros; rfl
 | succ m0 ih=>
   intros
   simp (config:={maxSteps:=40000000}) only [↓yR,yn,yM,yL,rI,rS,rB,r8,rLI,yJ,yQ,hy.p,hy.l,hy.k,hy.r,hy.d,hy.w,hy.f,zi,oid,wy,↓zj _ _ b0_impl_ArrayOk.eq_1,↓zj _ _ k1_impl_ArrayOk.eq_1,↓zj _ _ c_impl_ArrayOk.eq_1,h_impl_cellsOf.2,h_impl_cellsOf.1,wd,ih,zz,xQ,ym,yo,zT,yl,yp,yN,↓reduceIte,Nat.reduceMul,Nat.reduceAdd,Nat.reduceSub,Nat.reduceEqDiff,Nat.reduceBEq,Nat.reduceLeDiff,Nat.reduceLT,reduceCtorEq,Int.reduceAdd,Int.reduceSub,Int.reduceToNat,Int.reduceNeg,Int.reduceEq,Int.reduceLT,Int.reduceLE]
theorem gh (E:En) (hy:Hy E [] [] [] wy none (fun y=>nocap y) zi) (yE:(List Int)→Option (Int×Bool)) (h_impl_cellsOf:nK E yE) (zo:List Int) (zr:List Int):G E c_impl_ArrayOk [] ⟨zh [(0,.agg [.d (zb cI zo),.d (zb cI zr)])],zt []⟩=(uE yE E.n zo zr).bind fun r=>some (.ret (.d (.bool r)) []):=by
 simp (config:={maxSteps:=40000000}) only [↓yR,yn,yM,yL,rI,rS,rB,r8,rLI,yJ,yQ,hy.p,hy.l,hy.k,hy.r,hy.d,hy.w,hy.f,zi,oid,wy,↓zj _ _ b0_impl_ArrayOk.eq_1,↓zj _ _ k1_impl_ArrayOk.eq_1,↓zj _ _ c_impl_ArrayOk.eq_1,h_impl_cellsOf.2,h_impl_cellsOf.1,zz,uE,lI E hy yE h_impl_cellsOf,ym,yo,zT,yl,yp,yN,↓reduceIte,Nat.reduceMul,Nat.reduceAdd,Nat.reduceSub,Nat.reduceEqDiff,Nat.reduceBEq,Nat.reduceLeDiff,Nat.reduceLT,reduceCtorEq,Int.reduceAdd,Int.reduceSub,Int.reduceToNat,Int.reduceNeg,Int.reduceEq,Int.reduceLT,Int.reduceLE]
def gn (E:En) (L:(List Int)→(List Int)→Option (Bool)):Prop:=E.Γ.mu 21=false∧(∀ (zo:List Int) (zr:List Int),E.Γ 21 [.agg [.d (zb cI zo),.d (zb cI zr)]]=(L zo zr).bind fun r=>some (.ret (.d (.bool r)) []))
def c_impl_ParseArray:Cd:=
 sq (r [0,2] [o 2 (.alloc [.nil,.nil]) [],o 3 .mv [i 0]])
 (sq (sq (r [0,2,14] [o 12 .mv [t 0],o 13 (.len true) [t 12],o 14 (.bin .gtr) [t 13,i 20000]])
   (.cond (t 14) (sq (r [2,3] [o 15 (.bld [.nil,.nil] []) [],e (.st 2) [t 2,t 15],o 3 .mv [i 1]])
     (.ret)) (.skip)))
  (sq (r [2,4,5,6] [o 17 .mv [t 0],o 18 (.call 12) [t 17,s [58]],o 16 .mv [t 18],o 19 (.ext 0) [t 16],o 20 (.ext 1) [t 16],o 21 (.ext 2) [t 16],o 4 .mv [t 19],o 5 .mv [t 20],o 6 .mv [t 21]])
   (sq (sq (r [2,4,5,23] [o 22 .mv [t 6],o 23 .not [t 22]])
     (.cond (t 23) (sq (r [2,3] [o 24 (.bld [.nil,.nil] []) [],e (.st 2) [t 2,t 24],o 3 .mv [i 1]])
       (.ret)) (.skip)))
    (sq (r [2,5,7,8] [o 26 .mv [t 4],o 27 (.call 20) [t 26],o 25 .mv [t 27],o 28 (.ext 0) [t 25],o 29 (.ext 1) [t 25],o 7 .mv [t 28],o 8 .mv [t 29]])
     (sq (r [2,7,8,9,10] [o 31 .mv [t 5],o 32 (.call 20) [t 31],o 30 .mv [t 32],o 33 (.ext 0) [t 30],o 34 (.ext 1) [t 30],o 9 .mv [t 33],o 10 .mv [t 34]])
      (sq (r [2,8,10,11] [o 35 .mv [t 7],o 36 .mv [t 9],o 37 (.bld [.nil,.nil] [(0,1),(1,1)]) [t 35,t 36],o 11 (.alloc [.nil,.nil]) [],e (.st 2) [t 11,t 37]])
       (sq (sq (r [2,11,48] [o 38 .mv [t 8],o 39 .not [t 38],o 40 .mv [t 39],g 40 false 41 .mv [t 10],g 40 false 42 .not [t 41],o 43 .pick [t 40,b true,t 42],o 44 .mv [t 43],g 44 false 45 (.ld (some 2)) [t 11],g 44 false 46 (.call 21) [t 45],g 44 false 47 .not [t 46],o 48 .pick [t 44,b true,t 47]])
         (.cond (t 48) (sq (r [2,3] [o 49 (.bld [.nil,.nil] []) [],e (.st 2) [t 2,t 49],o 3 .mv [i 1]])
           (.ret)) (.skip)))
        (sq (r [2,3] [o 50 (.ld (some 2)) [t 11],e (.st 2) [t 2,t 50],o 3 .mv [i 0]])
         (.ret)))))))))
def vp:List RV:=[.cell 2 (some 2),.tmp 3]
def w9 (rl:(List UInt8)→(List UInt8)→Option (List UInt8×List UInt8×Bool)) (u7:(List UInt8)→Option (List Int×Bool)) (sZ:(List Int)→(List Int)→Option (Bool)) (N:Nat) (a0:List UInt8):Option (List Int×List Int×Int):=
 if 20000 < (↑(List.length a0):Int) then some (([],[],1))
 else ((rl a0 [58]).bind fun y0=>
  if y0.snd.snd=false then some (([],[],1))
  else ((u7 y0.fst).bind fun y1=>
   (u7 y0.snd.fst).bind fun y2=>
   if y1.snd=false then some (([],[],1))
   else (if y2.snd=false then some (([],[],1))
    else ((sZ y1.fst y2.fst).bind fun y3=>
     if y3=false then some (([],[],1))
     else some ((y1.fst,y2.fst,0))))))
theorem ky (E:En) (hy:Hy E [] [] [] vp none (fun y=>nocap (wK (.node [.node [.own 3 1,.own 3 1],.k]) y)) zi) (rl:(List UInt8)→(List UInt8)→Option (List UInt8×List UInt8×Bool)) (h_strings_Cut:fW E rl) (u7:(List UInt8)→Option (List Int×Bool)) (h_impl_numbers:hP E u7) (sZ:(List Int)→(List Int)→Option (Bool)) (h_impl_ArrayOk:gn E sZ) (a0:List UInt8):G E c_impl_ParseArray [] ⟨zh [(0,.d (sD a0))],zt []⟩=(w9 rl u7 sZ E.n a0).bind fun r=>some (.ret (.tup [.agg [zx (cI) 3 none false r.1,zx (cI) 3 none false r.2.1],.d (.int .i64 r.2.2)]) []):=by
 simp (config:={maxSteps:=40000000}) only [↓yR,yn,yM,yL,rI,rS,rB,r8,rLI,yJ,yQ,hy.p,hy.l,hy.k,hy.r,hy.d,hy.w,hy.f,zi,oid,vp,↓zj _ _ c_impl_ParseArray.eq_1,h_strings_Cut.2,h_strings_Cut.1,h_impl_numbers.2,h_impl_numbers.1,h_impl_ArrayOk.2,h_impl_ArrayOk.1,zz,w9,ym,yo,zT,yl,yp,yN,↓reduceIte,Nat.reduceMul,Nat.reduceAdd,Nat.reduceSub,Nat.reduceEqDiff,Nat.reduceBEq,Nat.reduceLeDiff,Nat.reduceLT,reduceCtorEq,Int.reduceAdd,Int.reduceSub,Int.reduceToNat,Int.reduceNeg,Int.reduceEq,Int.reduceLT,Int.reduceLE]
def Wj (E:En) (L:(List UInt8)→Option (List Int×List Int×Int)):Prop:=E.Γ.mu 13=false∧(∀ (a0:List UInt8),E.Γ 13 [.d (sD a0)]=(L a0).bind fun r=>some (.ret (.tup [.agg [zx (cI) 3 none false r.1,zx (cI) 3 none false r.2.1],.d (.int .i64 r.2.2)]) []))
def kR (E:En) (L:(List UInt8)→Option (List Int×Int×Int)):Prop:=E.Γ.mu 5=false∧(∀ (a0:List UInt8),E.Γ 5 [.d (sD a0)]=(L a0).bind fun r=>some (.ret (.tup [.res (.ext 4 34 3) (zb cI r.1),.d (.int .i64 r.2.1),.d (.int .i64 r.2.2)]) []))
def b0_laws_eqIntS:Cd:=
 sq (sq (r [0,1,5,14] [o 11 .mv [t 5],o 12 .mv [t 0],o 13 (.len false) [t 12],o 14 (.bin .lss) [t 11,t 13]])
  (.cond (t 14) (.skip) (.exit 0)))
 (sq (.block 1 (sq (rd [] [0,1,5,25] [o 17 .mv [t 0],o 18 .mv [t 5],o 19 (.ia 1) [t 17,t 18],o 20 (.ld none) [t 19],o 21 .mv [t 1],o 22 .mv [t 5],o 23 (.ia 1) [t 21,t 22],o 24 (.ld none) [t 23],o 25 (.bin .neq) [t 20,t 24]])
   (.cond (t 25) (sq (r [4] [o 4 .mv [b false]])
     (.ret)) (.skip))))
  (r [0,1,5] [o 15 .mv [t 5],o 16 (.bin .add) [t 15,i 1],o 5 .mv [t 16]]))
def k1_laws_eqIntS:Cd:=
 sq (r [4] [o 4 .mv [b true]])
 (.ret)
def c_laws_eqIntS:Cd:=
 sq (r [0,1] [o 4 .mv [b false]])
 (sq (sq (r [0,1,10] [o 6 .mv [t 0],o 7 (.len false) [t 6],o 8 .mv [t 1],o 9 (.len false) [t 8],o 10 (.bin .neq) [t 7,t 9]])
   (.cond (t 10) (sq (r [4] [o 4 .mv [b false]])
     (.ret)) (.skip)))
  (sq (sq (r [0,1,5] [o 5 .mv [i 0]])
    (.block 0 (.loop [0,1,5] b0_laws_eqIntS))) k1_laws_eqIntS))
def wX:List RV:=[.tmp 4]
def wu:Nat→(List Int)→(List Int)→Int→Option (Bool)
 | 0,_,_,_=>none
 | m0+1,x0,x1,x5=>
   if x5 < (↑(List.length x0):Int) then ((idx x0 x5).bind fun y0=>
    (idx x1 x5).bind fun y1=>
    if y0=y1 then wu m0 x0 x1 (w64 (x5+1))
    else some false)
   else some true
def tD (N:Nat) (a0:List Int) (a1:List Int):Option (Bool):=
 if (↑(List.length a0):Int)=(↑(List.length a1):Int) then wu N a0 a1 0
 else some false
theorem kA (E:En) (hy:Hy E [] [] [] wX none (fun y=>nocap y) zi):∀ (m0:Nat) (x0:List Int) (x1:List Int) (x5:Int),gH E [0,1,5] b0_laws_eqIntS [KJ.b 0,KJ.c k1_laws_eqIntS] m0 ⟨zh [(0,.d (zb (cI) x0)),(1,.d (zb (cI) x1)),(5,.d (.int .i64 x5))],zt []⟩=(wu m0 x0 x1 x5).bind fun r=>some (.ret (.d (.bool r)) []):=by
 intro m0
 induction m0 with
 | zero=>intros; rfl
 | succ m0 ih=>
   intros
   simp (config:={maxSteps:=40000000}) only [↓yR,yn,yM,yL,rI,rS,rB,r8,rLI,yJ,yQ,hy.p,hy.l,hy.k,hy.r,hy.d,hy.w,hy.f,zi,oid,wX,↓zj _ _ b0_laws_eqIntS.eq_1,↓zj _ _ k1_laws_eqIntS.eq_1,↓zj _ _ c_laws_eqIntS.eq_1,wd,ih,zz,wu,ym,yo,zT,yl,yp,yN,↓reduceIte,Nat.reduceMul,Nat.reduceAdd,Nat.reduceSub,Nat.reduceEqDiff,Nat.reduceBEq,Nat.reduceLeDiff,Nat.reduceLT,reduceCtorEq,Int.reduceAdd,Int.reduceSub,Int.reduceToNat,Int.reduceNeg,Int.reduceEq,Int.reduceLT,Int.reduceLE]
theorem fK (E:En) (hy:Hy E [] [] [] wX none (fun y=>nocap y) zi) (a0:List Int) (a1:List Int):G E c_laws_eqIntS [] ⟨zh [(0,.d (zb cI a0)),(1,.d (zb cI a1))],zt []⟩=(tD E.n a0 a1).bind fun r=>some (.ret (.d (.bool r)) []):=by
 simp (config:={maxSteps:=40000000}) only [↓yR,yn,yM,yL,rI,rS,rB,r8,rLI,yJ,yQ,hy.p,hy.l,hy.k,hy.r,hy.d,hy.w,hy.f,zi,oid,wX,↓zj _ _ b0_laws_eqIntS.eq_1,↓zj _ _ k1_laws_eqIntS.eq_1,↓zj _ _ c_laws_eqIntS.eq_1,zz,tD,kA E hy,ym,yo,zT,yl,yp,yN,↓reduceIte,Nat.reduceMul,Nat.reduceAdd,Nat.reduceSub,Nat.reduceEqDiff,Nat.reduceBEq,Nat.reduceLeDiff,Nat.reduceLT,reduceCtorEq,Int.reduceAdd,Int.reduceSub,Int.reduceToNat,Int.reduceNeg,Int.reduceEq,Int.reduceLT,Int.reduceLE]
def fH (E:En) (L:(List Int)→(List Int)→Option (Bool)):Prop:=E.Γ.mu 32=false∧(∀ (a0:List Int) (a1:List Int),E.Γ 32 [.d (zb cI a0),.d (zb cI a1)]=(L a0 a1).bind fun r=>some (.ret (.d (.bool r)) []))
def c_laws_eqArray:Cd:=
 sq (r [2,3] [o 2 .box [t 0],o 3 .box [t 1],o 4 .mv [b false]])
 (sq (sq (r [2,3,10] [o 5 (.fa 0) [t 2],o 6 (.ld none) [t 5],o 7 (.fa 0) [t 3],o 8 (.ld none) [t 7],o 9 (.call 32) [t 6,t 8],o 10 .not [t 9]])
   (.cond (t 10) (sq (r [4] [o 4 .mv [b false]])
     (.ret)) (.skip)))
  (sq (sq (r [16] [o 11 (.fa 1) [t 2],o 12 (.ld none) [t 11],o 13 (.fa 1) [t 3],o 14 (.ld none) [t 13],o 15 (.call 32) [t 12,t 14],o 16 .not [t 15]])
    (.cond (t 16) (sq (r [4] [o 4 .mv [b false]])
      (.ret)) (.skip)))
   (sq (r [4] [o 4 .mv [b true]])
    (.ret))))
def uH:List RV:=[.tmp 4]
def uQ (tV:(List Int)→(List Int)→Option (Bool)) (N:Nat) (zo:List Int) (zr:List Int) (xn:List Int) (wg:List Int):Option (Bool):=
 (tV zo xn).bind fun y0=>
 if y0=false then some false
 else ((tV zr wg).bind fun y1=>
  if y1=false then some false
  else some true)
theorem gQ (E:En) (hy:Hy E [] [] [] uH none (fun y=>nocap y) zi) (tV:(List Int)→(List Int)→Option (Bool)) (h_laws_eqIntS:fH E tV) (zo:List Int) (zr:List Int) (xn:List Int) (wg:List Int):G E c_laws_eqArray [] ⟨zh [(0,.agg [.d (zb cI zo),.d (zb cI zr)]),(1,.agg [.d (zb cI xn),.d (zb cI wg)])],zt []⟩=(uQ tV E.n zo zr xn wg).bind fun r=>some (.ret (.d (.bool r)) []):=by
 simp (config:={maxSteps:=40000000}) only [↓yR,yn,yM,yL,rI,rS,rB,r8,rLI,yJ,yQ,hy.p,hy.l,hy.k,hy.r,hy.d,hy.w,hy.f,zi,oid,uH,↓zj _ _ c_laws_eqArray.eq_1,h_laws_eqIntS.2,h_laws_eqIntS.1,zz,uQ,ym,yo,zT,yl,yp,yN,↓reduceIte,Nat.reduceMul,Nat.reduceAdd,Nat.reduceSub,Nat.reduceEqDiff,Nat.reduceBEq,Nat.reduceLeDiff,Nat.reduceLT,reduceCtorEq,Int.reduceAdd,Int.reduceSub,Int.reduceToNat,Int.reduceNeg,Int.reduceEq,Int.reduceLT,Int.reduceLE]
def gO (E:En) (L:(List Int)→(List Int)→(List Int)→(List Int)→Option (Bool)):Prop:=E.Γ.mu 22=false∧(∀ (zo:List Int) (zr:List Int) (xn:List Int) (wg:List Int),E.Γ 22 [.agg [.d (zb cI zo),.d (zb cI zr)],.agg [.d (zb cI xn),.d (zb cI wg)]]=(L zo zr xn wg).bind fun r=>some (.ret (.d (.bool r)) []))
def c_laws_eqTest:Cd:=
 sq (r [2,3] [o 2 .box [t 0],o 3 .box [t 1],o 4 .mv [b false]])
 (sq (sq (r [2,3,10] [o 5 (.fa 0) [t 2],o 6 (.ld (some 2)) [t 5],o 7 (.fa 0) [t 3],o 8 (.ld (some 2)) [t 7],o 9 (.call 22) [t 6,t 8],o 10 .not [t 9]])
   (.cond (t 10) (sq (r [4] [o 4 .mv [b false]])
     (.ret)) (.skip)))
  (sq (sq (r [16] [o 11 (.fa 2) [t 2],o 12 (.ld (some 2)) [t 11],o 13 (.fa 2) [t 3],o 14 (.ld (some 2)) [t 13],o 15 (.call 22) [t 12,t 14],o 16 .not [t 15]])
    (.cond (t 16) (sq (r [4] [o 4 .mv [b false]])
      (.ret)) (.skip)))
   (sq (r [4] [o 4 .mv [b true]])
    (.ret))))
def tF:List RV:=[.tmp 4]
def tB (u6:(List Int)→(List Int)→(List Int)→(List Int)→Option (Bool)) (N:Nat) (yu:List Int) (yA:List Int) (zV:List Int) (yf:List Int) (yr:List Int) (yz:List Int) (zX:List Int) (ye:List Int):Option (Bool):=
 (u6 yu yA yr yz).bind fun y0=>
 if y0=false then some false
 else ((u6 zV yf zX ye).bind fun y1=>
  if y1=false then some false
  else some true)
theorem fO (E:En) (hy:Hy E [] [] [] tF none (fun y=>nocap y) zi) (u6:(List Int)→(List Int)→(List Int)→(List Int)→Option (Bool)) (h_laws_eqArray:gO E u6) (yu:List Int) (yA:List Int) (zV:List Int) (yf:List Int) (yr:List Int) (yz:List Int) (zX:List Int) (ye:List Int):G E c_laws_eqTest [] ⟨zh [(0,.agg [.d (zb cI yu),.d (zb cI yA),.d (zb cI zV),.d (zb cI yf)]),(1,.agg [.d (zb cI yr),.d (zb cI yz),.d (zb cI zX),.d (zb cI ye)])],zt []⟩=(tB u6 E.n yu yA zV yf yr yz zX ye).bind fun r=>some (.ret (.d (.bool r)) []):=by
 simp (config:={maxSteps:=40000000}) only [↓yR,yn,yM,yL,rI,rS,rB,r8,rLI,yJ,yQ,hy.p,hy.l,hy.k,hy.r,hy.d,hy.w,hy.f,zi,oid,tF,↓zj _ _ c_laws_eqTest.eq_1,h_laws_eqArray.2,h_laws_eqArray.1,zz,tB,ym,yo,zT,yl,yp,yN,↓reduceIte,Nat.reduceMul,Nat.reduceAdd,Nat.reduceSub,Nat.reduceEqDiff,Nat.reduceBEq,Nat.reduceLeDiff,Nat.reduceLT,reduceCtorEq,Int.reduceAdd,Int.reduceSub,Int.reduceToNat,Int.reduceNeg,Int.reduceEq,Int.reduceLT,Int.reduceLE]
def mU (E:En) (L:(List Int)→(List Int)→(List Int)→(List Int)→(List Int)→(List Int)→(List Int)→(List Int)→Option (Bool)):Prop:=E.Γ.mu 14=false∧(∀ (yu:List Int) (yA:List Int) (zV:List Int) (yf:List Int) (yr:List Int) (yz:List Int) (zX:List Int) (ye:List Int),E.Γ 14 [.agg [.d (zb cI yu),.d (zb cI yA),.d (zb cI zV),.d (zb cI yf)],.agg [.d (zb cI yr),.d (zb cI yz),.d (zb cI zX),.d (zb cI ye)]]=(L yu yA zV yf yr yz zX ye).bind fun r=>some (.ret (.d (.bool r)) []))
def b0_laws_eqTestS:Cd:=
 sq (sq (r [0,1,5,14] [o 11 .mv [t 5],o 12 .mv [t 0],o 13 (.len false) [t 12],o 14 (.bin .lss) [t 11,t 13]])
  (.cond (t 14) (.skip) (.exit 0)))
 (sq (.block 1 (sq (rd [] [0,1,5,26] [o 17 .mv [t 0],o 18 .mv [t 5],o 19 (.ia 4) [t 17,t 18],o 20 (.ld (some 4)) [t 19],o 21 .mv [t 1],o 22 .mv [t 5],o 23 (.ia 4) [t 21,t 22],o 24 (.ld (some 4)) [t 23],o 25 (.call 14) [t 20,t 24],o 26 .not [t 25]])
   (.cond (t 26) (sq (r [4] [o 4 .mv [b false]])
     (.ret)) (.skip))))
  (r [0,1,5] [o 15 .mv [t 5],o 16 (.bin .add) [t 15,i 1],o 5 .mv [t 16]]))
def k1_laws_eqTestS:Cd:=
 sq (r [4] [o 4 .mv [b true]])
 (.ret)
def c_laws_eqTestS:Cd:=
 sq (r [0,1] [o 4 .mv [b false]])
 (sq (sq (r [0,1,10] [o 6 .mv [t 0],o 7 (.len false) [t 6],o 8 .mv [t 1],o 9 (.len false) [t 8],o 10 (.bin .neq) [t 7,t 9]])
   (.cond (t 10) (sq (r [4] [o 4 .mv [b false]])
     (.ret)) (.skip)))
  (sq (sq (r [0,1,5] [o 5 .mv [i 0]])
    (.block 0 (.loop [0,1,5] b0_laws_eqTestS))) k1_laws_eqTestS))
def wF:List RV:=[.tmp 4]
def wb (yK:(List Int)→(List Int)→(List Int)→(List Int)→(List Int)→(List Int)→(List Int)→(List Int)→Option (Bool)):Nat→(List TTest)→(List TTest)→Int→Option (Bool)
 | 0,_,_,_=>none
 | m0+1,x0,x1,x5=>
   if x5 < (↑(List.length x0):Int) then ((idx x0 x5).bind fun y0=>
    (idx x1 x5).bind fun y1=>
    (yK y0.In_Shape y0.In_Data y0.Want_Shape y0.Want_Data y1.In_Shape y1.In_Data y1.Want_Shape y1.Want_Data).bind fun y2=>
    if y2=false then some false
    else wb yK m0 x0 x1 (w64 (x5+1)))
   else some true
def tc (yK:(List Int)→(List Int)→(List Int)→(List Int)→(List Int)→(List Int)→(List Int)→(List Int)→Option (Bool)) (N:Nat) (a0:List TTest) (a1:List TTest):Option (Bool):=
 if (↑(List.length a0):Int)=(↑(List.length a1):Int) then wb yK N a0 a1 0
 else some false
theorem lq (E:En) (hy:Hy E [] [] [] wF none (fun y=>nocap y) zi) (yK:(List Int)→(List Int)→(List Int)→(List Int)→(List Int)→(List Int)→(List Int)→(List Int)→Option (Bool)) (h_laws_eqTest:mU E yK):∀ (m0:Nat) (x0:List TTest) (x1:List TTest) (x5:Int),gH E [0,1,5] b0_laws_eqTestS [KJ.b 0,KJ.c k1_laws_eqTestS] m0 ⟨zh [(0,.d (zb (cTest) x0)),(1,.d (zb (cTest) x1)),(5,.d (.int .i64 x5))],zt []⟩=(wb yK m0 x0 x1 x5).bind fun r=>some (.ret (.d (.bool r)) []):=by
 intro m0
 induction m0 with
 | zero=>intros; rfl
 | succ m0 ih=>
   intros
   simp (config:={maxSteps:=40000000}) only [↓yR,yn,yM,yL,rI,rS,rB,r8,rLI,yJ,yQ,hy.p,hy.l,hy.k,hy.r,hy.d,hy.w,hy.f,zi,oid,wF,↓zj _ _ b0_laws_eqTestS.eq_1,↓zj _ _ k1_laws_eqTestS.eq_1,↓zj _ _ c_laws_eqTestS.eq_1,h_laws_eqTest.2,h_laws_eqTest.1,wd,ih,zz,wb,ym,yo,zT,yl,yp,yN,↓reduceIte,Nat.reduceMul,Nat.reduceAdd,Nat.reduceSub,Nat.reduceEqDiff,Nat.reduceBEq,Nat.reduceLeDiff,Nat.reduceLT,reduceCtorEq,Int.reduceAdd,Int.reduceSub,Int.reduceToNat,Int.reduceNeg,Int.reduceEq,Int.reduceLT,Int.reduceLE]
theorem iK (E:En) (hy:Hy E [] [] [] wF none (fun y=>nocap y) zi) (yK:(List Int)→(List Int)→(List Int)→(List Int)→(List Int)→(List Int)→(List Int)→(List Int)→Option (Bool)) (h_laws_eqTest:mU E yK) (a0:List TTest) (a1:List TTest):G E c_laws_eqTestS [] ⟨zh [(0,.d (zb cTest a0)),(1,.d (zb cTest a1))],zt []⟩=(tc yK E.n a0 a1).bind fun r=>some (.ret (.d (.bool r)) []):=by
 simp (config:={maxSteps:=40000000}) only [↓yR,yn,yM,yL,rI,rS,rB,r8,rLI,yJ,yQ,hy.p,hy.l,hy.k,hy.r,hy.d,hy.w,hy.f,zi,oid,wF,↓zj _ _ b0_laws_eqTestS.eq_1,↓zj _ _ k1_laws_eqTestS.eq_1,↓zj _ _ c_laws_eqTestS.eq_1,h_laws_eqTest.2,h_laws_eqTest.1,zz,tc,lq E hy yK h_laws_eqTest,ym,yo,zT,yl,yp,yN,↓reduceIte,Nat.reduceMul,Nat.reduceAdd,Nat.reduceSub,Nat.reduceEqDiff,Nat.reduceBEq,Nat.reduceLeDiff,Nat.reduceLT,reduceCtorEq,Int.reduceAdd,Int.reduceSub,Int.reduceToNat,Int.reduceNeg,Int.reduceEq,Int.reduceLT,Int.reduceLE]
def TT (E:En) (L:(List TTest)→(List TTest)→Option (Bool)):Prop:=E.Γ.mu 6=false∧(∀ (a0:List TTest) (a1:List TTest),E.Γ 6 [.d (zb cTest a0),.d (zb cTest a1)]=(L a0 a1).bind fun r=>some (.ret (.d (.bool r)) []))
def jE (E:En) (L:(List Int)→(List TTest)→Option (Bool×List Int)):Prop:=E.Γ.mu 6=false∧(∀ (a:List Int) (b:List TTest),E.Γ 6 [.res (.ext 4 34 3) (zb cI a),.d (zb cTest b)]=(L a b).bind fun r=>some (.ret (.d (.bool r.1)) [[zb cI r.2]]))
def b0_laws_markIntS:Cd:=
 sq (sq (r [0,1,5,9] [o 6 .mv [t 5],o 7 .mv [t 0],o 8 (.len false) [t 7],o 9 (.bin .lss) [t 6,t 8]])
  (.cond (t 9) (.skip) (.exit 0)))
 (sq (.block 1 (sq (r [0,1,5] [o 12 .mv [t 0],o 13 .mv [t 5],o 14 .mv [t 1],o 15 (.ia 1) [t 12,t 13],e (.st 1) [t 15,t 14]])
   (r [0,1,5] [o 16 .mv [t 1],o 17 (.bin .add) [t 16,i 1],o 1 .mv [t 17]])))
  (r [0,1,5] [o 10 .mv [t 5],o 11 (.bin .add) [t 10,i 1],o 5 .mv [t 11]]))
def k1_laws_markIntS:Cd:=
 sq (r [4] [o 18 .mv [t 1],o 4 .mv [t 18]])
 (.ret)
def c_laws_markIntS:Cd:=
 sq (r [0,1] [o 4 .mv [i 0]])
 (sq (sq (r [0,1,5] [o 5 .mv [i 0]])
   (.block 0 (.loop [0,1,5] b0_laws_markIntS))) k1_laws_markIntS)
def xR:List RV:=[.tmp 4]
def xB:Nat→Int→Int→(List Int)→Option (Int×List Int)
 | 0,_,_,_=>none
 | m0+1,x1,x5,o0=>
   if x5 < (↑(List.length o0):Int) then (if 0 ≤ x5∧x5 < (↑(List.length o0):Int) then ((ot o0 (Int.toNat x5) x1).bind fun y0=>
    xB m0 (w64 (x1+1)) (w64 (x5+1)) y0)
    else none)
   else some ((x1,o0))
def v7 (N:Nat) (a0:List Int) (a1:Int):Option (Int×List Int):=
 xB N a1 0 a0
theorem mX (E:En) (hy:Hy E [0] [0] [(0,.row 3 1)] xR none (fun y=>nocap y) zi):∀ (m0:Nat) (x1:Int) (x5:Int) (o0:List Int),gH E [0,1,5] b0_laws_markIntS [KJ.b 0,KJ.c k1_laws_markIntS] m0 ⟨zh [(0,A.row 0 1),(1,.d (.int .i64 x1)),(5,.d (.int .i64 x5))],zt [(0,⟨1,zP (cI) 3 none o0,false⟩)]⟩=(xB m0 x1 x5 o0).bind fun r=>some (.ret (.d (.int .i64 r.1)) [[zb (cI) r.2]]):=by
 intro m0
 induction m0 with
 | zero=>intros; rfl
 | succ m0 ih=>
   intros
   simp (config:={maxSteps:=40000000}) only [↓yR,yn,yM,yL,rI,rS,rB,r8,rLI,yJ,yQ,hy.p,hy.l,hy.k,hy.r,hy.d,hy.w,hy.f,zi,oid,xR,↓zj _ _ b0_laws_markIntS.eq_1,↓zj _ _ k1_laws_markIntS.eq_1,↓zj _ _ c_laws_markIntS.eq_1,wd,ih,zz,xB,ym,yo,zT,yl,yp,yN,↓reduceIte,Nat.reduceMul,Nat.reduceAdd,Nat.reduceSub,Nat.reduceEqDiff,Nat.reduceBEq,Nat.reduceLeDiff,Nat.reduceLT,reduceCtorEq,Int.reduceAdd,Int.reduceSub,Int.reduceToNat,Int.reduceNeg,Int.reduceEq,Int.reduceLT,Int.reduceLE]
theorem iE (E:En) (hy:Hy E [0] [0] [(0,.row 3 1)] xR none (fun y=>nocap y) zi) (a0:List Int) (a1:Int):G E c_laws_markIntS [] ⟨zh [(0,.row 0 1),(1,.d (.int .i64 a1))],zt [(0,⟨1,zP cI 3 none a0,false⟩)]⟩=(v7 E.n a0 a1).bind fun r=>some (.ret (.d (.int .i64 r.1)) [[zb (cI) r.2]]):=by
 simp (config:={maxSteps:=40000000}) only [↓yR,yn,yM,yL,rI,rS,rB,r8,rLI,yJ,yQ,hy.p,hy.l,hy.k,hy.r,hy.d,hy.w,hy.f,zi,oid,xR,↓zj _ _ b0_laws_markIntS.eq_1,↓zj _ _ k1_laws_markIntS.eq_1,↓zj _ _ c_laws_markIntS.eq_1,zz,v7,mX E hy,ym,yo,zT,yl,yp,yN,↓reduceIte,Nat.reduceMul,Nat.reduceAdd,Nat.reduceSub,Nat.reduceEqDiff,Nat.reduceBEq,Nat.reduceLeDiff,Nat.reduceLT,reduceCtorEq,Int.reduceAdd,Int.reduceSub,Int.reduceToNat,Int.reduceNeg,Int.reduceEq,Int.reduceLT,Int.reduceLE]
def Ts (E:En) (L:(List Int)→Int→Option (Int×List Int)):Prop:=E.Γ.mu 15=true∧(∀ (a0:List Int) (a1:Int),E.Γ 15 [zx cI 3 none false a0,.d (.int .i64 a1)]=(L a0 a1).bind fun r=>some (.ret (.d (.int .i64 r.1)) [[zb (cI) r.2]]))
def lS (E:En) (L:(List Int)→Int→Option (Int×List Int)):Prop:=E.Γ.mu 7=false∧(∀ (a:List Int) (k:Int),E.Γ 7 [.res (.ext 4 34 3) (zb cI a),.d (.int .i64 k)]=(L a k).bind fun r=>some (.ret (.d (.int .i64 r.1)) [[zb cI r.2]]))
def b0_laws_heldIntS:Cd:=
 sq (sq (r [0,1,5,9] [o 6 .mv [t 5],o 7 .mv [t 0],o 8 (.len false) [t 7],o 9 (.bin .lss) [t 6,t 8]])
  (.cond (t 9) (.skip) (.exit 0)))
 (sq (.block 1 (sq (sq (r [0,1,5,17] [o 12 .mv [t 0],o 13 .mv [t 5],o 14 (.ia 1) [t 12,t 13],o 15 (.ld none) [t 14],o 16 .mv [t 1],o 17 (.bin .neq) [t 15,t 16]])
     (.cond (t 17) (sq (r [4] [o 4 .mv [i (-1)]])
       (.ret)) (.skip)))
   (r [0,1,5] [o 18 .mv [t 1],o 19 (.bin .add) [t 18,i 1],o 1 .mv [t 19]])))
  (r [0,1,5] [o 10 .mv [t 5],o 11 (.bin .add) [t 10,i 1],o 5 .mv [t 11]]))
def k1_laws_heldIntS:Cd:=
 sq (r [4] [o 20 .mv [t 1],o 4 .mv [t 20]])
 (.ret)
def c_laws_heldIntS:Cd:=
 sq (r [0,1] [o 4 .mv [i 0]])
 (sq (sq (r [0,1,5] [o 5 .mv [i 0]])
   (.block 0 (.loop [0,1,5] b0_laws_heldIntS))) k1_laws_heldIntS)
def xY:List RV:=[.tmp 4]
def xE:Nat→(List Int)→Int→Int→Option (Int)
 | 0,_,_,_=>none
 | m0+1,x0,x1,x5=>
   if x5 < (↑(List.length x0):Int) then ((idx x0 x5).bind fun y0=>
    if y0=x1 then xE m0 x0 (w64 (x1+1)) (w64 (x5+1))
    else some (-1))
   else some x1
def ug (N:Nat) (a0:List Int) (a1:Int):Option (Int):=
 xE N a0 a1 0
theorem mY (E:En) (hy:Hy E [] [] [] xY none (fun y=>nocap y) zi):∀ (m0:Nat) (x0:List Int) (x1:Int) (x5:Int),gH E [0,1,5] b0_laws_heldIntS [KJ.b 0,KJ.c k1_laws_heldIntS] m0 ⟨zh [(0,.d (zb (cI) x0)),(1,.d (.int .i64 x1)),(5,.d (.int .i64 x5))],zt []⟩=(xE m0 x0 x1 x5).bind fun r=>some (.ret (.d (.int .i64 r)) []):=by
 intro m0
 induction m0 with
 | zero=>intros; rfl
 | succ m0 ih=>
   intros
   simp (config:={maxSteps:=40000000}) only [↓yR,yn,yM,yL,rI,rS,rB,r8,rLI,yJ,yQ,hy.p,hy.l,hy.k,hy.r,hy.d,hy.w,hy.f,zi,oid,xY,↓zj _ _ b0_laws_heldIntS.eq_1,↓zj _ _ k1_laws_heldIntS.eq_1,↓zj _ _ c_laws_heldIntS.eq_1,wd,ih,zz,xE,ym,yo,zT,yl,yp,yN,↓reduceIte,Nat.reduceMul,Nat.reduceAdd,Nat.reduceSub,Nat.reduceEqDiff,Nat.reduceBEq,Nat.reduceLeDiff,Nat.reduceLT,reduceCtorEq,Int.reduceAdd,Int.reduceSub,Int.reduceToNat,Int.reduceNeg,Int.reduceEq,Int.reduceLT,Int.reduceLE]
theorem im (E:En) (hy:Hy E [] [] [] xY none (fun y=>nocap y) zi) (a0:List Int) (a1:Int):G E c_laws_heldIntS [] ⟨zh [(0,.d (zb cI a0)),(1,.d (.int .i64 a1))],zt []⟩=(ug E.n a0 a1).bind fun r=>some (.ret (.d (.int .i64 r)) []):=by
 simp (config:={maxSteps:=40000000}) only [↓yR,yn,yM,yL,rI,rS,rB,r8,rLI,yJ,yQ,hy.p,hy.l,hy.k,hy.r,hy.d,hy.w,hy.f,zi,oid,xY,↓zj _ _ b0_laws_heldIntS.eq_1,↓zj _ _ k1_laws_heldIntS.eq_1,↓zj _ _ c_laws_heldIntS.eq_1,zz,ug,mY E hy,ym,yo,zT,yl,yp,yN,↓reduceIte,Nat.reduceMul,Nat.reduceAdd,Nat.reduceSub,Nat.reduceEqDiff,Nat.reduceBEq,Nat.reduceLeDiff,Nat.reduceLT,reduceCtorEq,Int.reduceAdd,Int.reduceSub,Int.reduceToNat,Int.reduceNeg,Int.reduceEq,Int.reduceLT,Int.reduceLE]
def oP (E:En) (L:(List Int)→Int→Option (Int)):Prop:=E.Γ.mu 16=false∧(∀ (a0:List Int) (a1:Int),E.Γ 16 [.d (zb cI a0),.d (.int .i64 a1)]=(L a0 a1).bind fun r=>some (.ret (.d (.int .i64 r)) []))
def b0_laws_heldTestS:Cd:=
 sq (sq (r [0,1,5,9] [o 6 .mv [t 5],o 7 .mv [t 0],o 8 (.len false) [t 7],o 9 (.bin .lss) [t 6,t 8]])
  (.cond (t 9) (.skip) (.exit 0)))
 (sq (.block 1 (sq (r [0,1,5] [o 12 .mv [t 0],o 13 .mv [t 5],o 14 (.ia 4) [t 12,t 13],o 15 (.fa 0) [t 14],o 16 (.fa 0) [t 15],o 17 (.ld none) [t 16],o 18 .mv [t 1],o 19 (.call 16) [t 17,t 18],o 1 .mv [t 19]])
   (sq (sq (r [0,1,5,21] [o 20 .mv [t 1],o 21 (.bin .lss) [t 20,i 0]])
     (.cond (t 21) (sq (r [4] [o 4 .mv [i (-1)]])
       (.ret)) (.skip)))
    (sq (r [0,1,5] [o 22 .mv [t 0],o 23 .mv [t 5],o 24 (.ia 4) [t 22,t 23],o 25 (.fa 0) [t 24],o 26 (.fa 1) [t 25],o 27 (.ld none) [t 26],o 28 .mv [t 1],o 29 (.call 16) [t 27,t 28],o 1 .mv [t 29]])
     (sq (sq (r [0,1,5,31] [o 30 .mv [t 1],o 31 (.bin .lss) [t 30,i 0]])
       (.cond (t 31) (sq (r [4] [o 4 .mv [i (-1)]])
         (.ret)) (.skip)))
      (sq (r [0,1,5] [o 32 .mv [t 0],o 33 .mv [t 5],o 34 (.ia 4) [t 32,t 33],o 35 (.fa 2) [t 34],o 36 (.fa 0) [t 35],o 37 (.ld none) [t 36],o 38 .mv [t 1],o 39 (.call 16) [t 37,t 38],o 1 .mv [t 39]])
       (sq (sq (r [0,1,5,41] [o 40 .mv [t 1],o 41 (.bin .lss) [t 40,i 0]])
         (.cond (t 41) (sq (r [4] [o 4 .mv [i (-1)]])
           (.ret)) (.skip)))
        (sq (r [0,1,5] [o 42 .mv [t 0],o 43 .mv [t 5],o 44 (.ia 4) [t 42,t 43],o 45 (.fa 2) [t 44],o 46 (.fa 1) [t 45],o 47 (.ld none) [t 46],o 48 .mv [t 1],o 49 (.call 16) [t 47,t 48],o 1 .mv [t 49]])
         (sq (r [0,1,5,51] [o 50 .mv [t 1],o 51 (.bin .lss) [t 50,i 0]])
          (.cond (t 51) (sq (r [4] [o 4 .mv [i (-1)]])
            (.ret)) (.skip)))))))))))
  (r [0,1,5] [o 10 .mv [t 5],o 11 (.bin .add) [t 10,i 1],o 5 .mv [t 11]]))
def k1_laws_heldTestS:Cd:=
 sq (r [4] [o 52 .mv [t 1],o 4 .mv [t 52]])
 (.ret)
def c_laws_heldTestS:Cd:=
 sq (r [0,1] [o 4 .mv [i 0]])
 (sq (sq (r [0,1,5] [o 5 .mv [i 0]])
   (.block 0 (.loop [0,1,5] b0_laws_heldTestS))) k1_laws_heldTestS)
def xF:List RV:=[.tmp 4]
def xu (zU:(List Int)→Int→Option (Int)):Nat→(List TTest)→Int→Int→Option (Int)
 | 0,_,_,_=>none
 | m0+1,x0,x1,x5=>
   if x5 < (↑(List.length x0):Int) then ((idx x0 x5).bind fun y0=>
    (zU y0.In_Shape x1).bind fun y1=>
    if y1 < 0 then some (-1)
    else ((idx x0 x5).bind fun y2=>
     (zU y2.In_Data y1).bind fun y3=>
     if y3 < 0 then some (-1)
     else ((idx x0 x5).bind fun y4=>
      (zU y4.Want_Shape y3).bind fun y5=>
      if y5 < 0 then some (-1)
      else ((idx x0 x5).bind fun y6=>
       (zU y6.Want_Data y5).bind fun y7=>
       if y7 < 0 then some (-1)
       else xu zU m0 x0 y7 (w64 (x5+1))))))
   else some x1
def tr (zU:(List Int)→Int→Option (Int)) (N:Nat) (a0:List TTest) (a1:Int):Option (Int):=
 xu zU N a0 a1 0
theorem my (E:En) (hy:Hy E [] [] [] xF none (fun y=>nocap y) zi) (zU:(List Int)→Int→Option (Int)) (h_laws_heldIntS:oP E zU):∀ (m0:Nat) (x0:List TTest) (x1:Int) (x5:Int),gH E [0,1,5] b0_laws_heldTestS [KJ.b 0,KJ.c k1_laws_heldTestS] m0 ⟨zh [(0,.d (zb (cTest) x0)),(1,.d (.int .i64 x1)),(5,.d (.int .i64 x5))],zt []⟩=(xu zU m0 x0 x1 x5).bind fun r=>some (.ret (.d (.int .i64 r)) []):=by
 intro m0
 induction m0 with
 | zero=>intros; rfl
 | succ m0 ih=>
   intros
   simp (config:={maxSteps:=40000000}) only [↓yR,yn,yM,yL,rI,rS,rB,r8,rLI,yJ,yQ,hy.p,hy.l,hy.k,hy.r,hy.d,hy.w,hy.f,zi,oid,xF,↓zj _ _ b0_laws_heldTestS.eq_1,↓zj _ _ k1_laws_heldTestS.eq_1,↓zj _ _ c_laws_heldTestS.eq_1,h_laws_heldIntS.2,h_laws_heldIntS.1,wd,ih,zz,xu,ym,yo,zT,yl,yp,yN,↓reduceIte,Nat.reduceMul,Nat.reduceAdd,Nat.reduceSub,Nat.reduceEqDiff,Nat.reduceBEq,Nat.reduceLeDiff,Nat.reduceLT,reduceCtorEq,Int.reduceAdd,Int.reduceSub,Int.reduceToNat,Int.reduceNeg,Int.reduceEq,Int.reduceLT,Int.reduceLE]
theorem jD (E:En) (hy:Hy E [] [] [] xF none (fun y=>nocap y) zi) (zU:(List Int)→Int→Option (Int)) (h_laws_heldIntS:oP E zU) (a0:List TTest) (a1:Int):G E c_laws_heldTestS [] ⟨zh [(0,.d (zb cTest a0)),(1,.d (.int .i64 a1))],zt []⟩=(tr zU E.n a0 a1).bind fun r=>some (.ret (.d (.int .i64 r)) []):=by
 simp (config:={maxSteps:=40000000}) only [↓yR,yn,yM,yL,rI,rS,rB,r8,rLI,yJ,yQ,hy.p,hy.l,hy.k,hy.r,hy.d,hy.w,hy.f,zi,oid,xF,↓zj _ _ b0_laws_heldTestS.eq_1,↓zj _ _ k1_laws_heldTestS.eq_1,↓zj _ _ c_laws_heldTestS.eq_1,h_laws_heldIntS.2,h_laws_heldIntS.1,zz,tr,my E hy zU h_laws_heldIntS,ym,yo,zT,yl,yp,yN,↓reduceIte,Nat.reduceMul,Nat.reduceAdd,Nat.reduceSub,Nat.reduceEqDiff,Nat.reduceBEq,Nat.reduceLeDiff,Nat.reduceLT,reduceCtorEq,Int.reduceAdd,Int.reduceSub,Int.reduceToNat,Int.reduceNeg,Int.reduceEq,Int.reduceLT,Int.reduceLE]
def Wl (E:En) (L:(List TTest)→Int→Option (Int)):Prop:=E.Γ.mu 8=false∧(∀ (a0:List TTest) (a1:Int),E.Γ 8 [.d (zb cTest a0),.d (.int .i64 a1)]=(L a0 a1).bind fun r=>some (.ret (.d (.int .i64 r)) []))
def lL (E:En) (L:(List Int)→Int→Option (Int×List Int)):Prop:=E.Γ.mu 8=false∧(∀ (a:List Int) (k:Int),E.Γ 8 [.res (.ext 4 34 3) (zb cI a),.d (.int .i64 k)]=(L a k).bind fun r=>some (.ret (.d (.int .i64 r.1)) [[zb cI r.2]]))
def c_laws_FnExactParseTests:Cd:=
 sq (r [0] [o 2 .mv [b false]])
 (sq (sq (r [0,16] [o 14 .mv [t 0],o 15 (.len true) [t 14],o 16 (.bin .gtr) [t 15,i 1048576]])
   (.cond (t 16) (sq (r [2] [o 2 .mv [b true]])
     (.ret)) (.skip)))
  (sq (r [0,3,4,5] [o 18 .mv [t 0],o 19 (.call 4) [t 18],o 17 .mv [t 19],o 20 (.ext 0) [t 17],o 21 (.ext 1) [t 17],o 22 (.ext 2) [t 17],o 3 .mv [t 20],o 4 .mv [t 21],o 5 .mv [t 22]])
   (sq (r [0,3,4,5,6,7,8] [o 24 .mv [t 0],o 25 (.call 5) [t 24],o 23 .mv [t 25],o 26 (.ext 0) [t 23],o 27 (.ext 1) [t 23],o 28 (.ext 2) [t 23],o 6 .mv [t 26],o 7 .mv [t 27],o 8 .mv [t 28]])
    (sq (sq (r [0,3,4,5,6,42] [o 29 .mv [t 6],o 30 .mv [t 3],o 31 (.call 6) [t 29,t 30],o 32 .not [t 31],o 33 .mv [t 32],g 33 false 34 .mv [t 7],g 33 false 35 .mv [t 4],g 33 false 36 (.bin .neq) [t 34,t 35],o 37 .pick [t 33,b true,t 36],o 38 .mv [t 37],g 38 false 39 .mv [t 8],g 38 false 40 .mv [t 5],g 38 false 41 (.bin .neq) [t 39,t 40],o 42 .pick [t 38,b true,t 41]])
      (.cond (t 42) (sq (r [2] [o 2 .mv [b false]])
        (.ret)) (.skip)))
     (sq (r [0,3,4,5,6,9] [o 9 .mv [i 1]])
      (sq (r [0,3,4,5,6,9] [o 43 .mv [t 6],o 44 .mv [t 9],o 45 (.call 7) [t 43,t 44],o 9 .mv [t 45]])
       (sq (r [0,3,4,5,6,9,10] [o 10 .mv [i 1]])
        (sq (r [0,3,4,5,6,9,10] [o 46 .mv [t 6],o 47 .mv [t 10],o 48 (.call 8) [t 46,t 47],o 10 .mv [t 48]])
         (sq (sq (r [0,3,4,5,6,9,10,50] [o 49 .mv [t 10],o 50 (.bin .lss) [t 49,i 0]])
           (.cond (t 50) (sq (r [2] [o 2 .mv [b false]])
             (.ret)) (.skip)))
          (sq (sq (r [0,3,4,5,6,9,53] [o 51 .mv [t 10],o 52 .mv [t 9],o 53 (.bin .neq) [t 51,t 52]])
            (.cond (t 53) (sq (r [2] [o 2 .mv [b false]])
              (.ret)) (.skip)))
           (sq (r [3,4,5,6,9,11,12,13] [o 55 .mv [t 0],o 56 (.call 5) [t 55],o 54 .mv [t 56],o 57 (.ext 0) [t 54],o 58 (.ext 1) [t 54],o 59 (.ext 2) [t 54],o 11 .mv [t 57],o 12 .mv [t 58],o 13 .mv [t 59]])
            (sq (sq (r [6,9,73] [o 60 .mv [t 11],o 61 .mv [t 3],o 62 (.call 6) [t 60,t 61],o 63 .not [t 62],o 64 .mv [t 63],g 64 false 65 .mv [t 12],g 64 false 66 .mv [t 4],g 64 false 67 (.bin .neq) [t 65,t 66],o 68 .pick [t 64,b true,t 67],o 69 .mv [t 68],g 69 false 70 .mv [t 13],g 69 false 71 .mv [t 5],g 69 false 72 (.bin .neq) [t 70,t 71],o 73 .pick [t 69,b true,t 72]])
              (.cond (t 73) (sq (r [2] [o 2 .mv [b false]])
                (.ret)) (.skip)))
             (sq (r [6,9,10] [o 10 .mv [i 1]])
              (sq (r [9,10] [o 74 .mv [t 6],o 75 .mv [t 10],o 76 (.call 8) [t 74,t 75],o 10 .mv [t 76]])
               (sq (sq (r [9,10,78] [o 77 .mv [t 10],o 78 (.bin .lss) [t 77,i 0]])
                 (.cond (t 78) (sq (r [2] [o 2 .mv [b false]])
                   (.ret)) (.skip)))
                (sq (sq (r [81] [o 79 .mv [t 10],o 80 .mv [t 9],o 81 (.bin .neq) [t 79,t 80]])
                  (.cond (t 81) (sq (r [2] [o 2 .mv [b false]])
                    (.ret)) (.skip)))
                 (sq (r [2] [o 2 .mv [b true]])
                  (.ret))))))))))))))))))
def xf:List RV:=[.tmp 2]
def yZ (uz:(List UInt8)→Option (List TTest×Int×Int)) (vn:(List UInt8)→Option (List Int×Int×Int)) (vN:(List Int)→(List TTest)→Option (Bool×List Int)) (ul:(List Int)→Int→Option (Int×List Int)) (wP:(List Int)→Int→Option (Int×List Int)) (N:Nat) (a0:List UInt8):Option (Bool):=
 if 1048576 < (↑(List.length a0):Int) then some true
 else ((uz a0).bind fun y0=>
  (vn a0).bind fun y1=>
  (vN y1.fst y0.fst).bind fun y2=>
  if y2.fst=false then some false
  else (if y1.snd.fst=y0.snd.fst then (if y1.snd.snd=y0.snd.snd then ((ul y2.snd 1).bind fun y3=>
    (wP y3.snd 1).bind fun y4=>
    if y4.fst < 0 then some false
    else (if y4.fst=y3.fst then ((vn a0).bind fun y5=>
     (vN y5.fst y0.fst).bind fun y6=>
     if y6.fst=false then some false
     else (if y5.snd.fst=y0.snd.fst then (if y5.snd.snd=y0.snd.snd then ((wP y4.snd 1).bind fun y7=>
       if y7.fst < 0 then some false
       else (if y7.fst=y3.fst then some true
        else some false))
      else some false)
      else some false))
     else some false))
   else some false)
   else some false))
theorem og (E:En) (hy:Hy E [] [] [] xf none (fun y=>nocap y) zi) (uz:(List UInt8)→Option (List TTest×Int×Int)) (h_spec_ParseTests:kz E uz) (vn:(List UInt8)→Option (List Int×Int×Int)) (h_impl_ParseTests:kR E vn) (vN:(List Int)→(List TTest)→Option (Bool×List Int)) (h_laws_eqTestS_R:jE E vN) (ul:(List Int)→Int→Option (Int×List Int)) (h_laws_markTestS_R:lS E ul) (wP:(List Int)→Int→Option (Int×List Int)) (h_laws_heldTestS_R:lL E wP) (a0:List UInt8):G E c_laws_FnExactParseTests [] ⟨zh [(0,.d (sD a0))],zt []⟩=(yZ uz vn vN ul wP E.n a0).bind fun r=>some (.ret (.d (.bool r)) []):=by
 simp (config:={maxSteps:=40000000}) only [↓yR,yn,yM,yL,rI,rS,rB,r8,rLI,yJ,yQ,hy.p,hy.l,hy.k,hy.r,hy.d,hy.w,hy.f,zi,oid,xf,↓zj _ _ c_laws_FnExactParseTests.eq_1,h_spec_ParseTests.2,h_spec_ParseTests.1,h_impl_ParseTests.2,h_impl_ParseTests.1,h_laws_eqTestS_R.2,h_laws_eqTestS_R.1,h_laws_markTestS_R.2,h_laws_markTestS_R.1,h_laws_heldTestS_R.2,h_laws_heldTestS_R.1,zz,yZ,ym,yo,zT,yl,yp,yN,↓reduceIte,Nat.reduceMul,Nat.reduceAdd,Nat.reduceSub,Nat.reduceEqDiff,Nat.reduceBEq,Nat.reduceLeDiff,Nat.reduceLT,reduceCtorEq,Int.reduceAdd,Int.reduceSub,Int.reduceToNat,Int.reduceNeg,Int.reduceEq,Int.reduceLT,Int.reduceLE]
def dQ (E:En) (L:(List UInt8)→Option (Bool)):Prop:=E.Γ.mu 3=false∧(∀ (a0:List UInt8),E.Γ 3 [.d (sD a0)]=(L a0).bind fun r=>some (.ret (.d (.bool r)) []))
end Go.Vm
