/- The functions under laws_FnSums: the abstract machine's codes, and what they come to in plain terms. Printed by a program of this session. -/
import Derived.Test.YtafjdofgafppgaaGreatVmKind
set_option linter.all false
set_option maxRecDepth 100000
set_option maxHeartbeats 4000000
namespace Go.Vm
structure TArray where
 Shape:List Int
 Data:List Int
 deriving DecidableEq
def Xu (x:TArray):List D:=[zf cI x.Shape,zf cI x.Data]
def bX:List D→Option TArray
 | [d0,d1]=>(ZV cI d0).bind fun a0=>(ZV cI d1).bind fun a1=>some ⟨a0,a1⟩
 | _=>none
theorem QD:∀ xs x,bX xs=some x→xs=Xu x:=by
 intro xs x h
 unfold bX at h
 split at h
 ·have hh:=Option.bind_eq_some_iff.mp h; clear h; obtain ⟨a0,h0,h⟩:=hh; have e0:=V1 h0; clear h0; subst e0; have hh:=Option.bind_eq_some_iff.mp h; clear h; obtain ⟨a1,h1,h⟩:=hh; have e1:=V1 h1; clear h1; subst e1; cases h; rfl
 ·cases h
def cArray:Enc TArray:=⟨2,Xu,bX,fun _=>rfl,by decide,QD,fun x=>by simp only [Xu,bX,dk,Option.bind_some]⟩
theorem PB (x:TArray):cArray.enc x=[zf cI x.Shape,zf cI x.Data]:=rfl
theorem O5 (x_Shape:List Int) (x_Data:List Int):cArray.dec [zf cI x_Shape,zf cI x_Data]=some ⟨x_Shape,x_Data⟩:=cArray.edc ⟨x_Shape,x_Data⟩
theorem QI (a:D):cArray.dec [a]=none:=by cases a <;> first | rfl | (rename_i k n; cases k <;> rfl)
def zI:=And.intro (QI) <| And.intro (Yc cArray 2 rfl) <| And.intro (PB) <| And.intro (O5) <| And.intro (Q2 cArray) <| And.intro ((fun l m=>BT cArray 2 l m 1 (by decide) rfl)) <| And.intro ((fun e cap l m xs z hz=>Fx cArray 2 e cap l m 1 xs z hz rfl)) <| And.intro (dS cArray 1 2 rfl) <| (dS cArray 2 4 rfl)
def zR:=TZ c8 5 1 rfl [.int .u8 0] 0 rfl
def zQ:=TZ cI 3 1 rfl [iD 0] 0 rfl
def zK:=TZ cArray 25 2 rfl [.lst 0 [],.lst 0 []] ⟨[],[]⟩ rfl
def zJ:=TZ (cL cI) 23 1 rfl [.lst 0 []] [] rfl
def zT:=TZ cS 9 1 rfl [sD []] [] rfl
def zL:=Bd cI 99 none rfl [iD 0] 0 rfl
def zl (e:Nat):Bool:=e == 5||e == 3||e == 9
def c_spec_l1Open:Cd:=
 sq (r [0] [o 2 .mv [.k (.d .nilp)]])
 (sq (sq (r [0,5] [o 3 .mv [t 0],o 4 (.len false) [t 3],o 5 (.bin .gtr) [t 4,i 1000]])
   (.cond (t 5) (r [0] [o 6 .mv [t 0],o 7 (.cut 1) [t 6,i 1000],o 0 .mv [t 7]]) (.skip)))
  (sq (r [2] [o 8 .mv [t 0],o 9 (.bld [.nil,(.d (iD 0))] [(0,1),(1,1)]) [t 8,i 0],o 10 .box [t 9],o 2 .mv [t 10]])
   (.ret)))
def m8:List RV:=[.tmp 2]
def my (N:Nat) (a0:List Int):Option (List Int×Int):=
 if 1000 < (↑(List.length a0):Int) then ((cut a0 0 1000).bind fun y0=>
  some ((y0,0)))
 else some ((a0,0))
theorem Tr (E:En) (hy:Hy E [] [] [] m8 none (fun y=>nocap y) zl) (a0:List Int):G E c_spec_l1Open [] ⟨zw [(0,.d (zf c8 a0))],zF []⟩=(my E.n a0).bind fun r=>some (.ret (.box [.d (zf (c8) r.1),.d (.int .i64 r.2)]) []):=by
 simp (config:={maxSteps:=40000000}) only [↓yd,zV,yf,ya,rI,rS,rB,r8,rLI,yb,ye,hy.p,hy.l,hy.k,hy.r,hy.d,hy.w,hy.f,zl,oid,m8,↓zj _ _ c_spec_l1Open.eq_1,zz,my,zR,zQ,zI,zK,zJ,zT,zL,yc,↓reduceIte,Nat.reduceMul,Nat.reduceAdd,Nat.reduceSub,Nat.reduceEqDiff,Nat.reduceBEq,Nat.reduceLeDiff,Nat.reduceLT,reduceCtorEq,Int.reduceAdd,Int.reduceSub,Int.reduceToNat,Int.reduceNeg,Int.reduceEq,Int.reduceLT,Int.reduceLE]
def UX (E:En) (L:(List Int)→Option (List Int×Int)):Prop:=E.Γ.mu 30=false∧(∀ (a0:List Int),E.Γ 30 [.d (zf c8 a0)]=(L a0).bind fun r=>some (.ret (.box [.d (zf (c8) r.1),.d (.int .i64 r.2)]) []))
def c___spec_l1Rd__next:Cd:=
 sq (r [0] [o 2 .mv [i 0]])
 (sq (sq (rd [] [0,13] [o 4 .mv [t 0],o 5 .nilck [t 4],o 6 (.fa 1) [t 5],o 7 (.ld none) [t 6],o 8 .mv [t 0],o 9 .nilck [t 8],o 10 (.fa 0) [t 9],o 11 (.ld none) [t 10],o 12 (.len false) [t 11],o 13 (.bin .lss) [t 7,t 12]])
   (.cond (t 13) (sq (rd [] [0,3] [o 14 .mv [t 0],o 15 .nilck [t 14],o 16 (.fa 0) [t 15],o 17 (.ld none) [t 16],o 18 .mv [t 0],o 19 .nilck [t 18],o 20 (.fa 1) [t 19],o 21 (.ld none) [t 20],o 22 (.ia 1) [t 17,t 21],o 23 (.ld none) [t 22],o 24 (.cvt .i64) [t 23],o 3 .mv [t 24]])
     (sq (r [0,3] [o 25 .mv [t 0],o 26 .mv [t 0],o 27 .nilck [t 26],o 28 (.fa 1) [t 27],o 29 (.ld none) [t 28],o 30 (.bin .add) [t 29,i 1],o 31 .nilck [t 25],o 32 (.fa 1) [t 31],e (.st 1) [t 32,t 30]])
      (sq (r [0,2] [o 33 .mv [t 3],o 2 .mv [t 33]])
       (.ret)))) (.skip)))
  (sq (r [0,2] [o 2 .mv [i 0]])
   (.ret)))
def tM:List RV:=[.tmp 2]
def tK (N:Nat) (a0_b:List Int) (a0_p:Int):Option (Int×List Int×Int):=
 if a0_p < (↑(List.length a0_b):Int) then ((idx a0_b a0_p).bind fun y0=>
  some ((w64 y0,a0_b,w64 (a0_p+1))))
 else some ((0,a0_b,a0_p))
theorem aP (E:En) (hy:Hy E [0] [0] [(0,.box)] tM none (fun y=>nocap y) zl) (a0_b:List Int) (a0_p:Int):G E c___spec_l1Rd__next [] ⟨zw [(0,.adr 0 1 0)],zF [(0,⟨1,.box [.d (zf c8 a0_b),.d (.int .i64 a0_p)],false⟩)]⟩=(tK E.n a0_b a0_p).bind fun r=>some (.ret (.d (.int .i64 r.1)) [[zf (c8) r.2.1,.int .i64 r.2.2]]):=by
 simp (config:={maxSteps:=40000000}) only [↓yd,zV,yf,ya,rI,rS,rB,r8,rLI,yb,ye,hy.p,hy.l,hy.k,hy.r,hy.d,hy.w,hy.f,zl,oid,tM,↓zj _ _ c___spec_l1Rd__next.eq_1,zz,tK,zR,zQ,zI,zK,zJ,zT,zL,yc,↓reduceIte,Nat.reduceMul,Nat.reduceAdd,Nat.reduceSub,Nat.reduceEqDiff,Nat.reduceBEq,Nat.reduceLeDiff,Nat.reduceLT,reduceCtorEq,Int.reduceAdd,Int.reduceSub,Int.reduceToNat,Int.reduceNeg,Int.reduceEq,Int.reduceLT,Int.reduceLE]
def lz (E:En) (L:(List Int)→Int→Option (Int×List Int×Int)):Prop:=E.Γ.mu 67=false∧(∀ (a0_b:List Int) (a0_p:Int),E.Γ 67 [.box [.d (zf c8 a0_b),.d (.int .i64 a0_p)]]=(L a0_b a0_p).bind fun r=>some (.ret (.d (.int .i64 r.1)) [[zf (c8) r.2.1,.int .i64 r.2.2]]))
def b0_spec_l1Shape:Cd:=
 sq (sq (r [0,3,4,5,15] [o 9 .mv [t 5],o 10 (lit 3 1 6) [i 0,i 1,i 1,i 2,i 2,i 3],o 11 .mv [t 3],o 12 (.bin .rem) [t 11,i 6],o 13 (.ia 1) [t 10,t 12],o 14 (.ld none) [t 13],o 15 (.bin .lss) [t 9,t 14]])
  (.cond (t 15) (.skip) (.exit 0)))
 (sq (.block 1 (r [0,3,4,5] [o 18 .mv [t 4],o 19 .mv [t 3],o 20 (.bin .quo) [t 19,i 6],o 21 .mv [t 5],o 22 (.bin .mul) [t 21,i 2],o 23 (.bin .add) [t 20,t 22],o 24 (.bin .rem) [t 23,i 5],o 25 (lit 3 1 1) [t 24],o 26 (.app 3 1 8) [t 18,t 25],o 4 .mv [t 26]]))
  (r [0,3,4,5] [o 16 .mv [t 5],o 17 (.bin .add) [t 16,i 1],o 5 .mv [t 17]]))
def k1_spec_l1Shape:Cd:=
 sq (sq (r [0,3,4,28] [o 27 .mv [t 3],o 28 (.bin .geq) [t 27,i 248]])
  (.cond (t 28) (sq (r [0,2] [o 29 .mv [t 3],o 30 (.bin .rem) [t 29,i 2],o 31 (.bin .add) [i 1,t 30],o 32 (.bin .quo) [i 1000,t 31],o 33 (lit 3 1 1) [t 32],o 2 .mv [t 33]])
    (.ret)) (.skip)))
 (sq (r [0,2] [o 34 .mv [t 4],o 2 .mv [t 34]])
  (.ret))
def c_spec_l1Shape:Cd:=
 sq (r [0] [o 2 .mv [n]])
 (sq (r [0,3] [o 6 .mv [t 0],o 7 (.call 67) [t 6],o 3 .mv [t 7]])
  (sq (r [0,3,4] [o 8 (lit 3 1 0) [],o 4 .mv [t 8]])
   (sq (sq (r [0,3,4,5] [o 5 .mv [i 0]])
     (.block 0 (.loop [0,3,4,5] b0_spec_l1Shape))) k1_spec_l1Shape)))
def t8:List RV:=[.tmp 2]
def xH (yp:(List Int)→Int→Option (Int×List Int×Int)):Nat→Int→Int→(List Int)→Int→(List Int)→Option (List Int×List Int×Int)
 | 0,_,_,_,_,_=>none
 | m0+1,x3,x5,o0_0,o0_1,o256=>
   if 0 ≤ Int.tmod x3 6∧Int.tmod x3 6 < 6 then (if Int.toNat (Int.tmod x3 6)=0 then (if x5 < 0 then (if yu 8 (List.length (o256++[Int.tmod (w64 (w64 (Int.tdiv x3 6)+w64 (x5 * 2))) 5])) then xH yp m0 x3 (w64 (x5+1)) o0_0 o0_1 (o256++[Int.tmod (w64 (w64 (Int.tdiv x3 6)+w64 (x5 * 2))) 5])
      else none)
    else (if 248 ≤ x3 then (if w64 (1+Int.tmod x3 2)=0 then none
     else some (([w64 (Int.tdiv 1000 (w64 (1+Int.tmod x3 2)))],o0_0,o0_1)))
     else some ((o256,o0_0,o0_1))))
    else (if Int.toNat (Int.tmod x3 6)=1 then (if x5 < 1 then (if yu 8 (List.length (o256++[Int.tmod (w64 (w64 (Int.tdiv x3 6)+w64 (x5 * 2))) 5])) then xH yp m0 x3 (w64 (x5+1)) o0_0 o0_1 (o256++[Int.tmod (w64 (w64 (Int.tdiv x3 6)+w64 (x5 * 2))) 5])
      else none)
     else (if 248 ≤ x3 then (if w64 (1+Int.tmod x3 2)=0 then none
      else some (([w64 (Int.tdiv 1000 (w64 (1+Int.tmod x3 2)))],o0_0,o0_1)))
      else some ((o256,o0_0,o0_1))))
     else (if Int.toNat (Int.tmod x3 6)=2 then (if x5 < 1 then (if yu 8 (List.length (o256++[Int.tmod (w64 (w64 (Int.tdiv x3 6)+w64 (x5 * 2))) 5])) then xH yp m0 x3 (w64 (x5+1)) o0_0 o0_1 (o256++[Int.tmod (w64 (w64 (Int.tdiv x3 6)+w64 (x5 * 2))) 5])
       else none)
      else (if 248 ≤ x3 then (if w64 (1+Int.tmod x3 2)=0 then none
       else some (([w64 (Int.tdiv 1000 (w64 (1+Int.tmod x3 2)))],o0_0,o0_1)))
       else some ((o256,o0_0,o0_1))))
      else (if Int.toNat (Int.tmod x3 6)=3 then (if x5 < 2 then (if yu 8 (List.length (o256++[Int.tmod (w64 (w64 (Int.tdiv x3 6)+w64 (x5 * 2))) 5])) then xH yp m0 x3 (w64 (x5+1)) o0_0 o0_1 (o256++[Int.tmod (w64 (w64 (Int.tdiv x3 6)+w64 (x5 * 2))) 5])
        else none)
       else (if 248 ≤ x3 then (if w64 (1+Int.tmod x3 2)=0 then none
        else some (([w64 (Int.tdiv 1000 (w64 (1+Int.tmod x3 2)))],o0_0,o0_1)))
        else some ((o256,o0_0,o0_1))))
       else (if Int.toNat (Int.tmod x3 6)=4 then (if x5 < 2 then (if yu 8 (List.length (o256++[Int.tmod (w64 (w64 (Int.tdiv x3 6)+w64 (x5 * 2))) 5])) then xH yp m0 x3 (w64 (x5+1)) o0_0 o0_1 (o256++[Int.tmod (w64 (w64 (Int.tdiv x3 6)+w64 (x5 * 2))) 5])
         else none)
        else (if 248 ≤ x3 then (if w64 (1+Int.tmod x3 2)=0 then none
         else some (([w64 (Int.tdiv 1000 (w64 (1+Int.tmod x3 2)))],o0_0,o0_1)))
         else some ((o256,o0_0,o0_1))))
        else (if Int.toNat (Int.tmod x3 6)=5 then (if x5 < 3 then (if yu 8 (List.length (o256++[Int.tmod (w64 (w64 (Int.tdiv x3 6)+w64 (x5 * 2))) 5])) then xH yp m0 x3 (w64 (x5+1)) o0_0 o0_1 (o256++[Int.tmod (w64 (w64 (Int.tdiv x3 6)+w64 (x5 * 2))) 5])
          else none)
         else (if 248 ≤ x3 then (if w64 (1+Int.tmod x3 2)=0 then none
          else some (([w64 (Int.tdiv 1000 (w64 (1+Int.tmod x3 2)))],o0_0,o0_1)))
          else some ((o256,o0_0,o0_1))))
         else none))))))
   else none
def oq (yp:(List Int)→Int→Option (Int×List Int×Int)) (N:Nat) (a0_b:List Int) (a0_p:Int):Option (List Int×List Int×Int):=
 (yp a0_b a0_p).bind fun y0=>
 xH yp N y0.fst 0 y0.snd.fst y0.snd.snd []
theorem Zh (E:En) (hy:Hy E [0] [0] [(0,.box)] t8 none (fun y=>nocap y) zl) (yp:(List Int)→Int→Option (Int×List Int×Int)) (h___spec_l1Rd__next:lz E yp):∀ (m0:Nat) (x3:Int) (x5:Int) (o0_0:List Int) (o0_1:Int) (o256:List Int),gH E [0,3,4,5] b0_spec_l1Shape [KJ.b 0,KJ.c k1_spec_l1Shape] m0 ⟨zw [(0,A.adr 0 1 0),(3,.d (.int .i64 x3)),(4,A.row 256 1),(5,.d (.int .i64 x5))],zF [(0,⟨1,.box [.d (zf (c8) o0_0),.d (.int .i64 o0_1)],false⟩),(256,⟨1,yg (cI) 3 none o256,false⟩)]⟩=(xH yp m0 x3 x5 o0_0 o0_1 o256).bind fun r=>some (.ret (zo (cI) 3 none false r.1) [[zf (c8) r.2.1,.int .i64 r.2.2]]):=by
 intro m0
 induction m0 with
 | zero=>intros; rfl
 | succ m0 ih=>
   intros
   simp (config:={maxSteps:=40000000}) only [↓yd,zV,yf,ya,rI,rS,rB,r8,rLI,yb,ye,hy.p,hy.l,hy.k,hy.r,hy.d,hy.w,hy.f,zl,oid,t8,↓zj _ _ b0_spec_l1Shape.eq_1,↓zj _ _ k1_spec_l1Shape.eq_1,↓zj _ _ c_spec_l1Shape.eq_1,h___spec_l1Rd__next.2,h___spec_l1Rd__next.1,xb,ih,zz,xH,zR,zQ,zI,zK,zJ,zT,zL,yc,↓reduceIte,Nat.reduceMul,Nat.reduceAdd,Nat.reduceSub,Nat.reduceEqDiff,Nat.reduceBEq,Nat.reduceLeDiff,Nat.reduceLT,reduceCtorEq,Int.reduceAdd,Int.reduceSub,Int.reduceToNat,Int.reduceNeg,Int.reduceEq,Int.reduceLT,Int.reduceLE]
theorem VN (E:En) (hy:Hy E [0] [0] [(0,.box)] t8 none (fun y=>nocap y) zl) (yp:(List Int)→Int→Option (Int×List Int×Int)) (h___spec_l1Rd__next:lz E yp) (a0_b:List Int) (a0_p:Int):G E c_spec_l1Shape [] ⟨zw [(0,.adr 0 1 0)],zF [(0,⟨1,.box [.d (zf c8 a0_b),.d (.int .i64 a0_p)],false⟩)]⟩=(oq yp E.n a0_b a0_p).bind fun r=>some (.ret (zo (cI) 3 none false r.1) [[zf (c8) r.2.1,.int .i64 r.2.2]]):=by
 simp (config:={maxSteps:=40000000}) only [↓yd,zV,yf,ya,rI,rS,rB,r8,rLI,yb,ye,hy.p,hy.l,hy.k,hy.r,hy.d,hy.w,hy.f,zl,oid,t8,↓zj _ _ b0_spec_l1Shape.eq_1,↓zj _ _ k1_spec_l1Shape.eq_1,↓zj _ _ c_spec_l1Shape.eq_1,h___spec_l1Rd__next.2,h___spec_l1Rd__next.1,zz,oq,Zh E hy yp h___spec_l1Rd__next,zR,zQ,zI,zK,zJ,zT,zL,yc,↓reduceIte,Nat.reduceMul,Nat.reduceAdd,Nat.reduceSub,Nat.reduceEqDiff,Nat.reduceBEq,Nat.reduceLeDiff,Nat.reduceLT,reduceCtorEq,Int.reduceAdd,Int.reduceSub,Int.reduceToNat,Int.reduceNeg,Int.reduceEq,Int.reduceLT,Int.reduceLE]
def W9 (E:En) (L:(List Int)→Int→Option (List Int×List Int×Int)):Prop:=E.Γ.mu 31=false∧(∀ (a0_b:List Int) (a0_p:Int),E.Γ 31 [.box [.d (zf c8 a0_b),.d (.int .i64 a0_p)]]=(L a0_b a0_p).bind fun r=>some (.ret (zo (cI) 3 none false r.1) [[zf (c8) r.2.1,.int .i64 r.2.2]]))
def b0_spec_l1Product:Cd:=
 sq (sq (r [0,3,4,8] [o 5 .mv [t 4],o 6 .mv [t 0],o 7 (.len false) [t 6],o 8 (.bin .lss) [t 5,t 7]])
  (.cond (t 8) (.skip) (.exit 0)))
 (sq (.block 1 (sq (r [0,3,4] [o 11 .mv [t 3],o 12 .mv [t 0],o 13 .mv [t 4],o 14 (.ia 1) [t 12,t 13],o 15 (.ld none) [t 14],o 16 (.bin .mul) [t 11,t 15],o 3 .mv [t 16]])
   (sq (r [0,3,4,18] [o 17 .mv [t 3],o 18 (.bin .gtr) [t 17,i 1000]])
    (.cond (t 18) (r [0,3,4] [o 3 .mv [i 1001]]) (.skip)))))
  (r [0,3,4] [o 9 .mv [t 4],o 10 (.bin .add) [t 9,i 1],o 4 .mv [t 10]]))
def k1_spec_l1Product:Cd:=
 sq (r [2] [o 19 .mv [t 3],o 2 .mv [t 19]])
 (.ret)
def c_spec_l1Product:Cd:=
 sq (r [0] [o 2 .mv [i 0]])
 (sq (r [0,3] [o 3 .mv [i 1]])
  (sq (sq (r [0,3,4] [o 4 .mv [i 0]])
    (.block 0 (.loop [0,3,4] b0_spec_l1Product))) k1_spec_l1Product))
def uO:List RV:=[.tmp 2]
def vn:Nat→(List Int)→Int→Int→Option (Int)
 | 0,_,_,_=>none
 | m0+1,x0,x3,x4=>
   if x4 < (↑(List.length x0):Int) then ((idx x0 x4).bind fun y0=>
    if 1000 < w64 (x3 * y0) then vn m0 x0 1001 (w64 (x4+1))
    else vn m0 x0 (w64 (x3 * y0)) (w64 (x4+1)))
   else some x3
def nF (N:Nat) (a0:List Int):Option (Int):=
 vn N a0 1 0
theorem bK (E:En) (hy:Hy E [] [] [] uO none (fun y=>nocap y) zl):∀ (m0:Nat) (x0:List Int) (x3:Int) (x4:Int),gH E [0,3,4] b0_spec_l1Product [KJ.b 0,KJ.c k1_spec_l1Product] m0 ⟨zw [(0,.d (zf (cI) x0)),(3,.d (.int .i64 x3)),(4,.d (.int .i64 x4))],zF []⟩=(vn m0 x0 x3 x4).bind fun r=>some (.ret (.d (.int .i64 r)) []):=by
 intro m0
 induction m0 with
 | zero=>intros; rfl
 | succ m0 ih=>
   intros
   simp (config:={maxSteps:=40000000}) only [↓yd,zV,yf,ya,rI,rS,rB,r8,rLI,yb,ye,hy.p,hy.l,hy.k,hy.r,hy.d,hy.w,hy.f,zl,oid,uO,↓zj _ _ b0_spec_l1Product.eq_1,↓zj _ _ k1_spec_l1Product.eq_1,↓zj _ _ c_spec_l1Product.eq_1,xb,ih,zz,vn,zR,zQ,zI,zK,zJ,zT,zL,yc,↓reduceIte,Nat.reduceMul,Nat.reduceAdd,Nat.reduceSub,Nat.reduceEqDiff,Nat.reduceBEq,Nat.reduceLeDiff,Nat.reduceLT,reduceCtorEq,Int.reduceAdd,Int.reduceSub,Int.reduceToNat,Int.reduceNeg,Int.reduceEq,Int.reduceLT,Int.reduceLE]
theorem XH (E:En) (hy:Hy E [] [] [] uO none (fun y=>nocap y) zl) (a0:List Int):G E c_spec_l1Product [] ⟨zw [(0,.d (zf cI a0))],zF []⟩=(nF E.n a0).bind fun r=>some (.ret (.d (.int .i64 r)) []):=by
 simp (config:={maxSteps:=40000000}) only [↓yd,zV,yf,ya,rI,rS,rB,r8,rLI,yb,ye,hy.p,hy.l,hy.k,hy.r,hy.d,hy.w,hy.f,zl,oid,uO,↓zj _ _ b0_spec_l1Product.eq_1,↓zj _ _ k1_spec_l1Product.eq_1,↓zj _ _ c_spec_l1Product.eq_1,zz,nF,bK E hy,zR,zQ,zI,zK,zJ,zT,zL,yc,↓reduceIte,Nat.reduceMul,Nat.reduceAdd,Nat.reduceSub,Nat.reduceEqDiff,Nat.reduceBEq,Nat.reduceLeDiff,Nat.reduceLT,reduceCtorEq,Int.reduceAdd,Int.reduceSub,Int.reduceToNat,Int.reduceNeg,Int.reduceEq,Int.reduceLT,Int.reduceLE]
def wl (E:En) (L:(List Int)→Option (Int)):Prop:=E.Γ.mu 92=false∧(∀ (a0:List Int),E.Γ 92 [.d (zf cI a0)]=(L a0).bind fun r=>some (.ret (.d (.int .i64 r)) []))
def c_spec_l1Cell:Cd:=
 sq (r [0] [o 2 .mv [i 0]])
 (sq (r [0,3] [o 4 .mv [t 0],o 5 (.call 67) [t 4],o 3 .mv [t 5]])
  (sq (sq (r [0,3,7] [o 6 .mv [t 3],o 7 (.bin .eql) [t 6,i 255]])
    (.cond (t 7) (sq (r [0,2] [o 2 .mv [i 3000000000]])
      (.ret)) (.skip)))
   (sq (sq (r [0,3,9] [o 8 .mv [t 3],o 9 (.bin .eql) [t 8,i 254]])
     (.cond (t 9) (sq (r [0,2] [o 2 .mv [i (-3000000000)]])
       (.ret)) (.skip)))
    (sq (sq (r [0,3,11] [o 10 .mv [t 3],o 11 (.bin .geq) [t 10,i 250]])
      (.cond (t 11) (sq (r [0,2] [o 12 .mv [t 3],o 13 (.bin .mul) [t 12,i 11000007],o 2 .mv [t 13]])
        (.ret)) (.skip)))
     (sq (sq (r [0,3,15] [o 14 .mv [t 3],o 15 (.bin .geq) [t 14,i 220]])
       (.cond (t 15) (sq (r [0,2] [o 16 .mv [t 3],o 17 (.bin .sub) [i 220,t 16],o 2 .mv [t 17]])
         (.ret)) (.skip)))
      (sq (r [0,2] [o 18 .mv [t 3],o 19 (.bin .rem) [t 18,i 7],o 2 .mv [t 19]])
       (.ret)))))))
def mz:List RV:=[.tmp 2]
def m6 (yp:(List Int)→Int→Option (Int×List Int×Int)) (N:Nat) (a0_b:List Int) (a0_p:Int):Option (Int×List Int×Int):=
 (yp a0_b a0_p).bind fun y0=>
 if y0.fst=255 then some ((3000000000,y0.snd.fst,y0.snd.snd))
 else (if y0.fst=254 then some ((-3000000000,y0.snd.fst,y0.snd.snd))
  else (if 250 ≤ y0.fst then some ((w64 (y0.fst * 11000007),y0.snd.fst,y0.snd.snd))
   else (if 220 ≤ y0.fst then some ((w64 (220 - y0.fst),y0.snd.fst,y0.snd.snd))
    else some ((Int.tmod y0.fst 7,y0.snd.fst,y0.snd.snd)))))
theorem UZ (E:En) (hy:Hy E [0] [0] [(0,.box)] mz none (fun y=>nocap y) zl) (yp:(List Int)→Int→Option (Int×List Int×Int)) (h___spec_l1Rd__next:lz E yp) (a0_b:List Int) (a0_p:Int):G E c_spec_l1Cell [] ⟨zw [(0,.adr 0 1 0)],zF [(0,⟨1,.box [.d (zf c8 a0_b),.d (.int .i64 a0_p)],false⟩)]⟩=(m6 yp E.n a0_b a0_p).bind fun r=>some (.ret (.d (.int .i64 r.1)) [[zf (c8) r.2.1,.int .i64 r.2.2]]):=by
 simp (config:={maxSteps:=40000000}) only [↓yd,zV,yf,ya,rI,rS,rB,r8,rLI,yb,ye,hy.p,hy.l,hy.k,hy.r,hy.d,hy.w,hy.f,zl,oid,mz,↓zj _ _ c_spec_l1Cell.eq_1,h___spec_l1Rd__next.2,h___spec_l1Rd__next.1,zz,m6,zR,zQ,zI,zK,zJ,zT,zL,yc,↓reduceIte,Nat.reduceMul,Nat.reduceAdd,Nat.reduceSub,Nat.reduceEqDiff,Nat.reduceBEq,Nat.reduceLeDiff,Nat.reduceLT,reduceCtorEq,Int.reduceAdd,Int.reduceSub,Int.reduceToNat,Int.reduceNeg,Int.reduceEq,Int.reduceLT,Int.reduceLE]
def aB (E:En) (L:(List Int)→Int→Option (Int×List Int×Int)):Prop:=E.Γ.mu 93=false∧(∀ (a0_b:List Int) (a0_p:Int),E.Γ 93 [.box [.d (zf c8 a0_b),.d (.int .i64 a0_p)]]=(L a0_b a0_p).bind fun r=>some (.ret (.d (.int .i64 r.1)) [[zf (c8) r.2.1,.int .i64 r.2.2]]))
def b0_spec_l1Fill:Cd:=
 sq (sq (r [0,1,4,5,6,13] [o 10 .mv [t 6],o 11 .mv [t 1],o 12 (.call 92) [t 11],o 13 (.bin .lss) [t 10,t 12]])
  (.cond (t 13) (.skip) (.exit 0)))
 (sq (.block 1 (rd [] [0,1,4,5,6] [o 16 (.fa 1) [t 5],o 17 (.ld none) [t 16],o 18 .mv [t 0],ap [] false [5,16] (o 19 (.call 93) [t 18]),ap [] false [5,16] (o 20 (lit 3 1 1) [t 19]),o 21 (.app 3 1 8) [t 17,t 20],o 22 (.fa 1) [t 5],e (.st 1) [t 22,t 21]]))
  (r [0,1,4,5,6] [o 14 .mv [t 6],o 15 (.bin .add) [t 14,i 1],o 6 .mv [t 15]]))
def k1_spec_l1Fill:Cd:=
 sq (r [0,4] [o 23 (.ld (some 2)) [t 5],e (.st 2) [t 4,t 23]])
 (.ret)
def c_spec_l1Fill:Cd:=
 sq (r [0,1,4] [o 4 (.alloc [.nil,.nil]) []])
 (sq (r [0,1,4,5] [o 7 .mv [t 1],o 8 (lit 3 1 0) [],o 9 (.bld [.nil,.nil] [(0,1),(1,1)]) [t 7,t 8],o 5 (.alloc [.nil,.nil]) [],e (.st 2) [t 5,t 9]])
  (sq (sq (r [0,1,4,5,6] [o 6 .mv [i 0]])
    (.block 0 (.loop [0,1,4,5,6] b0_spec_l1Fill))) k1_spec_l1Fill))
def sM:List RV:=[.cell 4 (some 2)]
def tN (zB:(List Int)→Option (Int)) (w9:(List Int)→Int→Option (Int×List Int×Int)):Nat→(List Int)→Int→(List Int)→Int→(List Int)→(List Int)→Option (List Int×List Int×List Int×Int)
 | 0,_,_,_,_,_,_=>none
 | m0+1,x1,x6,o0_0,o0_1,o320_0,o322=>
   (zB x1).bind fun y0=>
   if x6 < y0 then ((w9 o0_0 o0_1).bind fun y1=>
    if yu 8 (List.length (o322++[y1.fst])) then tN zB w9 m0 x1 (w64 (x6+1)) y1.snd.fst y1.snd.snd o320_0 (o322++[y1.fst])
    else none)
   else some ((o320_0,o322,o0_0,o0_1))
def iq (zB:(List Int)→Option (Int)) (w9:(List Int)→Int→Option (Int×List Int×Int)) (N:Nat) (a0_b:List Int) (a0_p:Int) (a1:List Int):Option (List Int×List Int×List Int×Int):=
 tN zB w9 N a1 0 a0_b a0_p a1 []
theorem Yp (E:En) (hy:Hy E [0] [0] [(0,.box)] sM none (fun y=>nocap y) zl) (zB:(List Int)→Option (Int)) (h_spec_l1Product:wl E zB) (w9:(List Int)→Int→Option (Int×List Int×Int)) (h_spec_l1Cell:aB E w9):∀ (m0:Nat) (x1:List Int) (x6:Int) (o0_0:List Int) (o0_1:Int) (o320_0:List Int) (o322:List Int),gH E [0,1,4,5,6] b0_spec_l1Fill [KJ.b 0,KJ.c k1_spec_l1Fill] m0 ⟨zw [(0,A.adr 0 1 0),(1,.d (zf (cI) x1)),(4,A.adr 256 1 0),(5,A.adr 320 1 0),(6,.d (.int .i64 x6))],zF [(0,⟨1,.box [.d (zf (c8) o0_0),.d (.int .i64 o0_1)],false⟩),(256,⟨1,.box [A.nil,A.nil],false⟩),(320,⟨1,.box [.d (zf (cI) o320_0),A.row 322 1],false⟩),(322,⟨1,yg (cI) 3 none o322,false⟩)]⟩=(tN zB w9 m0 x1 x6 o0_0 o0_1 o320_0 o322).bind fun r=>some (.ret (.agg [.d (zf (cI) r.1),zo (cI) 3 none false r.2.1]) [[zf (c8) r.2.2.1,.int .i64 r.2.2.2]]):=by
 intro m0
 induction m0 with
 | zero=>intros; rfl
 | succ m0 ih=>
   intros
   simp (config:={maxSteps:=40000000}) only [↓yd,zV,yf,ya,rI,rS,rB,r8,rLI,yb,ye,hy.p,hy.l,hy.k,hy.r,hy.d,hy.w,hy.f,zl,oid,sM,↓zj _ _ b0_spec_l1Fill.eq_1,↓zj _ _ k1_spec_l1Fill.eq_1,↓zj _ _ c_spec_l1Fill.eq_1,h_spec_l1Product.2,h_spec_l1Product.1,h_spec_l1Cell.2,h_spec_l1Cell.1,xb,ih,zz,tN,zR,zQ,zI,zK,zJ,zT,zL,yc,↓reduceIte,Nat.reduceMul,Nat.reduceAdd,Nat.reduceSub,Nat.reduceEqDiff,Nat.reduceBEq,Nat.reduceLeDiff,Nat.reduceLT,reduceCtorEq,Int.reduceAdd,Int.reduceSub,Int.reduceToNat,Int.reduceNeg,Int.reduceEq,Int.reduceLT,Int.reduceLE]
theorem UV (E:En) (hy:Hy E [0] [0] [(0,.box)] sM none (fun y=>nocap y) zl) (zB:(List Int)→Option (Int)) (h_spec_l1Product:wl E zB) (w9:(List Int)→Int→Option (Int×List Int×Int)) (h_spec_l1Cell:aB E w9) (a0_b:List Int) (a0_p:Int) (a1:List Int):G E c_spec_l1Fill [] ⟨zw [(0,.adr 0 1 0),(1,.d (zf cI a1))],zF [(0,⟨1,.box [.d (zf c8 a0_b),.d (.int .i64 a0_p)],false⟩)]⟩=(iq zB w9 E.n a0_b a0_p a1).bind fun r=>some (.ret (.agg [.d (zf (cI) r.1),zo (cI) 3 none false r.2.1]) [[zf (c8) r.2.2.1,.int .i64 r.2.2.2]]):=by
 simp (config:={maxSteps:=40000000}) only [↓yd,zV,yf,ya,rI,rS,rB,r8,rLI,yb,ye,hy.p,hy.l,hy.k,hy.r,hy.d,hy.w,hy.f,zl,oid,sM,↓zj _ _ b0_spec_l1Fill.eq_1,↓zj _ _ k1_spec_l1Fill.eq_1,↓zj _ _ c_spec_l1Fill.eq_1,h_spec_l1Product.2,h_spec_l1Product.1,h_spec_l1Cell.2,h_spec_l1Cell.1,zz,iq,Yp E hy zB h_spec_l1Product w9 h_spec_l1Cell,zR,zQ,zI,zK,zJ,zT,zL,yc,↓reduceIte,Nat.reduceMul,Nat.reduceAdd,Nat.reduceSub,Nat.reduceEqDiff,Nat.reduceBEq,Nat.reduceLeDiff,Nat.reduceLT,reduceCtorEq,Int.reduceAdd,Int.reduceSub,Int.reduceToNat,Int.reduceNeg,Int.reduceEq,Int.reduceLT,Int.reduceLE]
def Ti (E:En) (L:(List Int)→Int→(List Int)→Option (List Int×List Int×List Int×Int)):Prop:=E.Γ.mu 32=false∧(∀ (a0_b:List Int) (a0_p:Int) (a1:List Int),E.Γ 32 [.box [.d (zf c8 a0_b),.d (.int .i64 a0_p)],.d (zf cI a1)]=(L a0_b a0_p a1).bind fun r=>some (.ret (.agg [.d (zf (cI) r.1),zo (cI) 3 none false r.2.1]) [[zf (c8) r.2.2.1,.int .i64 r.2.2.2]]))
def c_spec_l2Copy:Cd:=
 sq (r [0] [o 2 .mv [n]])
 (sq (r [0,3] [o 4 (lit 3 1 0) [],o 3 .mv [t 4]])
  (sq (r [2] [o 5 .mv [t 3],o 6 .mv [t 0],o 7 (.app 3 1 8) [t 5,t 6],o 2 .mv [t 7]])
   (.ret)))
def mY:List RV:=[.tmp 2]
def nR (N:Nat) (a0:List Int):Option (List Int):=
 if yu 8 (List.length a0) then some a0
 else none
theorem Tv (E:En) (hy:Hy E [] [] [] mY none (fun y=>nocap y) zl) (a0:List Int):G E c_spec_l2Copy [] ⟨zw [(0,.d (zf cI a0))],zF []⟩=(nR E.n a0).bind fun r=>some (.ret (zo (cI) 3 none false r) []):=by
 simp (config:={maxSteps:=40000000}) only [↓yd,zV,yf,ya,rI,rS,rB,r8,rLI,yb,ye,hy.p,hy.l,hy.k,hy.r,hy.d,hy.w,hy.f,zl,oid,mY,↓zj _ _ c_spec_l2Copy.eq_1,zz,nR,zR,zQ,zI,zK,zJ,zT,zL,yc,↓reduceIte,Nat.reduceMul,Nat.reduceAdd,Nat.reduceSub,Nat.reduceEqDiff,Nat.reduceBEq,Nat.reduceLeDiff,Nat.reduceLT,reduceCtorEq,Int.reduceAdd,Int.reduceSub,Int.reduceToNat,Int.reduceNeg,Int.reduceEq,Int.reduceLT,Int.reduceLE]
def ve (E:En) (L:(List Int)→Option (List Int)):Prop:=E.Γ.mu 33=false∧(∀ (a0:List Int),E.Γ 33 [.d (zf cI a0)]=(L a0).bind fun r=>some (.ret (zo (cI) 3 none false r) []))
def c_spec_TwoArrays:Cd:=
 sq (r [0,2,3] [o 2 (.alloc [.nil,.nil]) [],o 3 (.alloc [.nil,.nil]) []])
 (sq (r [2,3,4] [o 7 .mv [t 0],o 8 (.call 30) [t 7],o 4 .mv [t 8]])
  (sq (r [2,3,4,5] [o 9 .mv [t 4],o 10 (.call 31) [t 9],o 5 .mv [t 10]])
   (sq (r [2,3,4,5,6] [o 11 .mv [t 4],o 12 .mv [t 5],o 13 (.call 32) [t 11,t 12],o 6 (.alloc [.nil,.nil]) [],e (.st 2) [t 6,t 13]])
    (sq (rd [] [2,3] [o 14 (.ld (some 2)) [t 6],o 15 .mv [t 4],o 16 .mv [t 5],ap [] false [6] (o 17 (.call 33) [t 16]),ap [] false [6] (o 18 (.call 32) [t 15,t 17]),e (.st 2) [t 2,t 14],e (.st 2) [t 3,t 18]])
     (.ret)))))
def qH:List RV:=[.cell 2 (some 2),.cell 3 (some 2)]
def rF (ix:(List Int)→Option (List Int×Int)) (jp:(List Int)→Int→Option (List Int×List Int×Int)) (mL:(List Int)→Int→(List Int)→Option (List Int×List Int×List Int×Int)) (zC:(List Int)→Option (List Int)) (N:Nat) (a0:List Int):Option (List Int×List Int×List Int×List Int):=
 (ix a0).bind fun y0=>
 (jp y0.fst y0.snd).bind fun y1=>
 (mL y1.snd.fst y1.snd.snd y1.fst).bind fun y2=>
 (zC y1.fst).bind fun y3=>
 (mL y2.snd.snd.fst y2.snd.snd.snd y3).bind fun y4=>
 some ((y2.fst,y2.snd.fst,y4.fst,y4.snd.fst))
theorem XB (E:En) (hy:Hy E [] [] [] qH none (fun y=>nocap y) zl) (ix:(List Int)→Option (List Int×Int)) (h_spec_l1Open:UX E ix) (jp:(List Int)→Int→Option (List Int×List Int×Int)) (h_spec_l1Shape:W9 E jp) (mL:(List Int)→Int→(List Int)→Option (List Int×List Int×List Int×Int)) (h_spec_l1Fill:Ti E mL) (zC:(List Int)→Option (List Int)) (h_spec_l2Copy:ve E zC) (a0:List Int):G E c_spec_TwoArrays [] ⟨zw [(0,.d (zf c8 a0))],zF []⟩=(rF ix jp mL zC E.n a0).bind fun r=>some (.ret (.tup [.agg [.d (zf (cI) r.1),zo (cI) 3 none false r.2.1],.agg [.d (zf (cI) r.2.2.1),zo (cI) 3 none false r.2.2.2]]) []):=by
 simp (config:={maxSteps:=40000000}) only [↓yd,zV,yf,ya,rI,rS,rB,r8,rLI,yb,ye,hy.p,hy.l,hy.k,hy.r,hy.d,hy.w,hy.f,zl,oid,qH,↓zj _ _ c_spec_TwoArrays.eq_1,h_spec_l1Open.2,h_spec_l1Open.1,h_spec_l1Shape.2,h_spec_l1Shape.1,h_spec_l1Fill.2,h_spec_l1Fill.1,h_spec_l2Copy.2,h_spec_l2Copy.1,zz,rF,zR,zQ,zI,zK,zJ,zT,zL,yc,↓reduceIte,Nat.reduceMul,Nat.reduceAdd,Nat.reduceSub,Nat.reduceEqDiff,Nat.reduceBEq,Nat.reduceLeDiff,Nat.reduceLT,reduceCtorEq,Int.reduceAdd,Int.reduceSub,Int.reduceToNat,Int.reduceNeg,Int.reduceEq,Int.reduceLT,Int.reduceLE]
def XC (E:En) (L:(List Int)→Option (List Int×List Int×List Int×List Int)):Prop:=E.Γ.mu 5=false∧(∀ (a0:List Int),E.Γ 5 [.d (zf c8 a0)]=(L a0).bind fun r=>some (.ret (.tup [.agg [.d (zf (cI) r.1),zo (cI) 3 none false r.2.1],.agg [.d (zf (cI) r.2.2.1),zo (cI) 3 none false r.2.2.2]]) []))
def c_spec_l2OpOk:Cd:=
 sq (r [0] [o 2 .mv [b false]])
 (sq (r [2] [o 3 .mv [t 0],o 4 (.bin .geq) [t 3,i 1],o 5 .mv [t 4],g 5 true 6 .mv [t 0],g 5 true 7 (.bin .leq) [t 6,i 10],o 8 .pick [t 5,t 7,b false],o 2 .mv [t 8]])
  (.ret))
def nP:List RV:=[.tmp 2]
def nW (N:Nat) (a0:Int):Option (Bool):=
 if 1 ≤ a0 then some (Decidable.decide (a0 ≤ 10))
 else some false
theorem Tf (E:En) (hy:Hy E [] [] [] nP none (fun y=>nocap y) zl) (a0:Int):G E c_spec_l2OpOk [] ⟨zw [(0,.d (.int .i64 a0))],zF []⟩=(nW E.n a0).bind fun r=>some (.ret (.d (.bool r)) []):=by
 simp (config:={maxSteps:=40000000}) only [↓yd,zV,yf,ya,rI,rS,rB,r8,rLI,yb,ye,hy.p,hy.l,hy.k,hy.r,hy.d,hy.w,hy.f,zl,oid,nP,↓zj _ _ c_spec_l2OpOk.eq_1,zz,nW,zR,zQ,zI,zK,zJ,zT,zL,yc,↓reduceIte,Nat.reduceMul,Nat.reduceAdd,Nat.reduceSub,Nat.reduceEqDiff,Nat.reduceBEq,Nat.reduceLeDiff,Nat.reduceLT,reduceCtorEq,Int.reduceAdd,Int.reduceSub,Int.reduceToNat,Int.reduceNeg,Int.reduceEq,Int.reduceLT,Int.reduceLE]
def eh (E:En) (L:Int→Option (Bool)):Prop:=E.Γ.mu 34=false∧(∀ (a0:Int),E.Γ 34 [.d (.int .i64 a0)]=(L a0).bind fun r=>some (.ret (.d (.bool r)) []))
def b0_spec_l1Fits:Cd:=
 sq (sq (r [0,3,10] [o 7 .mv [t 3],o 8 .mv [t 0],o 9 (.len false) [t 8],o 10 (.bin .lss) [t 7,t 9]])
  (.cond (t 10) (.skip) (.exit 0)))
 (sq (.block 1 (sq (r [0,3,24] [o 13 .mv [t 0],o 14 .mv [t 3],o 15 (.ia 1) [t 13,t 14],o 16 (.ld none) [t 15],o 17 (.bin .lss) [t 16,i 0],o 18 .mv [t 17],g 18 false 19 .mv [t 0],g 18 false 20 .mv [t 3],g 18 false 21 (.ia 1) [t 19,t 20],g 18 false 22 (.ld none) [t 21],g 18 false 23 (.bin .gtr) [t 22,i 1000],o 24 .pick [t 18,b true,t 23]])
   (.cond (t 24) (sq (r [2] [o 2 .mv [b false]])
     (.ret)) (.skip))))
  (r [0,3] [o 11 .mv [t 3],o 12 (.bin .add) [t 11,i 1],o 3 .mv [t 12]]))
def k1_spec_l1Fits:Cd:=
 sq (r [2] [o 25 .mv [t 0],o 26 (.call 92) [t 25],o 27 (.bin .leq) [t 26,i 1000],o 2 .mv [t 27]])
 (.ret)
def c_spec_l1Fits:Cd:=
 sq (r [0] [o 2 .mv [b false]])
 (sq (sq (r [0,6] [o 4 .mv [t 0],o 5 (.len false) [t 4],o 6 (.bin .gtr) [t 5,i 3]])
   (.cond (t 6) (sq (r [2] [o 2 .mv [b false]])
     (.ret)) (.skip)))
  (sq (sq (r [0,3] [o 3 .mv [i 0]])
    (.block 0 (.loop [0,3] b0_spec_l1Fits))) k1_spec_l1Fits))
def sK:List RV:=[.tmp 2]
def sf (zB:(List Int)→Option (Int)):Nat→(List Int)→Int→Option (Bool)
 | 0,_,_=>none
 | m0+1,x0,x3=>
   if x3 < (↑(List.length x0):Int) then ((idx x0 x3).bind fun y0=>
    if y0 < 0 then some false
    else ((idx x0 x3).bind fun y1=>
     if 1000 < y1 then some false
     else sf zB m0 x0 (w64 (x3+1))))
   else ((zB x0).bind fun y2=>
    some (Decidable.decide (y2 ≤ 1000)))
def mX (zB:(List Int)→Option (Int)) (N:Nat) (a0:List Int):Option (Bool):=
 if 3 < (↑(List.length a0):Int) then some false
 else sf zB N a0 0
theorem Yu (E:En) (hy:Hy E [] [] [] sK none (fun y=>nocap y) zl) (zB:(List Int)→Option (Int)) (h_spec_l1Product:wl E zB):∀ (m0:Nat) (x0:List Int) (x3:Int),gH E [0,3] b0_spec_l1Fits [KJ.b 0,KJ.c k1_spec_l1Fits] m0 ⟨zw [(0,.d (zf (cI) x0)),(3,.d (.int .i64 x3))],zF []⟩=(sf zB m0 x0 x3).bind fun r=>some (.ret (.d (.bool r)) []):=by
 intro m0
 induction m0 with
 | zero=>intros; rfl
 | succ m0 ih=>
   intros
   simp (config:={maxSteps:=40000000}) only [↓yd,zV,yf,ya,rI,rS,rB,r8,rLI,yb,ye,hy.p,hy.l,hy.k,hy.r,hy.d,hy.w,hy.f,zl,oid,sK,↓zj _ _ b0_spec_l1Fits.eq_1,↓zj _ _ k1_spec_l1Fits.eq_1,↓zj _ _ c_spec_l1Fits.eq_1,h_spec_l1Product.2,h_spec_l1Product.1,xb,ih,zz,sf,zR,zQ,zI,zK,zJ,zT,zL,yc,↓reduceIte,Nat.reduceMul,Nat.reduceAdd,Nat.reduceSub,Nat.reduceEqDiff,Nat.reduceBEq,Nat.reduceLeDiff,Nat.reduceLT,reduceCtorEq,Int.reduceAdd,Int.reduceSub,Int.reduceToNat,Int.reduceNeg,Int.reduceEq,Int.reduceLT,Int.reduceLE]
theorem Tb (E:En) (hy:Hy E [] [] [] sK none (fun y=>nocap y) zl) (zB:(List Int)→Option (Int)) (h_spec_l1Product:wl E zB) (a0:List Int):G E c_spec_l1Fits [] ⟨zw [(0,.d (zf cI a0))],zF []⟩=(mX zB E.n a0).bind fun r=>some (.ret (.d (.bool r)) []):=by
 simp (config:={maxSteps:=40000000}) only [↓yd,zV,yf,ya,rI,rS,rB,r8,rLI,yb,ye,hy.p,hy.l,hy.k,hy.r,hy.d,hy.w,hy.f,zl,oid,sK,↓zj _ _ b0_spec_l1Fits.eq_1,↓zj _ _ k1_spec_l1Fits.eq_1,↓zj _ _ c_spec_l1Fits.eq_1,h_spec_l1Product.2,h_spec_l1Product.1,zz,mX,Yu E hy zB h_spec_l1Product,zR,zQ,zI,zK,zJ,zT,zL,yc,↓reduceIte,Nat.reduceMul,Nat.reduceAdd,Nat.reduceSub,Nat.reduceEqDiff,Nat.reduceBEq,Nat.reduceLeDiff,Nat.reduceLT,reduceCtorEq,Int.reduceAdd,Int.reduceSub,Int.reduceToNat,Int.reduceNeg,Int.reduceEq,Int.reduceLT,Int.reduceLE]
def f0 (E:En) (L:(List Int)→Option (Bool)):Prop:=E.Γ.mu 83=false∧(∀ (a0:List Int),E.Γ 83 [.d (zf cI a0)]=(L a0).bind fun r=>some (.ret (.d (.bool r)) []))
def b0_spec_ArrayOk:Cd:=
 sq (sq (r [1,3,21] [o 17 .mv [t 3],o 18 (.fa 1) [t 1],o 19 (.ld none) [t 18],o 20 (.len false) [t 19],o 21 (.bin .lss) [t 17,t 20]])
  (.cond (t 21) (.skip) (.exit 0)))
 (sq (.block 1 (sq (r [1,3,37] [o 24 (.fa 1) [t 1],o 25 (.ld none) [t 24],o 26 .mv [t 3],o 27 (.ia 1) [t 25,t 26],o 28 (.ld none) [t 27],o 29 (.bin .lss) [t 28,i (-3000000000)],o 30 .mv [t 29],g 30 false 31 (.fa 1) [t 1],g 30 false 32 (.ld none) [t 31],g 30 false 33 .mv [t 3],g 30 false 34 (.ia 1) [t 32,t 33],g 30 false 35 (.ld none) [t 34],g 30 false 36 (.bin .gtr) [t 35,i 3000000000],o 37 .pick [t 30,b true,t 36]])
   (.cond (t 37) (sq (r [2] [o 2 .mv [b false]])
     (.ret)) (.skip))))
  (r [1,3] [o 22 .mv [t 3],o 23 (.bin .add) [t 22,i 1],o 3 .mv [t 23]]))
def k1_spec_ArrayOk:Cd:=
 sq (r [2] [o 2 .mv [b true]])
 (.ret)
def c_spec_ArrayOk:Cd:=
 sq (r [1] [o 1 .box [t 0],o 2 .mv [b false]])
 (sq (sq (rd [] [1,16] [o 4 (.fa 0) [t 1],o 5 (.ld none) [t 4],o 6 (.call 83) [t 5],o 7 .not [t 6],o 8 .mv [t 7],g 8 false 9 (.fa 1) [t 1],g 8 false 10 (.ld none) [t 9],g 8 false 11 (.len false) [t 10],g 8 false 12 (.fa 0) [t 1],g 8 false 13 (.ld none) [t 12],ap [] false [1,8,9,8,10,8] (g 8 false 14 (.call 92) [t 13]),g 8 false 15 (.bin .neq) [t 11,t 14],o 16 .pick [t 8,b true,t 15]])
   (.cond (t 16) (sq (r [2] [o 2 .mv [b false]])
     (.ret)) (.skip)))
  (sq (sq (r [1,3] [o 3 .mv [i 0]])
    (.block 0 (.loop [1,3] b0_spec_ArrayOk))) k1_spec_ArrayOk))
def t5:List RV:=[.tmp 2]
def tj (xD:(List Int)→Option (Bool)) (zB:(List Int)→Option (Int)):Nat→Int→(List Int)→(List Int)→Option (Bool)
 | 0,_,_,_=>none
 | m0+1,x3,o64_0,o64_1=>
   if x3 < (↑(List.length o64_1):Int) then ((idx o64_1 x3).bind fun y0=>
    if y0 < -3000000000 then some false
    else ((idx o64_1 x3).bind fun y1=>
     if 3000000000 < y1 then some false
     else tj xD zB m0 (w64 (x3+1)) o64_0 o64_1))
   else some true
def oE (xD:(List Int)→Option (Bool)) (zB:(List Int)→Option (Int)) (N:Nat) (zg:List Int) (zh:List Int):Option (Bool):=
 (xD zg).bind fun y0=>
 if y0=false then some false
 else ((zB zg).bind fun y1=>
  if (↑(List.length zh):Int)=y1 then tj xD zB N 0 zg zh
  else some false)
theorem Zj (E:En) (hy:Hy E [] [] [] t5 none (fun y=>nocap y) zl) (xD:(List Int)→Option (Bool)) (h_spec_l1Fits:f0 E xD) (zB:(List Int)→Option (Int)) (h_spec_l1Product:wl E zB):∀ (m0:Nat) (x3:Int) (o64_0:List Int) (o64_1:List Int),gH E [1,3] b0_spec_ArrayOk [KJ.b 0,KJ.c k1_spec_ArrayOk] m0 ⟨zw [(1,A.adr 64 1 0),(3,.d (.int .i64 x3))],zF [(64,⟨1,.box [.d (zf (cI) o64_0),.d (zf (cI) o64_1)],false⟩)]⟩=(tj xD zB m0 x3 o64_0 o64_1).bind fun r=>some (.ret (.d (.bool r)) []):=by
 intro m0
 induction m0 with
 | zero=>intros; rfl
 | succ m0 ih=>
   intros
   simp (config:={maxSteps:=40000000}) only [↓yd,zV,yf,ya,rI,rS,rB,r8,rLI,yb,ye,hy.p,hy.l,hy.k,hy.r,hy.d,hy.w,hy.f,zl,oid,t5,↓zj _ _ b0_spec_ArrayOk.eq_1,↓zj _ _ k1_spec_ArrayOk.eq_1,↓zj _ _ c_spec_ArrayOk.eq_1,h_spec_l1Fits.2,h_spec_l1Fits.1,h_spec_l1Product.2,h_spec_l1Product.1,xb,ih,zz,tj,zR,zQ,zI,zK,zJ,zT,zL,yc,↓reduceIte,Nat.reduceMul,Nat.reduceAdd,Nat.reduceSub,Nat.reduceEqDiff,Nat.reduceBEq,Nat.reduceLeDiff,Nat.reduceLT,reduceCtorEq,Int.reduceAdd,Int.reduceSub,Int.reduceToNat,Int.reduceNeg,Int.reduceEq,Int.reduceLT,Int.reduceLE]
theorem VH (E:En) (hy:Hy E [] [] [] t5 none (fun y=>nocap y) zl) (xD:(List Int)→Option (Bool)) (h_spec_l1Fits:f0 E xD) (zB:(List Int)→Option (Int)) (h_spec_l1Product:wl E zB) (zg:List Int) (zh:List Int):G E c_spec_ArrayOk [] ⟨zw [(0,.agg [.d (zf cI zg),.d (zf cI zh)])],zF []⟩=(oE xD zB E.n zg zh).bind fun r=>some (.ret (.d (.bool r)) []):=by
 simp (config:={maxSteps:=40000000}) only [↓yd,zV,yf,ya,rI,rS,rB,r8,rLI,yb,ye,hy.p,hy.l,hy.k,hy.r,hy.d,hy.w,hy.f,zl,oid,t5,↓zj _ _ b0_spec_ArrayOk.eq_1,↓zj _ _ k1_spec_ArrayOk.eq_1,↓zj _ _ c_spec_ArrayOk.eq_1,h_spec_l1Fits.2,h_spec_l1Fits.1,h_spec_l1Product.2,h_spec_l1Product.1,zz,oE,Zj E hy xD h_spec_l1Fits zB h_spec_l1Product,zR,zQ,zI,zK,zJ,zT,zL,yc,↓reduceIte,Nat.reduceMul,Nat.reduceAdd,Nat.reduceSub,Nat.reduceEqDiff,Nat.reduceBEq,Nat.reduceLeDiff,Nat.reduceLT,reduceCtorEq,Int.reduceAdd,Int.reduceSub,Int.reduceToNat,Int.reduceNeg,Int.reduceEq,Int.reduceLT,Int.reduceLE]
def gU (E:En) (L:(List Int)→(List Int)→Option (Bool)):Prop:=E.Γ.mu 35=false∧(∀ (zg:List Int) (zh:List Int),E.Γ 35 [.agg [.d (zf cI zg),.d (zf cI zh)]]=(L zg zh).bind fun r=>some (.ret (.d (.bool r)) []))
def c_spec_l2None:Cd:=
 sq (r [0] [o 2 .mv [i 0],o 3 .mv [b false]])
 (sq (sq (r [0,9] [o 4 .mv [t 0],o 5 (.bin .eql) [t 4,i 3],o 6 .mv [t 5],g 6 false 7 .mv [t 0],g 6 false 8 (.bin .eql) [t 7,i 4],o 9 .pick [t 6,b true,t 8]])
   (.cond (t 9) (sq (r [2,3] [o 2 .mv [i 1],o 3 .mv [b true]])
     (.ret)) (.skip)))
  (sq (sq (r [0,11] [o 10 .mv [t 0],o 11 (.bin .eql) [t 10,i 6]])
    (.cond (t 11) (sq (r [2,3] [o 2 .mv [i 3000000000],o 3 .mv [b true]])
      (.ret)) (.skip)))
   (sq (sq (r [0,13] [o 12 .mv [t 0],o 13 (.bin .eql) [t 12,i 7]])
     (.cond (t 13) (sq (r [2,3] [o 2 .mv [i (-3000000000)],o 3 .mv [b true]])
       (.ret)) (.skip)))
    (sq (r [2,3] [o 14 .mv [t 0],o 15 (.bin .eql) [t 14,i 1],o 16 .mv [t 15],g 16 false 17 .mv [t 0],g 16 false 18 (.bin .eql) [t 17,i 2],o 19 .pick [t 16,b true,t 18],o 20 .mv [t 19],g 20 false 21 .mv [t 0],g 20 false 22 (.bin .eql) [t 21,i 5],o 23 .pick [t 20,b true,t 22],o 2 .mv [i 0],o 3 .mv [t 23]])
     (.ret)))))
def nO:List RV:=[.tmp 2,.tmp 3]
def nV (N:Nat) (a0:Int):Option (Int×Bool):=
 if a0=3 then some ((1,true))
 else (if a0=4 then some ((1,true))
  else (if a0=6 then some ((3000000000,true))
   else (if a0=7 then some ((-3000000000,true))
    else (if a0=1 then some ((0,true))
     else (if a0=2 then some ((0,true))
      else some ((0,Decidable.decide (a0=5))))))))
theorem UL (E:En) (hy:Hy E [] [] [] nO none (fun y=>nocap y) zl) (a0:Int):G E c_spec_l2None [] ⟨zw [(0,.d (.int .i64 a0))],zF []⟩=(nV E.n a0).bind fun r=>some (.ret (.tup [.d (.int .i64 r.1),.d (.bool r.2)]) []):=by
 simp (config:={maxSteps:=40000000}) only [↓yd,zV,yf,ya,rI,rS,rB,r8,rLI,yb,ye,hy.p,hy.l,hy.k,hy.r,hy.d,hy.w,hy.f,zl,oid,nO,↓zj _ _ c_spec_l2None.eq_1,zz,nV,zR,zQ,zI,zK,zJ,zT,zL,yc,↓reduceIte,Nat.reduceMul,Nat.reduceAdd,Nat.reduceSub,Nat.reduceEqDiff,Nat.reduceBEq,Nat.reduceLeDiff,Nat.reduceLT,reduceCtorEq,Int.reduceAdd,Int.reduceSub,Int.reduceToNat,Int.reduceNeg,Int.reduceEq,Int.reduceLT,Int.reduceLE]
def ar (E:En) (L:Int→Option (Int×Bool)):Prop:=E.Γ.mu 94=false∧(∀ (a0:Int),E.Γ 94 [.d (.int .i64 a0)]=(L a0).bind fun r=>some (.ret (.tup [.d (.int .i64 r.1),.d (.bool r.2)]) []))
def c_spec_l2Made:Cd:=
 sq (r [0,1,4] [o 4 (.alloc [.nil,.nil]) [],o 5 .mv [i 0]])
 (sq (sq (r [0,1,4,8] [o 6 .mv [t 0],o 7 (.call 83) [t 6],o 8 .not [t 7]])
   (.cond (t 8) (sq (r [4,5] [o 9 (.bld [.nil,.nil] []) [],e (.st 2) [t 4,t 9],o 5 .mv [i 6]])
     (.ret)) (.skip)))
  (sq (r [4,5] [o 10 .mv [t 0],o 11 .mv [t 1],o 12 (.bld [.nil,.nil] [(0,1),(1,1)]) [t 10,t 11],e (.st 2) [t 4,t 12],o 5 .mv [i 0]])
   (.ret)))
def nZ:List RV:=[.cell 4 (some 2),.tmp 5]
def mo (xD:(List Int)→Option (Bool)) (N:Nat) (a0:List Int) (a1:List Int):Option (Alt (List Int×List Int) (List Int×List Int)):=
 (xD a0).bind fun y0=>
 if y0=false then some ((.a ((a0,a1))))
 else some ((.b ((a0,a1))))
theorem U6 (E:En) (hy:Hy E [0,64] [0,64] [(0,.row 3 1),(64,.row 3 1)] nZ none (fun y=>nocap y) zl) (xD:(List Int)→Option (Bool)) (h_spec_l1Fits:f0 E xD) (a0:List Int) (a1:List Int):G E c_spec_l2Made [] ⟨zw [(0,.row 0 1),(1,.row 64 1)],zF [(0,⟨1,yg cI 3 none a0,false⟩),(64,⟨1,yg cI 3 none a1,false⟩)]⟩=(mo xD E.n a0 a1).bind fun r=>r.on (fun r=>some (.ret (.tup [.agg [.nil,.nil],.d (.int .i64 6)]) [[zf (cI) r.1],[zf (cI) r.2]])) (fun r=>some (.ret (.tup [.agg [.par 0,.par 1],.d (.int .i64 0)]) [[zf (cI) r.1],[zf (cI) r.2]])):=by
 simp (config:={maxSteps:=40000000}) only [↓yd,zV,yf,ya,rI,rS,rB,r8,rLI,yb,ye,hy.p,hy.l,hy.k,hy.r,hy.d,hy.w,hy.f,zl,oid,nZ,↓zj _ _ c_spec_l2Made.eq_1,h_spec_l1Fits.2,h_spec_l1Fits.1,zz,mo,zR,zQ,zI,zK,zJ,zT,zL,yc,↓reduceIte,Nat.reduceMul,Nat.reduceAdd,Nat.reduceSub,Nat.reduceEqDiff,Nat.reduceBEq,Nat.reduceLeDiff,Nat.reduceLT,reduceCtorEq,Int.reduceAdd,Int.reduceSub,Int.reduceToNat,Int.reduceNeg,Int.reduceEq,Int.reduceLT,Int.reduceLE]
def iv (E:En) (L:(List Int)→(List Int)→Option (Alt (List Int×List Int) (List Int×List Int))):Prop:=E.Γ.mu 90=true∧(∀ (a0:List Int) (a1:List Int),E.Γ 90 [zo cI 3 none false a0,zo cI 3 none false a1]=(L a0 a1).bind fun r=>r.on (fun r=>some (.ret (.tup [.agg [.nil,.nil],.d (.int .i64 6)]) [[zf (cI) r.1],[zf (cI) r.2]])) (fun r=>some (.ret (.tup [.agg [.par 0,.par 1],.d (.int .i64 0)]) [[zf (cI) r.1],[zf (cI) r.2]])))
def b0_spec_l2Wide:Cd:=
 sq (sq (r [1,2,4,5,6,14] [o 11 .mv [t 6],o 12 .mv [t 1],o 13 (.call 92) [t 12],o 14 (.bin .lss) [t 11,t 13]])
  (.cond (t 14) (.skip) (.exit 0)))
 (sq (.block 1 (rd [] [1,2,4,5,6] [o 17 (.fa 1) [t 5],o 18 (.ld none) [t 17],o 19 (.fa 1) [t 2],o 20 (.ld none) [t 19],o 21 (.ia 1) [t 20,i 0],o 22 (.ld none) [t 21],ap [] false [5,17] (o 23 (lit 3 1 1) [t 22]),o 24 (.app 3 1 8) [t 18,t 23],o 25 (.fa 1) [t 5],e (.st 1) [t 25,t 24]]))
  (r [1,2,4,5,6] [o 15 .mv [t 6],o 16 (.bin .add) [t 15,i 1],o 6 .mv [t 16]]))
def k1_spec_l2Wide:Cd:=
 sq (r [4] [o 26 (.ld (some 2)) [t 5],e (.st 2) [t 4,t 26]])
 (.ret)
def c_spec_l2Wide:Cd:=
 sq (r [1,2,4] [o 2 .box [t 0],o 4 (.alloc [.nil,.nil]) []])
 (sq (r [1,2,4,5] [o 7 .mv [t 1],o 8 (.call 33) [t 7],o 9 (lit 3 1 0) [],o 10 (.bld [.nil,.nil] [(0,1),(1,1)]) [t 8,t 9],o 5 (.alloc [.nil,.nil]) [],e (.st 2) [t 5,t 10]])
  (sq (sq (r [1,2,4,5,6] [o 6 .mv [i 0]])
    (.block 0 (.loop [1,2,4,5,6] b0_spec_l2Wide))) k1_spec_l2Wide))
def sS:List RV:=[.cell 4 (some 2)]
def tZ (zC:(List Int)→Option (List Int)) (zB:(List Int)→Option (Int)):Nat→(List Int)→Int→(List Int)→(List Int)→(List Int)→(List Int)→Option (List Int×List Int)
 | 0,_,_,_,_,_,_=>none
 | m0+1,x1,x6,o128_0,o128_1,o321,o322=>
   (zB x1).bind fun y0=>
   if x6 < y0 then ((idx o128_1 0).bind fun y1=>
    if yu 8 (List.length (o322++[y1])) then tZ zC zB m0 x1 (w64 (x6+1)) o128_0 o128_1 o321 (o322++[y1])
    else none)
   else some ((o321,o322))
def ma (zC:(List Int)→Option (List Int)) (zB:(List Int)→Option (Int)) (N:Nat) (zg:List Int) (zh:List Int) (a1:List Int):Option (List Int×List Int):=
 (zC a1).bind fun y0=>
 tZ zC zB N a1 0 zg zh y0 []
theorem Yj (E:En) (hy:Hy E [] [] [] sS none (fun y=>nocap y) zl) (zC:(List Int)→Option (List Int)) (h_spec_l2Copy:ve E zC) (zB:(List Int)→Option (Int)) (h_spec_l1Product:wl E zB):∀ (m0:Nat) (x1:List Int) (x6:Int) (o128_0:List Int) (o128_1:List Int) (o321:List Int) (o322:List Int),gH E [1,2,4,5,6] b0_spec_l2Wide [KJ.b 0,KJ.c k1_spec_l2Wide] m0 ⟨zw [(1,.d (zf (cI) x1)),(2,A.adr 128 1 0),(4,A.adr 256 1 0),(5,A.adr 320 1 0),(6,.d (.int .i64 x6))],zF [(128,⟨1,.box [.d (zf (cI) o128_0),.d (zf (cI) o128_1)],false⟩),(256,⟨1,.box [A.nil,A.nil],false⟩),(320,⟨1,.box [A.row 321 1,A.row 322 1],false⟩),(321,⟨1,yg (cI) 3 none o321,false⟩),(322,⟨1,yg (cI) 3 none o322,false⟩)]⟩=(tZ zC zB m0 x1 x6 o128_0 o128_1 o321 o322).bind fun r=>some (.ret (.agg [zo (cI) 3 none false r.1,zo (cI) 3 none false r.2]) []):=by
 intro m0
 induction m0 with
 | zero=>intros; rfl
 | succ m0 ih=>
   intros
   simp (config:={maxSteps:=40000000}) only [↓yd,zV,yf,ya,rI,rS,rB,r8,rLI,yb,ye,hy.p,hy.l,hy.k,hy.r,hy.d,hy.w,hy.f,zl,oid,sS,↓zj _ _ b0_spec_l2Wide.eq_1,↓zj _ _ k1_spec_l2Wide.eq_1,↓zj _ _ c_spec_l2Wide.eq_1,h_spec_l2Copy.2,h_spec_l2Copy.1,h_spec_l1Product.2,h_spec_l1Product.1,xb,ih,zz,tZ,zR,zQ,zI,zK,zJ,zT,zL,yc,↓reduceIte,Nat.reduceMul,Nat.reduceAdd,Nat.reduceSub,Nat.reduceEqDiff,Nat.reduceBEq,Nat.reduceLeDiff,Nat.reduceLT,reduceCtorEq,Int.reduceAdd,Int.reduceSub,Int.reduceToNat,Int.reduceNeg,Int.reduceEq,Int.reduceLT,Int.reduceLE]
theorem UJ (E:En) (hy:Hy E [] [] [] sS none (fun y=>nocap y) zl) (zC:(List Int)→Option (List Int)) (h_spec_l2Copy:ve E zC) (zB:(List Int)→Option (Int)) (h_spec_l1Product:wl E zB) (zg:List Int) (zh:List Int) (a1:List Int):G E c_spec_l2Wide [] ⟨zw [(0,.agg [.d (zf cI zg),.d (zf cI zh)]),(1,.d (zf cI a1))],zF []⟩=(ma zC zB E.n zg zh a1).bind fun r=>some (.ret (.agg [zo (cI) 3 none false r.1,zo (cI) 3 none false r.2]) []):=by
 simp (config:={maxSteps:=40000000}) only [↓yd,zV,yf,ya,rI,rS,rB,r8,rLI,yb,ye,hy.p,hy.l,hy.k,hy.r,hy.d,hy.w,hy.f,zl,oid,sS,↓zj _ _ b0_spec_l2Wide.eq_1,↓zj _ _ k1_spec_l2Wide.eq_1,↓zj _ _ c_spec_l2Wide.eq_1,h_spec_l2Copy.2,h_spec_l2Copy.1,h_spec_l1Product.2,h_spec_l1Product.1,zz,ma,Yj E hy zC h_spec_l2Copy zB h_spec_l1Product,zR,zQ,zI,zK,zJ,zT,zL,yc,↓reduceIte,Nat.reduceMul,Nat.reduceAdd,Nat.reduceSub,Nat.reduceEqDiff,Nat.reduceBEq,Nat.reduceLeDiff,Nat.reduceLT,reduceCtorEq,Int.reduceAdd,Int.reduceSub,Int.reduceToNat,Int.reduceNeg,Int.reduceEq,Int.reduceLT,Int.reduceLE]
def pf (E:En) (L:(List Int)→(List Int)→(List Int)→Option (List Int×List Int)):Prop:=E.Γ.mu 95=false∧(∀ (zg:List Int) (zh:List Int) (a1:List Int),E.Γ 95 [.agg [.d (zf cI zg),.d (zf cI zh)],.d (zf cI a1)]=(L zg zh a1).bind fun r=>some (.ret (.agg [zo (cI) 3 none false r.1,zo (cI) 3 none false r.2]) []))
def c_spec_l2Row:Cd:=
 sq (r [1,2,4] [o 2 .box [t 0],o 4 (.alloc [.nil,.nil]) []])
 (sq (.frz 2 (r [1,2,4,5] [o 7 (.fa 0) [t 2],o 8 (.ld none) [t 7],o 9 (.slc false 1 true false) [t 8,i 1],o 10 (.call 33) [t 9],o 5 .mv [t 10]]))
  (sq (r [1,2,4,5,6] [o 11 .mv [t 5],o 12 (.call 92) [t 11],o 6 .mv [t 12]])
   (sq (.frz 2 (r [4] [o 13 .mv [t 5],o 14 (.fa 1) [t 2],o 15 (.ld none) [t 14],o 16 .mv [t 1],o 17 .mv [t 6],o 18 (.bin .mul) [t 16,t 17],o 19 .mv [t 1],o 20 .mv [t 6],o 21 (.bin .mul) [t 19,t 20],o 22 .mv [t 6],o 23 (.bin .add) [t 21,t 22],o 24 (.slc false 1 true true) [t 15,t 18,t 23],o 25 (.call 33) [t 24],o 26 (.bld [.nil,.nil] [(0,1),(1,1)]) [t 13,t 25],e (.st 2) [t 4,t 26]]))
    (.ret))))
def kH:List RV:=[.cell 4 (some 2)]
def ky (zC:(List Int)→Option (List Int)) (zB:(List Int)→Option (Int)) (N:Nat) (zg:List Int) (zh:List Int) (a1:Int):Option (List Int×List Int):=
 (cut zg 1 (↑(List.length zg):Int)).bind fun y0=>
 (zC y0).bind fun y1=>
 (zB y1).bind fun y2=>
 (cut zh (w64 (a1 * y2)) (w64 (w64 (a1 * y2)+y2))).bind fun y3=>
 (zC y3).bind fun y4=>
 some ((y1,y4))
theorem SX (E:En) (hy:Hy E [] [] [] kH none (fun y=>nocap y) zl) (zC:(List Int)→Option (List Int)) (h_spec_l2Copy:ve E zC) (zB:(List Int)→Option (Int)) (h_spec_l1Product:wl E zB) (zg:List Int) (zh:List Int) (a1:Int):G E c_spec_l2Row [] ⟨zw [(0,.agg [.d (zf cI zg),.d (zf cI zh)]),(1,.d (.int .i64 a1))],zF []⟩=(ky zC zB E.n zg zh a1).bind fun r=>some (.ret (.agg [zo (cI) 3 none false r.1,zo (cI) 3 none false r.2]) []):=by
 simp (config:={maxSteps:=40000000}) only [↓yd,zV,yf,ya,rI,rS,rB,r8,rLI,yb,ye,hy.p,hy.l,hy.k,hy.r,hy.d,hy.w,hy.f,zl,oid,kH,↓zj _ _ c_spec_l2Row.eq_1,h_spec_l2Copy.2,h_spec_l2Copy.1,h_spec_l1Product.2,h_spec_l1Product.1,zz,ky,zR,zQ,zI,zK,zJ,zT,zL,yc,↓reduceIte,Nat.reduceMul,Nat.reduceAdd,Nat.reduceSub,Nat.reduceEqDiff,Nat.reduceBEq,Nat.reduceLeDiff,Nat.reduceLT,reduceCtorEq,Int.reduceAdd,Int.reduceSub,Int.reduceToNat,Int.reduceNeg,Int.reduceEq,Int.reduceLT,Int.reduceLE]
def ZI (E:En) (L:(List Int)→(List Int)→Int→Option (List Int×List Int)):Prop:=E.Γ.mu 96=false∧(∀ (zg:List Int) (zh:List Int) (a1:Int),E.Γ 96 [.agg [.d (zf cI zg),.d (zf cI zh)],.d (.int .i64 a1)]=(L zg zh a1).bind fun r=>some (.ret (.agg [zo (cI) 3 none false r.1,zo (cI) 3 none false r.2]) []))
def b0_spec_l2Same:Cd:=
 sq (sq (r [0,1,5,14] [o 11 .mv [t 5],o 12 .mv [t 0],o 13 (.len false) [t 12],o 14 (.bin .lss) [t 11,t 13]])
  (.cond (t 14) (.skip) (.exit 0)))
 (sq (.block 1 (sq (rd [] [0,1,5,25] [o 17 .mv [t 0],o 18 .mv [t 5],o 19 (.ia 1) [t 17,t 18],o 20 (.ld none) [t 19],o 21 .mv [t 1],o 22 .mv [t 5],o 23 (.ia 1) [t 21,t 22],o 24 (.ld none) [t 23],o 25 (.bin .neq) [t 20,t 24]])
   (.cond (t 25) (sq (r [4] [o 4 .mv [b false]])
     (.ret)) (.skip))))
  (r [0,1,5] [o 15 .mv [t 5],o 16 (.bin .add) [t 15,i 1],o 5 .mv [t 16]]))
def k1_spec_l2Same:Cd:=
 sq (r [4] [o 4 .mv [b true]])
 (.ret)
def c_spec_l2Same:Cd:=
 sq (r [0,1] [o 4 .mv [b false]])
 (sq (sq (r [0,1,10] [o 6 .mv [t 0],o 7 (.len false) [t 6],o 8 .mv [t 1],o 9 (.len false) [t 8],o 10 (.bin .neq) [t 7,t 9]])
   (.cond (t 10) (sq (r [4] [o 4 .mv [b false]])
     (.ret)) (.skip)))
  (sq (sq (r [0,1,5] [o 5 .mv [i 0]])
    (.block 0 (.loop [0,1,5] b0_spec_l2Same))) k1_spec_l2Same))
def sP:List RV:=[.tmp 4]
def t4:Nat→(List Int)→(List Int)→Int→Option (Bool)
 | 0,_,_,_=>none
 | m0+1,x0,x1,x5=>
   if x5 < (↑(List.length x0):Int) then ((idx x0 x5).bind fun y0=>
    (idx x1 x5).bind fun y1=>
    if y0=y1 then t4 m0 x0 x1 (w64 (x5+1))
    else some false)
   else some true
def lj (N:Nat) (a0:List Int) (a1:List Int):Option (Bool):=
 if (↑(List.length a0):Int)=(↑(List.length a1):Int) then t4 N a0 a1 0
 else some false
theorem Yt (E:En) (hy:Hy E [] [] [] sP none (fun y=>nocap y) zl):∀ (m0:Nat) (x0:List Int) (x1:List Int) (x5:Int),gH E [0,1,5] b0_spec_l2Same [KJ.b 0,KJ.c k1_spec_l2Same] m0 ⟨zw [(0,.d (zf (cI) x0)),(1,.d (zf (cI) x1)),(5,.d (.int .i64 x5))],zF []⟩=(t4 m0 x0 x1 x5).bind fun r=>some (.ret (.d (.bool r)) []):=by
 intro m0
 induction m0 with
 | zero=>intros; rfl
 | succ m0 ih=>
   intros
   simp (config:={maxSteps:=40000000}) only [↓yd,zV,yf,ya,rI,rS,rB,r8,rLI,yb,ye,hy.p,hy.l,hy.k,hy.r,hy.d,hy.w,hy.f,zl,oid,sP,↓zj _ _ b0_spec_l2Same.eq_1,↓zj _ _ k1_spec_l2Same.eq_1,↓zj _ _ c_spec_l2Same.eq_1,xb,ih,zz,t4,zR,zQ,zI,zK,zJ,zT,zL,yc,↓reduceIte,Nat.reduceMul,Nat.reduceAdd,Nat.reduceSub,Nat.reduceEqDiff,Nat.reduceBEq,Nat.reduceLeDiff,Nat.reduceLT,reduceCtorEq,Int.reduceAdd,Int.reduceSub,Int.reduceToNat,Int.reduceNeg,Int.reduceEq,Int.reduceLT,Int.reduceLE]
theorem UF (E:En) (hy:Hy E [] [] [] sP none (fun y=>nocap y) zl) (a0:List Int) (a1:List Int):G E c_spec_l2Same [] ⟨zw [(0,.d (zf cI a0)),(1,.d (zf cI a1))],zF []⟩=(lj E.n a0 a1).bind fun r=>some (.ret (.d (.bool r)) []):=by
 simp (config:={maxSteps:=40000000}) only [↓yd,zV,yf,ya,rI,rS,rB,r8,rLI,yb,ye,hy.p,hy.l,hy.k,hy.r,hy.d,hy.w,hy.f,zl,oid,sP,↓zj _ _ b0_spec_l2Same.eq_1,↓zj _ _ k1_spec_l2Same.eq_1,↓zj _ _ c_spec_l2Same.eq_1,zz,lj,Yt E hy,zR,zQ,zI,zK,zJ,zT,zL,yc,↓reduceIte,Nat.reduceMul,Nat.reduceAdd,Nat.reduceSub,Nat.reduceEqDiff,Nat.reduceBEq,Nat.reduceLeDiff,Nat.reduceLT,reduceCtorEq,Int.reduceAdd,Int.reduceSub,Int.reduceToNat,Int.reduceNeg,Int.reduceEq,Int.reduceLT,Int.reduceLE]
def mt (E:En) (L:(List Int)→(List Int)→Option (Bool)):Prop:=E.Γ.mu 55=false∧(∀ (a0:List Int) (a1:List Int),E.Γ 55 [.d (zf cI a0),.d (zf cI a1)]=(L a0 a1).bind fun r=>some (.ret (.d (.bool r)) []))
def c_spec_l2In:Cd:=
 sq (r [0] [o 2 .mv [i 0],o 3 .mv [i 0]])
 (sq (sq (r [0,9] [o 4 .mv [t 0],o 5 (.bin .lss) [t 4,i (-3000000000)],o 6 .mv [t 5],g 6 false 7 .mv [t 0],g 6 false 8 (.bin .gtr) [t 7,i 3000000000],o 9 .pick [t 6,b true,t 8]])
   (.cond (t 9) (sq (r [2,3] [o 2 .mv [i 0],o 3 .mv [i 5]])
     (.ret)) (.skip)))
  (sq (r [2,3] [o 10 .mv [t 0],o 2 .mv [t 10],o 3 .mv [i 0]])
   (.ret)))
def jK:List RV:=[.tmp 2,.tmp 3]
def jO (N:Nat) (a0:Int):Option (Int×Int):=
 if a0 < -3000000000 then some ((0,5))
 else (if 3000000000 < a0 then some ((0,5))
  else some ((a0,0)))
theorem R3 (E:En) (hy:Hy E [] [] [] jK none (fun y=>nocap y) zl) (a0:Int):G E c_spec_l2In [] ⟨zw [(0,.d (.int .i64 a0))],zF []⟩=(jO E.n a0).bind fun r=>some (.ret (.tup [.d (.int .i64 r.1),.d (.int .i64 r.2)]) []):=by
 simp (config:={maxSteps:=40000000}) only [↓yd,zV,yf,ya,rI,rS,rB,r8,rLI,yb,ye,hy.p,hy.l,hy.k,hy.r,hy.d,hy.w,hy.f,zl,oid,jK,↓zj _ _ c_spec_l2In.eq_1,zz,jO,zR,zQ,zI,zK,zJ,zT,zL,yc,↓reduceIte,Nat.reduceMul,Nat.reduceAdd,Nat.reduceSub,Nat.reduceEqDiff,Nat.reduceBEq,Nat.reduceLeDiff,Nat.reduceLT,reduceCtorEq,Int.reduceAdd,Int.reduceSub,Int.reduceToNat,Int.reduceNeg,Int.reduceEq,Int.reduceLT,Int.reduceLE]
def RR (E:En) (L:Int→Option (Int×Int)):Prop:=E.Γ.mu 115=false∧(∀ (a0:Int),E.Γ 115 [.d (.int .i64 a0)]=(L a0).bind fun r=>some (.ret (.tup [.d (.int .i64 r.1),.d (.int .i64 r.2)]) []))
def c_spec_l2Floor:Cd:=
 sq (r [0,1] [o 4 .mv [i 0]])
 (sq (r [0,1,5] [o 6 .mv [t 0],o 7 .mv [t 1],o 8 (.bin .quo) [t 6,t 7],o 5 .mv [t 8]])
  (sq (sq (r [5,20] [o 9 .mv [t 5],o 10 .mv [t 1],o 11 (.bin .mul) [t 9,t 10],o 12 .mv [t 0],o 13 (.bin .neq) [t 11,t 12],o 14 .mv [t 13],g 14 true 15 .mv [t 0],g 14 true 16 (.bin .lss) [t 15,i 0],g 14 true 17 .mv [t 1],g 14 true 18 (.bin .lss) [t 17,i 0],g 14 true 19 (.beq true) [t 16,t 18],o 20 .pick [t 14,t 19,b false]])
    (.cond (t 20) (sq (r [4] [o 21 .mv [t 5],o 22 (.bin .sub) [t 21,i 1],o 4 .mv [t 22]])
      (.ret)) (.skip)))
   (sq (r [4] [o 23 .mv [t 5],o 4 .mv [t 23]])
    (.ret))))
def oo:List RV:=[.tmp 4]
def nf (N:Nat) (a0:Int) (a1:Int):Option (Int):=
 if a1=0 then none
 else (if w64 (w64 (Int.tdiv a0 a1) * a1)=a0 then some (w64 (Int.tdiv a0 a1))
  else (if (Decidable.decide (a0 < 0) == Decidable.decide (a1 < 0))=false then some (w64 (w64 (Int.tdiv a0 a1) - 1))
   else some (w64 (Int.tdiv a0 a1))))
theorem VR (E:En) (hy:Hy E [] [] [] oo none (fun y=>nocap y) zl) (a0:Int) (a1:Int):G E c_spec_l2Floor [] ⟨zw [(0,.d (.int .i64 a0)),(1,.d (.int .i64 a1))],zF []⟩=(nf E.n a0 a1).bind fun r=>some (.ret (.d (.int .i64 r)) []):=by
 simp (config:={maxSteps:=40000000}) only [↓yd,zV,yf,ya,rI,rS,rB,r8,rLI,yb,ye,hy.p,hy.l,hy.k,hy.r,hy.d,hy.w,hy.f,zl,oid,oo,↓zj _ _ c_spec_l2Floor.eq_1,zz,nf,zR,zQ,zI,zK,zJ,zT,zL,yc,↓reduceIte,Nat.reduceMul,Nat.reduceAdd,Nat.reduceSub,Nat.reduceEqDiff,Nat.reduceBEq,Nat.reduceLeDiff,Nat.reduceLT,reduceCtorEq,Int.reduceAdd,Int.reduceSub,Int.reduceToNat,Int.reduceNeg,Int.reduceEq,Int.reduceLT,Int.reduceLE]
def Vp (E:En) (L:Int→Int→Option (Int)):Prop:=E.Γ.mu 116=false∧(∀ (a0:Int) (a1:Int),E.Γ 116 [.d (.int .i64 a0),.d (.int .i64 a1)]=(L a0 a1).bind fun r=>some (.ret (.d (.int .i64 r)) []))
def c_spec_l2Bool:Cd:=
 sq (r [0] [o 2 .mv [i 0]])
 (sq (sq (r [3] [o 3 .mv [t 0]])
   (.cond (t 3) (sq (r [2] [o 2 .mv [i 1]])
     (.ret)) (.skip)))
  (sq (r [2] [o 2 .mv [i 0]])
   (.ret)))
def mi:List RV:=[.tmp 2]
def n9 (N:Nat) (a0:Bool):Option (Int):=
 if a0=true then some 1
 else some 0
theorem UM (E:En) (hy:Hy E [] [] [] mi none (fun y=>nocap y) zl) (a0:Bool):G E c_spec_l2Bool [] ⟨zw [(0,.d (.bool a0))],zF []⟩=(n9 E.n a0).bind fun r=>some (.ret (.d (.int .i64 r)) []):=by
 simp (config:={maxSteps:=40000000}) only [↓yd,zV,yf,ya,rI,rS,rB,r8,rLI,yb,ye,hy.p,hy.l,hy.k,hy.r,hy.d,hy.w,hy.f,zl,oid,mi,↓zj _ _ c_spec_l2Bool.eq_1,zz,n9,zR,zQ,zI,zK,zJ,zT,zL,yc,↓reduceIte,Nat.reduceMul,Nat.reduceAdd,Nat.reduceSub,Nat.reduceEqDiff,Nat.reduceBEq,Nat.reduceLeDiff,Nat.reduceLT,reduceCtorEq,Int.reduceAdd,Int.reduceSub,Int.reduceToNat,Int.reduceNeg,Int.reduceEq,Int.reduceLT,Int.reduceLE]
def Tk (E:En) (L:Bool→Option (Int)):Prop:=E.Γ.mu 88=false∧(∀ (a0:Bool),E.Γ 88 [.d (.bool a0)]=(L a0).bind fun r=>some (.ret (.d (.int .i64 r)) []))
def c_spec_l2Two:Cd:=
 sq (r [0,1,2] [o 6 .mv [i 0],o 7 .mv [i 0]])
 (sq (sq (r [0,1,2,9] [o 8 .mv [t 0],o 9 (.bin .eql) [t 8,i 1]])
   (.cond (t 9) (sq (r [6,7] [o 10 .mv [t 1],o 11 .mv [t 2],o 12 (.bin .add) [t 10,t 11],o 13 (.call 115) [t 12],o 14 (.ext 0) [t 13],o 15 (.ext 1) [t 13],o 6 .mv [t 14],o 7 .mv [t 15]])
     (.ret)) (.skip)))
  (sq (sq (r [0,1,2,17] [o 16 .mv [t 0],o 17 (.bin .eql) [t 16,i 2]])
    (.cond (t 17) (sq (r [6,7] [o 18 .mv [t 1],o 19 .mv [t 2],o 20 (.bin .sub) [t 18,t 19],o 21 (.call 115) [t 20],o 22 (.ext 0) [t 21],o 23 (.ext 1) [t 21],o 6 .mv [t 22],o 7 .mv [t 23]])
      (.ret)) (.skip)))
   (sq (sq (r [0,1,2,25] [o 24 .mv [t 0],o 25 (.bin .eql) [t 24,i 3]])
     (.cond (t 25) (sq (r [6,7] [o 26 .mv [t 1],o 27 .mv [t 2],o 28 (.bin .mul) [t 26,t 27],o 29 (.call 115) [t 28],o 30 (.ext 0) [t 29],o 31 (.ext 1) [t 29],o 6 .mv [t 30],o 7 .mv [t 31]])
       (.ret)) (.skip)))
    (sq (sq (r [0,1,2,33] [o 32 .mv [t 0],o 33 (.bin .eql) [t 32,i 4]])
      (.cond (t 33) (sq (sq (r [1,2,35] [o 34 .mv [t 2],o 35 (.bin .eql) [t 34,i 0]])
         (.cond (t 35) (sq (r [6,7] [o 6 .mv [i 0],o 7 .mv [i 1]])
           (.ret)) (.skip)))
        (sq (r [6,7] [o 36 .mv [t 1],o 37 .mv [t 2],o 38 (.call 116) [t 36,t 37],o 39 (.call 115) [t 38],o 40 (.ext 0) [t 39],o 41 (.ext 1) [t 39],o 6 .mv [t 40],o 7 .mv [t 41]])
         (.ret))) (.skip)))
     (sq (sq (r [0,1,2,43] [o 42 .mv [t 0],o 43 (.bin .eql) [t 42,i 5]])
       (.cond (t 43) (sq (sq (r [1,2,45] [o 44 .mv [t 2],o 45 (.bin .eql) [t 44,i 0]])
          (.cond (t 45) (sq (r [6,7] [o 46 .mv [t 1],o 6 .mv [t 46],o 7 .mv [i 0]])
            (.ret)) (.skip)))
         (sq (r [6,7] [o 47 .mv [t 1],o 48 .mv [t 2],o 49 .mv [t 1],o 50 .mv [t 2],o 51 (.call 116) [t 49,t 50],o 52 (.bin .mul) [t 48,t 51],o 53 (.bin .sub) [t 47,t 52],o 54 (.call 115) [t 53],o 55 (.ext 0) [t 54],o 56 (.ext 1) [t 54],o 6 .mv [t 55],o 7 .mv [t 56]])
          (.ret))) (.skip)))
      (sq (sq (r [0,1,2,58] [o 57 .mv [t 0],o 58 (.bin .eql) [t 57,i 8]])
        (.cond (t 58) (sq (r [6,7] [o 59 .mv [t 1],o 60 .mv [t 2],o 61 (.bin .lss) [t 59,t 60],o 62 (.call 88) [t 61],o 6 .mv [t 62],o 7 .mv [i 0]])
          (.ret)) (.skip)))
       (sq (sq (r [0,1,2,64] [o 63 .mv [t 0],o 64 (.bin .eql) [t 63,i 9]])
         (.cond (t 64) (sq (r [6,7] [o 65 .mv [t 1],o 66 .mv [t 2],o 67 (.bin .eql) [t 65,t 66],o 68 (.call 88) [t 67],o 6 .mv [t 68],o 7 .mv [i 0]])
           (.ret)) (.skip)))
        (sq (sq (r [0,1,2,70] [o 69 .mv [t 0],o 70 (.bin .eql) [t 69,i 10]])
          (.cond (t 70) (sq (r [6,7] [o 71 .mv [t 1],o 72 .mv [t 2],o 73 (.bin .gtr) [t 71,t 72],o 74 (.call 88) [t 73],o 6 .mv [t 74],o 7 .mv [i 0]])
            (.ret)) (.skip)))
         (sq (sq (r [1,2,80] [o 75 .mv [t 0],o 76 (.bin .eql) [t 75,i 6],o 77 .mv [t 1],o 78 .mv [t 2],o 79 (.bin .lss) [t 77,t 78],o 80 (.beq false) [t 76,t 79]])
           (.cond (t 80) (sq (r [6,7] [o 81 .mv [t 1],o 6 .mv [t 81],o 7 .mv [i 0]])
             (.ret)) (.skip)))
          (sq (r [6,7] [o 82 .mv [t 2],o 6 .mv [t 82],o 7 .mv [i 0]])
           (.ret)))))))))))
def kw:List RV:=[.tmp 6,.tmp 7]
def kT (ra:Int→Option (Int×Int)) (oY:Int→Int→Option (Int)) (pg:Bool→Option (Int)) (N:Nat) (a0:Int) (a1:Int) (a2:Int):Option (Int×Int):=
 if a0=1 then ((ra (w64 (a1+a2))).bind fun y0=>
  some ((y0.fst,y0.snd)))
 else (if a0=2 then ((ra (w64 (a1 - a2))).bind fun y1=>
  some ((y1.fst,y1.snd)))
  else (if a0=3 then ((ra (w64 (a1 * a2))).bind fun y2=>
   some ((y2.fst,y2.snd)))
   else (if a0=4 then (if a2=0 then some ((0,1))
    else ((oY a1 a2).bind fun y3=>
     (ra y3).bind fun y4=>
     some ((y4.fst,y4.snd))))
    else (if a0=5 then (if a2=0 then some ((a1,0))
     else ((oY a1 a2).bind fun y5=>
      (ra (w64 (a1 - w64 (a2 * y5)))).bind fun y6=>
      some ((y6.fst,y6.snd))))
     else (if a0=8 then ((pg (Decidable.decide (a1 < a2))).bind fun y7=>
      some ((y7,0)))
      else (if a0=9 then ((pg (Decidable.decide (a1=a2))).bind fun y8=>
       some ((y8,0)))
       else (if a0=10 then ((pg (Decidable.decide (a2 < a1))).bind fun y9=>
        some ((y9,0)))
        else (if (Decidable.decide (a0=6) == Decidable.decide (a1 < a2))=true then some ((a1,0))
         else some ((a2,0))))))))))
theorem SV (E:En) (hy:Hy E [] [] [] kw none (fun y=>nocap y) zl) (ra:Int→Option (Int×Int)) (h_spec_l2In:RR E ra) (oY:Int→Int→Option (Int)) (h_spec_l2Floor:Vp E oY) (pg:Bool→Option (Int)) (h_spec_l2Bool:Tk E pg) (a0:Int) (a1:Int) (a2:Int):G E c_spec_l2Two [] ⟨zw [(0,.d (.int .i64 a0)),(1,.d (.int .i64 a1)),(2,.d (.int .i64 a2))],zF []⟩=(kT ra oY pg E.n a0 a1 a2).bind fun r=>some (.ret (.tup [.d (.int .i64 r.1),.d (.int .i64 r.2)]) []):=by
 simp (config:={maxSteps:=40000000}) only [↓yd,zV,yf,ya,rI,rS,rB,r8,rLI,yb,ye,hy.p,hy.l,hy.k,hy.r,hy.d,hy.w,hy.f,zl,oid,kw,↓zj _ _ c_spec_l2Two.eq_1,h_spec_l2In.2,h_spec_l2In.1,h_spec_l2Floor.2,h_spec_l2Floor.1,h_spec_l2Bool.2,h_spec_l2Bool.1,zz,kT,zR,zQ,zI,zK,zJ,zT,zL,yc,↓reduceIte,Nat.reduceMul,Nat.reduceAdd,Nat.reduceSub,Nat.reduceEqDiff,Nat.reduceBEq,Nat.reduceLeDiff,Nat.reduceLT,reduceCtorEq,Int.reduceAdd,Int.reduceSub,Int.reduceToNat,Int.reduceNeg,Int.reduceEq,Int.reduceLT,Int.reduceLE]
def gx (E:En) (L:Int→Int→Int→Option (Int×Int)):Prop:=E.Γ.mu 91=false∧(∀ (a0:Int) (a1:Int) (a2:Int),E.Γ 91 [.d (.int .i64 a0),.d (.int .i64 a1),.d (.int .i64 a2)]=(L a0 a1 a2).bind fun r=>some (.ret (.tup [.d (.int .i64 r.1),.d (.int .i64 r.2)]) []))
def b0_spec_l2Each:Cd:=
 sq (sq (r [0,4,5,6,8,9,52] [o 48 .mv [t 9],o 49 (.fa 1) [t 4],o 50 (.ld none) [t 49],o 51 (.len false) [t 50],o 52 (.bin .lss) [t 48,t 51]])
  (.cond (t 52) (.skip) (.exit 0)))
 (sq (.block 1 (sq (rd [] [0,4,5,6,8,9,10,11] [o 56 .mv [t 0],o 57 (.fa 1) [t 4],o 58 (.ld none) [t 57],o 59 .mv [t 9],o 60 (.ia 1) [t 58,t 59],o 61 (.ld none) [t 60],o 62 (.fa 1) [t 5],o 63 (.ld none) [t 62],o 64 .mv [t 9],o 65 (.ia 1) [t 63,t 64],o 66 (.ld none) [t 65],o 67 (.call 91) [t 56,t 61,t 66],o 55 .mv [t 67],o 68 (.ext 0) [t 55],o 69 (.ext 1) [t 55],o 10 .mv [t 68],o 11 .mv [t 69]])
   (sq (sq (r [0,4,5,6,8,9,10,11,71] [o 70 .mv [t 11],o 71 (.bin .neq) [t 70,i 0]])
     (.cond (t 71) (sq (r [6,7] [o 72 (.bld [.nil,.nil] []) [],o 73 .mv [t 11],e (.st 2) [t 6,t 72],o 7 .mv [t 73]])
       (.ret)) (.skip)))
    (r [0,4,5,6,8,9] [o 74 (.fa 1) [t 8],o 75 (.ld none) [t 74],o 76 .mv [t 10],o 77 (lit 3 1 1) [t 76],o 78 (.app 3 1 8) [t 75,t 77],o 79 (.fa 1) [t 8],e (.st 1) [t 79,t 78]]))))
  (r [0,4,5,6,8,9] [o 53 .mv [t 9],o 54 (.bin .add) [t 53,i 1],o 9 .mv [t 54]]))
def k1_spec_l2Each:Cd:=
 sq (r [6,7] [o 80 (.ld (some 2)) [t 8],e (.st 2) [t 6,t 80],o 7 .mv [i 0]])
 (.ret)
def c_spec_l2Each:Cd:=
 sq (r [0,4,5,6] [o 4 .box [t 1],o 5 .box [t 2],o 6 (.alloc [.nil,.nil]) [],o 7 .mv [i 0]])
 (sq (sq (r [0,4,5,6,15] [o 12 (.fa 0) [t 4],o 13 (.ld none) [t 12],o 14 (.len false) [t 13],o 15 (.bin .eql) [t 14,i 0]])
   (.cond (t 15) (r [0,4,5,6] [o 16 (.ld (some 2)) [t 4],o 17 (.fa 0) [t 5],o 18 (.ld none) [t 17],o 19 (.call 95) [t 16,t 18],e (.st 2) [t 4,t 19]]) (sq (r [0,4,5,6,23] [o 20 (.fa 0) [t 5],o 21 (.ld none) [t 20],o 22 (.len false) [t 21],o 23 (.bin .eql) [t 22,i 0]])
     (.cond (t 23) (r [0,4,5,6] [o 24 (.ld (some 2)) [t 5],o 25 (.fa 0) [t 4],o 26 (.ld none) [t 25],o 27 (.call 95) [t 24,t 26],e (.st 2) [t 5,t 27]]) (.skip)))))
  (sq (sq (r [0,4,5,6,34] [o 28 (.fa 0) [t 4],o 29 (.ld none) [t 28],o 30 (.len false) [t 29],o 31 (.fa 0) [t 5],o 32 (.ld none) [t 31],o 33 (.len false) [t 32],o 34 (.bin .neq) [t 30,t 33]])
    (.cond (t 34) (sq (r [6,7] [o 35 (.bld [.nil,.nil] []) [],e (.st 2) [t 6,t 35],o 7 .mv [i 2]])
      (.ret)) (.skip)))
   (sq (sq (r [0,4,5,6,41] [o 36 (.fa 0) [t 4],o 37 (.ld none) [t 36],o 38 (.fa 0) [t 5],o 39 (.ld none) [t 38],o 40 (.call 55) [t 37,t 39],o 41 .not [t 40]])
     (.cond (t 41) (sq (r [6,7] [o 42 (.bld [.nil,.nil] []) [],e (.st 2) [t 6,t 42],o 7 .mv [i 3]])
       (.ret)) (.skip)))
    (sq (r [0,4,5,6,8] [o 43 (.fa 0) [t 4],o 44 (.ld none) [t 43],o 45 (.call 33) [t 44],o 46 (lit 3 1 0) [],o 47 (.bld [.nil,.nil] [(0,1),(1,1)]) [t 45,t 46],o 8 (.alloc [.nil,.nil]) [],e (.st 2) [t 8,t 47]])
     (sq (sq (r [0,4,5,6,8,9] [o 9 .mv [i 0]])
       (.block 0 (.loop [0,4,5,6,8,9] b0_spec_l2Each))) k1_spec_l2Each)))))
def w8:List RV:=[.cell 6 (some 2),.tmp 7]
def t9 (zW:(List Int)→(List Int)→(List Int)→Option (List Int×List Int)) (yl:(List Int)→(List Int)→Option (Bool)) (zC:(List Int)→Option (List Int)) (yF:Int→Int→Int→Option (Int×Int)):Nat→Int→Int→(List Int)→(List Int)→(List Int)→(List Int)→(List Int)→(List Int)→Option (List Int×List Int×Int)
 | 0,_,_,_,_,_,_,_,_=>none
 | m2+1,x0,x9,o256_0,o256_1,o320_0,o320_1,o513,o514=>
   if x9 < (↑(List.length o256_1):Int) then ((idx o256_1 x9).bind fun y0=>
    (idx o320_1 x9).bind fun y1=>
    (yF x0 y0 y1).bind fun y2=>
    if y2.snd=0 then (if yu 8 (List.length (o514++[y2.fst])) then t9 zW yl zC yF m2 x0 (w64 (x9+1)) o256_0 o256_1 o320_0 o320_1 o513 (o514++[y2.fst])
     else none)
    else some (([],[],y2.snd)))
   else some ((o513,o514,0))
def tU (zW:(List Int)→(List Int)→(List Int)→Option (List Int×List Int)) (yl:(List Int)→(List Int)→Option (Bool)) (zC:(List Int)→Option (List Int)) (yF:Int→Int→Int→Option (Int×Int)):Nat→Int→Int→(List Int)→(List Int)→(List Int)→(List Int)→(List Int)→(List Int)→Option (List Int×List Int×Int)
 | 0,_,_,_,_,_,_,_,_=>none
 | m1+1,x0,x9,o256_0,o256_1,o321,o322,o513,o514=>
   if x9 < (↑(List.length o256_1):Int) then ((idx o256_1 x9).bind fun y0=>
    if 0 ≤ x9∧x9 < (↑(List.length o322):Int) then ((o322[Int.toNat x9]?).bind fun y1=>
     (yF x0 y0 y1).bind fun y2=>
     if y2.snd=0 then (if yu 8 (List.length (o514++[y2.fst])) then tU zW yl zC yF m1 x0 (w64 (x9+1)) o256_0 o256_1 o321 o322 o513 (o514++[y2.fst])
      else none)
     else some (([],[],y2.snd)))
    else none)
   else some ((o513,o514,0))
def tQ (zW:(List Int)→(List Int)→(List Int)→Option (List Int×List Int)) (yl:(List Int)→(List Int)→Option (Bool)) (zC:(List Int)→Option (List Int)) (yF:Int→Int→Int→Option (Int×Int)):Nat→Int→Int→(List Int)→(List Int)→(List Int)→(List Int)→(List Int)→(List Int)→Option (List Int×List Int×Int)
 | 0,_,_,_,_,_,_,_,_=>none
 | m0+1,x0,x9,o257,o258,o320_0,o320_1,o513,o514=>
   if x9 < (↑(List.length o258):Int) then (if 0 ≤ x9∧x9 < (↑(List.length o258):Int) then ((o258[Int.toNat x9]?).bind fun y0=>
    (idx o320_1 x9).bind fun y1=>
    (yF x0 y0 y1).bind fun y2=>
    if y2.snd=0 then (if yu 8 (List.length (o514++[y2.fst])) then tQ zW yl zC yF m0 x0 (w64 (x9+1)) o257 o258 o320_0 o320_1 o513 (o514++[y2.fst])
     else none)
    else some (([],[],y2.snd)))
    else none)
   else some ((o513,o514,0))
def nL (zW:(List Int)→(List Int)→(List Int)→Option (List Int×List Int)) (yl:(List Int)→(List Int)→Option (Bool)) (zC:(List Int)→Option (List Int)) (yF:Int→Int→Int→Option (Int×Int)) (N:Nat) (a0:Int) (za:List Int) (zb:List Int) (zt:List Int) (zA:List Int):Option (List Int×List Int×Int):=
 if (↑(List.length za):Int)=0 then ((zW za zb zt).bind fun y0=>
  if (↑(List.length y0.fst):Int)=(↑(List.length zt):Int) then ((yl y0.fst zt).bind fun y1=>
   if y1=false then some (([],[],3))
   else ((zC y0.fst).bind fun y2=>
    tQ zW yl zC yF N a0 0 y0.fst y0.snd zt zA y2 []))
  else some (([],[],2)))
 else (if (↑(List.length zt):Int)=0 then ((zW zt zA za).bind fun y3=>
  if (↑(List.length za):Int)=(↑(List.length y3.fst):Int) then ((yl za y3.fst).bind fun y4=>
   if y4=false then some (([],[],3))
   else ((zC za).bind fun y5=>
    tU zW yl zC yF N a0 0 za zb y3.fst y3.snd y5 []))
  else some (([],[],2)))
  else (if (↑(List.length za):Int)=(↑(List.length zt):Int) then ((yl za zt).bind fun y6=>
   if y6=false then some (([],[],3))
   else ((zC za).bind fun y7=>
    t9 zW yl zC yF N a0 0 za zb zt zA y7 []))
   else some (([],[],2))))
theorem Ym (E:En) (hy:Hy E [] [] [] w8 none (fun y=>nocap (yw (.node [.node [.own 3 1,.own 3 1],.k]) y)) zl) (zW:(List Int)→(List Int)→(List Int)→Option (List Int×List Int)) (h_spec_l2Wide:pf E zW) (yl:(List Int)→(List Int)→Option (Bool)) (h_spec_l2Same:mt E yl) (zC:(List Int)→Option (List Int)) (h_spec_l2Copy:ve E zC) (yF:Int→Int→Int→Option (Int×Int)) (h_spec_l2Two:gx E yF):∀ (m2:Nat) (x0:Int) (x9:Int) (o256_0:List Int) (o256_1:List Int) (o320_0:List Int) (o320_1:List Int) (o513:List Int) (o514:List Int),gH E [0,4,5,6,8,9] b0_spec_l2Each [KJ.b 0,KJ.c k1_spec_l2Each] m2 ⟨zw [(0,.d (.int .i64 x0)),(4,A.adr 256 1 0),(5,A.adr 320 1 0),(6,A.adr 384 1 0),(8,A.adr 512 1 0),(9,.d (.int .i64 x9))],zF [(256,⟨1,.box [.d (zf (cI) o256_0),.d (zf (cI) o256_1)],false⟩),(320,⟨1,.box [.d (zf (cI) o320_0),.d (zf (cI) o320_1)],false⟩),(384,⟨1,.box [A.nil,A.nil],false⟩),(512,⟨1,.box [A.row 513 1,A.row 514 1],false⟩),(513,⟨1,yg (cI) 3 none o513,false⟩),(514,⟨1,yg (cI) 3 none o514,false⟩)]⟩=(t9 zW yl zC yF m2 x0 x9 o256_0 o256_1 o320_0 o320_1 o513 o514).bind fun r=>some (.ret (.tup [.agg [zo (cI) 3 none false r.1,zo (cI) 3 none false r.2.1],.d (.int .i64 r.2.2)]) []):=by
 intro m2
 induction m2 with
 | zero=>intros; rfl
 | succ m2 ih=>
   intros
   simp (config:={maxSteps:=40000000}) only [↓yd,zV,yf,ya,rI,rS,rB,r8,rLI,yb,ye,hy.p,hy.l,hy.k,hy.r,hy.d,hy.w,hy.f,zl,oid,w8,↓zj _ _ b0_spec_l2Each.eq_1,↓zj _ _ k1_spec_l2Each.eq_1,↓zj _ _ c_spec_l2Each.eq_1,h_spec_l2Wide.2,h_spec_l2Wide.1,(show ∀ (zh:List Int) (a1:List Int),E.Γ 95 [.agg [.d (.lst 0 []),.d (zf cI zh)],.d (zf cI a1)]=(zW [] zh a1).bind fun r=>some (.ret (.agg [zo (cI) 3 none false r.1,zo (cI) 3 none false r.2]) []) from fun zh a1=>h_spec_l2Wide.2 [] zh a1),h_spec_l2Same.2,h_spec_l2Same.1,h_spec_l2Copy.2,h_spec_l2Copy.1,h_spec_l2Two.2,h_spec_l2Two.1,xb,ih,zz,t9,zR,zQ,zI,zK,zJ,zT,zL,yc,↓reduceIte,Nat.reduceMul,Nat.reduceAdd,Nat.reduceSub,Nat.reduceEqDiff,Nat.reduceBEq,Nat.reduceLeDiff,Nat.reduceLT,reduceCtorEq,Int.reduceAdd,Int.reduceSub,Int.reduceToNat,Int.reduceNeg,Int.reduceEq,Int.reduceLT,Int.reduceLE]
theorem Yr (E:En) (hy:Hy E [] [] [] w8 none (fun y=>nocap (yw (.node [.node [.own 3 1,.own 3 1],.k]) y)) zl) (zW:(List Int)→(List Int)→(List Int)→Option (List Int×List Int)) (h_spec_l2Wide:pf E zW) (yl:(List Int)→(List Int)→Option (Bool)) (h_spec_l2Same:mt E yl) (zC:(List Int)→Option (List Int)) (h_spec_l2Copy:ve E zC) (yF:Int→Int→Int→Option (Int×Int)) (h_spec_l2Two:gx E yF):∀ (m1:Nat) (x0:Int) (x9:Int) (o256_0:List Int) (o256_1:List Int) (o321:List Int) (o322:List Int) (o513:List Int) (o514:List Int),gH E [0,4,5,6,8,9] b0_spec_l2Each [KJ.b 0,KJ.c k1_spec_l2Each] m1 ⟨zw [(0,.d (.int .i64 x0)),(4,A.adr 256 1 0),(5,A.adr 320 1 0),(6,A.adr 384 1 0),(8,A.adr 512 1 0),(9,.d (.int .i64 x9))],zF [(256,⟨1,.box [.d (zf (cI) o256_0),.d (zf (cI) o256_1)],false⟩),(320,⟨1,.box [A.row 321 1,A.row 322 1],false⟩),(321,⟨1,yg (cI) 3 none o321,false⟩),(322,⟨1,yg (cI) 3 none o322,false⟩),(384,⟨1,.box [A.nil,A.nil],false⟩),(512,⟨1,.box [A.row 513 1,A.row 514 1],false⟩),(513,⟨1,yg (cI) 3 none o513,false⟩),(514,⟨1,yg (cI) 3 none o514,false⟩)]⟩=(tU zW yl zC yF m1 x0 x9 o256_0 o256_1 o321 o322 o513 o514).bind fun r=>some (.ret (.tup [.agg [zo (cI) 3 none false r.1,zo (cI) 3 none false r.2.1],.d (.int .i64 r.2.2)]) []):=by
 intro m1
 induction m1 with
 | zero=>intros; rfl
 | succ m1 ih=>
   intros
   simp (config:={maxSteps:=40000000}) only [↓yd,zV,yf,ya,rI,rS,rB,r8,rLI,yb,ye,hy.p,hy.l,hy.k,hy.r,hy.d,hy.w,hy.f,zl,oid,w8,↓zj _ _ b0_spec_l2Each.eq_1,↓zj _ _ k1_spec_l2Each.eq_1,↓zj _ _ c_spec_l2Each.eq_1,h_spec_l2Wide.2,h_spec_l2Wide.1,(show ∀ (zh:List Int) (a1:List Int),E.Γ 95 [.agg [.d (.lst 0 []),.d (zf cI zh)],.d (zf cI a1)]=(zW [] zh a1).bind fun r=>some (.ret (.agg [zo (cI) 3 none false r.1,zo (cI) 3 none false r.2]) []) from fun zh a1=>h_spec_l2Wide.2 [] zh a1),h_spec_l2Same.2,h_spec_l2Same.1,h_spec_l2Copy.2,h_spec_l2Copy.1,h_spec_l2Two.2,h_spec_l2Two.1,xb,ih,zz,tU,zR,zQ,zI,zK,zJ,zT,zL,yc,↓reduceIte,Nat.reduceMul,Nat.reduceAdd,Nat.reduceSub,Nat.reduceEqDiff,Nat.reduceBEq,Nat.reduceLeDiff,Nat.reduceLT,reduceCtorEq,Int.reduceAdd,Int.reduceSub,Int.reduceToNat,Int.reduceNeg,Int.reduceEq,Int.reduceLT,Int.reduceLE]
theorem Yk (E:En) (hy:Hy E [] [] [] w8 none (fun y=>nocap (yw (.node [.node [.own 3 1,.own 3 1],.k]) y)) zl) (zW:(List Int)→(List Int)→(List Int)→Option (List Int×List Int)) (h_spec_l2Wide:pf E zW) (yl:(List Int)→(List Int)→Option (Bool)) (h_spec_l2Same:mt E yl) (zC:(List Int)→Option (List Int)) (h_spec_l2Copy:ve E zC) (yF:Int→Int→Int→Option (Int×Int)) (h_spec_l2Two:gx E yF):∀ (m0:Nat) (x0:Int) (x9:Int) (o257:List Int) (o258:List Int) (o320_0:List Int) (o320_1:List Int) (o513:List Int) (o514:List Int),gH E [0,4,5,6,8,9] b0_spec_l2Each [KJ.b 0,KJ.c k1_spec_l2Each] m0 ⟨zw [(0,.d (.int .i64 x0)),(4,A.adr 256 1 0),(5,A.adr 320 1 0),(6,A.adr 384 1 0),(8,A.adr 512 1 0),(9,.d (.int .i64 x9))],zF [(256,⟨1,.box [A.row 257 1,A.row 258 1],false⟩),(257,⟨1,yg (cI) 3 none o257,false⟩),(258,⟨1,yg (cI) 3 none o258,false⟩),(320,⟨1,.box [.d (zf (cI) o320_0),.d (zf (cI) o320_1)],false⟩),(384,⟨1,.box [A.nil,A.nil],false⟩),(512,⟨1,.box [A.row 513 1,A.row 514 1],false⟩),(513,⟨1,yg (cI) 3 none o513,false⟩),(514,⟨1,yg (cI) 3 none o514,false⟩)]⟩=(tQ zW yl zC yF m0 x0 x9 o257 o258 o320_0 o320_1 o513 o514).bind fun r=>some (.ret (.tup [.agg [zo (cI) 3 none false r.1,zo (cI) 3 none false r.2.1],.d (.int .i64 r.2.2)]) []):=by
 intro m0
 induction m0 with
 | zero=>intros; rfl
 | succ m0 ih=>
   intros
   simp (config:={maxSteps:=40000000}) only [↓yd,zV,yf,ya,rI,rS,rB,r8,rLI,yb,ye,hy.p,hy.l,hy.k,hy.r,hy.d,hy.w,hy.f,zl,oid,w8,↓zj _ _ b0_spec_l2Each.eq_1,↓zj _ _ k1_spec_l2Each.eq_1,↓zj _ _ c_spec_l2Each.eq_1,h_spec_l2Wide.2,h_spec_l2Wide.1,(show ∀ (zh:List Int) (a1:List Int),E.Γ 95 [.agg [.d (.lst 0 []),.d (zf cI zh)],.d (zf cI a1)]=(zW [] zh a1).bind fun r=>some (.ret (.agg [zo (cI) 3 none false r.1,zo (cI) 3 none false r.2]) []) from fun zh a1=>h_spec_l2Wide.2 [] zh a1),h_spec_l2Same.2,h_spec_l2Same.1,h_spec_l2Copy.2,h_spec_l2Copy.1,h_spec_l2Two.2,h_spec_l2Two.1,xb,ih,zz,tQ,zR,zQ,zI,zK,zJ,zT,zL,yc,↓reduceIte,Nat.reduceMul,Nat.reduceAdd,Nat.reduceSub,Nat.reduceEqDiff,Nat.reduceBEq,Nat.reduceLeDiff,Nat.reduceLT,reduceCtorEq,Int.reduceAdd,Int.reduceSub,Int.reduceToNat,Int.reduceNeg,Int.reduceEq,Int.reduceLT,Int.reduceLE]
theorem Ts (E:En) (hy:Hy E [] [] [] w8 none (fun y=>nocap (yw (.node [.node [.own 3 1,.own 3 1],.k]) y)) zl) (zW:(List Int)→(List Int)→(List Int)→Option (List Int×List Int)) (h_spec_l2Wide:pf E zW) (yl:(List Int)→(List Int)→Option (Bool)) (h_spec_l2Same:mt E yl) (zC:(List Int)→Option (List Int)) (h_spec_l2Copy:ve E zC) (yF:Int→Int→Int→Option (Int×Int)) (h_spec_l2Two:gx E yF) (a0:Int) (za:List Int) (zb:List Int) (zt:List Int) (zA:List Int):G E c_spec_l2Each [] ⟨zw [(0,.d (.int .i64 a0)),(1,.agg [.d (zf cI za),.d (zf cI zb)]),(2,.agg [.d (zf cI zt),.d (zf cI zA)])],zF []⟩=(nL zW yl zC yF E.n a0 za zb zt zA).bind fun r=>some (.ret (.tup [.agg [zo (cI) 3 none false r.1,zo (cI) 3 none false r.2.1],.d (.int .i64 r.2.2)]) []):=by
 simp (config:={maxSteps:=40000000}) only [↓yd,zV,yf,ya,rI,rS,rB,r8,rLI,yb,ye,hy.p,hy.l,hy.k,hy.r,hy.d,hy.w,hy.f,zl,oid,w8,↓zj _ _ b0_spec_l2Each.eq_1,↓zj _ _ k1_spec_l2Each.eq_1,↓zj _ _ c_spec_l2Each.eq_1,h_spec_l2Wide.2,h_spec_l2Wide.1,(show ∀ (zh:List Int) (a1:List Int),E.Γ 95 [.agg [.d (.lst 0 []),.d (zf cI zh)],.d (zf cI a1)]=(zW [] zh a1).bind fun r=>some (.ret (.agg [zo (cI) 3 none false r.1,zo (cI) 3 none false r.2]) []) from fun zh a1=>h_spec_l2Wide.2 [] zh a1),h_spec_l2Same.2,h_spec_l2Same.1,h_spec_l2Copy.2,h_spec_l2Copy.1,h_spec_l2Two.2,h_spec_l2Two.1,zz,nL,Ym E hy zW h_spec_l2Wide yl h_spec_l2Same zC h_spec_l2Copy yF h_spec_l2Two,Yr E hy zW h_spec_l2Wide yl h_spec_l2Same zC h_spec_l2Copy yF h_spec_l2Two,Yk E hy zW h_spec_l2Wide yl h_spec_l2Same zC h_spec_l2Copy yF h_spec_l2Two,zR,zQ,zI,zK,zJ,zT,zL,yc,↓reduceIte,Nat.reduceMul,Nat.reduceAdd,Nat.reduceSub,Nat.reduceEqDiff,Nat.reduceBEq,Nat.reduceLeDiff,Nat.reduceLT,reduceCtorEq,Int.reduceAdd,Int.reduceSub,Int.reduceToNat,Int.reduceNeg,Int.reduceEq,Int.reduceLT,Int.reduceLE]
def af (E:En) (L:Int→(List Int)→(List Int)→(List Int)→(List Int)→Option (List Int×List Int×Int)):Prop:=E.Γ.mu 76=false∧(∀ (a0:Int) (za:List Int) (zb:List Int) (zt:List Int) (zA:List Int),E.Γ 76 [.d (.int .i64 a0),.agg [.d (zf cI za),.d (zf cI zb)],.agg [.d (zf cI zt),.d (zf cI zA)]]=(L a0 za zb zt zA).bind fun r=>some (.ret (.tup [.agg [zo (cI) 3 none false r.1,zo (cI) 3 none false r.2.1],.d (.int .i64 r.2.2)]) []))
def b0_spec_l2Reduce:Cd:=
 sq (sq (r [0,3,4,11,12,64] [o 63 .mv [t 12],o 64 (.bin .geq) [t 63,i 0]])
  (.cond (t 64) (.skip) (.exit 0)))
 (sq (.block 1 (sq (rd [] [0,3,4,11,12,13,14] [ap [832] false [] (o 68 .mv [t 0]),ap [832] false [] (o 69 (.ld (some 2)) [t 3]),ap [832] false [] (o 70 .mv [t 12]),ap [832] false [] (o 72 (.ld (some 2)) [t 11]),ap [] true [3,11] (o 13 (.alloc [.nil,.nil]) []),ap [832] false [11] (o 71 (.call 96) [t 69,t 70]),ap [832] false [] (o 73 (.call 76) [t 68,t 71,t 72]),ap [832] false [] (o 67 .mv [t 73]),ap [832] false [] (o 74 (.ext 0) [t 67]),ap [832] false [] (o 75 (.ext 1) [t 67]),e (.st 2) [t 13,t 74],o 14 .mv [t 75]])
   (sq (sq (r [0,3,4,11,12,13,14,77] [o 76 .mv [t 14],o 77 (.bin .neq) [t 76,i 0]])
     (.cond (t 77) (sq (r [4,5] [o 78 (.bld [.nil,.nil] []) [],o 79 .mv [t 14],e (.st 2) [t 4,t 78],o 5 .mv [t 79]])
       (.ret)) (.skip)))
    (r [0,3,4,11,12] [o 80 (.ld (some 2)) [t 13],e (.st 2) [t 11,t 80]]))))
  (r [0,3,4,11,12] [o 65 .mv [t 12],o 66 (.bin .sub) [t 65,i 1],o 12 .mv [t 66]]))
def k1_spec_l2Reduce:Cd:=
 sq (r [4,5] [o 81 (.ld (some 2)) [t 11],e (.st 2) [t 4,t 81],o 5 .mv [i 0]])
 (.ret)
def c_spec_l2Reduce:Cd:=
 sq (r [0,3,4] [o 3 .box [t 1],o 4 (.alloc [.nil,.nil]) [],o 5 .mv [i 0]])
 (sq (sq (r [0,3,4,18] [o 15 (.fa 0) [t 3],o 16 (.ld none) [t 15],o 17 (.len false) [t 16],o 18 (.bin .eql) [t 17,i 0]])
   (.cond (t 18) (sq (r [4,5] [o 19 (lit 3 1 0) [],o 20 (.fa 1) [t 3],o 21 (.ld none) [t 20],o 22 (.call 33) [t 21],o 23 (.bld [.nil,.nil] [(0,1),(1,1)]) [t 19,t 22],e (.st 2) [t 4,t 23],o 5 .mv [i 0]])
     (.ret)) (.skip)))
  (sq (r [0,3,4,6] [o 24 (.fa 0) [t 3],o 25 (.ld none) [t 24],o 26 (.ia 1) [t 25,i 0],o 27 (.ld none) [t 26],o 6 .mv [t 27]])
   (sq (sq (r [0,3,4,6,29] [o 28 .mv [t 6],o 29 (.bin .eql) [t 28,i 0]])
     (.cond (t 29) (sq (r [3,4,7,8] [o 31 .mv [t 0],o 32 (.call 94) [t 31],o 30 .mv [t 32],o 33 (.ext 0) [t 30],o 34 (.ext 1) [t 30],o 7 .mv [t 33],o 8 .mv [t 34]])
       (sq (sq (r [3,4,7,36] [o 35 .mv [t 8],o 36 .not [t 35]])
         (.cond (t 36) (sq (r [4,5] [o 37 (.bld [.nil,.nil] []) [],e (.st 2) [t 4,t 37],o 5 .mv [i 1]])
           (.ret)) (.skip)))
        (sq (.frz 3 (r [4,7,9,10] [o 39 (.fa 0) [t 3],o 40 (.ld none) [t 39],o 41 (.slc false 1 true false) [t 40,i 1],o 42 (.call 33) [t 41],o 43 (lit 3 1 0) [],o 44 (.call 90) [t 42,t 43],o 38 .mv [t 44],o 45 (.ext 0) [t 38],o 46 (.ext 1) [t 38],o 9 (.alloc [.nil,.nil]) [],e (.st 2) [t 9,t 45],o 10 .mv [t 46]]))
         (sq (sq (r [4,7,9,10,48] [o 47 .mv [t 10],o 48 (.bin .neq) [t 47,i 0]])
           (.cond (t 48) (sq (r [4,5] [o 49 (.bld [.nil,.nil] []) [],o 50 .mv [t 10],e (.st 2) [t 4,t 49],o 5 .mv [t 50]])
             (.ret)) (.skip)))
          (sq (r [4,5] [o 51 .mv [t 7],o 52 (lit 3 1 1) [t 51],o 53 (.bld [.nil,.nil] [(1,1)]) [t 52],o 54 (.fa 0) [t 9],o 55 (.ld none) [t 54],o 56 (.call 95) [t 53,t 55],e (.st 2) [t 4,t 56],o 5 .mv [i 0]])
           (.ret)))))) (.skip)))
    (sq (r [0,3,4,6,11] [o 57 (.ld (some 2)) [t 3],o 58 .mv [t 6],o 59 (.bin .sub) [t 58,i 1],o 60 (.call 96) [t 57,t 59],o 11 (.alloc [.nil,.nil]) [],e (.st 2) [t 11,t 60]])
     (sq (sq (r [0,3,4,11,12] [o 61 .mv [t 6],o 62 (.bin .sub) [t 61,i 2],o 12 .mv [t 62]])
       (.block 0 (.loop [0,3,4,11,12] b0_spec_l2Reduce))) k1_spec_l2Reduce)))))
def tt:List RV:=[.cell 4 (some 2),.tmp 5]
def vS (zC:(List Int)→Option (List Int)) (vb:Int→Option (Int×Bool)) (yJ:(List Int)→(List Int)→Option (Alt (List Int×List Int) (List Int×List Int))) (zW:(List Int)→(List Int)→(List Int)→Option (List Int×List Int)) (vf:(List Int)→(List Int)→Int→Option (List Int×List Int)) (vd:Int→(List Int)→(List Int)→(List Int)→(List Int)→Option (List Int×List Int×Int)):Nat→Int→Int→(List Int)→(List Int)→(List Int)→(List Int)→Option (List Int×List Int×Int)
 | 0,_,_,_,_,_,_=>none
 | m0+1,x0,x12,o192_0,o192_1,o705,o706=>
   if 0 ≤ x12 then ((vf o192_0 o192_1 x12).bind fun y0=>
    (vd x0 y0.fst y0.snd o705 o706).bind fun y1=>
    if y1.snd.snd=0 then vS zC vb yJ zW vf vd m0 x0 (w64 (x12 - 1)) o192_0 o192_1 y1.fst y1.snd.fst
    else some (([],[],y1.snd.snd)))
   else some ((o705,o706,0))
def pS (zC:(List Int)→Option (List Int)) (vb:Int→Option (Int×Bool)) (yJ:(List Int)→(List Int)→Option (Alt (List Int×List Int) (List Int×List Int))) (zW:(List Int)→(List Int)→(List Int)→Option (List Int×List Int)) (vf:(List Int)→(List Int)→Int→Option (List Int×List Int)) (vd:Int→(List Int)→(List Int)→(List Int)→(List Int)→Option (List Int×List Int×Int)) (N:Nat) (a0:Int) (za:List Int) (zb:List Int):Option (List Int×List Int×Int):=
 if (↑(List.length za):Int)=0 then ((zC zb).bind fun y0=>
  some (([],y0,0)))
 else ((idx za 0).bind fun y1=>
  if y1=0 then ((vb a0).bind fun y2=>
   if y2.snd=false then some (([],[],1))
   else ((cut za 1 (↑(List.length za):Int)).bind fun y3=>
    (zC y3).bind fun y4=>
    (yJ y4 []).bind fun y5=>
    (y5).on (fun y6=>some (([],[],6))) (fun y6=>(zW [] [y2.fst] y6.fst).bind fun y7=>
     some ((y7.fst,y7.snd,0)))))
  else ((vf za zb (w64 (y1 - 1))).bind fun y8=>
   vS zC vb yJ zW vf vd N a0 (w64 (y1 - 2)) za zb y8.fst y8.snd))
theorem aM (E:En) (hy:Hy E [] [] [] tt none (fun y=>nocap (yw (.node [.node [.own 3 1,.own 3 1],.k]) y)) zl) (zC:(List Int)→Option (List Int)) (h_spec_l2Copy:ve E zC) (vb:Int→Option (Int×Bool)) (h_spec_l2None:ar E vb) (yJ:(List Int)→(List Int)→Option (Alt (List Int×List Int) (List Int×List Int))) (h_spec_l2Made:iv E yJ) (zW:(List Int)→(List Int)→(List Int)→Option (List Int×List Int)) (h_spec_l2Wide:pf E zW) (vf:(List Int)→(List Int)→Int→Option (List Int×List Int)) (h_spec_l2Row:ZI E vf) (vd:Int→(List Int)→(List Int)→(List Int)→(List Int)→Option (List Int×List Int×Int)) (h_spec_l2Each:af E vd):∀ (m0:Nat) (x0:Int) (x12:Int) (o192_0:List Int) (o192_1:List Int) (o705:List Int) (o706:List Int),gH E [0,3,4,11,12] b0_spec_l2Reduce [KJ.b 0,KJ.c k1_spec_l2Reduce] m0 ⟨zw [(0,.d (.int .i64 x0)),(3,A.adr 192 1 0),(4,A.adr 256 1 0),(11,A.adr 704 1 0),(12,.d (.int .i64 x12))],zF [(192,⟨1,.box [.d (zf (cI) o192_0),.d (zf (cI) o192_1)],false⟩),(256,⟨1,.box [A.nil,A.nil],false⟩),(704,⟨1,.box [A.row 705 1,A.row 706 1],false⟩),(705,⟨1,yg (cI) 3 none o705,false⟩),(706,⟨1,yg (cI) 3 none o706,false⟩)]⟩=(vS zC vb yJ zW vf vd m0 x0 x12 o192_0 o192_1 o705 o706).bind fun r=>some (.ret (.tup [.agg [zo (cI) 3 none false r.1,zo (cI) 3 none false r.2.1],.d (.int .i64 r.2.2)]) []):=by
 intro m0
 induction m0 with
 | zero=>intros; rfl
 | succ m0 ih=>
   intros
   simp (config:={maxSteps:=40000000}) only [↓yd,zV,yf,ya,rI,rS,rB,r8,rLI,yb,ye,hy.p,hy.l,hy.k,hy.r,hy.d,hy.w,hy.f,zl,oid,tt,↓zj _ _ b0_spec_l2Reduce.eq_1,↓zj _ _ k1_spec_l2Reduce.eq_1,↓zj _ _ c_spec_l2Reduce.eq_1,h_spec_l2Copy.2,h_spec_l2Copy.1,h_spec_l2None.2,h_spec_l2None.1,h_spec_l2Made.2,h_spec_l2Made.1,h_spec_l2Wide.2,h_spec_l2Wide.1,(show ∀ (zh:List Int) (a1:List Int),E.Γ 95 [.agg [.d (.lst 0 []),.d (zf cI zh)],.d (zf cI a1)]=(zW [] zh a1).bind fun r=>some (.ret (.agg [zo (cI) 3 none false r.1,zo (cI) 3 none false r.2]) []) from fun zh a1=>h_spec_l2Wide.2 [] zh a1),h_spec_l2Row.2,h_spec_l2Row.1,h_spec_l2Each.2,h_spec_l2Each.1,xb,ih,zz,vS,zR,zQ,zI,zK,zJ,zT,zL,yc,↓reduceIte,Nat.reduceMul,Nat.reduceAdd,Nat.reduceSub,Nat.reduceEqDiff,Nat.reduceBEq,Nat.reduceLeDiff,Nat.reduceLT,reduceCtorEq,Int.reduceAdd,Int.reduceSub,Int.reduceToNat,Int.reduceNeg,Int.reduceEq,Int.reduceLT,Int.reduceLE]
theorem Wk (E:En) (hy:Hy E [] [] [] tt none (fun y=>nocap (yw (.node [.node [.own 3 1,.own 3 1],.k]) y)) zl) (zC:(List Int)→Option (List Int)) (h_spec_l2Copy:ve E zC) (vb:Int→Option (Int×Bool)) (h_spec_l2None:ar E vb) (yJ:(List Int)→(List Int)→Option (Alt (List Int×List Int) (List Int×List Int))) (h_spec_l2Made:iv E yJ) (zW:(List Int)→(List Int)→(List Int)→Option (List Int×List Int)) (h_spec_l2Wide:pf E zW) (vf:(List Int)→(List Int)→Int→Option (List Int×List Int)) (h_spec_l2Row:ZI E vf) (vd:Int→(List Int)→(List Int)→(List Int)→(List Int)→Option (List Int×List Int×Int)) (h_spec_l2Each:af E vd) (a0:Int) (za:List Int) (zb:List Int):G E c_spec_l2Reduce [] ⟨zw [(0,.d (.int .i64 a0)),(1,.agg [.d (zf cI za),.d (zf cI zb)])],zF []⟩=(pS zC vb yJ zW vf vd E.n a0 za zb).bind fun r=>some (.ret (.tup [.agg [zo (cI) 3 none false r.1,zo (cI) 3 none false r.2.1],.d (.int .i64 r.2.2)]) []):=by
 simp (config:={maxSteps:=40000000}) only [↓yd,zV,yf,ya,rI,rS,rB,r8,rLI,yb,ye,hy.p,hy.l,hy.k,hy.r,hy.d,hy.w,hy.f,zl,oid,tt,↓zj _ _ b0_spec_l2Reduce.eq_1,↓zj _ _ k1_spec_l2Reduce.eq_1,↓zj _ _ c_spec_l2Reduce.eq_1,h_spec_l2Copy.2,h_spec_l2Copy.1,h_spec_l2None.2,h_spec_l2None.1,h_spec_l2Made.2,h_spec_l2Made.1,h_spec_l2Wide.2,h_spec_l2Wide.1,(show ∀ (zh:List Int) (a1:List Int),E.Γ 95 [.agg [.d (.lst 0 []),.d (zf cI zh)],.d (zf cI a1)]=(zW [] zh a1).bind fun r=>some (.ret (.agg [zo (cI) 3 none false r.1,zo (cI) 3 none false r.2]) []) from fun zh a1=>h_spec_l2Wide.2 [] zh a1),h_spec_l2Row.2,h_spec_l2Row.1,h_spec_l2Each.2,h_spec_l2Each.1,zz,pS,aM E hy zC h_spec_l2Copy vb h_spec_l2None yJ h_spec_l2Made zW h_spec_l2Wide vf h_spec_l2Row vd h_spec_l2Each,zR,zQ,zI,zK,zJ,zT,zL,yc,↓reduceIte,Nat.reduceMul,Nat.reduceAdd,Nat.reduceSub,Nat.reduceEqDiff,Nat.reduceBEq,Nat.reduceLeDiff,Nat.reduceLT,reduceCtorEq,Int.reduceAdd,Int.reduceSub,Int.reduceToNat,Int.reduceNeg,Int.reduceEq,Int.reduceLT,Int.reduceLE]
def hU (E:En) (L:Int→(List Int)→(List Int)→Option (List Int×List Int×Int)):Prop:=E.Γ.mu 36=false∧(∀ (a0:Int) (za:List Int) (zb:List Int),E.Γ 36 [.d (.int .i64 a0),.agg [.d (zf cI za),.d (zf cI zb)]]=(L a0 za zb).bind fun r=>some (.ret (.tup [.agg [zo (cI) 3 none false r.1,zo (cI) 3 none false r.2.1],.d (.int .i64 r.2.2)]) []))
def c_spec_Reduce:Cd:=
 sq (r [0,3,4] [o 3 .box [t 1],o 4 (.alloc [.nil,.nil]) [],o 5 .mv [i 0]])
 (sq (sq (r [0,3,4,13] [o 6 .mv [t 0],o 7 (.call 34) [t 6],o 8 .not [t 7],o 9 .mv [t 8],g 9 false 10 (.ld (some 2)) [t 3],g 9 false 11 (.call 35) [t 10],g 9 false 12 .not [t 11],o 13 .pick [t 9,b true,t 12]])
   (.cond (t 13) (sq (r [4,5] [o 14 (.bld [.nil,.nil] []) [],e (.st 2) [t 4,t 14],o 5 .mv [i 9]])
     (.ret)) (.skip)))
  (sq (r [4,5] [o 15 .mv [t 0],o 16 (.ld (some 2)) [t 3],o 17 (.call 36) [t 15,t 16],o 18 (.ext 0) [t 17],o 19 (.ext 1) [t 17],e (.st 2) [t 4,t 18],o 5 .mv [t 19]])
   (.ret)))
def mg:List RV:=[.cell 4 (some 2),.tmp 5]
def mG (xA:Int→Option (Bool)) (xp:(List Int)→(List Int)→Option (Bool)) (yZ:Int→(List Int)→(List Int)→Option (List Int×List Int×Int)) (N:Nat) (a0:Int) (za:List Int) (zb:List Int):Option (List Int×List Int×Int):=
 (xA a0).bind fun y0=>
 if y0=false then some (([],[],9))
 else ((xp za zb).bind fun y1=>
  if y1=false then some (([],[],9))
  else ((yZ a0 za zb).bind fun y2=>
   some ((y2.fst,y2.snd.fst,y2.snd.snd))))
theorem UC (E:En) (hy:Hy E [] [] [] mg none (fun y=>nocap (yw (.node [.node [.own 3 1,.own 3 1],.k]) y)) zl) (xA:Int→Option (Bool)) (h_spec_l2OpOk:eh E xA) (xp:(List Int)→(List Int)→Option (Bool)) (h_spec_ArrayOk:gU E xp) (yZ:Int→(List Int)→(List Int)→Option (List Int×List Int×Int)) (h_spec_l2Reduce:hU E yZ) (a0:Int) (za:List Int) (zb:List Int):G E c_spec_Reduce [] ⟨zw [(0,.d (.int .i64 a0)),(1,.agg [.d (zf cI za),.d (zf cI zb)])],zF []⟩=(mG xA xp yZ E.n a0 za zb).bind fun r=>some (.ret (.tup [.agg [zo (cI) 3 none false r.1,zo (cI) 3 none false r.2.1],.d (.int .i64 r.2.2)]) []):=by
 simp (config:={maxSteps:=40000000}) only [↓yd,zV,yf,ya,rI,rS,rB,r8,rLI,yb,ye,hy.p,hy.l,hy.k,hy.r,hy.d,hy.w,hy.f,zl,oid,mg,↓zj _ _ c_spec_Reduce.eq_1,h_spec_l2OpOk.2,h_spec_l2OpOk.1,h_spec_ArrayOk.2,h_spec_ArrayOk.1,h_spec_l2Reduce.2,h_spec_l2Reduce.1,zz,mG,zR,zQ,zI,zK,zJ,zT,zL,yc,↓reduceIte,Nat.reduceMul,Nat.reduceAdd,Nat.reduceSub,Nat.reduceEqDiff,Nat.reduceBEq,Nat.reduceLeDiff,Nat.reduceLT,reduceCtorEq,Int.reduceAdd,Int.reduceSub,Int.reduceToNat,Int.reduceNeg,Int.reduceEq,Int.reduceLT,Int.reduceLE]
def Tw (E:En) (L:Int→(List Int)→(List Int)→Option (List Int×List Int×Int)):Prop:=E.Γ.mu 6=false∧(∀ (a0:Int) (za:List Int) (zb:List Int),E.Γ 6 [.d (.int .i64 a0),.agg [.d (zf cI za),.d (zf cI zb)]]=(L a0 za zb).bind fun r=>some (.ret (.tup [.agg [zo (cI) 3 none false r.1,zo (cI) 3 none false r.2.1],.d (.int .i64 r.2.2)]) []))
def c_spec_l2First:Cd:=
 sq (r [1,2,4] [o 2 .box [t 0],o 4 (.alloc [.nil,.nil]) []])
 (sq (.frz 2 (r [2,4,5] [o 6 .mv [t 1],o 7 (lit 3 1 1) [t 6],o 8 (.fa 0) [t 2],o 9 (.ld none) [t 8],o 10 (.slc false 1 true false) [t 9,i 1],o 11 (.app 3 1 8) [t 7,t 10],o 5 .mv [t 11]]))
  (sq (rd [] [4] [o 12 .mv [t 5],o 13 (.fa 1) [t 2],o 14 (.ld none) [t 13],o 15 .mv [t 5],ap [] false [2,13] (o 16 (.call 92) [t 15]),o 17 (.cut 1) [t 14,t 16],o 18 (.call 33) [t 17],o 19 (.bld [.nil,.nil] [(0,1),(1,1)]) [t 12,t 18],e (.st 2) [t 4,t 19]])
   (.ret)))
def oP:List RV:=[.cell 4 (some 2)]
def oL (zB:(List Int)→Option (Int)) (zC:(List Int)→Option (List Int)) (N:Nat) (zg:List Int) (zh:List Int) (a1:Int):Option (List Int×List Int):=
 (cut zg 1 (↑(List.length zg):Int)).bind fun y0=>
 if yu 8 (List.length y0+1) then ((zB (a1 :: y0)).bind fun y1=>
  (cut zh 0 y1).bind fun y2=>
  (zC y2).bind fun y3=>
  some ((a1 :: y0,y3)))
 else none
theorem Vz (E:En) (hy:Hy E [] [] [] oP none (fun y=>nocap y) zl) (zB:(List Int)→Option (Int)) (h_spec_l1Product:wl E zB) (zC:(List Int)→Option (List Int)) (h_spec_l2Copy:ve E zC) (zg:List Int) (zh:List Int) (a1:Int):G E c_spec_l2First [] ⟨zw [(0,.agg [.d (zf cI zg),.d (zf cI zh)]),(1,.d (.int .i64 a1))],zF []⟩=(oL zB zC E.n zg zh a1).bind fun r=>some (.ret (.agg [zo (cI) 3 none false r.1,zo (cI) 3 none false r.2]) []):=by
 simp (config:={maxSteps:=40000000}) only [↓yd,zV,yf,ya,rI,rS,rB,r8,rLI,yb,ye,hy.p,hy.l,hy.k,hy.r,hy.d,hy.w,hy.f,zl,oid,oP,↓zj _ _ c_spec_l2First.eq_1,h_spec_l1Product.2,h_spec_l1Product.1,h_spec_l2Copy.2,h_spec_l2Copy.1,zz,oL,zR,zQ,zI,zK,zJ,zT,zL,yc,↓reduceIte,Nat.reduceMul,Nat.reduceAdd,Nat.reduceSub,Nat.reduceEqDiff,Nat.reduceBEq,Nat.reduceLeDiff,Nat.reduceLT,reduceCtorEq,Int.reduceAdd,Int.reduceSub,Int.reduceToNat,Int.reduceNeg,Int.reduceEq,Int.reduceLT,Int.reduceLE]
def cW (E:En) (L:(List Int)→(List Int)→Int→Option (List Int×List Int)):Prop:=E.Γ.mu 37=false∧(∀ (zg:List Int) (zh:List Int) (a1:Int),E.Γ 37 [.agg [.d (zf cI zg),.d (zf cI zh)],.d (.int .i64 a1)]=(L zg zh a1).bind fun r=>some (.ret (.agg [zo (cI) 3 none false r.1,zo (cI) 3 none false r.2]) []))
def b0_spec_l2Stack:Cd:=
 sq (sq (r [0,1,4,6,7,12] [o 9 .mv [t 7],o 10 .mv [t 1],o 11 (.len false) [t 10],o 12 (.bin .lss) [t 9,t 11]])
  (.cond (t 12) (.skip) (.exit 0)))
 (sq (.block 1 (r [0,1,4,6,7] [o 15 .mv [t 6],o 16 .mv [t 1],o 17 .mv [t 7],o 18 (.ia 2) [t 16,t 17],o 19 (.fa 1) [t 18],o 20 (.ld none) [t 19],o 21 (.app 3 1 8) [t 15,t 20],o 6 .mv [t 21]]))
  (r [0,1,4,6,7] [o 13 .mv [t 7],o 14 (.bin .add) [t 13,i 1],o 7 .mv [t 14]]))
def k1_spec_l2Stack:Cd:=
 sq (r [4,5] [o 22 .mv [t 1],o 23 (.len false) [t 22],o 24 (lit 3 1 1) [t 23],o 25 .mv [t 0],o 26 (.app 3 1 8) [t 24,t 25],o 27 .mv [t 6],o 28 (.call 90) [t 26,t 27],o 29 (.ext 0) [t 28],o 30 (.ext 1) [t 28],e (.st 2) [t 4,t 29],o 5 .mv [t 30]])
 (.ret)
def c_spec_l2Stack:Cd:=
 sq (r [0,1,4] [o 4 (.alloc [.nil,.nil]) [],o 5 .mv [i 0]])
 (sq (r [0,1,4,6] [o 8 (lit 3 1 0) [],o 6 .mv [t 8]])
  (sq (sq (r [0,1,4,6,7] [o 7 .mv [i 0]])
    (.block 0 (.loop [0,1,4,6,7] b0_spec_l2Stack))) k1_spec_l2Stack))
def tT:List RV:=[.cell 4 (some 2),.tmp 5]
def uq (yJ:(List Int)→(List Int)→Option (Alt (List Int×List Int) (List Int×List Int))):Nat→(List Int)→(List TArray)→Int→(List Int)→Option (List Int×List Int×Int)
 | 0,_,_,_,_=>none
 | m0+1,x0,x1,x7,o384=>
   if x7 < (↑(List.length x1):Int) then ((idx x1 x7).bind fun y0=>
    if yu 8 (List.length (o384++y0.Data)) then uq yJ m0 x0 x1 (w64 (x7+1)) (o384++y0.Data)
    else none)
   else (if yu 8 (List.length x0+1) then ((yJ ((↑(List.length x1):Int) :: x0) o384).bind fun y1=>
    (y1).on (fun y2=>some (([],[],6))) (fun y2=>some ((y2.fst,y2.snd,0))))
    else none)
def oT (yJ:(List Int)→(List Int)→Option (Alt (List Int×List Int) (List Int×List Int))) (N:Nat) (a0:List Int) (a1:List TArray):Option (List Int×List Int×Int):=
 uq yJ N a0 a1 0 []
theorem Zi (E:En) (hy:Hy E [] [] [] tT none (fun y=>nocap (yw (.node [.node [.own 3 1,.own 3 1],.k]) y)) zl) (yJ:(List Int)→(List Int)→Option (Alt (List Int×List Int) (List Int×List Int))) (h_spec_l2Made:iv E yJ):∀ (m0:Nat) (x0:List Int) (x1:List TArray) (x7:Int) (o384:List Int),gH E [0,1,4,6,7] b0_spec_l2Stack [KJ.b 0,KJ.c k1_spec_l2Stack] m0 ⟨zw [(0,.d (zf (cI) x0)),(1,.d (zf (cArray) x1)),(4,A.adr 256 1 0),(6,A.row 384 1),(7,.d (.int .i64 x7))],zF [(256,⟨1,.box [A.nil,A.nil],false⟩),(384,⟨1,yg (cI) 3 none o384,false⟩)]⟩=(uq yJ m0 x0 x1 x7 o384).bind fun r=>some (.ret (.tup [.agg [zo (cI) 3 none false r.1,zo (cI) 3 none false r.2.1],.d (.int .i64 r.2.2)]) []):=by
 intro m0
 induction m0 with
 | zero=>intros; rfl
 | succ m0 ih=>
   intros
   simp (config:={maxSteps:=40000000}) only [↓yd,zV,yf,ya,rI,rS,rB,r8,rLI,yb,ye,hy.p,hy.l,hy.k,hy.r,hy.d,hy.w,hy.f,zl,oid,tT,↓zj _ _ b0_spec_l2Stack.eq_1,↓zj _ _ k1_spec_l2Stack.eq_1,↓zj _ _ c_spec_l2Stack.eq_1,h_spec_l2Made.2,h_spec_l2Made.1,xb,ih,zz,uq,zR,zQ,zI,zK,zJ,zT,zL,yc,↓reduceIte,Nat.reduceMul,Nat.reduceAdd,Nat.reduceSub,Nat.reduceEqDiff,Nat.reduceBEq,Nat.reduceLeDiff,Nat.reduceLT,reduceCtorEq,Int.reduceAdd,Int.reduceSub,Int.reduceToNat,Int.reduceNeg,Int.reduceEq,Int.reduceLT,Int.reduceLE]
theorem W4 (E:En) (hy:Hy E [] [] [] tT none (fun y=>nocap (yw (.node [.node [.own 3 1,.own 3 1],.k]) y)) zl) (yJ:(List Int)→(List Int)→Option (Alt (List Int×List Int) (List Int×List Int))) (h_spec_l2Made:iv E yJ) (a0:List Int) (a1:List TArray):G E c_spec_l2Stack [] ⟨zw [(0,.d (zf cI a0)),(1,.d (zf cArray a1))],zF []⟩=(oT yJ E.n a0 a1).bind fun r=>some (.ret (.tup [.agg [zo (cI) 3 none false r.1,zo (cI) 3 none false r.2.1],.d (.int .i64 r.2.2)]) []):=by
 simp (config:={maxSteps:=40000000}) only [↓yd,zV,yf,ya,rI,rS,rB,r8,rLI,yb,ye,hy.p,hy.l,hy.k,hy.r,hy.d,hy.w,hy.f,zl,oid,tT,↓zj _ _ b0_spec_l2Stack.eq_1,↓zj _ _ k1_spec_l2Stack.eq_1,↓zj _ _ c_spec_l2Stack.eq_1,h_spec_l2Made.2,h_spec_l2Made.1,zz,oT,Zi E hy yJ h_spec_l2Made,zR,zQ,zI,zK,zJ,zT,zL,yc,↓reduceIte,Nat.reduceMul,Nat.reduceAdd,Nat.reduceSub,Nat.reduceEqDiff,Nat.reduceBEq,Nat.reduceLeDiff,Nat.reduceLT,reduceCtorEq,Int.reduceAdd,Int.reduceSub,Int.reduceToNat,Int.reduceNeg,Int.reduceEq,Int.reduceLT,Int.reduceLE]
def bb (E:En) (L:(List Int)→(List TArray)→Option (List Int×List Int×Int)):Prop:=E.Γ.mu 38=false∧(∀ (a0:List Int) (a1:List TArray),E.Γ 38 [.d (zf cI a0),.d (zf cArray a1)]=(L a0 a1).bind fun r=>some (.ret (.tup [.agg [zo (cI) 3 none false r.1,zo (cI) 3 none false r.2.1],.d (.int .i64 r.2.2)]) []))
def b0_spec_Scan:Cd:=
 sq (sq (r [0,3,4,6,7,34] [o 29 .mv [t 7],o 30 (.fa 0) [t 3],o 31 (.ld none) [t 30],o 32 (.ia 1) [t 31,i 0],o 33 (.ld none) [t 32],o 34 (.bin .leq) [t 29,t 33]])
  (.cond (t 34) (.skip) (.exit 0)))
 (sq (.block 1 (sq (r [0,3,4,6,7,8,9] [o 38 .mv [t 0],o 39 (.ld (some 2)) [t 3],o 40 .mv [t 7],o 41 (.call 37) [t 39,t 40],o 42 (.call 36) [t 38,t 41],o 37 .mv [t 42],o 43 (.ext 0) [t 37],o 44 (.ext 1) [t 37],o 8 (.alloc [.nil,.nil]) [],e (.st 2) [t 8,t 43],o 9 .mv [t 44]])
   (sq (sq (r [0,3,4,6,7,8,9,46] [o 45 .mv [t 9],o 46 (.bin .neq) [t 45,i 0]])
     (.cond (t 46) (sq (r [4,5] [o 47 (.bld [.nil,.nil] []) [],o 48 .mv [t 9],e (.st 2) [t 4,t 47],o 5 .mv [t 48]])
       (.ret)) (.skip)))
    (r [0,3,4,6,7] [o 49 .mv [t 6],o 50 (.ld (some 2)) [t 8],o 51 (lit 25 2 1) [t 50],o 52 (.app 25 2 48) [t 49,t 51],o 6 .mv [t 52]]))))
  (r [0,3,4,6,7] [o 35 .mv [t 7],o 36 (.bin .add) [t 35,i 1],o 7 .mv [t 36]]))
def k1_spec_Scan:Cd:=
 sq (.frz 3 (r [4,5] [o 53 (.fa 0) [t 3],o 54 (.ld none) [t 53],o 55 (.slc false 1 true false) [t 54,i 1],o 56 .mv [t 6],o 57 (.call 38) [t 55,t 56],o 58 (.ext 0) [t 57],o 59 (.ext 1) [t 57],e (.st 2) [t 4,t 58],o 5 .mv [t 59]]))
 (.ret)
def c_spec_Scan:Cd:=
 sq (r [0,3,4] [o 3 .box [t 1],o 4 (.alloc [.nil,.nil]) [],o 5 .mv [i 0]])
 (sq (sq (r [0,3,4,17] [o 10 .mv [t 0],o 11 (.call 34) [t 10],o 12 .not [t 11],o 13 .mv [t 12],g 13 false 14 (.ld (some 2)) [t 3],g 13 false 15 (.call 35) [t 14],g 13 false 16 .not [t 15],o 17 .pick [t 13,b true,t 16]])
   (.cond (t 17) (sq (r [4,5] [o 18 (.bld [.nil,.nil] []) [],e (.st 2) [t 4,t 18],o 5 .mv [i 9]])
     (.ret)) (.skip)))
  (sq (sq (r [0,3,4,22] [o 19 (.fa 0) [t 3],o 20 (.ld none) [t 19],o 21 (.len false) [t 20],o 22 (.bin .eql) [t 21,i 0]])
    (.cond (t 22) (sq (r [4,5] [o 23 .mv [t 0],o 24 (.ld (some 2)) [t 3],o 25 (.call 36) [t 23,t 24],o 26 (.ext 0) [t 25],o 27 (.ext 1) [t 25],e (.st 2) [t 4,t 26],o 5 .mv [t 27]])
      (.ret)) (.skip)))
   (sq (r [0,3,4,6] [o 28 (lit 25 2 0) [],o 6 .mv [t 28]])
    (sq (sq (r [0,3,4,6,7] [o 7 .mv [i 1]])
      (.block 0 (.loop [0,3,4,6,7] b0_spec_Scan))) k1_spec_Scan))))
def pX:List RV:=[.cell 4 (some 2),.tmp 5]
def qq (xA:Int→Option (Bool)) (xp:(List Int)→(List Int)→Option (Bool)) (yZ:Int→(List Int)→(List Int)→Option (List Int×List Int×Int)) (wF:(List Int)→(List Int)→Int→Option (List Int×List Int)) (wA:(List Int)→(List TArray)→Option (List Int×List Int×Int)):Nat→Int→Int→(List Int)→(List Int)→(List TArray)→Option (List Int×List Int×Int)
 | 0,_,_,_,_,_=>none
 | m0+1,x0,x7,o192_0,o192_1,o384=>
   (idx o192_0 0).bind fun y0=>
   if x7 ≤ y0 then ((wF o192_0 o192_1 x7).bind fun y1=>
    (yZ x0 y1.fst y1.snd).bind fun y2=>
    if y2.snd.snd=0 then (if yu 48 (List.length (o384++[{ Shape:=y2.fst,Data:=y2.snd.fst }])) then qq xA xp yZ wF wA m0 x0 (w64 (x7+1)) o192_0 o192_1 (o384++[{ Shape:=y2.fst,Data:=y2.snd.fst }])
     else none)
    else some (([],[],y2.snd.snd)))
   else ((cut o192_0 1 (↑(List.length o192_0):Int)).bind fun y3=>
    (wA y3 o384).bind fun y4=>
    some ((y4.fst,y4.snd.fst,y4.snd.snd)))
def j6 (xA:Int→Option (Bool)) (xp:(List Int)→(List Int)→Option (Bool)) (yZ:Int→(List Int)→(List Int)→Option (List Int×List Int×Int)) (wF:(List Int)→(List Int)→Int→Option (List Int×List Int)) (wA:(List Int)→(List TArray)→Option (List Int×List Int×Int)) (N:Nat) (a0:Int) (za:List Int) (zb:List Int):Option (List Int×List Int×Int):=
 (xA a0).bind fun y0=>
 if y0=false then some (([],[],9))
 else ((xp za zb).bind fun y1=>
  if y1=false then some (([],[],9))
  else (if (↑(List.length za):Int)=0 then ((yZ a0 za zb).bind fun y2=>
   some ((y2.fst,y2.snd.fst,y2.snd.snd)))
   else qq xA xp yZ wF wA N a0 1 za zb []))
theorem WP (E:En) (hy:Hy E [] [] [] pX none (fun y=>nocap (yw (.node [.node [.own 3 1,.own 3 1],.k]) y)) zl) (xA:Int→Option (Bool)) (h_spec_l2OpOk:eh E xA) (xp:(List Int)→(List Int)→Option (Bool)) (h_spec_ArrayOk:gU E xp) (yZ:Int→(List Int)→(List Int)→Option (List Int×List Int×Int)) (h_spec_l2Reduce:hU E yZ) (wF:(List Int)→(List Int)→Int→Option (List Int×List Int)) (h_spec_l2First:cW E wF) (wA:(List Int)→(List TArray)→Option (List Int×List Int×Int)) (h_spec_l2Stack:bb E wA):∀ (m0:Nat) (x0:Int) (x7:Int) (o192_0:List Int) (o192_1:List Int) (o384:List TArray),gH E [0,3,4,6,7] b0_spec_Scan [KJ.b 0,KJ.c k1_spec_Scan] m0 ⟨zw [(0,.d (.int .i64 x0)),(3,A.adr 192 1 0),(4,A.adr 256 1 0),(6,A.row 384 1),(7,.d (.int .i64 x7))],zF [(192,⟨1,.box [.d (zf (cI) o192_0),.d (zf (cI) o192_1)],false⟩),(256,⟨1,.box [A.nil,A.nil],false⟩),(384,⟨1,yg (cArray) 25 none o384,false⟩)]⟩=(qq xA xp yZ wF wA m0 x0 x7 o192_0 o192_1 o384).bind fun r=>some (.ret (.tup [.agg [zo (cI) 3 none false r.1,zo (cI) 3 none false r.2.1],.d (.int .i64 r.2.2)]) []):=by
 intro m0
 induction m0 with
 | zero=>intros; rfl
 | succ m0 ih=>
   intros
   simp (config:={maxSteps:=40000000}) only [↓yd,zV,yf,ya,rI,rS,rB,r8,rLI,yb,ye,hy.p,hy.l,hy.k,hy.r,hy.d,hy.w,hy.f,zl,oid,pX,↓zj _ _ b0_spec_Scan.eq_1,↓zj _ _ k1_spec_Scan.eq_1,↓zj _ _ c_spec_Scan.eq_1,h_spec_l2OpOk.2,h_spec_l2OpOk.1,h_spec_ArrayOk.2,h_spec_ArrayOk.1,h_spec_l2Reduce.2,h_spec_l2Reduce.1,h_spec_l2First.2,h_spec_l2First.1,h_spec_l2Stack.2,h_spec_l2Stack.1,xb,ih,zz,qq,zR,zQ,zI,zK,zJ,zT,zL,yc,↓reduceIte,Nat.reduceMul,Nat.reduceAdd,Nat.reduceSub,Nat.reduceEqDiff,Nat.reduceBEq,Nat.reduceLeDiff,Nat.reduceLT,reduceCtorEq,Int.reduceAdd,Int.reduceSub,Int.reduceToNat,Int.reduceNeg,Int.reduceEq,Int.reduceLT,Int.reduceLE]
theorem RT (E:En) (hy:Hy E [] [] [] pX none (fun y=>nocap (yw (.node [.node [.own 3 1,.own 3 1],.k]) y)) zl) (xA:Int→Option (Bool)) (h_spec_l2OpOk:eh E xA) (xp:(List Int)→(List Int)→Option (Bool)) (h_spec_ArrayOk:gU E xp) (yZ:Int→(List Int)→(List Int)→Option (List Int×List Int×Int)) (h_spec_l2Reduce:hU E yZ) (wF:(List Int)→(List Int)→Int→Option (List Int×List Int)) (h_spec_l2First:cW E wF) (wA:(List Int)→(List TArray)→Option (List Int×List Int×Int)) (h_spec_l2Stack:bb E wA) (a0:Int) (za:List Int) (zb:List Int):G E c_spec_Scan [] ⟨zw [(0,.d (.int .i64 a0)),(1,.agg [.d (zf cI za),.d (zf cI zb)])],zF []⟩=(j6 xA xp yZ wF wA E.n a0 za zb).bind fun r=>some (.ret (.tup [.agg [zo (cI) 3 none false r.1,zo (cI) 3 none false r.2.1],.d (.int .i64 r.2.2)]) []):=by
 simp (config:={maxSteps:=40000000}) only [↓yd,zV,yf,ya,rI,rS,rB,r8,rLI,yb,ye,hy.p,hy.l,hy.k,hy.r,hy.d,hy.w,hy.f,zl,oid,pX,↓zj _ _ b0_spec_Scan.eq_1,↓zj _ _ k1_spec_Scan.eq_1,↓zj _ _ c_spec_Scan.eq_1,h_spec_l2OpOk.2,h_spec_l2OpOk.1,h_spec_ArrayOk.2,h_spec_ArrayOk.1,h_spec_l2Reduce.2,h_spec_l2Reduce.1,h_spec_l2First.2,h_spec_l2First.1,h_spec_l2Stack.2,h_spec_l2Stack.1,zz,j6,WP E hy xA h_spec_l2OpOk xp h_spec_ArrayOk yZ h_spec_l2Reduce wF h_spec_l2First wA h_spec_l2Stack,zR,zQ,zI,zK,zJ,zT,zL,yc,↓reduceIte,Nat.reduceMul,Nat.reduceAdd,Nat.reduceSub,Nat.reduceEqDiff,Nat.reduceBEq,Nat.reduceLeDiff,Nat.reduceLT,reduceCtorEq,Int.reduceAdd,Int.reduceSub,Int.reduceToNat,Int.reduceNeg,Int.reduceEq,Int.reduceLT,Int.reduceLE]
def R5 (E:En) (L:Int→(List Int)→(List Int)→Option (List Int×List Int×Int)):Prop:=E.Γ.mu 7=false∧(∀ (a0:Int) (za:List Int) (zb:List Int),E.Γ 7 [.d (.int .i64 a0),.agg [.d (zf cI za),.d (zf cI zb)]]=(L a0 za zb).bind fun r=>some (.ret (.tup [.agg [zo (cI) 3 none false r.1,zo (cI) 3 none false r.2.1],.d (.int .i64 r.2.2)]) []))
def c_impl_inRange:Cd:=
 sq (r [0] [o 2 .mv [i 0]])
 (sq (sq (r [0,8] [o 3 .mv [t 0],o 4 (.bin .lss) [t 3,i (-3000000000)],o 5 .mv [t 4],g 5 false 6 .mv [t 0],g 5 false 7 (.bin .gtr) [t 6,i 3000000000],o 8 .pick [t 5,b true,t 7]])
   (.cond (t 8) (r [0] [o 9 (.bld [(.d (iD 0))] [(0,1)]) [i 5],o 10 (.mkI 75) [t 9],e .pan [t 10]]) (.skip)))
  (sq (r [2] [o 11 .mv [t 0],o 2 .mv [t 11]])
   (.ret)))
def o5:List RV:=[.tmp 2]
def oM (N:Nat) (a0:Int):Option (Res (Int)):=
 if a0 < -3000000000 then some (.pan (D.ifaceS 75 [D.int .i64 5]))
 else (if 3000000000 < a0 then some (.pan (D.ifaceS 75 [D.int .i64 5]))
  else some (.ok a0))
theorem V5 (E:En) (hy:Hy E [] [] [] o5 none (fun y=>nocap y) zl) (a0:Int):G E c_impl_inRange [] ⟨zw [(0,.d (.int .i64 a0))],zF []⟩=(oM E.n a0).bind fun r=>r.on (fun r=>some (.ret (.d (.int .i64 r)) [])) (fun x=>some (.pan x [])):=by
 simp (config:={maxSteps:=40000000}) only [↓yd,zV,yf,ya,rI,rS,rB,r8,rLI,yb,ye,hy.p,hy.l,hy.k,hy.r,hy.d,hy.w,hy.f,zl,oid,o5,↓zj _ _ c_impl_inRange.eq_1,zz,oM,zR,zQ,zI,zK,zJ,zT,zL,yc,↓reduceIte,Nat.reduceMul,Nat.reduceAdd,Nat.reduceSub,Nat.reduceEqDiff,Nat.reduceBEq,Nat.reduceLeDiff,Nat.reduceLT,reduceCtorEq,Int.reduceAdd,Int.reduceSub,Int.reduceToNat,Int.reduceNeg,Int.reduceEq,Int.reduceLT,Int.reduceLE]
def jm (E:En) (L:Int→Option (Res (Int))):Prop:=E.Γ.mu 118=false∧(∀ (a0:Int),E.Γ 118 [.d (.int .i64 a0)]=(L a0).bind fun r=>r.on (fun r=>some (.ret (.d (.int .i64 r)) [])) (fun x=>some (.pan x [])))
def c_impl_cellOps_1:Cd:=
 sq (r [0,1] [o 4 .mv [i 0]])
 (sq (r [4] [o 5 .mv [t 0],o 6 .mv [t 1],o 7 (.bin .add) [t 5,t 6],o 8 (.call 118) [t 7],o 4 .mv [t 8]])
  (.ret))
def qk:List RV:=[.tmp 4]
def rY (yU:Int→Option (Res (Int))) (N:Nat) (a0:Int) (a1:Int):Option (Res (Int)):=
 (yU (w64 (a0+a1))).bind fun y0=>
 (y0).on (fun y1=>some (.ok y1)) (fun y1=>some (.pan (y1)))
theorem XR (E:En) (hy:Hy E [] [] [] qk none (fun y=>nocap y) zl) (yU:Int→Option (Res (Int))) (h_impl_inRange:jm E yU) (a0:Int) (a1:Int):G E c_impl_cellOps_1 [] ⟨zw [(0,.d (.int .i64 a0)),(1,.d (.int .i64 a1))],zF []⟩=(rY yU E.n a0 a1).bind fun r=>r.on (fun r=>some (.ret (.d (.int .i64 r)) [])) (fun x=>some (.pan x [])):=by
 simp (config:={maxSteps:=40000000}) only [↓yd,zV,yf,ya,rI,rS,rB,r8,rLI,yb,ye,hy.p,hy.l,hy.k,hy.r,hy.d,hy.w,hy.f,zl,oid,qk,↓zj _ _ c_impl_cellOps_1.eq_1,h_impl_inRange.2,h_impl_inRange.1,zz,rY,zR,zQ,zI,zK,zJ,zT,zL,yc,↓reduceIte,Nat.reduceMul,Nat.reduceAdd,Nat.reduceSub,Nat.reduceEqDiff,Nat.reduceBEq,Nat.reduceLeDiff,Nat.reduceLT,reduceCtorEq,Int.reduceAdd,Int.reduceSub,Int.reduceToNat,Int.reduceNeg,Int.reduceEq,Int.reduceLT,Int.reduceLE]
def YT (E:En) (L:Int→Int→Option (Res (Int))):Prop:=E.Γ.mu 117=false∧(∀ (a0:Int) (a1:Int),E.Γ 117 [.d (.int .i64 a0),.d (.int .i64 a1)]=(L a0 a1).bind fun r=>r.on (fun r=>some (.ret (.d (.int .i64 r)) [])) (fun x=>some (.pan x [])))
def c_impl_cellOps_2:Cd:=
 sq (r [0,1] [o 4 .mv [i 0]])
 (sq (r [4] [o 5 .mv [t 0],o 6 .mv [t 1],o 7 (.bin .sub) [t 5,t 6],o 8 (.call 118) [t 7],o 4 .mv [t 8]])
  (.ret))
def qd:List RV:=[.tmp 4]
def qC (yU:Int→Option (Res (Int))) (N:Nat) (a0:Int) (a1:Int):Option (Res (Int)):=
 (yU (w64 (a0 - a1))).bind fun y0=>
 (y0).on (fun y1=>some (.ok y1)) (fun y1=>some (.pan (y1)))
theorem XL (E:En) (hy:Hy E [] [] [] qd none (fun y=>nocap y) zl) (yU:Int→Option (Res (Int))) (h_impl_inRange:jm E yU) (a0:Int) (a1:Int):G E c_impl_cellOps_2 [] ⟨zw [(0,.d (.int .i64 a0)),(1,.d (.int .i64 a1))],zF []⟩=(qC yU E.n a0 a1).bind fun r=>r.on (fun r=>some (.ret (.d (.int .i64 r)) [])) (fun x=>some (.pan x [])):=by
 simp (config:={maxSteps:=40000000}) only [↓yd,zV,yf,ya,rI,rS,rB,r8,rLI,yb,ye,hy.p,hy.l,hy.k,hy.r,hy.d,hy.w,hy.f,zl,oid,qd,↓zj _ _ c_impl_cellOps_2.eq_1,h_impl_inRange.2,h_impl_inRange.1,zz,qC,zR,zQ,zI,zK,zJ,zT,zL,yc,↓reduceIte,Nat.reduceMul,Nat.reduceAdd,Nat.reduceSub,Nat.reduceEqDiff,Nat.reduceBEq,Nat.reduceLeDiff,Nat.reduceLT,reduceCtorEq,Int.reduceAdd,Int.reduceSub,Int.reduceToNat,Int.reduceNeg,Int.reduceEq,Int.reduceLT,Int.reduceLE]
def XK (E:En) (L:Int→Int→Option (Res (Int))):Prop:=E.Γ.mu 119=false∧(∀ (a0:Int) (a1:Int),E.Γ 119 [.d (.int .i64 a0),.d (.int .i64 a1)]=(L a0 a1).bind fun r=>r.on (fun r=>some (.ret (.d (.int .i64 r)) [])) (fun x=>some (.pan x [])))
def c_impl_cellOps_3:Cd:=
 sq (r [0,1] [o 4 .mv [i 0]])
 (sq (r [4] [o 5 .mv [t 0],o 6 .mv [t 1],o 7 (.bin .mul) [t 5,t 6],o 8 (.call 118) [t 7],o 4 .mv [t 8]])
  (.ret))
def qE:List RV:=[.tmp 4]
def rL (yU:Int→Option (Res (Int))) (N:Nat) (a0:Int) (a1:Int):Option (Res (Int)):=
 (yU (w64 (a0 * a1))).bind fun y0=>
 (y0).on (fun y1=>some (.ok y1)) (fun y1=>some (.pan (y1)))
theorem Y7 (E:En) (hy:Hy E [] [] [] qE none (fun y=>nocap y) zl) (yU:Int→Option (Res (Int))) (h_impl_inRange:jm E yU) (a0:Int) (a1:Int):G E c_impl_cellOps_3 [] ⟨zw [(0,.d (.int .i64 a0)),(1,.d (.int .i64 a1))],zF []⟩=(rL yU E.n a0 a1).bind fun r=>r.on (fun r=>some (.ret (.d (.int .i64 r)) [])) (fun x=>some (.pan x [])):=by
 simp (config:={maxSteps:=40000000}) only [↓yd,zV,yf,ya,rI,rS,rB,r8,rLI,yb,ye,hy.p,hy.l,hy.k,hy.r,hy.d,hy.w,hy.f,zl,oid,qE,↓zj _ _ c_impl_cellOps_3.eq_1,h_impl_inRange.2,h_impl_inRange.1,zz,rL,zR,zQ,zI,zK,zJ,zT,zL,yc,↓reduceIte,Nat.reduceMul,Nat.reduceAdd,Nat.reduceSub,Nat.reduceEqDiff,Nat.reduceBEq,Nat.reduceLeDiff,Nat.reduceLT,reduceCtorEq,Int.reduceAdd,Int.reduceSub,Int.reduceToNat,Int.reduceNeg,Int.reduceEq,Int.reduceLT,Int.reduceLE]
def Xl (E:En) (L:Int→Int→Option (Res (Int))):Prop:=E.Γ.mu 120=false∧(∀ (a0:Int) (a1:Int),E.Γ 120 [.d (.int .i64 a0),.d (.int .i64 a1)]=(L a0 a1).bind fun r=>r.on (fun r=>some (.ret (.d (.int .i64 r)) [])) (fun x=>some (.pan x [])))
def c_impl_floorDiv:Cd:=
 sq (r [0,1] [o 4 .mv [i 0]])
 (sq (sq (r [0,1,8] [o 7 .mv [t 1],o 8 (.bin .eql) [t 7,i 0]])
   (.cond (t 8) (r [0,1] [o 9 (.bld [(.d (iD 0))] [(0,1)]) [i 1],o 10 (.mkI 75) [t 9],e .pan [t 10]]) (.skip)))
  (sq (rd [] [1,5,6] [o 11 .mv [t 0],o 12 .mv [t 1],o 13 (.bin .quo) [t 11,t 12],o 14 .mv [t 0],o 15 .mv [t 1],o 16 (.bin .rem) [t 14,t 15],o 5 .mv [t 13],o 6 .mv [t 16]])
   (sq (sq (r [5,25] [o 17 .mv [t 6],o 18 (.bin .neq) [t 17,i 0],o 19 .mv [t 18],g 19 true 20 .mv [t 6],g 19 true 21 (.bin .lss) [t 20,i 0],g 19 true 22 .mv [t 1],g 19 true 23 (.bin .lss) [t 22,i 0],g 19 true 24 (.beq true) [t 21,t 23],o 25 .pick [t 19,t 24,b false]])
     (.cond (t 25) (r [5] [o 26 .mv [t 5],o 27 (.bin .sub) [t 26,i 1],o 5 .mv [t 27]]) (.skip)))
    (sq (r [4] [o 28 .mv [t 5],o 4 .mv [t 28]])
     (.ret)))))
def pH:List RV:=[.tmp 4]
def pF (N:Nat) (a0:Int) (a1:Int):Option (Res (Int)):=
 if a1=0 then some (.pan (D.ifaceS 75 [D.int .i64 1]))
 else (if a1=0 then none
  else (if a1=0 then none
   else (if Int.tmod a0 a1=0 then some (.ok (w64 (Int.tdiv a0 a1)))
    else (if (Decidable.decide (Int.tmod a0 a1 < 0) == Decidable.decide (a1 < 0))=false then some (.ok (w64 (w64 (Int.tdiv a0 a1) - 1)))
     else some (.ok (w64 (Int.tdiv a0 a1)))))))
theorem Wq (E:En) (hy:Hy E [] [] [] pH none (fun y=>nocap y) zl) (a0:Int) (a1:Int):G E c_impl_floorDiv [] ⟨zw [(0,.d (.int .i64 a0)),(1,.d (.int .i64 a1))],zF []⟩=(pF E.n a0 a1).bind fun r=>r.on (fun r=>some (.ret (.d (.int .i64 r)) [])) (fun x=>some (.pan x [])):=by
 simp (config:={maxSteps:=40000000}) only [↓yd,zV,yf,ya,rI,rS,rB,r8,rLI,yb,ye,hy.p,hy.l,hy.k,hy.r,hy.d,hy.w,hy.f,zl,oid,pH,↓zj _ _ c_impl_floorDiv.eq_1,zz,pF,zR,zQ,zI,zK,zJ,zT,zL,yc,↓reduceIte,Nat.reduceMul,Nat.reduceAdd,Nat.reduceSub,Nat.reduceEqDiff,Nat.reduceBEq,Nat.reduceLeDiff,Nat.reduceLT,reduceCtorEq,Int.reduceAdd,Int.reduceSub,Int.reduceToNat,Int.reduceNeg,Int.reduceEq,Int.reduceLT,Int.reduceLE]
def WA (E:En) (L:Int→Int→Option (Res (Int))):Prop:=E.Γ.mu 122=false∧(∀ (a0:Int) (a1:Int),E.Γ 122 [.d (.int .i64 a0),.d (.int .i64 a1)]=(L a0 a1).bind fun r=>r.on (fun r=>some (.ret (.d (.int .i64 r)) [])) (fun x=>some (.pan x [])))
def c_impl_cellOps_4:Cd:=
 sq (r [0,1] [o 4 .mv [i 0]])
 (sq (r [4] [o 5 .mv [t 0],o 6 .mv [t 1],o 7 (.call 122) [t 5,t 6],o 8 (.call 118) [t 7],o 4 .mv [t 8]])
  (.ret))
def qA:List RV:=[.tmp 4]
def rD (lS:Int→Int→Option (Res (Int))) (yU:Int→Option (Res (Int))) (N:Nat) (a0:Int) (a1:Int):Option (Res (Int)):=
 (lS a0 a1).bind fun y0=>
 (y0).on (fun y1=>(yU y1).bind fun y2=>
  (y2).on (fun y3=>some (.ok y3)) (fun y3=>some (.pan (y3)))) (fun y1=>some (.pan (y1)))
theorem YW (E:En) (hy:Hy E [] [] [] qA none (fun y=>nocap y) zl) (lS:Int→Int→Option (Res (Int))) (h_impl_floorDiv:WA E lS) (yU:Int→Option (Res (Int))) (h_impl_inRange:jm E yU) (a0:Int) (a1:Int):G E c_impl_cellOps_4 [] ⟨zw [(0,.d (.int .i64 a0)),(1,.d (.int .i64 a1))],zF []⟩=(rD lS yU E.n a0 a1).bind fun r=>r.on (fun r=>some (.ret (.d (.int .i64 r)) [])) (fun x=>some (.pan x [])):=by
 simp (config:={maxSteps:=40000000}) only [↓yd,zV,yf,ya,rI,rS,rB,r8,rLI,yb,ye,hy.p,hy.l,hy.k,hy.r,hy.d,hy.w,hy.f,zl,oid,qA,↓zj _ _ c_impl_cellOps_4.eq_1,h_impl_floorDiv.2,h_impl_floorDiv.1,h_impl_inRange.2,h_impl_inRange.1,zz,rD,zR,zQ,zI,zK,zJ,zT,zL,yc,↓reduceIte,Nat.reduceMul,Nat.reduceAdd,Nat.reduceSub,Nat.reduceEqDiff,Nat.reduceBEq,Nat.reduceLeDiff,Nat.reduceLT,reduceCtorEq,Int.reduceAdd,Int.reduceSub,Int.reduceToNat,Int.reduceNeg,Int.reduceEq,Int.reduceLT,Int.reduceLE]
def Y1 (E:En) (L:Int→Int→Option (Res (Int))):Prop:=E.Γ.mu 121=false∧(∀ (a0:Int) (a1:Int),E.Γ 121 [.d (.int .i64 a0),.d (.int .i64 a1)]=(L a0 a1).bind fun r=>r.on (fun r=>some (.ret (.d (.int .i64 r)) [])) (fun x=>some (.pan x [])))
def c_impl_residue:Cd:=
 sq (r [0,1] [o 4 .mv [i 0]])
 (sq (sq (r [0,1,7] [o 6 .mv [t 1],o 7 (.bin .eql) [t 6,i 0]])
   (.cond (t 7) (sq (r [4] [o 8 .mv [t 0],o 4 .mv [t 8]])
     (.ret)) (.skip)))
  (sq (r [1,5] [o 9 .mv [t 0],o 10 .mv [t 1],o 11 (.bin .rem) [t 9,t 10],o 5 .mv [t 11]])
   (sq (sq (r [1,5,20] [o 12 .mv [t 5],o 13 (.bin .neq) [t 12,i 0],o 14 .mv [t 13],g 14 true 15 .mv [t 5],g 14 true 16 (.bin .lss) [t 15,i 0],g 14 true 17 .mv [t 1],g 14 true 18 (.bin .lss) [t 17,i 0],g 14 true 19 (.beq true) [t 16,t 18],o 20 .pick [t 14,t 19,b false]])
     (.cond (t 20) (r [5] [o 21 .mv [t 5],o 22 .mv [t 1],o 23 (.bin .add) [t 21,t 22],o 5 .mv [t 23]]) (.skip)))
    (sq (r [4] [o 24 .mv [t 5],o 4 .mv [t 24]])
     (.ret)))))
def nm:List RV:=[.tmp 4]
def oV (N:Nat) (a0:Int) (a1:Int):Option (Int):=
 if a1=0 then some a0
 else (if a1=0 then none
  else (if Int.tmod a0 a1=0 then some (Int.tmod a0 a1)
   else (if (Decidable.decide (Int.tmod a0 a1 < 0) == Decidable.decide (a1 < 0))=false then some (w64 (Int.tmod a0 a1+a1))
    else some (Int.tmod a0 a1))))
theorem V7 (E:En) (hy:Hy E [] [] [] nm none (fun y=>nocap y) zl) (a0:Int) (a1:Int):G E c_impl_residue [] ⟨zw [(0,.d (.int .i64 a0)),(1,.d (.int .i64 a1))],zF []⟩=(oV E.n a0 a1).bind fun r=>some (.ret (.d (.int .i64 r)) []):=by
 simp (config:={maxSteps:=40000000}) only [↓yd,zV,yf,ya,rI,rS,rB,r8,rLI,yb,ye,hy.p,hy.l,hy.k,hy.r,hy.d,hy.w,hy.f,zl,oid,nm,↓zj _ _ c_impl_residue.eq_1,zz,oV,zR,zQ,zI,zK,zJ,zT,zL,yc,↓reduceIte,Nat.reduceMul,Nat.reduceAdd,Nat.reduceSub,Nat.reduceEqDiff,Nat.reduceBEq,Nat.reduceLeDiff,Nat.reduceLT,reduceCtorEq,Int.reduceAdd,Int.reduceSub,Int.reduceToNat,Int.reduceNeg,Int.reduceEq,Int.reduceLT,Int.reduceLE]
def Vn (E:En) (L:Int→Int→Option (Int)):Prop:=E.Γ.mu 123=false∧(∀ (a0:Int) (a1:Int),E.Γ 123 [.d (.int .i64 a0),.d (.int .i64 a1)]=(L a0 a1).bind fun r=>some (.ret (.d (.int .i64 r)) []))
def c_impl_cellOps_5:Cd:=
 sq (r [0,1] [o 4 .mv [i 0]])
 (sq (r [4] [o 5 .mv [t 0],o 6 .mv [t 1],o 7 (.mm false) [t 5,t 6],o 4 .mv [t 7]])
  (.ret))
def qw:List RV:=[.tmp 4]
def rr (N:Nat) (a0:Int) (a1:Int):Option (Int):=
 some (if a1 < a0 then a1 else a0)
theorem Xa (E:En) (hy:Hy E [] [] [] qw none (fun y=>nocap y) zl) (a0:Int) (a1:Int):G E c_impl_cellOps_5 [] ⟨zw [(0,.d (.int .i64 a0)),(1,.d (.int .i64 a1))],zF []⟩=(rr E.n a0 a1).bind fun r=>some (.ret (.d (.int .i64 r)) []):=by
 simp (config:={maxSteps:=40000000}) only [↓yd,zV,yf,ya,rI,rS,rB,r8,rLI,yb,ye,hy.p,hy.l,hy.k,hy.r,hy.d,hy.w,hy.f,zl,oid,qw,↓zj _ _ c_impl_cellOps_5.eq_1,zz,rr,zR,zQ,zI,zK,zJ,zT,zL,yc,↓reduceIte,Nat.reduceMul,Nat.reduceAdd,Nat.reduceSub,Nat.reduceEqDiff,Nat.reduceBEq,Nat.reduceLeDiff,Nat.reduceLT,reduceCtorEq,Int.reduceAdd,Int.reduceSub,Int.reduceToNat,Int.reduceNeg,Int.reduceEq,Int.reduceLT,Int.reduceLE]
def XW (E:En) (L:Int→Int→Option (Int)):Prop:=E.Γ.mu 124=false∧(∀ (a0:Int) (a1:Int),E.Γ 124 [.d (.int .i64 a0),.d (.int .i64 a1)]=(L a0 a1).bind fun r=>some (.ret (.d (.int .i64 r)) []))
def c_impl_cellOps_6:Cd:=
 sq (r [0,1] [o 4 .mv [i 0]])
 (sq (r [4] [o 5 .mv [t 0],o 6 .mv [t 1],o 7 (.mm true) [t 5,t 6],o 4 .mv [t 7]])
  (.ret))
def ql:List RV:=[.tmp 4]
def qK (N:Nat) (a0:Int) (a1:Int):Option (Int):=
 some (if a0 < a1 then a1 else a0)
theorem XD (E:En) (hy:Hy E [] [] [] ql none (fun y=>nocap y) zl) (a0:Int) (a1:Int):G E c_impl_cellOps_6 [] ⟨zw [(0,.d (.int .i64 a0)),(1,.d (.int .i64 a1))],zF []⟩=(qK E.n a0 a1).bind fun r=>some (.ret (.d (.int .i64 r)) []):=by
 simp (config:={maxSteps:=40000000}) only [↓yd,zV,yf,ya,rI,rS,rB,r8,rLI,yb,ye,hy.p,hy.l,hy.k,hy.r,hy.d,hy.w,hy.f,zl,oid,ql,↓zj _ _ c_impl_cellOps_6.eq_1,zz,qK,zR,zQ,zI,zK,zJ,zT,zL,yc,↓reduceIte,Nat.reduceMul,Nat.reduceAdd,Nat.reduceSub,Nat.reduceEqDiff,Nat.reduceBEq,Nat.reduceLeDiff,Nat.reduceLT,reduceCtorEq,Int.reduceAdd,Int.reduceSub,Int.reduceToNat,Int.reduceNeg,Int.reduceEq,Int.reduceLT,Int.reduceLE]
def YV (E:En) (L:Int→Int→Option (Int)):Prop:=E.Γ.mu 125=false∧(∀ (a0:Int) (a1:Int),E.Γ 125 [.d (.int .i64 a0),.d (.int .i64 a1)]=(L a0 a1).bind fun r=>some (.ret (.d (.int .i64 r)) []))
def c_impl_truth:Cd:=
 sq (r [0] [o 2 .mv [i 0]])
 (sq (sq (r [3] [o 3 .mv [t 0]])
   (.cond (t 3) (sq (r [2] [o 2 .mv [i 1]])
     (.ret)) (.skip)))
  (sq (r [2] [o 2 .mv [i 0]])
   (.ret)))
def lW:List RV:=[.tmp 2]
def kB (N:Nat) (a0:Bool):Option (Int):=
 if a0=true then some 1
 else some 0
theorem TN (E:En) (hy:Hy E [] [] [] lW none (fun y=>nocap y) zl) (a0:Bool):G E c_impl_truth [] ⟨zw [(0,.d (.bool a0))],zF []⟩=(kB E.n a0).bind fun r=>some (.ret (.d (.int .i64 r)) []):=by
 simp (config:={maxSteps:=40000000}) only [↓yd,zV,yf,ya,rI,rS,rB,r8,rLI,yb,ye,hy.p,hy.l,hy.k,hy.r,hy.d,hy.w,hy.f,zl,oid,lW,↓zj _ _ c_impl_truth.eq_1,zz,kB,zR,zQ,zI,zK,zJ,zT,zL,yc,↓reduceIte,Nat.reduceMul,Nat.reduceAdd,Nat.reduceSub,Nat.reduceEqDiff,Nat.reduceBEq,Nat.reduceLeDiff,Nat.reduceLT,reduceCtorEq,Int.reduceAdd,Int.reduceSub,Int.reduceToNat,Int.reduceNeg,Int.reduceEq,Int.reduceLT,Int.reduceLE]
def gD (E:En) (L:Bool→Option (Int)):Prop:=E.Γ.mu 53=false∧(∀ (a0:Bool),E.Γ 53 [.d (.bool a0)]=(L a0).bind fun r=>some (.ret (.d (.int .i64 r)) []))
def c_impl_cellOps_7:Cd:=
 sq (r [0,1] [o 4 .mv [i 0]])
 (sq (r [4] [o 5 .mv [t 0],o 6 .mv [t 1],o 7 (.bin .lss) [t 5,t 6],o 8 (.call 53) [t 7],o 4 .mv [t 8]])
  (.ret))
def qF:List RV:=[.tmp 4]
def ry (xj:Bool→Option (Int)) (N:Nat) (a0:Int) (a1:Int):Option (Int):=
 (xj (Decidable.decide (a0 < a1))).bind fun y0=>
 some y0
theorem Xz (E:En) (hy:Hy E [] [] [] qF none (fun y=>nocap y) zl) (xj:Bool→Option (Int)) (h_impl_truth:gD E xj) (a0:Int) (a1:Int):G E c_impl_cellOps_7 [] ⟨zw [(0,.d (.int .i64 a0)),(1,.d (.int .i64 a1))],zF []⟩=(ry xj E.n a0 a1).bind fun r=>some (.ret (.d (.int .i64 r)) []):=by
 simp (config:={maxSteps:=40000000}) only [↓yd,zV,yf,ya,rI,rS,rB,r8,rLI,yb,ye,hy.p,hy.l,hy.k,hy.r,hy.d,hy.w,hy.f,zl,oid,qF,↓zj _ _ c_impl_cellOps_7.eq_1,h_impl_truth.2,h_impl_truth.1,zz,ry,zR,zQ,zI,zK,zJ,zT,zL,yc,↓reduceIte,Nat.reduceMul,Nat.reduceAdd,Nat.reduceSub,Nat.reduceEqDiff,Nat.reduceBEq,Nat.reduceLeDiff,Nat.reduceLT,reduceCtorEq,Int.reduceAdd,Int.reduceSub,Int.reduceToNat,Int.reduceNeg,Int.reduceEq,Int.reduceLT,Int.reduceLE]
def Xy (E:En) (L:Int→Int→Option (Int)):Prop:=E.Γ.mu 126=false∧(∀ (a0:Int) (a1:Int),E.Γ 126 [.d (.int .i64 a0),.d (.int .i64 a1)]=(L a0 a1).bind fun r=>some (.ret (.d (.int .i64 r)) []))
def c_impl_cellOps_8:Cd:=
 sq (r [0,1] [o 4 .mv [i 0]])
 (sq (r [4] [o 5 .mv [t 0],o 6 .mv [t 1],o 7 (.bin .eql) [t 5,t 6],o 8 (.call 53) [t 7],o 4 .mv [t 8]])
  (.ret))
def rq:List RV:=[.tmp 4]
def qu (xj:Bool→Option (Int)) (N:Nat) (a0:Int) (a1:Int):Option (Int):=
 (xj (Decidable.decide (a0=a1))).bind fun y0=>
 some y0
theorem Xq (E:En) (hy:Hy E [] [] [] rq none (fun y=>nocap y) zl) (xj:Bool→Option (Int)) (h_impl_truth:gD E xj) (a0:Int) (a1:Int):G E c_impl_cellOps_8 [] ⟨zw [(0,.d (.int .i64 a0)),(1,.d (.int .i64 a1))],zF []⟩=(qu xj E.n a0 a1).bind fun r=>some (.ret (.d (.int .i64 r)) []):=by
 simp (config:={maxSteps:=40000000}) only [↓yd,zV,yf,ya,rI,rS,rB,r8,rLI,yb,ye,hy.p,hy.l,hy.k,hy.r,hy.d,hy.w,hy.f,zl,oid,rq,↓zj _ _ c_impl_cellOps_8.eq_1,h_impl_truth.2,h_impl_truth.1,zz,qu,zR,zQ,zI,zK,zJ,zT,zL,yc,↓reduceIte,Nat.reduceMul,Nat.reduceAdd,Nat.reduceSub,Nat.reduceEqDiff,Nat.reduceBEq,Nat.reduceLeDiff,Nat.reduceLT,reduceCtorEq,Int.reduceAdd,Int.reduceSub,Int.reduceToNat,Int.reduceNeg,Int.reduceEq,Int.reduceLT,Int.reduceLE]
def Xd (E:En) (L:Int→Int→Option (Int)):Prop:=E.Γ.mu 127=false∧(∀ (a0:Int) (a1:Int),E.Γ 127 [.d (.int .i64 a0),.d (.int .i64 a1)]=(L a0 a1).bind fun r=>some (.ret (.d (.int .i64 r)) []))
def c_impl_cellOps_9:Cd:=
 sq (r [0,1] [o 4 .mv [i 0]])
 (sq (r [4] [o 5 .mv [t 0],o 6 .mv [t 1],o 7 (.bin .gtr) [t 5,t 6],o 8 (.call 53) [t 7],o 4 .mv [t 8]])
  (.ret))
def qf:List RV:=[.tmp 4]
def qg (xj:Bool→Option (Int)) (N:Nat) (a0:Int) (a1:Int):Option (Int):=
 (xj (Decidable.decide (a1 < a0))).bind fun y0=>
 some y0
theorem Xj (E:En) (hy:Hy E [] [] [] qf none (fun y=>nocap y) zl) (xj:Bool→Option (Int)) (h_impl_truth:gD E xj) (a0:Int) (a1:Int):G E c_impl_cellOps_9 [] ⟨zw [(0,.d (.int .i64 a0)),(1,.d (.int .i64 a1))],zF []⟩=(qg xj E.n a0 a1).bind fun r=>some (.ret (.d (.int .i64 r)) []):=by
 simp (config:={maxSteps:=40000000}) only [↓yd,zV,yf,ya,rI,rS,rB,r8,rLI,yb,ye,hy.p,hy.l,hy.k,hy.r,hy.d,hy.w,hy.f,zl,oid,qf,↓zj _ _ c_impl_cellOps_9.eq_1,h_impl_truth.2,h_impl_truth.1,zz,qg,zR,zQ,zI,zK,zJ,zT,zL,yc,↓reduceIte,Nat.reduceMul,Nat.reduceAdd,Nat.reduceSub,Nat.reduceEqDiff,Nat.reduceBEq,Nat.reduceLeDiff,Nat.reduceLT,reduceCtorEq,Int.reduceAdd,Int.reduceSub,Int.reduceToNat,Int.reduceNeg,Int.reduceEq,Int.reduceLT,Int.reduceLE]
def Xm (E:En) (L:Int→Int→Option (Int)):Prop:=E.Γ.mu 128=false∧(∀ (a0:Int) (a1:Int),E.Γ 128 [.d (.int .i64 a0),.d (.int .i64 a1)]=(L a0 a1).bind fun r=>some (.ret (.d (.int .i64 r)) []))
def c_impl_cellOps:Cd:=
 sq (r [0] [o 0 (.alloc [(.d .nilf),(.d .nilf),(.d .nilf),(.d .nilf),(.d .nilf),(.d .nilf),(.d .nilf),(.d .nilf),(.d .nilf),(.d .nilf),(.d .nilf)]) []])
 (sq (r [0] [o 1 (.bld [(.d .nilf),(.d .nilf),(.d .nilf),(.d .nilf),(.d .nilf),(.d .nilf),(.d .nilf),(.d .nilf),(.d .nilf),(.d .nilf),(.d .nilf)] [(1,1),(2,1),(3,1),(4,1),(5,1),(6,1),(7,1),(8,1),(9,1),(10,1)]) [.k (.d (.fn 117)),.k (.d (.fn 119)),.k (.d (.fn 120)),.k (.d (.fn 121)),.k (.d (.fn 123)),.k (.d (.fn 124)),.k (.d (.fn 125)),.k (.d (.fn 126)),.k (.d (.fn 127)),.k (.d (.fn 128))],e (.st 11) [t 0,t 1]])
  (.ret))
def oN:List RV:=[.cell 0 (some 11)]
def jq (iQ:Int→Int→Option (Res (Int))) (iH:Int→Int→Option (Res (Int))) (iE:Int→Int→Option (Res (Int))) (iG:Int→Int→Option (Res (Int))) (g8:Int→Int→Option (Int)) (iP:Int→Int→Option (Int)) (iC:Int→Int→Option (Int)) (iz:Int→Int→Option (Int)) (iR:Int→Int→Option (Int)) (iT:Int→Int→Option (Int)) (N:Nat):Option (Unit):=
 some (())
theorem Vj (E:En) (hy:Hy E [] [] [] oN none (fun y=>nocap y) zl) (iQ:Int→Int→Option (Res (Int))) (h_impl_cellOps_1:YT E iQ) (iH:Int→Int→Option (Res (Int))) (h_impl_cellOps_2:XK E iH) (iE:Int→Int→Option (Res (Int))) (h_impl_cellOps_3:Xl E iE) (iG:Int→Int→Option (Res (Int))) (h_impl_cellOps_4:Y1 E iG) (g8:Int→Int→Option (Int)) (h_impl_residue:Vn E g8) (iP:Int→Int→Option (Int)) (h_impl_cellOps_5:XW E iP) (iC:Int→Int→Option (Int)) (h_impl_cellOps_6:YV E iC) (iz:Int→Int→Option (Int)) (h_impl_cellOps_7:Xy E iz) (iR:Int→Int→Option (Int)) (h_impl_cellOps_8:Xd E iR) (iT:Int→Int→Option (Int)) (h_impl_cellOps_9:Xm E iT):G E c_impl_cellOps [] ⟨zw [],zF []⟩=(jq iQ iH iE iG g8 iP iC iz iR iT E.n).bind fun r=>some (.ret (.agg [.d (D.nilf),.d (.fn 117),.d (.fn 119),.d (.fn 120),.d (.fn 121),.d (.fn 123),.d (.fn 124),.d (.fn 125),.d (.fn 126),.d (.fn 127),.d (.fn 128)]) []):=by
 simp (config:={maxSteps:=40000000}) only [↓yd,zV,yf,ya,rI,rS,rB,r8,rLI,yb,ye,hy.p,hy.l,hy.k,hy.r,hy.d,hy.w,hy.f,zl,oid,oN,↓zj _ _ c_impl_cellOps.eq_1,h_impl_cellOps_1.2,h_impl_cellOps_1.1,h_impl_cellOps_2.2,h_impl_cellOps_2.1,h_impl_cellOps_3.2,h_impl_cellOps_3.1,h_impl_cellOps_4.2,h_impl_cellOps_4.1,h_impl_residue.2,h_impl_residue.1,h_impl_cellOps_5.2,h_impl_cellOps_5.1,h_impl_cellOps_6.2,h_impl_cellOps_6.1,h_impl_cellOps_7.2,h_impl_cellOps_7.1,h_impl_cellOps_8.2,h_impl_cellOps_8.1,h_impl_cellOps_9.2,h_impl_cellOps_9.1,zz,jq,zR,zQ,zI,zK,zJ,zT,zL,yc,↓reduceIte,Nat.reduceMul,Nat.reduceAdd,Nat.reduceSub,Nat.reduceEqDiff,Nat.reduceBEq,Nat.reduceLeDiff,Nat.reduceLT,reduceCtorEq,Int.reduceAdd,Int.reduceSub,Int.reduceToNat,Int.reduceNeg,Int.reduceEq,Int.reduceLT,Int.reduceLE]
def V9 (E:En) (L:Option (Unit)):Prop:=E.Γ.mu 97=false∧(E.Γ 97 []=(L).bind fun r=>some (.ret (.agg [.d (D.nilf),.d (.fn 117),.d (.fn 119),.d (.fn 120),.d (.fn 121),.d (.fn 123),.d (.fn 124),.d (.fn 125),.d (.fn 126),.d (.fn 127),.d (.fn 128)]) []))
def c_impl_opOf:Cd:=
 sq (r [0] [o 2 .mv [.k (.d .nilf)],o 3 .mv [b false]])
 (sq (sq (r [0,9] [o 4 .mv [t 0],o 5 (.bin .lss) [t 4,i 1],o 6 .mv [t 5],g 6 false 7 .mv [t 0],g 6 false 8 (.bin .gtr) [t 7,i 10],o 9 .pick [t 6,b true,t 8]])
   (.cond (t 9) (sq (r [2,3] [o 2 .mv [.k (.d .nilf)],o 3 .mv [b false]])
     (.ret)) (.skip)))
  (sq (r [2,3] [o 10 (.call 97) [],o 11 .mv [t 0],o 12 (.ixa 11 1 none) [t 10,t 11],o 2 .mv [t 12],o 3 .mv [b true]])
   (.ret)))
def jU:List RV:=[.tmp 2,.tmp 3]
def jX (ja:Option (Unit)) (N:Nat) (a0:Int):Option (Alt Unit Nat):=
 if a0 < 1 then some ((.a (())))
 else (if 10 < a0 then some ((.a (())))
  else ((ja).bind fun y0=>
   if 0 ≤ a0∧a0 < 11 then (if Int.toNat a0 * 1=1 then some ((.b 117))
    else (if Int.toNat a0 * 1=2 then some ((.b 119))
     else (if Int.toNat a0 * 1=3 then some ((.b 120))
      else (if Int.toNat a0 * 1=4 then some ((.b 121))
       else (if Int.toNat a0 * 1=5 then some ((.b 123))
        else (if Int.toNat a0 * 1=6 then some ((.b 124))
         else (if Int.toNat a0 * 1=7 then some ((.b 125))
          else (if Int.toNat a0 * 1=8 then some ((.b 126))
           else (if Int.toNat a0 * 1=9 then some ((.b 127))
            else (if Int.toNat a0 * 1=10 then some ((.b 128))
             else none))))))))))
   else none))
theorem R9 (E:En) (hy:Hy E [] [] [] jU none (fun y=>nocap y) zl) (ja:Option (Unit)) (h_impl_cellOps:V9 E ja) (a0:Int):G E c_impl_opOf [] ⟨zw [(0,.d (.int .i64 a0))],zF []⟩=(jX ja E.n a0).bind fun r=>r.on (fun r=>some (.ret (.tup [.d (D.nilf),.d (.bool false)]) [])) (fun r=>some (.ret (.tup [.d (.fn r),.d (.bool true)]) [])):=by
 simp (config:={maxSteps:=40000000}) only [↓yd,zV,yf,ya,rI,rS,rB,r8,rLI,yb,ye,hy.p,hy.l,hy.k,hy.r,hy.d,hy.w,hy.f,zl,oid,jU,↓zj _ _ c_impl_opOf.eq_1,h_impl_cellOps.2,h_impl_cellOps.1,zz,jX,zR,zQ,zI,zK,zJ,zT,zL,yc,↓reduceIte,Nat.reduceMul,Nat.reduceAdd,Nat.reduceSub,Nat.reduceEqDiff,Nat.reduceBEq,Nat.reduceLeDiff,Nat.reduceLT,reduceCtorEq,Int.reduceAdd,Int.reduceSub,Int.reduceToNat,Int.reduceNeg,Int.reduceEq,Int.reduceLT,Int.reduceLE]; simp only [Dh]
def wI (E:En) (L:Int→Option (Alt Unit Nat)):Prop:=E.Γ.mu 39=false∧(∀ (a0:Int),E.Γ 39 [.d (.int .i64 a0)]=(L a0).bind fun r=>r.on (fun r=>some (.ret (.tup [.d (D.nilf),.d (.bool false)]) [])) (fun r=>some (.ret (.tup [.d (.fn r),.d (.bool true)]) [])))
def b0_impl_cellsOf:Cd:=
 sq (r [4,10,11,12,13] [o 13 (.bin .lss) [t 12,t 11]])
 (sq (.cond (t 13) (.skip) (.exit 0))
  (sq (.block 1 (sq (r [4,6,10,11,12] [o 14 (.ia 1) [t 10,t 12],o 15 (.ld none) [t 14],o 6 .mv [t 15]])
    (sq (sq (r [4,6,10,11,12,21] [o 16 .mv [t 6],o 17 (.bin .lss) [t 16,i 0],o 18 .mv [t 17],g 18 false 19 .mv [t 6],g 18 false 20 (.bin .gtr) [t 19,i 1000],o 21 .pick [t 18,b true,t 20]])
      (.cond (t 21) (sq (r [2,3] [o 2 .mv [i 0],o 3 .mv [b false]])
        (.ret)) (.skip)))
     (r [4,10,11,12] [o 22 .mv [t 4],o 23 .mv [t 6],o 24 (.bin .mul) [t 22,t 23],o 4 .mv [t 24]]))))
   (r [4,10,11,12] [o 25 (.bin .add) [t 12,i 1],o 12 .mv [t 25]])))
def k1_impl_cellsOf:Cd:=
 sq (r [2,3] [o 26 .mv [t 4],o 27 .mv [t 4],o 28 (.bin .leq) [t 27,i 1000],o 2 .mv [t 26],o 3 .mv [t 28]])
 (.ret)
def c_impl_cellsOf:Cd:=
 sq (r [0] [o 2 .mv [i 0],o 3 .mv [b false]])
 (sq (sq (r [0,9] [o 7 .mv [t 0],o 8 (.len false) [t 7],o 9 (.bin .gtr) [t 8,i 3]])
   (.cond (t 9) (sq (r [2,3] [o 2 .mv [i 0],o 3 .mv [b false]])
     (.ret)) (.skip)))
  (sq (r [0,4] [o 4 .mv [i 1]])
   (sq (sq (r [4,10,11,12] [o 10 .mv [t 0],o 11 (.len false) [t 10],o 12 .mv [i 0]])
     (.block 0 (.loop [4,10,11,12] b0_impl_cellsOf))) k1_impl_cellsOf)))
def tS:List RV:=[.tmp 2,.tmp 3]
def tp:Nat→Int→(List Int)→Int→Int→Option (Int×Bool)
 | 0,_,_,_,_=>none
 | m0+1,x4,x10,x11,x12=>
   if x12 < x11 then ((idx x10 x12).bind fun y0=>
    if y0 < 0 then some ((0,false))
    else (if 1000 < y0 then some ((0,false))
     else tp m0 (w64 (x4 * y0)) x10 x11 (w64 (x12+1))))
   else some ((x4,Decidable.decide (x4 ≤ 1000)))
def oK (N:Nat) (a0:List Int):Option (Int×Bool):=
 if 3 < (↑(List.length a0):Int) then some ((0,false))
 else tp N 1 a0 ((↑(List.length a0):Int)) 0
theorem Zl (E:En) (hy:Hy E [] [] [] tS none (fun y=>nocap y) zl):∀ (m0:Nat) (x4:Int) (x10:List Int) (x11:Int) (x12:Int),gH E [4,10,11,12] b0_impl_cellsOf [KJ.b 0,KJ.c k1_impl_cellsOf] m0 ⟨zw [(4,.d (.int .i64 x4)),(10,.d (zf (cI) x10)),(11,.d (.int .i64 x11)),(12,.d (.int .i64 x12))],zF []⟩=(tp m0 x4 x10 x11 x12).bind fun r=>some (.ret (.tup [.d (.int .i64 r.1),.d (.bool r.2)]) []):=by
 intro m0
 induction m0 with
 | zero=>intros; rfl
 | succ m0 ih=>
   intros
   simp (config:={maxSteps:=40000000}) only [↓yd,zV,yf,ya,rI,rS,rB,r8,rLI,yb,ye,hy.p,hy.l,hy.k,hy.r,hy.d,hy.w,hy.f,zl,oid,tS,↓zj _ _ b0_impl_cellsOf.eq_1,↓zj _ _ k1_impl_cellsOf.eq_1,↓zj _ _ c_impl_cellsOf.eq_1,xb,ih,zz,tp,zR,zQ,zI,zK,zJ,zT,zL,yc,↓reduceIte,Nat.reduceMul,Nat.reduceAdd,Nat.reduceSub,Nat.reduceEqDiff,Nat.reduceBEq,Nat.reduceLeDiff,Nat.reduceLT,reduceCtorEq,Int.reduceAdd,Int.reduceSub,Int.reduceToNat,Int.reduceNeg,Int.reduceEq,Int.reduceLT,Int.reduceLE]
theorem Vu (E:En) (hy:Hy E [] [] [] tS none (fun y=>nocap y) zl) (a0:List Int):G E c_impl_cellsOf [] ⟨zw [(0,.d (zf cI a0))],zF []⟩=(oK E.n a0).bind fun r=>some (.ret (.tup [.d (.int .i64 r.1),.d (.bool r.2)]) []):=by
 simp (config:={maxSteps:=40000000}) only [↓yd,zV,yf,ya,rI,rS,rB,r8,rLI,yb,ye,hy.p,hy.l,hy.k,hy.r,hy.d,hy.w,hy.f,zl,oid,tS,↓zj _ _ b0_impl_cellsOf.eq_1,↓zj _ _ k1_impl_cellsOf.eq_1,↓zj _ _ c_impl_cellsOf.eq_1,zz,oK,Zl E hy,zR,zQ,zI,zK,zJ,zT,zL,yc,↓reduceIte,Nat.reduceMul,Nat.reduceAdd,Nat.reduceSub,Nat.reduceEqDiff,Nat.reduceBEq,Nat.reduceLeDiff,Nat.reduceLT,reduceCtorEq,Int.reduceAdd,Int.reduceSub,Int.reduceToNat,Int.reduceNeg,Int.reduceEq,Int.reduceLT,Int.reduceLE]
def rn (E:En) (L:(List Int)→Option (Int×Bool)):Prop:=E.Γ.mu 98=false∧(∀ (a0:List Int),E.Γ 98 [.d (zf cI a0)]=(L a0).bind fun r=>some (.ret (.tup [.d (.int .i64 r.1),.d (.bool r.2)]) []))
def b0_impl_ArrayOk:Cd:=
 sq (r [23,24,25,26] [o 26 (.bin .lss) [t 25,t 24]])
 (sq (.cond (t 26) (.skip) (.exit 0))
  (sq (.block 1 (sq (r [6,23,24,25] [o 27 (.ia 1) [t 23,t 25],o 28 (.ld none) [t 27],o 6 .mv [t 28]])
    (sq (r [23,24,25,34] [o 29 .mv [t 6],o 30 (.bin .lss) [t 29,i (-3000000000)],o 31 .mv [t 30],g 31 false 32 .mv [t 6],g 31 false 33 (.bin .gtr) [t 32,i 3000000000],o 34 .pick [t 31,b true,t 33]])
     (.cond (t 34) (sq (r [2] [o 2 .mv [b false]])
       (.ret)) (.skip)))))
   (r [23,24,25] [o 35 (.bin .add) [t 25,i 1],o 25 .mv [t 35]])))
def k1_impl_ArrayOk:Cd:=
 sq (r [2] [o 2 .mv [b true]])
 (.ret)
def c_impl_ArrayOk:Cd:=
 sq (r [1] [o 1 .box [t 0],o 2 .mv [b false]])
 (sq (r [1,3,4] [o 8 (.fa 0) [t 1],o 9 (.ld none) [t 8],o 10 (.call 98) [t 9],o 7 .mv [t 10],o 11 (.ext 0) [t 7],o 12 (.ext 1) [t 7],o 3 .mv [t 11],o 4 .mv [t 12]])
  (sq (sq (r [1,21] [o 13 .mv [t 4],o 14 .not [t 13],o 15 .mv [t 14],g 15 false 16 .mv [t 3],g 15 false 17 (.fa 1) [t 1],g 15 false 18 (.ld none) [t 17],g 15 false 19 (.len false) [t 18],g 15 false 20 (.bin .neq) [t 16,t 19],o 21 .pick [t 15,b true,t 20]])
    (.cond (t 21) (sq (r [2] [o 2 .mv [b false]])
      (.ret)) (.skip)))
   (sq (sq (r [23,24,25] [o 22 (.fa 1) [t 1],o 23 (.ld none) [t 22],o 24 (.len false) [t 23],o 25 .mv [i 0]])
     (.block 0 (.loop [23,24,25] b0_impl_ArrayOk))) k1_impl_ArrayOk)))
def tO:List RV:=[.tmp 2]
def tq (z0:(List Int)→Option (Int×Bool)):Nat→(List Int)→Int→Int→Option (Bool)
 | 0,_,_,_=>none
 | m0+1,x23,x24,x25=>
   if x25 < x24 then ((idx x23 x25).bind fun y0=>
    if y0 < -3000000000 then some false
    else (if 3000000000 < y0 then some false
     else tq z0 m0 x23 x24 (w64 (x25+1))))
   else some true
def oD (z0:(List Int)→Option (Int×Bool)) (N:Nat) (zg:List Int) (zh:List Int):Option (Bool):=
 (z0 zg).bind fun y0=>
 if y0.snd=false then some false
 else (if y0.fst=(↑(List.length zh):Int) then tq z0 N zh ((↑(List.length zh):Int)) 0
  else some false)
theorem ZP (E:En) (hy:Hy E [] [] [] tO none (fun y=>nocap y) zl) (z0:(List Int)→Option (Int×Bool)) (h_impl_cellsOf:rn E z0):∀ (m0:Nat) (x23:List Int) (x24:Int) (x25:Int),gH E [23,24,25] b0_impl_ArrayOk [KJ.b 0,KJ.c k1_impl_ArrayOk] m0 ⟨zw [(23,.d (zf (cI) x23)),(24,.d (.int .i64 x24)),(25,.d (.int .i64 x25))],zF []⟩=(tq z0 m0 x23 x24 x25).bind fun r=>some (.ret (.d (.bool r)) []):=by
 intro m0
 induction m0 with
 | zero=>intros; rfl
 | succ m0 ih=>
   intros
   simp (config:={maxSteps:=40000000}) only [↓yd,zV,yf,ya,rI,rS,rB,r8,rLI,yb,ye,hy.p,hy.l,hy.k,hy.r,hy.d,hy.w,hy.f,zl,oid,tO,↓zj _ _ b0_impl_ArrayOk.eq_1,↓zj _ _ k1_impl_ArrayOk.eq_1,↓zj _ _ c_impl_ArrayOk.eq_1,h_impl_cellsOf.2,h_impl_cellsOf.1,xb,ih,zz,tq,zR,zQ,zI,zK,zJ,zT,zL,yc,↓reduceIte,Nat.reduceMul,Nat.reduceAdd,Nat.reduceSub,Nat.reduceEqDiff,Nat.reduceBEq,Nat.reduceLeDiff,Nat.reduceLT,reduceCtorEq,Int.reduceAdd,Int.reduceSub,Int.reduceToNat,Int.reduceNeg,Int.reduceEq,Int.reduceLT,Int.reduceLE]
theorem Vk (E:En) (hy:Hy E [] [] [] tO none (fun y=>nocap y) zl) (z0:(List Int)→Option (Int×Bool)) (h_impl_cellsOf:rn E z0) (zg:List Int) (zh:List Int):G E c_impl_ArrayOk [] ⟨zw [(0,.agg [.d (zf cI zg),.d (zf cI zh)])],zF []⟩=(oD z0 E.n zg zh).bind fun r=>some (.ret (.d (.bool r)) []):=by
 simp (config:={maxSteps:=40000000}) only [↓yd,zV,yf,ya,rI,rS,rB,r8,rLI,yb,ye,hy.p,hy.l,hy.k,hy.r,hy.d,hy.w,hy.f,zl,oid,tO,↓zj _ _ b0_impl_ArrayOk.eq_1,↓zj _ _ k1_impl_ArrayOk.eq_1,↓zj _ _ c_impl_ArrayOk.eq_1,h_impl_cellsOf.2,h_impl_cellsOf.1,zz,oD,ZP E hy z0 h_impl_cellsOf,zR,zQ,zI,zK,zJ,zT,zL,yc,↓reduceIte,Nat.reduceMul,Nat.reduceAdd,Nat.reduceSub,Nat.reduceEqDiff,Nat.reduceBEq,Nat.reduceLeDiff,Nat.reduceLT,reduceCtorEq,Int.reduceAdd,Int.reduceSub,Int.reduceToNat,Int.reduceNeg,Int.reduceEq,Int.reduceLT,Int.reduceLE]
def xa (E:En) (L:(List Int)→(List Int)→Option (Bool)):Prop:=E.Γ.mu 40=false∧(∀ (zg:List Int) (zh:List Int),E.Γ 40 [.agg [.d (zf cI zg),.d (zf cI zh)]]=(L zg zh).bind fun r=>some (.ret (.d (.bool r)) []))
def c_slices_Clone___int_int_:Cd:=
 sq (r [0] [o 2 .mv [n]])
 (sq (sq (r [0,4] [o 3 .mv [t 0],o 4 (.snil false) [t 3]])
   (.cond (t 4) (sq (r [2] [o 2 .mv [n]])
     (.ret)) (.skip)))
  (sq (r [2] [o 5 (lit 3 1 0) [],o 6 .mv [t 0],o 7 (.app 3 1 8) [t 5,t 6],o 2 .mv [t 7]])
   (.ret)))
def xl:List RV:=[.tmp 2]
def wN (N:Nat) (a0:List Int):Option (List Int):=
 if yu 8 (List.length a0) then some a0
 else none
theorem fH (E:En) (hy:Hy E [] [] [] xl none (fun y=>nocap (yw (.own 3 1) y)) zl) (a0:List Int):G E c_slices_Clone___int_int_ [] ⟨zw [(0,.d (bZ cI a0))],zF []⟩=(wN E.n a0).bind fun r=>some (.ret (zo (cI) 3 none false r) []):=by
 simp (config:={maxSteps:=40000000}) only [↓yd,zV,yf,ya,rI,rS,rB,r8,rLI,yb,ye,hy.p,hy.l,hy.k,hy.r,hy.d,hy.w,hy.f,zl,oid,xl,↓zj _ _ c_slices_Clone___int_int_.eq_1,zz,wN,zR,zQ,zI,zK,zJ,zT,zL,yc,↓reduceIte,Nat.reduceMul,Nat.reduceAdd,Nat.reduceSub,Nat.reduceEqDiff,Nat.reduceBEq,Nat.reduceLeDiff,Nat.reduceLT,reduceCtorEq,Int.reduceAdd,Int.reduceSub,Int.reduceToNat,Int.reduceNeg,Int.reduceEq,Int.reduceLT,Int.reduceLE]
def uv (N:Nat):Option (List Int):=
 some []
theorem fN (E:En) (hy:Hy E [] [] [] xl none (fun y=>nocap (yw (.own 3 1) y)) zl):G E c_slices_Clone___int_int_ [] ⟨zw [(0,.nil)],zF []⟩=(uv E.n).bind fun r=>some (.ret (zo (cI) 3 none false r) []):=by
 simp (config:={maxSteps:=40000000}) only [↓yd,zV,yf,ya,rI,rS,rB,r8,rLI,yb,ye,hy.p,hy.l,hy.k,hy.r,hy.d,hy.w,hy.f,zl,oid,xl,↓zj _ _ c_slices_Clone___int_int_.eq_1,zz,uv,zR,zQ,zI,zK,zJ,zT,zL,yc,↓reduceIte,Nat.reduceMul,Nat.reduceAdd,Nat.reduceSub,Nat.reduceEqDiff,Nat.reduceBEq,Nat.reduceLeDiff,Nat.reduceLT,reduceCtorEq,Int.reduceAdd,Int.reduceSub,Int.reduceToNat,Int.reduceNeg,Int.reduceEq,Int.reduceLT,Int.reduceLE]
def xR (E:En) (L:(List Int)→Option (List Int)):Prop:=E.Γ.mu 99=false∧(∀ (a0:List Int),E.Γ 99 [.d (zf cI a0)]=(L a0).bind fun r=>some (.ret (zo (cI) 3 none false r) []))
def c_impl_cloned:Cd:=
 sq (r [1,2] [o 1 .box [t 0],o 2 (.alloc [.nil,.nil]) []])
 (sq (rd [] [2] [o 3 (.fa 0) [t 1],o 4 (.ld none) [t 3],o 6 (.fa 1) [t 1],o 7 (.ld none) [t 6],ap [] false [1,6] (o 5 (.call 99) [t 4]),o 8 (.call 99) [t 7],o 9 (.bld [.nil,.nil] [(0,1),(1,1)]) [t 5,t 8],e (.st 2) [t 2,t 9]])
  (.ret))
def md:List RV:=[.cell 2 (some 2)]
def li (zx:(List Int)→Option (List Int)) (N:Nat) (zg:List Int) (zh:List Int):Option (List Int×List Int):=
 (zx zg).bind fun y0=>
 (zx zh).bind fun y1=>
 some ((y0,y1))
theorem UK (E:En) (hy:Hy E [] [] [] md none (fun y=>nocap y) zl) (zx:(List Int)→Option (List Int)) (h_slices_Clone___int_int_:xR E zx) (zg:List Int) (zh:List Int):G E c_impl_cloned [] ⟨zw [(0,.agg [.d (zf cI zg),.d (zf cI zh)])],zF []⟩=(li zx E.n zg zh).bind fun r=>some (.ret (.agg [zo (cI) 3 none false r.1,zo (cI) 3 none false r.2]) []):=by
 simp (config:={maxSteps:=40000000}) only [↓yd,zV,yf,ya,rI,rS,rB,r8,rLI,yb,ye,hy.p,hy.l,hy.k,hy.r,hy.d,hy.w,hy.f,zl,oid,md,↓zj _ _ c_impl_cloned.eq_1,h_slices_Clone___int_int_.2,h_slices_Clone___int_int_.1,zz,li,zR,zQ,zI,zK,zJ,zT,zL,yc,↓reduceIte,Nat.reduceMul,Nat.reduceAdd,Nat.reduceSub,Nat.reduceEqDiff,Nat.reduceBEq,Nat.reduceLeDiff,Nat.reduceLT,reduceCtorEq,Int.reduceAdd,Int.reduceSub,Int.reduceToNat,Int.reduceNeg,Int.reduceEq,Int.reduceLT,Int.reduceLE]
def m9 (E:En) (L:(List Int)→(List Int)→Option (List Int×List Int)):Prop:=E.Γ.mu 41=false∧(∀ (zg:List Int) (zh:List Int),E.Γ 41 [.agg [.d (zf cI zg),.d (zf cI zh)]]=(L zg zh).bind fun r=>some (.ret (.agg [zo (cI) 3 none false r.1,zo (cI) 3 none false r.2]) []))
def c_impl_caught:Cd:=
 sq (r [0,1,4,9] [o 8 .mv [t 4],o 9 (.inil true) [t 8]])
 (.cond (t 9) (sq (r [0,1,4,5,6] [o 11 .mv [t 4],o 12 (.ta 75) [t 11],o 10 .mv [t 12],o 13 (.ext 0) [t 10],o 14 (.ext 1) [t 10],o 5 (.alloc [(.d (iD 0))]) [],e (.st 1) [t 5,t 13],o 6 .mv [t 14]])
   (sq (sq (r [0,1,4,5,16] [o 15 .mv [t 6],o 16 .not [t 15]])
     (.cond (t 16) (r [0,1,5] [o 17 .mv [t 4],e .pan [t 17]]) (.skip)))
    (sq (r [0,1] [o 18 .mv [t 0],o 19 (.fa 0) [t 5],o 20 (.ld none) [t 19],o 21 .nilck [t 18],e (.st 1) [t 21,t 20]])
     (r [0,1] [o 22 .mv [t 1],o 23 (.bld [.nil,.nil] []) [],o 24 .nilck [t 22],e (.st 2) [t 24,t 23]])))) (.skip))
def FH:List RV:=[]
def it (N:Nat) (x:Int) (a0:Int) (za:List Int) (zb:List Int):Option (Int):=
 some x
theorem UU (E:En) (hy:Hy E [0,64] [0,64] [(0,.box),(64,.box)] [] none (fun y=>y) zl) (x:Int) (a0:Int) (za:List Int) (zb:List Int):G E c_impl_caught [] ⟨zw [(4,.d (.ifaceS 75 [.int .i64 x])),(0,.adr 0 1 0),(1,.adr 64 1 0)],zF [(0,⟨1,.box [.d (.int .i64 a0)],false⟩),(64,⟨1,.box [.d (zf cI za),.d (zf cI zb)],false⟩)]⟩=(it E.n x a0 za zb).bind fun r=>some (.ret (.tup []) [[.int .i64 r],[D.nils,D.nils]]):=by
 simp (config:={maxSteps:=40000000}) only [↓yd,zV,yf,ya,rI,rS,rB,r8,rLI,yb,ye,hy.p,hy.l,hy.k,hy.r,hy.d,hy.w,hy.f,zl,oid,↓zj _ _ c_impl_caught.eq_1,zz,it,zR,zQ,zI,zK,zJ,zT,zL,yc,↓reduceIte,Nat.reduceMul,Nat.reduceAdd,Nat.reduceSub,Nat.reduceEqDiff,Nat.reduceBEq,Nat.reduceLeDiff,Nat.reduceLT,reduceCtorEq,Int.reduceAdd,Int.reduceSub,Int.reduceToNat,Int.reduceNeg,Int.reduceEq,Int.reduceLT,Int.reduceLE]
def jn (x:D):Option Int:=match x with
 | .ifaceS t [.int .i64 c]=>if t=75 then some c else none
 | _=>none
def c_impl_nothingOf:Cd:=
 sq (r [0,2] [o 2 .mv [i 0]])
 (sq (sq (r [2,3] [o 3 .mv [t 0]])
   (.block 0 (sq (sq (r [2,3,4] [o 5 (.bin .eql) [t 3,i 1],o 4 .mv [t 5]])
      (.cond (t 4) (.skip) (sq (r [2,3,4] [o 6 (.bin .eql) [t 3,i 2],o 4 .mv [t 6]])
        (.cond (t 4) (.skip) (r [2,3,4] [o 7 (.bin .eql) [t 3,i 5],o 4 .mv [t 7]])))))
     (.cond (t 4) (sq (r [2] [o 2 .mv [i 0]])
       (.ret)) (sq (sq (r [2,3,8] [o 9 (.bin .eql) [t 3,i 3],o 8 .mv [t 9]])
        (.cond (t 8) (.skip) (r [2,3,8] [o 10 (.bin .eql) [t 3,i 4],o 8 .mv [t 10]])))
       (.cond (t 8) (sq (r [2] [o 2 .mv [i 1]])
         (.ret)) (sq (r [2,3,11] [o 12 (.bin .eql) [t 3,i 6],o 11 .mv [t 12]])
         (.cond (t 11) (sq (r [2] [o 2 .mv [i 3000000000]])
           (.ret)) (sq (r [2,13] [o 14 (.bin .eql) [t 3,i 7],o 13 .mv [t 14]])
           (.cond (t 13) (sq (r [2] [o 2 .mv [i (-3000000000)]])
             (.ret)) (.skip)))))))))))
  (r [2] [o 15 (.bld [(.d (iD 0))] [(0,1)]) [i 1],o 16 (.mkI 75) [t 15],e .pan [t 16]]))
def rP:List RV:=[.tmp 2]
def rx (N:Nat) (a0:Int):Option (Res (Int)):=
 if a0=1 then (if a0=1 then some (.ok 0)
  else (if a0=3 then (if a0=3 then some (.ok 1)
   else (if a0=6 then some (.ok 3000000000)
    else (if a0=7 then some (.ok (-3000000000))
     else some (.pan (D.ifaceS 75 [D.int .i64 1])))))
   else (if a0=4 then some (.ok 1)
    else (if a0=6 then some (.ok 3000000000)
     else (if a0=7 then some (.ok (-3000000000))
      else some (.pan (D.ifaceS 75 [D.int .i64 1])))))))
 else (if a0=2 then (if a0=2 then some (.ok 0)
  else (if a0=3 then (if a0=3 then some (.ok 1)
   else (if a0=6 then some (.ok 3000000000)
    else (if a0=7 then some (.ok (-3000000000))
     else some (.pan (D.ifaceS 75 [D.int .i64 1])))))
   else (if a0=4 then some (.ok 1)
    else (if a0=6 then some (.ok 3000000000)
     else (if a0=7 then some (.ok (-3000000000))
      else some (.pan (D.ifaceS 75 [D.int .i64 1])))))))
  else (if a0=5 then some (.ok 0)
   else (if a0=3 then (if a0=3 then some (.ok 1)
    else (if a0=6 then some (.ok 3000000000)
     else (if a0=7 then some (.ok (-3000000000))
      else some (.pan (D.ifaceS 75 [D.int .i64 1])))))
    else (if a0=4 then some (.ok 1)
     else (if a0=6 then some (.ok 3000000000)
      else (if a0=7 then some (.ok (-3000000000))
       else some (.pan (D.ifaceS 75 [D.int .i64 1]))))))))
theorem Xk (E:En) (hy:Hy E [] [] [] rP none (fun y=>nocap y) zl) (a0:Int):G E c_impl_nothingOf [] ⟨zw [(0,.d (.int .i64 a0))],zF []⟩=(rx E.n a0).bind fun r=>r.on (fun r=>some (.ret (.d (.int .i64 r)) [])) (fun x=>some (.pan x [])):=by
 simp (config:={maxSteps:=40000000}) only [↓yd,zV,yf,ya,rI,rS,rB,r8,rLI,yb,ye,hy.p,hy.l,hy.k,hy.r,hy.d,hy.w,hy.f,zl,oid,rP,↓zj _ _ c_impl_nothingOf.eq_1,zz,rx,zR,zQ,zI,zK,zJ,zT,zL,yc,↓reduceIte,Nat.reduceMul,Nat.reduceAdd,Nat.reduceSub,Nat.reduceEqDiff,Nat.reduceBEq,Nat.reduceLeDiff,Nat.reduceLT,reduceCtorEq,Int.reduceAdd,Int.reduceSub,Int.reduceToNat,Int.reduceNeg,Int.reduceEq,Int.reduceLT,Int.reduceLE]
def xW (E:En) (L:Int→Option (Res (Int))):Prop:=E.Γ.mu 65=false∧(∀ (a0:Int),E.Γ 65 [.d (.int .i64 a0)]=(L a0).bind fun r=>r.on (fun r=>some (.ret (.d (.int .i64 r)) [])) (fun x=>some (.pan x [])))
def c_impl_made:Cd:=
 sq (r [0,2] [o 2 (.alloc [.nil,.nil]) []])
 (sq (r [0,2,3,4] [o 6 .mv [t 0],o 7 (.call 98) [t 6],o 5 .mv [t 7],o 8 (.ext 0) [t 5],o 9 (.ext 1) [t 5],o 3 .mv [t 8],o 4 .mv [t 9]])
  (sq (sq (r [0,2,3,11] [o 10 .mv [t 4],o 11 .not [t 10]])
    (.cond (t 11) (r [0,2,3] [o 12 (.bld [(.d (iD 0))] [(0,1)]) [i 6],o 13 (.mkI 75) [t 12],e .pan [t 13]]) (.skip)))
   (sq (rd [] [2] [ap [1088] false [] (o 14 .mv [t 0]),o 16 .mv [t 3],ap [] true [] (o 17 (.mkS 3 1 8 [(iD 0)]) [i 0,t 16]),ap [1088] false [] (o 15 (.call 99) [t 14]),o 18 (.bld [.nil,.nil] [(0,1),(1,1)]) [t 15,t 17],e (.st 2) [t 2,t 18]])
    (.ret))))
def j4:List RV:=[.cell 2 (some 2)]
def jG (z0:(List Int)→Option (Int×Bool)) (zx:(List Int)→Option (List Int)) (N:Nat) (a0:List Int):Option (Res (List Int×Option Nat×List Int)):=
 (z0 a0).bind fun y0=>
 if y0.snd=false then some (.pan (D.ifaceS 75 [D.int .i64 6]))
 else (if Za 8 0 y0.fst then ((zx a0).bind fun y1=>
  some (.ok ((y1,some (Int.toNat y0.fst),List.replicate 0 0))))
  else none)
theorem RM (E:En) (hy:Hy E [] [] [] j4 none (fun y=>y) zl) (z0:(List Int)→Option (Int×Bool)) (h_impl_cellsOf:rn E z0) (zx:(List Int)→Option (List Int)) (h_slices_Clone___int_int_:xR E zx) (a0:List Int):G E c_impl_made [] ⟨zw [(0,.d (zf cI a0))],zF []⟩=(jG z0 zx E.n a0).bind fun r=>r.on (fun r=>some (.ret (.agg [zo (cI) 3 none false r.1,zo (cI) 3 r.2.1 false r.2.2]) [])) (fun x=>some (.pan x [])):=by
 simp (config:={maxSteps:=40000000}) only [↓yd,zV,yf,ya,rI,rS,rB,r8,rLI,yb,ye,hy.p,hy.l,hy.k,hy.r,hy.d,hy.w,hy.f,zl,oid,j4,↓zj _ _ c_impl_made.eq_1,h_impl_cellsOf.2,h_impl_cellsOf.1,h_slices_Clone___int_int_.2,h_slices_Clone___int_int_.1,zz,jG,zR,zQ,zI,zK,zJ,zT,zL,yc,↓reduceIte,Nat.reduceMul,Nat.reduceAdd,Nat.reduceSub,Nat.reduceEqDiff,Nat.reduceBEq,Nat.reduceLeDiff,Nat.reduceLT,reduceCtorEq,Int.reduceAdd,Int.reduceSub,Int.reduceToNat,Int.reduceNeg,Int.reduceEq,Int.reduceLT,Int.reduceLE]
def yD (E:En) (L:(List Int)→Option (Res (List Int×Option Nat×List Int))):Prop:=E.Γ.mu 44=false∧(∀ (a0:List Int),E.Γ 44 [.d (zf cI a0)]=(L a0).bind fun r=>r.on (fun r=>some (.ret (.agg [zo (cI) 3 none false r.1,zo (cI) 3 r.2.1 false r.2.2]) [])) (fun x=>some (.pan x [])))
def b0_impl_fold:Cd:=
 sq (r [8,9,10,25,26,27] [o 27 (.bin .lss) [t 26,t 25]])
 (sq (.cond (t 27) (.skip) (.exit 0))
  (sq (.block 1 (r [8,9,10,25,26] [o 28 (.fa 1) [t 10],o 29 (.ld none) [t 28],o 30 .mv [t 9],o 31 (lit 3 1 1) [t 30],o 32 (.app 3 1 8) [t 29,t 31],o 33 (.fa 1) [t 10],e (.st 1) [t 33,t 32]]))
   (r [8,9,10,25,26] [o 34 (.bin .add) [t 26,i 1],o 26 .mv [t 34]])))
def k1_impl_fold:Cd:=
 sq (r [8] [o 35 (.ld (some 2)) [t 10],e (.st 2) [t 8,t 35]])
 (.ret)
def b2_impl_fold:Cd:=
 sq (r [1,6,8,11,12,13,62,63,64] [o 64 (.bin .lss) [t 63,t 62]])
 (sq (.cond (t 64) (.skip) (.exit 4))
  (sq (.block 5 (sq (r [1,6,8,11,12,13,14,62,63] [o 65 .mv [t 63],o 14 .mv [t 65]])
    (rd [] [1,6,8,11,12,13,62,63] [o 66 .mv [t 12],o 67 .mv [t 14],o 68 .mv [t 1],o 69 (.fa 1) [t 6],o 70 (.ld none) [t 69],o 71 .mv [t 13],o 72 .mv [t 11],o 73 (.bin .mul) [t 71,t 72],o 74 .mv [t 14],o 75 (.bin .add) [t 73,t 74],o 76 (.ia 1) [t 70,t 75],o 77 (.ld none) [t 76],o 78 .mv [t 12],o 79 .mv [t 14],o 80 (.ia 1) [t 78,t 79],o 81 (.ld none) [t 80],o 82 .dyn [t 68,t 77,t 81],o 83 (.ia 1) [t 66,t 67],e (.st 1) [t 83,t 82]])))
   (r [1,6,8,11,12,13,62,63] [o 84 (.bin .add) [t 63,i 1],o 63 .mv [t 84]])))
def k3_impl_fold:Cd:=
 r [1,6,8,11,12,13] [o 59 .mv [t 13],o 60 (.bin .sub) [t 59,i 1],o 13 .mv [t 60]]
def b4_impl_fold:Cd:=
 sq (sq (r [1,6,8,11,12,13,58] [o 57 .mv [t 13],o 58 (.bin .geq) [t 57,i 0]])
  (.cond (t 58) (.skip) (.exit 2)))
 (sq (.block 3 (sq (r [1,6,8,11,12,13,62,63] [o 61 .mv [t 12],o 62 (.len false) [t 61],o 63 .mv [i 0]])
   (.block 4 (.loop [1,6,8,11,12,13,62,63] b2_impl_fold)))) k3_impl_fold)
def k5_impl_fold:Cd:=
 sq (.frz 6 (r [8] [o 85 (.fa 0) [t 6],o 86 (.ld none) [t 85],o 87 (.slc false 1 true false) [t 86,i 1],o 88 (.call 99) [t 87],o 89 .mv [t 12],o 90 (.bld [.nil,.nil] [(0,1),(1,1)]) [t 88,t 89],e (.st 2) [t 8,t 90]]))
 (.ret)
def k6_impl_fold:Cd:=
 sq (rd [] [1,3,6,8,11] [o 36 (.fa 1) [t 6],o 37 (.ld none) [t 36],o 38 (.len false) [t 37],o 39 (.fa 0) [t 6],o 40 (.ld none) [t 39],o 41 (.ia 1) [t 40,i 0],o 42 (.ld none) [t 41],o 43 (.bin .quo) [t 38,t 42],o 11 .mv [t 43]])
 (sq (.frz 6 (r [1,3,6,8,11,12] [o 44 (.fa 1) [t 6],o 45 (.ld none) [t 44],o 46 .mv [t 3],o 47 (.bin .sub) [t 46,i 1],o 48 .mv [t 11],o 49 (.bin .mul) [t 47,t 48],o 50 .mv [t 3],o 51 .mv [t 11],o 52 (.bin .mul) [t 50,t 51],o 53 (.slc false 1 true true) [t 45,t 49,t 52],o 54 (.call 99) [t 53],o 12 .mv [t 54]]))
  (sq (sq (r [1,6,8,11,12,13] [o 55 .mv [t 3],o 56 (.bin .sub) [t 55,i 2],o 13 .mv [t 56]])
    (.block 2 (.loop [1,6,8,11,12,13] b4_impl_fold))) k5_impl_fold))
def c_impl_fold:Cd:=
 sq (r [0,1,3,6,8] [o 6 .box [t 2],o 8 (.alloc [.nil,.nil]) []])
 (sq (sq (r [0,1,3,6,8,16] [o 15 .mv [t 3],o 16 (.bin .eql) [t 15,i 0]])
   (.cond (t 16) (sq (r [6,8,9] [o 17 .mv [t 0],o 18 (.call 65) [t 17],o 9 .mv [t 18]])
     (sq (.frz 6 (r [8,9,10] [o 19 (.fa 0) [t 6],o 20 (.ld none) [t 19],o 21 (.slc false 1 true false) [t 20,i 1],o 22 (.call 44) [t 21],o 10 (.alloc [.nil,.nil]) [],e (.st 2) [t 10,t 22]]))
      (sq (sq (r [8,9,10,25,26] [o 23 (.fa 1) [t 10],o 24 (.ld none) [t 23],o 25 .cap [t 24],o 26 .mv [i 0]])
        (.block 0 (.loop [8,9,10,25,26] b0_impl_fold))) k1_impl_fold))) (.skip))) k6_impl_fold)
def uz:List RV:=[.cell 8 (some 2)]
def qG (zu:Int→Option (Res (Int))) (zi:(List Int)→Option (Res (List Int×Option Nat×List Int))) (zx:(List Int)→Option (List Int)) (z7:Nat→Int→Int→Option (Res Int)) (K1:Nat→Int→Int→(List Int)→(List Int)→(List Int)→Option (Res (List Int×List Int))):Nat→Nat→Int→Int→Int→Int→(List Int)→(List Int)→(List Int)→Option (Res (List Int×List Int))
 | 0,_,_,_,_,_,_,_,_=>none
 | m2+1,x1,x11,x13,x62,x63,o384_0,o384_1,o768=>
   if x63 < x62 then ((idx o384_1 (w64 (w64 (x13 * x11)+x63))).bind fun y0=>
    if 0 ≤ x63∧x63 < (↑(List.length o768):Int) then ((o768[Int.toNat x63]?).bind fun y1=>
     (z7 x1 y0 y1).bind fun y2=>
     (y2).on (fun y3=>if 0 ≤ x63∧x63 < (↑(List.length o768):Int) then ((dM o768 (Int.toNat x63) y3).bind fun y4=>
       qG zu zi zx z7 K1 m2 x1 x11 x13 x62 (w64 (x63+1)) o384_0 o384_1 y4)
      else none) (fun y3=>some (.pan (y3))))
    else none)
   else K1 x1 x11 (w64 (x13 - 1)) o384_0 o384_1 o768
def sC (zu:Int→Option (Res (Int))) (zi:(List Int)→Option (Res (List Int×Option Nat×List Int))) (zx:(List Int)→Option (List Int)) (z7:Nat→Int→Int→Option (Res Int)) (N:Nat):Nat→Nat→Int→Int→(List Int)→(List Int)→(List Int)→Option (Res (List Int×List Int))
 | 0,_,_,_,_,_,_=>none
 | m1+1,x1,x11,x13,o384_0,o384_1,o768=>
   if 0 ≤ x13 then qG zu zi zx z7 (sC zu zi zx z7 N m1) N x1 x11 x13 ((↑(List.length o768):Int)) 0 o384_0 o384_1 o768
   else ((cut o384_0 1 (↑(List.length o384_0):Int)).bind fun y0=>
    (zx y0).bind fun y1=>
    some (.ok ((y1,o768))))
def rR (zu:Int→Option (Res (Int))) (zi:(List Int)→Option (Res (List Int×Option Nat×List Int))) (zx:(List Int)→Option (List Int)) (z7:Nat→Int→Int→Option (Res Int)):Nat→Int→Int→Int→(List Int)→(List Int)→Option (Res (List Int×List Int))
 | 0,_,_,_,_,_=>none
 | m0+1,x9,x25,x26,o641,o642=>
   if x26 < x25 then (if yu 8 (List.length (o642++[x9])) then rR zu zi zx z7 m0 x9 x25 (w64 (x26+1)) o641 (o642++[x9])
    else none)
   else some (.ok ((o641,o642)))
def jQ (zu:Int→Option (Res (Int))) (zi:(List Int)→Option (Res (List Int×Option Nat×List Int))) (zx:(List Int)→Option (List Int)) (z7:Nat→Int→Int→Option (Res Int)) (N:Nat) (a0:Int) (a1:Nat) (zt:List Int) (zA:List Int) (a3:Int):Option (Res (List Int×List Int)):=
 if a3=0 then ((zu a0).bind fun y0=>
  (y0).on (fun y1=>(cut zt 1 (↑(List.length zt):Int)).bind fun y2=>
   (zi y2).bind fun y3=>
   (y3).on (fun y4=>(y4.snd.fst).bind fun y5=>
    rR zu zi zx z7 N y1 ((↑y5:Int)) 0 y4.fst y4.snd.snd) (fun y4=>some (.pan (y4)))) (fun y1=>some (.pan (y1))))
 else ((idx zt 0).bind fun y6=>
  if y6=0 then none
  else ((cut zA (w64 (w64 (a3 - 1) * w64 (Int.tdiv (↑(List.length zA):Int) y6))) (w64 (a3 * w64 (Int.tdiv (↑(List.length zA):Int) y6)))).bind fun y7=>
   (zx y7).bind fun y8=>
   sC zu zi zx z7 N N a1 (w64 (Int.tdiv (↑(List.length zA):Int) y6)) (w64 (a3 - 2)) zt zA y8))
theorem XX (E:En) (hy:Hy E [] [] [] uz none (fun y=>nocap y) zl) (zu:Int→Option (Res (Int))) (h_impl_nothingOf:xW E zu) (zi:(List Int)→Option (Res (List Int×Option Nat×List Int))) (h_impl_made:yD E zi) (zx:(List Int)→Option (List Int)) (h_slices_Clone___int_int_:xR E zx) (z7:Nat→Int→Int→Option (Res Int)) (xK:∀ (f:Nat) (x y:Int),E.Γ f [.d (.int .i64 x),.d (.int .i64 y)]=(z7 f x y).bind fun r=>r.on (fun r=>some (.ret (.d (.int .i64 r)) [])) (fun x=>some (.pan x []))) (m1:Nat) (K1:Nat→Int→Int→(List Int)→(List Int)→(List Int)→Option (Res (List Int×List Int))) (hK1:∀ (x1:Nat) (x11:Int) (x13:Int) (o384_0:List Int) (o384_1:List Int) (o768:List Int),gH E [1,6,8,11,12,13] b4_impl_fold [KJ.b 2,KJ.c k5_impl_fold] m1 ⟨zw [(1,.d (.fn x1)),(6,A.adr 384 1 0),(8,A.adr 512 1 0),(11,.d (.int .i64 x11)),(12,A.row 768 1),(13,.d (.int .i64 x13))],zF [(384,⟨1,.box [.d (zf (cI) o384_0),.d (zf (cI) o384_1)],false⟩),(512,⟨1,.box [A.nil,A.nil],false⟩),(768,⟨1,yg (cI) 3 none o768,false⟩)]⟩=(K1 x1 x11 x13 o384_0 o384_1 o768).bind fun r=>r.on (fun r=>some (.ret (.agg [zo (cI) 3 none false r.1,zo (cI) 3 none false r.2]) [])) (fun x=>some (.pan x []))):∀ (m2:Nat) (x1:Nat) (x11:Int) (x13:Int) (x62:Int) (x63:Int) (o384_0:List Int) (o384_1:List Int) (o768:List Int),gH E [1,6,8,11,12,13,62,63] b2_impl_fold [KJ.b 4,KJ.b 3,KJ.c k3_impl_fold,KJ.l [1,6,8,11,12,13] b4_impl_fold m1,KJ.b 2,KJ.c k5_impl_fold] m2 ⟨zw [(1,.d (.fn x1)),(6,A.adr 384 1 0),(8,A.adr 512 1 0),(11,.d (.int .i64 x11)),(12,A.row 768 1),(13,.d (.int .i64 x13)),(62,.d (.int .i64 x62)),(63,.d (.int .i64 x63))],zF [(384,⟨1,.box [.d (zf (cI) o384_0),.d (zf (cI) o384_1)],false⟩),(512,⟨1,.box [A.nil,A.nil],false⟩),(768,⟨1,yg (cI) 3 none o768,false⟩)]⟩=(qG zu zi zx z7 K1 m2 x1 x11 x13 x62 x63 o384_0 o384_1 o768).bind fun r=>r.on (fun r=>some (.ret (.agg [zo (cI) 3 none false r.1,zo (cI) 3 none false r.2]) [])) (fun x=>some (.pan x [])):=by
 intro m2
 induction m2 with
 | zero=>intros; rfl
 | succ m2 ih=>
   intros
   simp (config:={maxSteps:=40000000}) only [↓yd,zV,yf,ya,rI,rS,rB,r8,rLI,yb,ye,hy.p,hy.l,hy.k,hy.r,hy.d,hy.w,hy.f,zl,oid,uz,↓zj _ _ b0_impl_fold.eq_1,↓zj _ _ k1_impl_fold.eq_1,↓zj _ _ b2_impl_fold.eq_1,↓zj _ _ k3_impl_fold.eq_1,↓zj _ _ b4_impl_fold.eq_1,↓zj _ _ k5_impl_fold.eq_1,↓zj _ _ k6_impl_fold.eq_1,↓zj _ _ c_impl_fold.eq_1,h_impl_nothingOf.2,h_impl_nothingOf.1,h_impl_made.2,h_impl_made.1,h_slices_Clone___int_int_.2,h_slices_Clone___int_int_.1,xK,xb,ih,zz,qG,hK1,zR,zQ,zI,zK,zJ,zT,zL,yc,↓reduceIte,Nat.reduceMul,Nat.reduceAdd,Nat.reduceSub,Nat.reduceEqDiff,Nat.reduceBEq,Nat.reduceLeDiff,Nat.reduceLT,reduceCtorEq,Int.reduceAdd,Int.reduceSub,Int.reduceToNat,Int.reduceNeg,Int.reduceEq,Int.reduceLT,Int.reduceLE]
theorem WO (E:En) (hy:Hy E [] [] [] uz none (fun y=>nocap y) zl) (zu:Int→Option (Res (Int))) (h_impl_nothingOf:xW E zu) (zi:(List Int)→Option (Res (List Int×Option Nat×List Int))) (h_impl_made:yD E zi) (zx:(List Int)→Option (List Int)) (h_slices_Clone___int_int_:xR E zx) (z7:Nat→Int→Int→Option (Res Int)) (xK:∀ (f:Nat) (x y:Int),E.Γ f [.d (.int .i64 x),.d (.int .i64 y)]=(z7 f x y).bind fun r=>r.on (fun r=>some (.ret (.d (.int .i64 r)) [])) (fun x=>some (.pan x []))):∀ (m1:Nat) (x1:Nat) (x11:Int) (x13:Int) (o384_0:List Int) (o384_1:List Int) (o768:List Int),gH E [1,6,8,11,12,13] b4_impl_fold [KJ.b 2,KJ.c k5_impl_fold] m1 ⟨zw [(1,.d (.fn x1)),(6,A.adr 384 1 0),(8,A.adr 512 1 0),(11,.d (.int .i64 x11)),(12,A.row 768 1),(13,.d (.int .i64 x13))],zF [(384,⟨1,.box [.d (zf (cI) o384_0),.d (zf (cI) o384_1)],false⟩),(512,⟨1,.box [A.nil,A.nil],false⟩),(768,⟨1,yg (cI) 3 none o768,false⟩)]⟩=(sC zu zi zx z7 E.n m1 x1 x11 x13 o384_0 o384_1 o768).bind fun r=>r.on (fun r=>some (.ret (.agg [zo (cI) 3 none false r.1,zo (cI) 3 none false r.2]) [])) (fun x=>some (.pan x [])):=by
 intro m1
 induction m1 with
 | zero=>intros; rfl
 | succ m1 ih=>
   intros
   simp (config:={maxSteps:=40000000}) only [↓yd,zV,yf,ya,rI,rS,rB,r8,rLI,yb,ye,hy.p,hy.l,hy.k,hy.r,hy.d,hy.w,hy.f,zl,oid,uz,↓zj _ _ b0_impl_fold.eq_1,↓zj _ _ k1_impl_fold.eq_1,↓zj _ _ b2_impl_fold.eq_1,↓zj _ _ k3_impl_fold.eq_1,↓zj _ _ b4_impl_fold.eq_1,↓zj _ _ k5_impl_fold.eq_1,↓zj _ _ k6_impl_fold.eq_1,↓zj _ _ c_impl_fold.eq_1,h_impl_nothingOf.2,h_impl_nothingOf.1,h_impl_made.2,h_impl_made.1,h_slices_Clone___int_int_.2,h_slices_Clone___int_int_.1,xK,xb,ih,zz,sC,XX E hy zu h_impl_nothingOf zi h_impl_made zx h_slices_Clone___int_int_ z7 xK m1 _ ih,zR,zQ,zI,zK,zJ,zT,zL,yc,↓reduceIte,Nat.reduceMul,Nat.reduceAdd,Nat.reduceSub,Nat.reduceEqDiff,Nat.reduceBEq,Nat.reduceLeDiff,Nat.reduceLT,reduceCtorEq,Int.reduceAdd,Int.reduceSub,Int.reduceToNat,Int.reduceNeg,Int.reduceEq,Int.reduceLT,Int.reduceLE]
theorem WI (E:En) (hy:Hy E [] [] [] uz none (fun y=>nocap y) zl) (zu:Int→Option (Res (Int))) (h_impl_nothingOf:xW E zu) (zi:(List Int)→Option (Res (List Int×Option Nat×List Int))) (h_impl_made:yD E zi) (zx:(List Int)→Option (List Int)) (h_slices_Clone___int_int_:xR E zx) (z7:Nat→Int→Int→Option (Res Int)) (xK:∀ (f:Nat) (x y:Int),E.Γ f [.d (.int .i64 x),.d (.int .i64 y)]=(z7 f x y).bind fun r=>r.on (fun r=>some (.ret (.d (.int .i64 r)) [])) (fun x=>some (.pan x []))):∀ (m0:Nat) (x9:Int) (x25:Int) (x26:Int) (o641:List Int) (o642:List Int),gH E [8,9,10,25,26] b0_impl_fold [KJ.b 0,KJ.c k1_impl_fold,KJ.c k6_impl_fold] m0 ⟨zw [(8,A.adr 512 1 0),(9,.d (.int .i64 x9)),(10,A.adr 640 1 0),(25,.d (.int .i64 x25)),(26,.d (.int .i64 x26))],zF [(512,⟨1,.box [A.nil,A.nil],false⟩),(640,⟨1,.box [A.row 641 1,A.row 642 1],false⟩),(641,⟨1,yg (cI) 3 none o641,false⟩),(642,⟨1,yg (cI) 3 none o642,false⟩)]⟩=(rR zu zi zx z7 m0 x9 x25 x26 o641 o642).bind fun r=>r.on (fun r=>some (.ret (.agg [zo (cI) 3 none false r.1,zo (cI) 3 none false r.2]) [])) (fun x=>some (.pan x [])):=by
 intro m0
 induction m0 with
 | zero=>intros; rfl
 | succ m0 ih=>
   intros
   simp (config:={maxSteps:=40000000}) only [↓yd,zV,yf,ya,rI,rS,rB,r8,rLI,yb,ye,hy.p,hy.l,hy.k,hy.r,hy.d,hy.w,hy.f,zl,oid,uz,↓zj _ _ b0_impl_fold.eq_1,↓zj _ _ k1_impl_fold.eq_1,↓zj _ _ b2_impl_fold.eq_1,↓zj _ _ k3_impl_fold.eq_1,↓zj _ _ b4_impl_fold.eq_1,↓zj _ _ k5_impl_fold.eq_1,↓zj _ _ k6_impl_fold.eq_1,↓zj _ _ c_impl_fold.eq_1,h_impl_nothingOf.2,h_impl_nothingOf.1,h_impl_made.2,h_impl_made.1,h_slices_Clone___int_int_.2,h_slices_Clone___int_int_.1,xK,xb,ih,zz,rR,zR,zQ,zI,zK,zJ,zT,zL,yc,↓reduceIte,Nat.reduceMul,Nat.reduceAdd,Nat.reduceSub,Nat.reduceEqDiff,Nat.reduceBEq,Nat.reduceLeDiff,Nat.reduceLT,reduceCtorEq,Int.reduceAdd,Int.reduceSub,Int.reduceToNat,Int.reduceNeg,Int.reduceEq,Int.reduceLT,Int.reduceLE]
theorem QA (E:En) (hy:Hy E [] [] [] uz none (fun y=>nocap y) zl) (zu:Int→Option (Res (Int))) (h_impl_nothingOf:xW E zu) (zi:(List Int)→Option (Res (List Int×Option Nat×List Int))) (h_impl_made:yD E zi) (zx:(List Int)→Option (List Int)) (h_slices_Clone___int_int_:xR E zx) (z7:Nat→Int→Int→Option (Res Int)) (xK:∀ (f:Nat) (x y:Int),E.Γ f [.d (.int .i64 x),.d (.int .i64 y)]=(z7 f x y).bind fun r=>r.on (fun r=>some (.ret (.d (.int .i64 r)) [])) (fun x=>some (.pan x []))) (a0:Int) (a1:Nat) (zt:List Int) (zA:List Int) (a3:Int):G E c_impl_fold [] ⟨zw [(0,.d (.int .i64 a0)),(1,.d (.fn a1)),(2,.agg [.d (zf cI zt),.d (zf cI zA)]),(3,.d (.int .i64 a3))],zF []⟩=(jQ zu zi zx z7 E.n a0 a1 zt zA a3).bind fun r=>r.on (fun r=>some (.ret (.agg [zo (cI) 3 none false r.1,zo (cI) 3 none false r.2]) [])) (fun x=>some (.pan x [])):=by
 simp (config:={maxSteps:=40000000}) only [↓yd,zV,yf,ya,rI,rS,rB,r8,rLI,yb,ye,hy.p,hy.l,hy.k,hy.r,hy.d,hy.w,hy.f,zl,oid,uz,↓zj _ _ b0_impl_fold.eq_1,↓zj _ _ k1_impl_fold.eq_1,↓zj _ _ b2_impl_fold.eq_1,↓zj _ _ k3_impl_fold.eq_1,↓zj _ _ b4_impl_fold.eq_1,↓zj _ _ k5_impl_fold.eq_1,↓zj _ _ k6_impl_fold.eq_1,↓zj _ _ c_impl_fold.eq_1,h_impl_nothingOf.2,h_impl_nothingOf.1,h_impl_made.2,h_impl_made.1,h_slices_Clone___int_int_.2,h_slices_Clone___int_int_.1,xK,zz,jQ,WO E hy zu h_impl_nothingOf zi h_impl_made zx h_slices_Clone___int_int_ z7 xK,WI E hy zu h_impl_nothingOf zi h_impl_made zx h_slices_Clone___int_int_ z7 xK,zR,zQ,zI,zK,zJ,zT,zL,yc,↓reduceIte,Nat.reduceMul,Nat.reduceAdd,Nat.reduceSub,Nat.reduceEqDiff,Nat.reduceBEq,Nat.reduceLeDiff,Nat.reduceLT,reduceCtorEq,Int.reduceAdd,Int.reduceSub,Int.reduceToNat,Int.reduceNeg,Int.reduceEq,Int.reduceLT,Int.reduceLE]
def jI (E:En) (L:Int→Nat→(List Int)→(List Int)→Int→Option (Res (List Int×List Int))):Prop:=E.Γ.mu 43=false∧(∀ (a0:Int) (a1:Nat) (zt:List Int) (zA:List Int) (a3:Int),E.Γ 43 [.d (.int .i64 a0),.d (.fn a1),.agg [.d (zf cI zt),.d (zf cI zA)],.d (.int .i64 a3)]=(L a0 a1 zt zA a3).bind fun r=>r.on (fun r=>some (.ret (.agg [zo (cI) 3 none false r.1,zo (cI) 3 none false r.2]) [])) (fun x=>some (.pan x [])))∧(∀ (a0:Int) (zt:List Int) (zA:List Int) (a3:Int),E.Γ 43 [.d (.int .i64 a0),.d (.nilf),.agg [.d (zf cI zt),.d (zf cI zA)],.d (.int .i64 a3)]=none)
def c_impl_Reduce:Cd:=
 sq (r [0,3,4,5] [o 3 .box [t 1],o 4 (.alloc [.nil,.nil]) [],o 5 (.alloc [(.d (iD 0))]) []])
 (sq (r [0,3,4,5,6,7] [o 9 .mv [t 0],o 10 (.call 39) [t 9],o 8 .mv [t 10],o 11 (.ext 0) [t 8],o 12 (.ext 1) [t 8],o 6 .mv [t 11],o 7 .mv [t 12]])
  (sq (sq (r [0,3,4,5,6,19] [o 13 .mv [t 7],o 14 .not [t 13],o 15 .mv [t 14],g 15 false 16 (.ld (some 2)) [t 3],g 15 false 17 (.call 40) [t 16],g 15 false 18 .not [t 17],o 19 .pick [t 15,b true,t 18]])
    (.cond (t 19) (sq (r [4,5] [o 20 (.bld [.nil,.nil] []) [],e (.st 2) [t 4,t 20],e (.st 1) [t 5,i 9]])
      (.ret)) (.skip)))
   (sq (sq (r [0,3,4,5,6,24] [o 21 (.fa 0) [t 3],o 22 (.ld none) [t 21],o 23 (.len false) [t 22],o 24 (.bin .eql) [t 23,i 0]])
     (.cond (t 24) (sq (r [4,5] [o 25 (.ld (some 2)) [t 3],o 26 (.call 41) [t 25],e (.st 2) [t 4,t 26],e (.st 1) [t 5,i 0]])
       (.ret)) (.skip)))
    (.skip))))
def sR:List RV:=[.cell 4 (some 2),.cell 5 none]
def d_impl_Reduce:Cd:=
 sq (rd [] [4,5] [o 27 .mv [t 0],o 28 .mv [t 6],o 29 (.ld (some 2)) [t 3],o 30 (.fa 0) [t 3],o 31 (.ld none) [t 30],o 32 (.ia 1) [t 31,i 0],o 33 (.ld none) [t 32],o 34 (.call 43) [t 27,t 28,t 29,t 33],e (.st 2) [t 4,t 34],e (.st 1) [t 5,i 0]])
 (.ret)
def oB:List Nat:=[5,4]
def o0:List Nat:=[0,3,4,5,6]
def lE (zy:Int→Option (Alt Unit Nat)) (zm:(List Int)→(List Int)→Option (Bool)) (yy:(List Int)→(List Int)→Option (List Int×List Int)) (yI:Int→Nat→(List Int)→(List Int)→Int→Option (Res (List Int×List Int))) (zM:D→Int→(List Int)→(List Int)→Option (Int)) (N:Nat) (x0:Int) (x6:Nat) (o192_0:List Int) (o192_1:List Int) (o320_0:Int):Option (List Int×List Int×Int):=
 (idx o192_0 0).bind fun y0=>
 (yI x0 x6 o192_0 o192_1 y0).bind fun y1=>
 (y1).on (fun y2=>some ((y2.fst,y2.snd,0))) (fun y2=>(zM y2 o320_0 [] []).bind fun y3=>
  some (([],[],y3)))
theorem WL (E:En) (hy:Hy E [320,256] [] [] sR (some ([320,256],[5,4])) (fun y=>nocap (yw (.node [.node [.own 3 1,.own 3 1],.k]) y)) zl) (zy:Int→Option (Alt Unit Nat)) (h_impl_opOf:wI E zy) (zm:(List Int)→(List Int)→Option (Bool)) (h_impl_ArrayOk:xa E zm) (yy:(List Int)→(List Int)→Option (List Int×List Int)) (h_impl_cloned:m9 E yy) (yI:Int→Nat→(List Int)→(List Int)→Int→Option (Res (List Int×List Int))) (h_impl_fold:jI E yI) (zM:D→Int→(List Int)→(List Int)→Option (Int)) (yr:∀ (x:D) (a0:Int) (za:List Int) (zb:List Int),E.fd x [.box [.d (.int .i64 a0)],.box [.d (zf cI za),.d (zf cI zb)]]=(zM x a0 za zb).bind fun r=>some [[.int .i64 r],[D.nils,D.nils]]) (x0:Int) (x6:Nat) (o192_0:List Int) (o192_1:List Int) (o320_0:Int):gB E d_impl_Reduce ⟨zw [(0,.d (.int .i64 x0)),(3,A.adr 192 1 0),(4,A.adr 256 1 0),(5,A.adr 320 1 0),(6,.d (.fn x6))],zF [(192,⟨1,.box [.d (zf (cI) o192_0),.d (zf (cI) o192_1)],false⟩),(256,⟨1,.box [A.nil,A.nil],false⟩),(320,⟨1,.box [.d (.int .i64 o320_0)],false⟩)]⟩=(lE zy zm yy yI zM E.n x0 x6 o192_0 o192_1 o320_0).bind fun r=>some (.ret (.tup [.agg [zo (cI) 3 none false r.1,zo (cI) 3 none false r.2.1],.d (.int .i64 r.2.2)]) []):=by
 simp (config:={maxSteps:=40000000}) only [↓yd,zV,yf,ya,rI,rS,rB,r8,rLI,yb,ye,hy.p,hy.l,hy.k,hy.r,hy.d,hy.w,hy.f,zl,oid,sR,↓zj _ _ c_impl_Reduce.eq_1,oB,o0,h_impl_opOf.2,h_impl_opOf.1,h_impl_ArrayOk.2,h_impl_ArrayOk.1,h_impl_cloned.2,h_impl_cloned.1,h_impl_fold.2.1,h_impl_fold.1,h_impl_fold.2.2,yr,(show ∀ (x:D) (a0:Int) (zb:List Int),E.fd x [.box [.d (.int .i64 a0)],.box [.d (.lst 0 []),.d (zf cI zb)]]=(zM x a0 [] zb).bind fun r=>some [[.int .i64 r],[D.nils,D.nils]] from fun x a0 zb=>yr x a0 [] zb),(show ∀ (x:D) (a0:Int) (za:List Int),E.fd x [.box [.d (.int .i64 a0)],.box [.d (zf cI za),.d (.lst 0 [])]]=(zM x a0 za []).bind fun r=>some [[.int .i64 r],[D.nils,D.nils]] from fun x a0 za=>yr x a0 za []),(show ∀ (x:D) (a0:Int),E.fd x [.box [.d (.int .i64 a0)],.box [.d (.lst 0 []),.d (.lst 0 [])]]=(zM x a0 [] []).bind fun r=>some [[.int .i64 r],[D.nils,D.nils]] from fun x a0=>yr x a0 [] []),ij,↓zj _ _ d_impl_Reduce.eq_1,zz,lE,zR,zQ,zI,zK,zJ,zT,zL,yc,↓reduceIte,Nat.reduceMul,Nat.reduceAdd,Nat.reduceSub,Nat.reduceEqDiff,Nat.reduceBEq,Nat.reduceLeDiff,Nat.reduceLT,reduceCtorEq,Int.reduceAdd,Int.reduceSub,Int.reduceToNat,Int.reduceNeg,Int.reduceEq,Int.reduceLT,Int.reduceLE]
def mQ (zy:Int→Option (Alt Unit Nat)) (zm:(List Int)→(List Int)→Option (Bool)) (yy:(List Int)→(List Int)→Option (List Int×List Int)) (yI:Int→Nat→(List Int)→(List Int)→Int→Option (Res (List Int×List Int))) (zM:D→Int→(List Int)→(List Int)→Option (Int)) (N:Nat) (a0:Int) (za:List Int) (zb:List Int):Option (List Int×List Int×Int):=
 (zy a0).bind fun y0=>
 (y0).on (fun y1=>some (([],[],9))) (fun y1=>(zm za zb).bind fun y2=>
  if y2=false then some (([],[],9))
  else (if (↑(List.length za):Int)=0 then ((yy za zb).bind fun y3=>
   some ((y3.fst,y3.snd,0)))
   else lE zy zm yy yI zM N a0 y1 za zb 0))
theorem Tl (E:En) (hy:Hy E [] [] [] sR none (fun y=>nocap (yw (.node [.node [.own 3 1,.own 3 1],.k]) y)) zl) (zy:Int→Option (Alt Unit Nat)) (h_impl_opOf:wI E zy) (zm:(List Int)→(List Int)→Option (Bool)) (h_impl_ArrayOk:xa E zm) (yy:(List Int)→(List Int)→Option (List Int×List Int)) (h_impl_cloned:m9 E yy) (yI:Int→Nat→(List Int)→(List Int)→Int→Option (Res (List Int×List Int))) (h_impl_fold:jI E yI) (zM:D→Int→(List Int)→(List Int)→Option (Int)) (yr:∀ (x:D) (a0:Int) (za:List Int) (zb:List Int),E.fd x [.box [.d (.int .i64 a0)],.box [.d (zf cI za),.d (zf cI zb)]]=(zM x a0 za zb).bind fun r=>some [[.int .i64 r],[D.nils,D.nils]]) (a0:Int) (za:List Int) (zb:List Int):G E c_impl_Reduce [.df oB o0 d_impl_Reduce] ⟨zw [(0,.d (.int .i64 a0)),(1,.agg [.d (zf cI za),.d (zf cI zb)])],zF []⟩=(mQ zy zm yy yI zM E.n a0 za zb).bind fun r=>some (.ret (.tup [.agg [zo (cI) 3 none false r.1,zo (cI) 3 none false r.2.1],.d (.int .i64 r.2.2)]) []):=by
 simp (config:={maxSteps:=40000000}) only [↓yd,zV,yf,ya,rI,rS,rB,r8,rLI,yb,ye,hy.p,hy.l,hy.k,hy.r,hy.d,hy.w,hy.f,zl,oid,sR,↓zj _ _ c_impl_Reduce.eq_1,oB,o0,h_impl_opOf.2,h_impl_opOf.1,h_impl_ArrayOk.2,h_impl_ArrayOk.1,h_impl_cloned.2,h_impl_cloned.1,h_impl_fold.2.1,h_impl_fold.1,h_impl_fold.2.2,yr,(show ∀ (x:D) (a0:Int) (zb:List Int),E.fd x [.box [.d (.int .i64 a0)],.box [.d (.lst 0 []),.d (zf cI zb)]]=(zM x a0 [] zb).bind fun r=>some [[.int .i64 r],[D.nils,D.nils]] from fun x a0 zb=>yr x a0 [] zb),(show ∀ (x:D) (a0:Int) (za:List Int),E.fd x [.box [.d (.int .i64 a0)],.box [.d (zf cI za),.d (.lst 0 [])]]=(zM x a0 za []).bind fun r=>some [[.int .i64 r],[D.nils,D.nils]] from fun x a0 za=>yr x a0 za []),(show ∀ (x:D) (a0:Int),E.fd x [.box [.d (.int .i64 a0)],.box [.d (.lst 0 []),.d (.lst 0 [])]]=(zM x a0 [] []).bind fun r=>some [[.int .i64 r],[D.nils,D.nils]] from fun x a0=>yr x a0 [] []),zz,mQ,WL (E.behind [320,256] [5,4]) ⟨by rw [show (E.behind [320,256] [5,4]).ps=E.ps++[320,256] from rfl,hy.p]; rfl,hy.l,hy.k,hy.r,rfl,hy.w,hy.f⟩ zy h_impl_opOf zm h_impl_ArrayOk yy h_impl_cloned yI h_impl_fold zM yr,gV,zR,zQ,zI,zK,zJ,zT,zL,yc,↓reduceIte,Nat.reduceMul,Nat.reduceAdd,Nat.reduceSub,Nat.reduceEqDiff,Nat.reduceBEq,Nat.reduceLeDiff,Nat.reduceLT,reduceCtorEq,Int.reduceAdd,Int.reduceSub,Int.reduceToNat,Int.reduceNeg,Int.reduceEq,Int.reduceLT,Int.reduceLE]
def UQ (E:En) (L:Int→(List Int)→(List Int)→Option (List Int×List Int×Int)):Prop:=E.Γ.mu 8=false∧(∀ (a0:Int) (za:List Int) (zb:List Int),E.Γ 8 [.d (.int .i64 a0),.agg [.d (zf cI za),.d (zf cI zb)]]=(L a0 za zb).bind fun r=>some (.ret (.tup [.agg [zo (cI) 3 none false r.1,zo (cI) 3 none false r.2.1],.d (.int .i64 r.2.2)]) []))
def c_impl_Scan:Cd:=
 sq (r [0,3,4,5] [o 3 .box [t 1],o 4 (.alloc [.nil,.nil]) [],o 5 (.alloc [(.d (iD 0))]) []])
 (sq (r [0,3,4,5,6,7] [o 10 .mv [t 0],o 11 (.call 39) [t 10],o 9 .mv [t 11],o 12 (.ext 0) [t 9],o 13 (.ext 1) [t 9],o 6 .mv [t 12],o 7 .mv [t 13]])
  (sq (sq (r [0,3,4,5,6,20] [o 14 .mv [t 7],o 15 .not [t 14],o 16 .mv [t 15],g 16 false 17 (.ld (some 2)) [t 3],g 16 false 18 (.call 40) [t 17],g 16 false 19 .not [t 18],o 20 .pick [t 16,b true,t 19]])
    (.cond (t 20) (sq (r [4,5] [o 21 (.bld [.nil,.nil] []) [],e (.st 2) [t 4,t 21],e (.st 1) [t 5,i 9]])
      (.ret)) (.skip)))
   (sq (sq (r [0,3,4,5,6,25] [o 22 (.fa 0) [t 3],o 23 (.ld none) [t 22],o 24 (.len false) [t 23],o 25 (.bin .eql) [t 24,i 0]])
     (.cond (t 25) (sq (r [4,5] [o 26 (.ld (some 2)) [t 3],o 27 (.call 41) [t 26],e (.st 2) [t 4,t 27],e (.st 1) [t 5,i 0]])
       (.ret)) (.skip)))
    (.skip))))
def sh:List RV:=[.cell 4 (some 2),.cell 5 none]
def b0_d_impl_Scan:Cd:=
 sq (sq (r [0,3,4,5,6,8,36] [o 31 .mv [t 8],o 32 (.fa 0) [t 3],o 33 (.ld none) [t 32],o 34 (.ia 1) [t 33,i 0],o 35 (.ld none) [t 34],o 36 (.bin .leq) [t 31,t 35]])
  (.cond (t 36) (.skip) (.exit 0)))
 (sq (.block 1 (rd [] [0,3,4,5,6,8] [o 39 (.fa 1) [t 4],o 40 (.ld none) [t 39],o 41 .mv [t 0],o 42 .mv [t 6],o 43 (.ld (some 2)) [t 3],o 44 .mv [t 8],ap [] false [4,39] (o 45 (.call 43) [t 41,t 42,t 43,t 44]),o 46 (.fld 1 none) [t 45],o 47 (.app 3 1 8) [t 40,t 46],o 48 (.fa 1) [t 4],e (.st 1) [t 48,t 47]]))
  (r [0,3,4,5,6,8] [o 37 .mv [t 8],o 38 (.bin .add) [t 37,i 1],o 8 .mv [t 38]]))
def k1_d_impl_Scan:Cd:=
 sq (r [4,5] [o 49 (.ld (some 2)) [t 4],e (.st 2) [t 4,t 49],e (.st 1) [t 5,i 0]])
 (.ret)
def d_impl_Scan:Cd:=
 sq (r [0,3,4,5,6] [o 28 (.fa 0) [t 3],o 29 (.ld none) [t 28],o 30 (.call 44) [t 29],e (.st 2) [t 4,t 30]])
 (sq (sq (r [0,3,4,5,6,8] [o 8 .mv [i 1]])
   (.block 0 (.loop [0,3,4,5,6,8] b0_d_impl_Scan))) k1_d_impl_Scan)
def oI:List Nat:=[5,4]
def oS:List Nat:=[0,3,4,5,6]
def tR (zy:Int→Option (Alt Unit Nat)) (zm:(List Int)→(List Int)→Option (Bool)) (yy:(List Int)→(List Int)→Option (List Int×List Int)) (zi:(List Int)→Option (Res (List Int×Option Nat×List Int))) (yI:Int→Nat→(List Int)→(List Int)→Int→Option (Res (List Int×List Int))) (zM:D→Int→(List Int)→(List Int)→Option (Int)):Nat→Int→Nat→Int→(List Int)→(List Int)→(List Int)→(List Int)→Option (List Int×List Int×Int)
 | 0,_,_,_,_,_,_,_=>none
 | m0+1,x0,x6,x8,o192_0,o192_1,o257,o258=>
   (idx o192_0 0).bind fun y0=>
   if x8 ≤ y0 then ((yI x0 x6 o192_0 o192_1 x8).bind fun y1=>
    (y1).on (fun y2=>if yu 8 (List.length (o258++y2.snd)) then tR zy zm yy zi yI zM m0 x0 x6 (w64 (x8+1)) o192_0 o192_1 o257 (o258++y2.snd)
     else none) (fun y2=>(zM y2 0 o257 o258).bind fun y3=>
     some (([],[],y3))))
   else some ((o257,o258,0))
def io (zy:Int→Option (Alt Unit Nat)) (zm:(List Int)→(List Int)→Option (Bool)) (yy:(List Int)→(List Int)→Option (List Int×List Int)) (zi:(List Int)→Option (Res (List Int×Option Nat×List Int))) (yI:Int→Nat→(List Int)→(List Int)→Int→Option (Res (List Int×List Int))) (zM:D→Int→(List Int)→(List Int)→Option (Int)) (N:Nat) (x0:Int) (x6:Nat) (o192_0:List Int) (o192_1:List Int):Option (List Int×List Int×Int):=
 (zi o192_0).bind fun y0=>
 (y0).on (fun y1=>tR zy zm yy zi yI zM N x0 x6 1 o192_0 o192_1 y1.fst y1.snd.snd) (fun y1=>(zM y1 0 [] []).bind fun y2=>
  some (([],[],y2)))
theorem Yi (E:En) (hy:Hy E [320,256] [] [] sh (some ([320,256],[5,4])) (fun y=>nocap (yw (.node [.node [.own 3 1,.own 3 1],.k]) y)) zl) (zy:Int→Option (Alt Unit Nat)) (h_impl_opOf:wI E zy) (zm:(List Int)→(List Int)→Option (Bool)) (h_impl_ArrayOk:xa E zm) (yy:(List Int)→(List Int)→Option (List Int×List Int)) (h_impl_cloned:m9 E yy) (zi:(List Int)→Option (Res (List Int×Option Nat×List Int))) (h_impl_made:yD E zi) (yI:Int→Nat→(List Int)→(List Int)→Int→Option (Res (List Int×List Int))) (h_impl_fold:jI E yI) (zM:D→Int→(List Int)→(List Int)→Option (Int)) (yr:∀ (x:D) (a0:Int) (za:List Int) (zb:List Int),E.fd x [.box [.d (.int .i64 a0)],.box [.d (zf cI za),.d (zf cI zb)]]=(zM x a0 za zb).bind fun r=>some [[.int .i64 r],[D.nils,D.nils]]):∀ (m0:Nat) (x0:Int) (x6:Nat) (x8:Int) (o192_0:List Int) (o192_1:List Int) (o257:List Int) (o258:List Int),gH E [0,3,4,5,6,8] b0_d_impl_Scan [KJ.b 0,KJ.c k1_d_impl_Scan] m0 ⟨zw [(0,.d (.int .i64 x0)),(3,A.adr 192 1 0),(4,A.adr 256 1 0),(5,A.adr 320 1 0),(6,.d (.fn x6)),(8,.d (.int .i64 x8))],zF [(192,⟨1,.box [.d (zf (cI) o192_0),.d (zf (cI) o192_1)],false⟩),(256,⟨1,.box [A.row 257 1,A.row 258 1],false⟩),(257,⟨1,yg (cI) 3 none o257,false⟩),(258,⟨1,yg (cI) 3 none o258,false⟩),(320,⟨1,.box [.d (.int .i64 0)],false⟩)]⟩=(tR zy zm yy zi yI zM m0 x0 x6 x8 o192_0 o192_1 o257 o258).bind fun r=>some (.ret (.tup [.agg [zo (cI) 3 none false r.1,zo (cI) 3 none false r.2.1],.d (.int .i64 r.2.2)]) []):=by
 intro m0
 induction m0 with
 | zero=>intros; rfl
 | succ m0 ih=>
   intros
   simp (config:={maxSteps:=40000000}) only [↓yd,zV,yf,ya,rI,rS,rB,r8,rLI,yb,ye,hy.p,hy.l,hy.k,hy.r,hy.d,hy.w,hy.f,zl,oid,sh,↓zj _ _ c_impl_Scan.eq_1,↓zj _ _ b0_d_impl_Scan.eq_1,↓zj _ _ k1_d_impl_Scan.eq_1,oI,oS,h_impl_opOf.2,h_impl_opOf.1,h_impl_ArrayOk.2,h_impl_ArrayOk.1,h_impl_cloned.2,h_impl_cloned.1,h_impl_made.2,h_impl_made.1,h_impl_fold.2.1,h_impl_fold.1,h_impl_fold.2.2,yr,(show ∀ (x:D) (a0:Int) (zb:List Int),E.fd x [.box [.d (.int .i64 a0)],.box [.d (.lst 0 []),.d (zf cI zb)]]=(zM x a0 [] zb).bind fun r=>some [[.int .i64 r],[D.nils,D.nils]] from fun x a0 zb=>yr x a0 [] zb),(show ∀ (x:D) (a0:Int) (za:List Int),E.fd x [.box [.d (.int .i64 a0)],.box [.d (zf cI za),.d (.lst 0 [])]]=(zM x a0 za []).bind fun r=>some [[.int .i64 r],[D.nils,D.nils]] from fun x a0 za=>yr x a0 za []),(show ∀ (x:D) (a0:Int),E.fd x [.box [.d (.int .i64 a0)],.box [.d (.lst 0 []),.d (.lst 0 [])]]=(zM x a0 [] []).bind fun r=>some [[.int .i64 r],[D.nils,D.nils]] from fun x a0=>yr x a0 [] []),ij,↓zj _ _ d_impl_Scan.eq_1,xb,ih,zz,tR,zR,zQ,zI,zK,zJ,zT,zL,yc,↓reduceIte,Nat.reduceMul,Nat.reduceAdd,Nat.reduceSub,Nat.reduceEqDiff,Nat.reduceBEq,Nat.reduceLeDiff,Nat.reduceLT,reduceCtorEq,Int.reduceAdd,Int.reduceSub,Int.reduceToNat,Int.reduceNeg,Int.reduceEq,Int.reduceLT,Int.reduceLE]
theorem U5 (E:En) (hy:Hy E [320,256] [] [] sh (some ([320,256],[5,4])) (fun y=>nocap (yw (.node [.node [.own 3 1,.own 3 1],.k]) y)) zl) (zy:Int→Option (Alt Unit Nat)) (h_impl_opOf:wI E zy) (zm:(List Int)→(List Int)→Option (Bool)) (h_impl_ArrayOk:xa E zm) (yy:(List Int)→(List Int)→Option (List Int×List Int)) (h_impl_cloned:m9 E yy) (zi:(List Int)→Option (Res (List Int×Option Nat×List Int))) (h_impl_made:yD E zi) (yI:Int→Nat→(List Int)→(List Int)→Int→Option (Res (List Int×List Int))) (h_impl_fold:jI E yI) (zM:D→Int→(List Int)→(List Int)→Option (Int)) (yr:∀ (x:D) (a0:Int) (za:List Int) (zb:List Int),E.fd x [.box [.d (.int .i64 a0)],.box [.d (zf cI za),.d (zf cI zb)]]=(zM x a0 za zb).bind fun r=>some [[.int .i64 r],[D.nils,D.nils]]) (x0:Int) (x6:Nat) (o192_0:List Int) (o192_1:List Int):gB E d_impl_Scan ⟨zw [(0,.d (.int .i64 x0)),(3,A.adr 192 1 0),(4,A.adr 256 1 0),(5,A.adr 320 1 0),(6,.d (.fn x6))],zF [(192,⟨1,.box [.d (zf (cI) o192_0),.d (zf (cI) o192_1)],false⟩),(256,⟨1,.box [A.nil,A.nil],false⟩),(320,⟨1,.box [.d (.int .i64 0)],false⟩)]⟩=(io zy zm yy zi yI zM E.n x0 x6 o192_0 o192_1).bind fun r=>some (.ret (.tup [.agg [zo (cI) 3 none false r.1,zo (cI) 3 none false r.2.1],.d (.int .i64 r.2.2)]) []):=by
 simp (config:={maxSteps:=40000000}) only [↓yd,zV,yf,ya,rI,rS,rB,r8,rLI,yb,ye,hy.p,hy.l,hy.k,hy.r,hy.d,hy.w,hy.f,zl,oid,sh,↓zj _ _ c_impl_Scan.eq_1,↓zj _ _ b0_d_impl_Scan.eq_1,↓zj _ _ k1_d_impl_Scan.eq_1,oI,oS,h_impl_opOf.2,h_impl_opOf.1,h_impl_ArrayOk.2,h_impl_ArrayOk.1,h_impl_cloned.2,h_impl_cloned.1,h_impl_made.2,h_impl_made.1,h_impl_fold.2.1,h_impl_fold.1,h_impl_fold.2.2,yr,(show ∀ (x:D) (a0:Int) (zb:List Int),E.fd x [.box [.d (.int .i64 a0)],.box [.d (.lst 0 []),.d (zf cI zb)]]=(zM x a0 [] zb).bind fun r=>some [[.int .i64 r],[D.nils,D.nils]] from fun x a0 zb=>yr x a0 [] zb),(show ∀ (x:D) (a0:Int) (za:List Int),E.fd x [.box [.d (.int .i64 a0)],.box [.d (zf cI za),.d (.lst 0 [])]]=(zM x a0 za []).bind fun r=>some [[.int .i64 r],[D.nils,D.nils]] from fun x a0 za=>yr x a0 za []),(show ∀ (x:D) (a0:Int),E.fd x [.box [.d (.int .i64 a0)],.box [.d (.lst 0 []),.d (.lst 0 [])]]=(zM x a0 [] []).bind fun r=>some [[.int .i64 r],[D.nils,D.nils]] from fun x a0=>yr x a0 [] []),ij,↓zj _ _ d_impl_Scan.eq_1,zz,io,Yi E hy zy h_impl_opOf zm h_impl_ArrayOk yy h_impl_cloned zi h_impl_made yI h_impl_fold zM yr,zR,zQ,zI,zK,zJ,zT,zL,yc,↓reduceIte,Nat.reduceMul,Nat.reduceAdd,Nat.reduceSub,Nat.reduceEqDiff,Nat.reduceBEq,Nat.reduceLeDiff,Nat.reduceLT,reduceCtorEq,Int.reduceAdd,Int.reduceSub,Int.reduceToNat,Int.reduceNeg,Int.reduceEq,Int.reduceLT,Int.reduceLE]
def jY (zy:Int→Option (Alt Unit Nat)) (zm:(List Int)→(List Int)→Option (Bool)) (yy:(List Int)→(List Int)→Option (List Int×List Int)) (zi:(List Int)→Option (Res (List Int×Option Nat×List Int))) (yI:Int→Nat→(List Int)→(List Int)→Int→Option (Res (List Int×List Int))) (zM:D→Int→(List Int)→(List Int)→Option (Int)) (N:Nat) (a0:Int) (za:List Int) (zb:List Int):Option (List Int×List Int×Int):=
 (zy a0).bind fun y0=>
 (y0).on (fun y1=>some (([],[],9))) (fun y1=>(zm za zb).bind fun y2=>
  if y2=false then some (([],[],9))
  else (if (↑(List.length za):Int)=0 then ((yy za zb).bind fun y3=>
   some ((y3.fst,y3.snd,0)))
   else io zy zm yy zi yI zM N a0 y1 za zb))
theorem Ql (E:En) (hy:Hy E [] [] [] sh none (fun y=>nocap (yw (.node [.node [.own 3 1,.own 3 1],.k]) y)) zl) (zy:Int→Option (Alt Unit Nat)) (h_impl_opOf:wI E zy) (zm:(List Int)→(List Int)→Option (Bool)) (h_impl_ArrayOk:xa E zm) (yy:(List Int)→(List Int)→Option (List Int×List Int)) (h_impl_cloned:m9 E yy) (zi:(List Int)→Option (Res (List Int×Option Nat×List Int))) (h_impl_made:yD E zi) (yI:Int→Nat→(List Int)→(List Int)→Int→Option (Res (List Int×List Int))) (h_impl_fold:jI E yI) (zM:D→Int→(List Int)→(List Int)→Option (Int)) (yr:∀ (x:D) (a0:Int) (za:List Int) (zb:List Int),E.fd x [.box [.d (.int .i64 a0)],.box [.d (zf cI za),.d (zf cI zb)]]=(zM x a0 za zb).bind fun r=>some [[.int .i64 r],[D.nils,D.nils]]) (a0:Int) (za:List Int) (zb:List Int):G E c_impl_Scan [.df oI oS d_impl_Scan] ⟨zw [(0,.d (.int .i64 a0)),(1,.agg [.d (zf cI za),.d (zf cI zb)])],zF []⟩=(jY zy zm yy zi yI zM E.n a0 za zb).bind fun r=>some (.ret (.tup [.agg [zo (cI) 3 none false r.1,zo (cI) 3 none false r.2.1],.d (.int .i64 r.2.2)]) []):=by
 simp (config:={maxSteps:=40000000}) only [↓yd,zV,yf,ya,rI,rS,rB,r8,rLI,yb,ye,hy.p,hy.l,hy.k,hy.r,hy.d,hy.w,hy.f,zl,oid,sh,↓zj _ _ c_impl_Scan.eq_1,↓zj _ _ b0_d_impl_Scan.eq_1,↓zj _ _ k1_d_impl_Scan.eq_1,oI,oS,h_impl_opOf.2,h_impl_opOf.1,h_impl_ArrayOk.2,h_impl_ArrayOk.1,h_impl_cloned.2,h_impl_cloned.1,h_impl_made.2,h_impl_made.1,h_impl_fold.2.1,h_impl_fold.1,h_impl_fold.2.2,yr,(show ∀ (x:D) (a0:Int) (zb:List Int),E.fd x [.box [.d (.int .i64 a0)],.box [.d (.lst 0 []),.d (zf cI zb)]]=(zM x a0 [] zb).bind fun r=>some [[.int .i64 r],[D.nils,D.nils]] from fun x a0 zb=>yr x a0 [] zb),(show ∀ (x:D) (a0:Int) (za:List Int),E.fd x [.box [.d (.int .i64 a0)],.box [.d (zf cI za),.d (.lst 0 [])]]=(zM x a0 za []).bind fun r=>some [[.int .i64 r],[D.nils,D.nils]] from fun x a0 za=>yr x a0 za []),(show ∀ (x:D) (a0:Int),E.fd x [.box [.d (.int .i64 a0)],.box [.d (.lst 0 []),.d (.lst 0 [])]]=(zM x a0 [] []).bind fun r=>some [[.int .i64 r],[D.nils,D.nils]] from fun x a0=>yr x a0 [] []),zz,jY,U5 (E.behind [320,256] [5,4]) ⟨by rw [show (E.behind [320,256] [5,4]).ps=E.ps++[320,256] from rfl,hy.p]; rfl,hy.l,hy.k,hy.r,rfl,hy.w,hy.f⟩ zy h_impl_opOf zm h_impl_ArrayOk yy h_impl_cloned zi h_impl_made yI h_impl_fold zM yr,gV,zR,zQ,zI,zK,zJ,zT,zL,yc,↓reduceIte,Nat.reduceMul,Nat.reduceAdd,Nat.reduceSub,Nat.reduceEqDiff,Nat.reduceBEq,Nat.reduceLeDiff,Nat.reduceLT,reduceCtorEq,Int.reduceAdd,Int.reduceSub,Int.reduceToNat,Int.reduceNeg,Int.reduceEq,Int.reduceLT,Int.reduceLE]
def QK (E:En) (L:Int→(List Int)→(List Int)→Option (List Int×List Int×Int)):Prop:=E.Γ.mu 9=false∧(∀ (a0:Int) (za:List Int) (zb:List Int),E.Γ 9 [.d (.int .i64 a0),.agg [.d (zf cI za),.d (zf cI zb)]]=(L a0 za zb).bind fun r=>some (.ret (.tup [.agg [zo (cI) 3 none false r.1,zo (cI) 3 none false r.2.1],.d (.int .i64 r.2.2)]) []))
def b0_impl_reshaped:Cd:=
 sq (r [2,3,4,25,26,27,28] [o 28 (.bin .lss) [t 27,t 26]])
 (sq (.cond (t 28) (.skip) (.exit 0))
  (sq (.block 1 (sq (r [2,3,4,6,25,26,27] [o 29 (.ia 1) [t 25,t 27],o 30 (.ld none) [t 29],o 6 .mv [t 30]])
    (sq (r [2,3,4,25,26,27,32] [o 31 .mv [t 6],o 32 (.bin .lss) [t 31,i 0]])
     (.cond (t 32) (r [2,3,4,25,26,27] [o 33 (.bld [(.d (iD 0))] [(0,1)]) [i 1],o 34 (.mkI 75) [t 33],e .pan [t 34]]) (.skip)))))
   (r [2,3,4,25,26,27] [o 35 (.bin .add) [t 27,i 1],o 27 .mv [t 35]])))
def b1_impl_reshaped:Cd:=
 sq (r [3,4,7,60,61,62] [o 62 (.bin .lss) [t 61,t 60]])
 (sq (.cond (t 62) (.skip) (.exit 2))
  (sq (.block 3 (sq (r [3,4,7,11,60,61] [o 63 .mv [t 61],o 11 .mv [t 63]])
    (rd [] [3,4,7,60,61] [o 64 (.fa 1) [t 7],o 65 (.ld none) [t 64],o 66 (.fa 1) [t 3],o 67 (.ld none) [t 66],o 68 .mv [t 11],o 69 (.fa 1) [t 3],o 70 (.ld none) [t 69],o 71 (.len false) [t 70],o 72 (.bin .rem) [t 68,t 71],o 73 (.ia 1) [t 67,t 72],o 74 (.ld none) [t 73],ap [] false [7,64] (o 75 (lit 3 1 1) [t 74]),o 76 (.app 3 1 8) [t 65,t 75],o 77 (.fa 1) [t 7],e (.st 1) [t 77,t 76]])))
   (r [3,4,7,60,61] [o 78 (.bin .add) [t 61,i 1],o 61 .mv [t 78]])))
def k2_impl_reshaped:Cd:=
 sq (r [4] [o 79 (.ld (some 2)) [t 7],e (.st 2) [t 4,t 79]])
 (.ret)
def k3_impl_reshaped:Cd:=
 sq (r [2,3,4,7] [o 36 (.fa 1) [t 2],o 37 (.ld none) [t 36],o 38 (.call 44) [t 37],o 7 (.alloc [.nil,.nil]) [],e (.st 2) [t 7,t 38]])
 (sq (r [2,3,4,7,8] [o 39 (.fa 1) [t 7],o 40 (.ld none) [t 39],o 41 .cap [t 40],o 8 .mv [t 41]])
  (sq (sq (r [3,4,7,8,9] [o 43 (.fa 1) [t 2],o 44 (.ld none) [t 43],o 45 (.call 98) [t 44],o 42 .mv [t 45],o 46 (.ext 0) [t 42],o 47 (.ext 1) [t 42],o 9 .mv [t 46],o 10 .mv [t 47]])
    (sq (r [3,4,7,8,49] [o 48 .mv [t 9],o 49 (.bin .eql) [t 48,i 0]])
     (.cond (t 49) (r [3,4,7,8] [o 8 .mv [i 0]]) (.skip))))
   (sq (sq (r [3,4,7,8,57] [o 50 .mv [t 8],o 51 (.bin .gtr) [t 50,i 0],o 52 .mv [t 51],g 52 true 53 (.fa 1) [t 3],g 52 true 54 (.ld none) [t 53],g 52 true 55 (.len false) [t 54],g 52 true 56 (.bin .eql) [t 55,i 0],o 57 .pick [t 52,t 56,b false]])
     (.cond (t 57) (r [3,4,7,8] [o 58 (.bld [(.d (iD 0))] [(0,1)]) [i 3],o 59 (.mkI 75) [t 58],e .pan [t 59]]) (.skip)))
    (sq (sq (r [3,4,7,60,61] [o 60 .mv [t 8],o 61 .mv [i 0]])
      (.block 2 (.loop [3,4,7,60,61] b1_impl_reshaped))) k2_impl_reshaped))))
def c_impl_reshaped:Cd:=
 sq (r [2,3,4] [o 2 .box [t 0],o 3 .box [t 1],o 4 (.alloc [.nil,.nil]) []])
 (sq (sq (r [2,3,4,15] [o 12 (.fa 0) [t 2],o 13 (.ld none) [t 12],o 14 (.len false) [t 13],o 15 (.bin .gtr) [t 14,i 1]])
   (.cond (t 15) (r [2,3,4] [o 16 (.bld [(.d (iD 0))] [(0,1)]) [i 2],o 17 (.mkI 75) [t 16],e .pan [t 17]]) (.skip)))
  (sq (sq (r [2,3,4,21] [o 18 (.fa 1) [t 2],o 19 (.ld none) [t 18],o 20 (.len false) [t 19],o 21 (.bin .gtr) [t 20,i 3]])
    (.cond (t 21) (r [2,3,4] [o 22 (.bld [(.d (iD 0))] [(0,1)]) [i 6],o 23 (.mkI 75) [t 22],e .pan [t 23]]) (.skip)))
   (sq (sq (r [2,3,4,25,26,27] [o 24 (.fa 1) [t 2],o 25 (.ld none) [t 24],o 26 (.len false) [t 25],o 27 .mv [i 0]])
     (.block 0 (.loop [2,3,4,25,26,27] b0_impl_reshaped))) k3_impl_reshaped)))
def vq:List RV:=[.cell 4 (some 2)]
def wh (zi:(List Int)→Option (Res (List Int×Option Nat×List Int))) (z0:(List Int)→Option (Int×Bool)):Nat→Int→Int→(List Int)→(List Int)→(List Int)→(List Int)→Option (Res (List Int×List Int))
 | 0,_,_,_,_,_,_=>none
 | m1+1,x60,x61,o192_0,o192_1,o449,o450=>
   if x61 < x60 then (if (↑(List.length o192_1):Int)=0 then none
    else ((idx o192_1 (Int.tmod x61 (↑(List.length o192_1):Int))).bind fun y0=>
     if yu 8 (List.length (o450++[y0])) then wh zi z0 m1 x60 (w64 (x61+1)) o192_0 o192_1 o449 (o450++[y0])
     else none))
   else some (.ok ((o449,o450)))
def uL (zi:(List Int)→Option (Res (List Int×Option Nat×List Int))) (z0:(List Int)→Option (Int×Bool)) (N:Nat):Nat→(List Int)→Int→Int→(List Int)→(List Int)→(List Int)→(List Int)→Option (Res (List Int×List Int))
 | 0,_,_,_,_,_,_,_=>none
 | m0+1,x25,x26,x27,o128_0,o128_1,o192_0,o192_1=>
   if x27 < x26 then ((idx x25 x27).bind fun y0=>
    if y0 < 0 then some (.pan (D.ifaceS 75 [D.int .i64 1]))
    else uL zi z0 N m0 x25 x26 (w64 (x27+1)) o128_0 o128_1 o192_0 o192_1)
   else ((zi o128_1).bind fun y1=>
    (y1).on (fun y2=>(y2.snd.fst).bind fun y3=>
     (z0 o128_1).bind fun y4=>
     if y4.fst=0 then wh zi z0 N 0 0 o192_0 o192_1 y2.fst y2.snd.snd
     else (if 0 < (↑y3:Int) then (if (↑(List.length o192_1):Int)=0 then some (.pan (D.ifaceS 75 [D.int .i64 3]))
      else wh zi z0 N ((↑y3:Int)) 0 o192_0 o192_1 y2.fst y2.snd.snd)
      else wh zi z0 N ((↑y3:Int)) 0 o192_0 o192_1 y2.fst y2.snd.snd)) (fun y2=>some (.pan (y2))))
def pO (zi:(List Int)→Option (Res (List Int×Option Nat×List Int))) (z0:(List Int)→Option (Int×Bool)) (N:Nat) (zg:List Int) (zh:List Int) (za:List Int) (zb:List Int):Option (Res (List Int×List Int)):=
 if 1 < (↑(List.length zg):Int) then some (.pan (D.ifaceS 75 [D.int .i64 2]))
 else (if 3 < (↑(List.length zh):Int) then some (.pan (D.ifaceS 75 [D.int .i64 6]))
  else uL zi z0 N N zh ((↑(List.length zh):Int)) 0 zg zh za zb)
theorem aL (E:En) (hy:Hy E [] [] [] vq none (fun y=>nocap y) zl) (zi:(List Int)→Option (Res (List Int×Option Nat×List Int))) (h_impl_made:yD E zi) (z0:(List Int)→Option (Int×Bool)) (h_impl_cellsOf:rn E z0):∀ (m1:Nat) (x60:Int) (x61:Int) (o192_0:List Int) (o192_1:List Int) (o449:List Int) (o450:List Int),gH E [3,4,7,60,61] b1_impl_reshaped [KJ.b 2,KJ.c k2_impl_reshaped] m1 ⟨zw [(3,A.adr 192 1 0),(4,A.adr 256 1 0),(7,A.adr 448 1 0),(60,.d (.int .i64 x60)),(61,.d (.int .i64 x61))],zF [(192,⟨1,.box [.d (zf (cI) o192_0),.d (zf (cI) o192_1)],false⟩),(256,⟨1,.box [A.nil,A.nil],false⟩),(448,⟨1,.box [A.row 449 1,A.row 450 1],false⟩),(449,⟨1,yg (cI) 3 none o449,false⟩),(450,⟨1,yg (cI) 3 none o450,false⟩)]⟩=(wh zi z0 m1 x60 x61 o192_0 o192_1 o449 o450).bind fun r=>r.on (fun r=>some (.ret (.agg [zo (cI) 3 none false r.1,zo (cI) 3 none false r.2]) [])) (fun x=>some (.pan x [])):=by
 intro m1
 induction m1 with
 | zero=>intros; rfl
 | succ m1 ih=>
   intros
   simp (config:={maxSteps:=40000000}) only [↓yd,zV,yf,ya,rI,rS,rB,r8,rLI,yb,ye,hy.p,hy.l,hy.k,hy.r,hy.d,hy.w,hy.f,zl,oid,vq,↓zj _ _ b0_impl_reshaped.eq_1,↓zj _ _ b1_impl_reshaped.eq_1,↓zj _ _ k2_impl_reshaped.eq_1,↓zj _ _ k3_impl_reshaped.eq_1,↓zj _ _ c_impl_reshaped.eq_1,h_impl_made.2,h_impl_made.1,h_impl_cellsOf.2,h_impl_cellsOf.1,xb,ih,zz,wh,zR,zQ,zI,zK,zJ,zT,zL,yc,↓reduceIte,Nat.reduceMul,Nat.reduceAdd,Nat.reduceSub,Nat.reduceEqDiff,Nat.reduceBEq,Nat.reduceLeDiff,Nat.reduceLT,reduceCtorEq,Int.reduceAdd,Int.reduceSub,Int.reduceToNat,Int.reduceNeg,Int.reduceEq,Int.reduceLT,Int.reduceLE]
theorem aN (E:En) (hy:Hy E [] [] [] vq none (fun y=>nocap y) zl) (zi:(List Int)→Option (Res (List Int×Option Nat×List Int))) (h_impl_made:yD E zi) (z0:(List Int)→Option (Int×Bool)) (h_impl_cellsOf:rn E z0):∀ (m0:Nat) (x25:List Int) (x26:Int) (x27:Int) (o128_0:List Int) (o128_1:List Int) (o192_0:List Int) (o192_1:List Int),gH E [2,3,4,25,26,27] b0_impl_reshaped [KJ.b 0,KJ.c k3_impl_reshaped] m0 ⟨zw [(2,A.adr 128 1 0),(3,A.adr 192 1 0),(4,A.adr 256 1 0),(25,.d (zf (cI) x25)),(26,.d (.int .i64 x26)),(27,.d (.int .i64 x27))],zF [(128,⟨1,.box [.d (zf (cI) o128_0),.d (zf (cI) o128_1)],false⟩),(192,⟨1,.box [.d (zf (cI) o192_0),.d (zf (cI) o192_1)],false⟩),(256,⟨1,.box [A.nil,A.nil],false⟩)]⟩=(uL zi z0 E.n m0 x25 x26 x27 o128_0 o128_1 o192_0 o192_1).bind fun r=>r.on (fun r=>some (.ret (.agg [zo (cI) 3 none false r.1,zo (cI) 3 none false r.2]) [])) (fun x=>some (.pan x [])):=by
 intro m0
 induction m0 with
 | zero=>intros; rfl
 | succ m0 ih=>
   intros
   simp (config:={maxSteps:=40000000}) only [↓yd,zV,yf,ya,rI,rS,rB,r8,rLI,yb,ye,hy.p,hy.l,hy.k,hy.r,hy.d,hy.w,hy.f,zl,oid,vq,↓zj _ _ b0_impl_reshaped.eq_1,↓zj _ _ b1_impl_reshaped.eq_1,↓zj _ _ k2_impl_reshaped.eq_1,↓zj _ _ k3_impl_reshaped.eq_1,↓zj _ _ c_impl_reshaped.eq_1,h_impl_made.2,h_impl_made.1,h_impl_cellsOf.2,h_impl_cellsOf.1,xb,ih,zz,uL,aL E hy zi h_impl_made z0 h_impl_cellsOf,zR,zQ,zI,zK,zJ,zT,zL,yc,↓reduceIte,Nat.reduceMul,Nat.reduceAdd,Nat.reduceSub,Nat.reduceEqDiff,Nat.reduceBEq,Nat.reduceLeDiff,Nat.reduceLT,reduceCtorEq,Int.reduceAdd,Int.reduceSub,Int.reduceToNat,Int.reduceNeg,Int.reduceEq,Int.reduceLT,Int.reduceLE]
theorem WE (E:En) (hy:Hy E [] [] [] vq none (fun y=>nocap y) zl) (zi:(List Int)→Option (Res (List Int×Option Nat×List Int))) (h_impl_made:yD E zi) (z0:(List Int)→Option (Int×Bool)) (h_impl_cellsOf:rn E z0) (zg:List Int) (zh:List Int) (za:List Int) (zb:List Int):G E c_impl_reshaped [] ⟨zw [(0,.agg [.d (zf cI zg),.d (zf cI zh)]),(1,.agg [.d (zf cI za),.d (zf cI zb)])],zF []⟩=(pO zi z0 E.n zg zh za zb).bind fun r=>r.on (fun r=>some (.ret (.agg [zo (cI) 3 none false r.1,zo (cI) 3 none false r.2]) [])) (fun x=>some (.pan x [])):=by
 simp (config:={maxSteps:=40000000}) only [↓yd,zV,yf,ya,rI,rS,rB,r8,rLI,yb,ye,hy.p,hy.l,hy.k,hy.r,hy.d,hy.w,hy.f,zl,oid,vq,↓zj _ _ b0_impl_reshaped.eq_1,↓zj _ _ b1_impl_reshaped.eq_1,↓zj _ _ k2_impl_reshaped.eq_1,↓zj _ _ k3_impl_reshaped.eq_1,↓zj _ _ c_impl_reshaped.eq_1,h_impl_made.2,h_impl_made.1,h_impl_cellsOf.2,h_impl_cellsOf.1,zz,pO,aN E hy zi h_impl_made z0 h_impl_cellsOf,zR,zQ,zI,zK,zJ,zT,zL,yc,↓reduceIte,Nat.reduceMul,Nat.reduceAdd,Nat.reduceSub,Nat.reduceEqDiff,Nat.reduceBEq,Nat.reduceLeDiff,Nat.reduceLT,reduceCtorEq,Int.reduceAdd,Int.reduceSub,Int.reduceToNat,Int.reduceNeg,Int.reduceEq,Int.reduceLT,Int.reduceLE]
def d4 (E:En) (L:(List Int)→(List Int)→(List Int)→(List Int)→Option (Res (List Int×List Int))):Prop:=E.Γ.mu 45=false∧(∀ (zg:List Int) (zh:List Int) (za:List Int) (zb:List Int),E.Γ 45 [.agg [.d (zf cI zg),.d (zf cI zh)],.agg [.d (zf cI za),.d (zf cI zb)]]=(L zg zh za zb).bind fun r=>r.on (fun r=>some (.ret (.agg [zo (cI) 3 none false r.1,zo (cI) 3 none false r.2]) [])) (fun x=>some (.pan x [])))
def c_impl_numberOf:Cd:=
 sq (r [1] [o 1 .box [t 0],o 2 .mv [i 0]])
 (sq (sq (r [1,6] [o 3 (.fa 0) [t 1],o 4 (.ld none) [t 3],o 5 (.len false) [t 4],o 6 (.bin .neq) [t 5,i 0]])
   (.cond (t 6) (r [1] [o 7 (.bld [(.d (iD 0))] [(0,1)]) [i 2],o 8 (.mkI 75) [t 7],e .pan [t 8]]) (.skip)))
  (sq (r [2] [o 9 (.fa 1) [t 1],o 10 (.ld none) [t 9],o 11 (.ia 1) [t 10,i 0],o 12 (.ld none) [t 11],o 2 .mv [t 12]])
   (.ret)))
def pE:List RV:=[.tmp 2]
def py (N:Nat) (zg:List Int) (zh:List Int):Option (Res (Int)):=
 if (↑(List.length zg):Int)=0 then ((idx zh 0).bind fun y0=>
  some (.ok y0))
 else some (.pan (D.ifaceS 75 [D.int .i64 2]))
theorem Wt (E:En) (hy:Hy E [] [] [] pE none (fun y=>nocap y) zl) (zg:List Int) (zh:List Int):G E c_impl_numberOf [] ⟨zw [(0,.agg [.d (zf cI zg),.d (zf cI zh)])],zF []⟩=(py E.n zg zh).bind fun r=>r.on (fun r=>some (.ret (.d (.int .i64 r)) [])) (fun x=>some (.pan x [])):=by
 simp (config:={maxSteps:=40000000}) only [↓yd,zV,yf,ya,rI,rS,rB,r8,rLI,yb,ye,hy.p,hy.l,hy.k,hy.r,hy.d,hy.w,hy.f,zl,oid,pE,↓zj _ _ c_impl_numberOf.eq_1,zz,py,zR,zQ,zI,zK,zJ,zT,zL,yc,↓reduceIte,Nat.reduceMul,Nat.reduceAdd,Nat.reduceSub,Nat.reduceEqDiff,Nat.reduceBEq,Nat.reduceLeDiff,Nat.reduceLT,reduceCtorEq,Int.reduceAdd,Int.reduceSub,Int.reduceToNat,Int.reduceNeg,Int.reduceEq,Int.reduceLT,Int.reduceLE]
def lQ (E:En) (L:(List Int)→(List Int)→Option (Res (Int))):Prop:=E.Γ.mu 100=false∧(∀ (zg:List Int) (zh:List Int),E.Γ 100 [.agg [.d (zf cI zg),.d (zf cI zh)]]=(L zg zh).bind fun r=>r.on (fun r=>some (.ret (.d (.int .i64 r)) [])) (fun x=>some (.pan x [])))
def c_impl_vectorOf:Cd:=
 sq (r [0,2] [o 2 (.alloc [.nil,.nil]) []])
 (sq (r [2] [o 3 .mv [t 0],o 4 (.len false) [t 3],o 5 (lit 3 1 1) [t 4],o 6 .mv [t 0],o 7 (.call 99) [t 6],o 8 (.bld [.nil,.nil] [(0,1),(1,1)]) [t 5,t 7],e (.st 2) [t 2,t 8]])
  (.ret))
def pC:List RV:=[.cell 2 (some 2)]
def pP (zx:(List Int)→Option (List Int)) (N:Nat) (a0:List Int):Option (List Int×List Int):=
 (zx a0).bind fun y0=>
 some (([(↑(List.length a0):Int)],y0))
theorem WB (E:En) (hy:Hy E [] [] [] pC none (fun y=>nocap y) zl) (zx:(List Int)→Option (List Int)) (h_slices_Clone___int_int_:xR E zx) (a0:List Int):G E c_impl_vectorOf [] ⟨zw [(0,.d (zf cI a0))],zF []⟩=(pP zx E.n a0).bind fun r=>some (.ret (.agg [zo (cI) 3 none false r.1,zo (cI) 3 none false r.2]) []):=by
 simp (config:={maxSteps:=40000000}) only [↓yd,zV,yf,ya,rI,rS,rB,r8,rLI,yb,ye,hy.p,hy.l,hy.k,hy.r,hy.d,hy.w,hy.f,zl,oid,pC,↓zj _ _ c_impl_vectorOf.eq_1,h_slices_Clone___int_int_.2,h_slices_Clone___int_int_.1,zz,pP,zR,zQ,zI,zK,zJ,zT,zL,yc,↓reduceIte,Nat.reduceMul,Nat.reduceAdd,Nat.reduceSub,Nat.reduceEqDiff,Nat.reduceBEq,Nat.reduceLeDiff,Nat.reduceLT,reduceCtorEq,Int.reduceAdd,Int.reduceSub,Int.reduceToNat,Int.reduceNeg,Int.reduceEq,Int.reduceLT,Int.reduceLE]
def d5 (E:En) (L:(List Int)→Option (List Int×List Int)):Prop:=E.Γ.mu 58=false∧(∀ (a0:List Int),E.Γ 58 [.d (zf cI a0)]=(L a0).bind fun r=>some (.ret (.agg [zo (cI) 3 none false r.1,zo (cI) 3 none false r.2]) []))
end Go.Vm
