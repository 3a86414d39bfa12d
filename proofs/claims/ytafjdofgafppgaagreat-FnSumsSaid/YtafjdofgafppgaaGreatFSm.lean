/- The functions under laws_FnSums: the abstract machine's codes, and what they come to in plain terms. Printed by a program of this session. -/
import Derived.Test.YtafjdofgafppgaaGreatFSmA
set_option linter.all false
set_option maxRecDepth 100000
set_option maxHeartbeats 4000000
namespace Go.Vm
def c_impl_asRows:Cd:=
 sq (r [1,2] [o 1 .box [t 0],o 2 (.alloc [.nil,.nil]) []])
 (sq (sq (r [1,2,6] [o 3 (.fa 0) [t 1],o 4 (.ld none) [t 3],o 5 (.len false) [t 4],o 6 (.bin .eql) [t 5,i 0]])
   (.cond (t 6) (sq (r [2] [o 7 (.fa 1) [t 1],o 8 (.ld none) [t 7],o 9 (.call 58) [t 8],e (.st 2) [t 2,t 9]])
     (.ret)) (.skip)))
  (sq (r [2] [o 10 (.ld (some 2)) [t 1],e (.st 2) [t 2,t 10]])
   (.ret)))
def mq:List RV:=[.cell 2 (some 2)]
def n6 (vA:(List Int)→Option (List Int×List Int)) (N:Nat) (zg:List Int) (zh:List Int):Option (Alt (List Int×List Int) (List Int×List Int)):=
 if (↑(List.length zg):Int)=0 then ((vA zh).bind fun y0=>
  some ((.a ((y0.fst,y0.snd)))))
 else some ((.b ((zg,zh))))
theorem Tp (E:En) (hy:Hy E [] [] [] mq none (fun y=>nocap y) zl) (vA:(List Int)→Option (List Int×List Int)) (h_impl_vectorOf:d5 E vA) (zg:List Int) (zh:List Int):G E c_impl_asRows [] ⟨zw [(0,.agg [.d (zf cI zg),.d (zf cI zh)])],zF []⟩=(n6 vA E.n zg zh).bind fun r=>r.on (fun r=>some (.ret (.agg [zo (cI) 3 none false r.1,zo (cI) 3 none false r.2]) [])) (fun r=>some (.ret (.agg [.d (zf (cI) r.1),.d (zf (cI) r.2)]) [])):=by
 simp (config:={maxSteps:=40000000}) only [↓yd,zV,yf,ya,rI,rS,rB,r8,rLI,yb,ye,hy.p,hy.l,hy.k,hy.r,hy.d,hy.w,hy.f,zl,oid,mq,↓zj _ _ c_impl_asRows.eq_1,h_impl_vectorOf.2,h_impl_vectorOf.1,zz,n6,zR,zQ,zI,zK,zJ,zT,zL,yc,↓reduceIte,Nat.reduceMul,Nat.reduceAdd,Nat.reduceSub,Nat.reduceEqDiff,Nat.reduceBEq,Nat.reduceLeDiff,Nat.reduceLT,reduceCtorEq,Int.reduceAdd,Int.reduceSub,Int.reduceToNat,Int.reduceNeg,Int.reduceEq,Int.reduceLT,Int.reduceLE]
def mV (E:En) (L:(List Int)→(List Int)→Option (Alt (List Int×List Int) (List Int×List Int))):Prop:=E.Γ.mu 101=false∧(∀ (zg:List Int) (zh:List Int),E.Γ 101 [.agg [.d (zf cI zg),.d (zf cI zh)]]=(L zg zh).bind fun r=>r.on (fun r=>some (.ret (.agg [zo (cI) 3 none false r.1,zo (cI) 3 none false r.2]) [])) (fun r=>some (.ret (.agg [.d (zf (cI) r.1),.d (zf (cI) r.2)]) [])))
def c_impl_withFirst:Cd:=
 sq (r [0,1] [o 4 .mv [n]])
 (sq (r [4] [o 5 .mv [t 0],o 6 (lit 3 1 1) [t 5],o 7 .mv [t 1],o 8 (.slc false 1 true false) [t 7,i 1],o 9 (.app 3 1 8) [t 6,t 8],o 4 .mv [t 9]])
  (.ret))
def qI:List RV:=[.tmp 4]
def qy (N:Nat) (a0:Int) (a1:List Int):Option (List Int):=
 (cut a1 1 (↑(List.length a1):Int)).bind fun y0=>
 if yu 8 (List.length y0+1) then some (a0 :: y0)
 else none
theorem Y5 (E:En) (hy:Hy E [] [] [] qI none (fun y=>nocap y) zl) (a0:Int) (a1:List Int):G E c_impl_withFirst [] ⟨zw [(0,.d (.int .i64 a0)),(1,.d (zf cI a1))],zF []⟩=(qy E.n a0 a1).bind fun r=>some (.ret (zo (cI) 3 none false r) []):=by
 simp (config:={maxSteps:=40000000}) only [↓yd,zV,yf,ya,rI,rS,rB,r8,rLI,yb,ye,hy.p,hy.l,hy.k,hy.r,hy.d,hy.w,hy.f,zl,oid,qI,↓zj _ _ c_impl_withFirst.eq_1,zz,qy,zR,zQ,zI,zK,zJ,zT,zL,yc,↓reduceIte,Nat.reduceMul,Nat.reduceAdd,Nat.reduceSub,Nat.reduceEqDiff,Nat.reduceBEq,Nat.reduceLeDiff,Nat.reduceLT,reduceCtorEq,Int.reduceAdd,Int.reduceSub,Int.reduceToNat,Int.reduceNeg,Int.reduceEq,Int.reduceLT,Int.reduceLE]
def rT (E:En) (L:Int→(List Int)→Option (List Int)):Prop:=E.Γ.mu 102=false∧(∀ (a0:Int) (a1:List Int),E.Γ 102 [.d (.int .i64 a0),.d (zf cI a1)]=(L a0 a1).bind fun r=>some (.ret (zo (cI) 3 none false r) []))
def b0_impl_taken:Cd:=
 sq (sq (r [3,4,6,7,8,9,10,11,46] [o 42 .mv [t 11],o 43 .mv [t 10],o 44 .mv [t 7],o 45 (.bin .add) [t 43,t 44],o 46 (.bin .lss) [t 42,t 45]])
  (.cond (t 46) (.skip) (.exit 0)))
 (sq (.block 1 (sq (sq (r [3,4,6,7,8,9,10,11,55] [o 49 .mv [t 11],o 50 (.bin .lss) [t 49,i 0],o 51 .mv [t 50],g 51 false 52 .mv [t 11],g 51 false 53 .mv [t 6],g 51 false 54 (.bin .geq) [t 52,t 53],o 55 .pick [t 51,b true,t 54]])
     (.cond (t 55) (sq (r [3,4,6,7,8,9,10,11] [o 56 (.fa 1) [t 8],o 57 (.ld none) [t 56],o 58 .mv [t 9],o 59 (.appZ 3 1 8 [(iD 0)]) [t 57,t 58],o 60 (.fa 1) [t 8],e (.st 1) [t 60,t 59]])
       (.exit 1)) (.skip)))
   (.frz 3 (rd [] [3,4,6,7,8,9,10,11] [o 61 (.fa 1) [t 8],o 62 (.ld none) [t 61],o 63 (.fa 1) [t 3],o 64 (.ld none) [t 63],o 65 .mv [t 11],o 66 .mv [t 9],o 67 (.bin .mul) [t 65,t 66],o 68 .mv [t 11],o 69 (.bin .add) [t 68,i 1],o 70 .mv [t 9],o 71 (.bin .mul) [t 69,t 70],o 72 (.slc false 1 true true) [t 64,t 67,t 71],o 73 (.app 3 1 8) [t 62,t 72],o 74 (.fa 1) [t 8],e (.st 1) [t 74,t 73]]))))
  (r [3,4,6,7,8,9,10,11] [o 47 .mv [t 11],o 48 (.bin .add) [t 47,i 1],o 11 .mv [t 48]]))
def k1_impl_taken:Cd:=
 sq (r [4] [o 75 (.ld (some 2)) [t 8],e (.st 2) [t 4,t 75]])
 (.ret)
def c_impl_taken:Cd:=
 sq (r [2,3,4] [o 2 .box [t 0],o 3 .box [t 1],o 4 (.alloc [.nil,.nil]) []])
 (sq (r [3,4,5] [o 12 (.ld (some 2)) [t 2],o 13 (.call 100) [t 12],o 5 .mv [t 13]])
  (sq (r [3,4,5] [o 14 (.ld (some 2)) [t 3],o 15 (.call 101) [t 14],e (.st 2) [t 3,t 15]])
   (sq (r [3,4,5,6] [o 16 (.fa 0) [t 3],o 17 (.ld none) [t 16],o 18 (.ia 1) [t 17,i 0],o 19 (.ld none) [t 18],o 6 .mv [t 19]])
    (sq (r [3,4,5,6,7] [o 20 .mv [t 5],o 21 .mv [t 5],o 22 .neg [t 21],o 23 (.mm true) [t 20,t 22],o 7 .mv [t 23]])
     (sq (r [3,4,5,6,7,8] [o 24 .mv [t 7],o 25 (.fa 0) [t 3],o 26 (.ld none) [t 25],o 27 (.call 102) [t 24,t 26],o 28 (.call 44) [t 27],o 8 (.alloc [.nil,.nil]) [],e (.st 2) [t 8,t 28]])
      (sq (r [3,4,5,6,7,8,9] [o 9 .mv [i 0]])
       (sq (sq (r [3,4,5,6,7,8,9,30] [o 29 .mv [t 7],o 30 (.bin .gtr) [t 29,i 0]])
         (.cond (t 30) (r [3,4,5,6,7,8,9] [o 31 (.fa 1) [t 8],o 32 (.ld none) [t 31],o 33 .cap [t 32],o 34 .mv [t 7],o 35 (.bin .quo) [t 33,t 34],o 9 .mv [t 35]]) (.skip)))
        (sq (r [3,4,5,6,7,8,9,10] [o 10 .mv [i 0]])
         (sq (sq (r [3,4,6,7,8,9,10,37] [o 36 .mv [t 5],o 37 (.bin .lss) [t 36,i 0]])
           (.cond (t 37) (r [3,4,6,7,8,9,10] [o 38 .mv [t 6],o 39 .mv [t 7],o 40 (.bin .sub) [t 38,t 39],o 10 .mv [t 40]]) (.skip)))
          (sq (sq (r [3,4,6,7,8,9,10,11] [o 41 .mv [t 10],o 11 .mv [t 41]])
            (.block 0 (.loop [3,4,6,7,8,9,10,11] b0_impl_taken))) k1_impl_taken))))))))))
def tg:List RV:=[.cell 4 (some 2)]
def xg (z6:(List Int)→(List Int)→Option (Res (Int))) (zZ:(List Int)→(List Int)→Option (Alt (List Int×List Int) (List Int×List Int))) (zD:Int→(List Int)→Option (List Int)) (zi:(List Int)→Option (Res (List Int×Option Nat×List Int))):Nat→Int→Int→Int→Int→Int→(List Int)→(List Int)→(List Int)→(List Int)→Option (Res (List Int×List Int))
 | 0,_,_,_,_,_,_,_,_,_=>none
 | m1+1,x6,x7,x9,x10,x11,o192_0,o192_1,o513,o514=>
   if x11 < w64 (x10+x7) then (if x11 < 0 then (if 0 ≤ x9∧yu 8 (List.length (o514++List.replicate (Int.toNat x9) 0)) then xg z6 zZ zD zi m1 x6 x7 x9 x10 (w64 (x11+1)) o192_0 o192_1 o513 (o514++List.replicate (Int.toNat x9) 0)
    else none)
    else (if x6 ≤ x11 then (if 0 ≤ x9∧yu 8 (List.length (o514++List.replicate (Int.toNat x9) 0)) then xg z6 zZ zD zi m1 x6 x7 x9 x10 (w64 (x11+1)) o192_0 o192_1 o513 (o514++List.replicate (Int.toNat x9) 0)
     else none)
     else ((cut o192_1 (w64 (x11 * x9)) (w64 (w64 (x11+1) * x9))).bind fun y0=>
      if yu 8 (List.length (o514++y0)) then xg z6 zZ zD zi m1 x6 x7 x9 x10 (w64 (x11+1)) o192_0 o192_1 o513 (o514++y0)
      else none)))
   else some (.ok ((o513,o514)))
def xN (z6:(List Int)→(List Int)→Option (Res (Int))) (zZ:(List Int)→(List Int)→Option (Alt (List Int×List Int) (List Int×List Int))) (zD:Int→(List Int)→Option (List Int)) (zi:(List Int)→Option (Res (List Int×Option Nat×List Int))):Nat→Int→Int→Int→Int→Int→(List Int)→(List Int)→(List Int)→(List Int)→Option (Res (List Int×List Int))
 | 0,_,_,_,_,_,_,_,_,_=>none
 | m0+1,x6,x7,x9,x10,x11,o193,o194,o513,o514=>
   if x11 < w64 (x10+x7) then (if x11 < 0 then (if 0 ≤ x9∧yu 8 (List.length (o514++List.replicate (Int.toNat x9) 0)) then xN z6 zZ zD zi m0 x6 x7 x9 x10 (w64 (x11+1)) o193 o194 o513 (o514++List.replicate (Int.toNat x9) 0)
    else none)
    else (if x6 ≤ x11 then (if 0 ≤ x9∧yu 8 (List.length (o514++List.replicate (Int.toNat x9) 0)) then xN z6 zZ zD zi m0 x6 x7 x9 x10 (w64 (x11+1)) o193 o194 o513 (o514++List.replicate (Int.toNat x9) 0)
     else none)
     else ((cut o194 (w64 (x11 * x9)) (w64 (w64 (x11+1) * x9))).bind fun y0=>
      if yu 8 (List.length (o514++y0)) then xg z6 zZ zD zi m0 x6 x7 x9 x10 (w64 (x11+1)) o193 o194 o513 (o514++y0)
      else none)))
   else some (.ok ((o513,o514)))
def kV (z6:(List Int)→(List Int)→Option (Res (Int))) (zZ:(List Int)→(List Int)→Option (Alt (List Int×List Int) (List Int×List Int))) (zD:Int→(List Int)→Option (List Int)) (zi:(List Int)→Option (Res (List Int×Option Nat×List Int))) (N:Nat) (zg:List Int) (zh:List Int) (za:List Int) (zb:List Int):Option (Res (List Int×List Int)):=
 (z6 zg zh).bind fun y0=>
 (y0).on (fun y1=>(zZ za zb).bind fun y2=>
  (y2).on (fun y3=>if 0 < (↑(List.length y3.fst):Int) then ((y3.fst[0]?).bind fun y4=>
    (zD (if y1 < w64 (0 - y1) then w64 (0 - y1) else y1) y3.fst).bind fun y5=>
    (zi y5).bind fun y6=>
    (y6).on (fun y7=>if 0 < if y1 < w64 (0 - y1) then w64 (0 - y1) else y1 then ((y7.snd.fst).bind fun y8=>
      if (if y1 < w64 (0 - y1) then w64 (0 - y1) else y1)=0 then none
      else (if y1 < 0 then (xN z6 zZ zD zi N y4 (if y1 < w64 (0 - y1) then w64 (0 - y1) else y1) (w64 (Int.tdiv (↑y8:Int) (if y1 < w64 (0 - y1) then w64 (0 - y1) else y1))) (w64 (y4 - if y1 < w64 (0 - y1) then w64 (0 - y1) else y1)) (w64 (y4 - if y1 < w64 (0 - y1) then w64 (0 - y1) else y1)) y3.fst y3.snd y7.fst y7.snd.snd)
       else (xN z6 zZ zD zi N y4 (if y1 < w64 (0 - y1) then w64 (0 - y1) else y1) (w64 (Int.tdiv (↑y8:Int) (if y1 < w64 (0 - y1) then w64 (0 - y1) else y1))) 0 0 y3.fst y3.snd y7.fst y7.snd.snd)))
     else (if y1 < 0 then (xN z6 zZ zD zi N y4 (if y1 < w64 (0 - y1) then w64 (0 - y1) else y1) 0 (w64 (y4 - if y1 < w64 (0 - y1) then w64 (0 - y1) else y1)) (w64 (y4 - if y1 < w64 (0 - y1) then w64 (0 - y1) else y1)) y3.fst y3.snd y7.fst y7.snd.snd)
      else (xN z6 zZ zD zi N y4 (if y1 < w64 (0 - y1) then w64 (0 - y1) else y1) 0 0 0 y3.fst y3.snd y7.fst y7.snd.snd))) (fun y7=>some (.pan (y7))))
   else none) (fun y3=>(idx y3.fst 0).bind fun y9=>
   (zD (if y1 < w64 (0 - y1) then w64 (0 - y1) else y1) y3.fst).bind fun y10=>
   (zi y10).bind fun y11=>
   (y11).on (fun y12=>if 0 < if y1 < w64 (0 - y1) then w64 (0 - y1) else y1 then ((y12.snd.fst).bind fun y13=>
     if (if y1 < w64 (0 - y1) then w64 (0 - y1) else y1)=0 then none
     else (if y1 < 0 then (xg z6 zZ zD zi N y9 (if y1 < w64 (0 - y1) then w64 (0 - y1) else y1) (w64 (Int.tdiv (↑y13:Int) (if y1 < w64 (0 - y1) then w64 (0 - y1) else y1))) (w64 (y9 - if y1 < w64 (0 - y1) then w64 (0 - y1) else y1)) (w64 (y9 - if y1 < w64 (0 - y1) then w64 (0 - y1) else y1)) y3.fst y3.snd y12.fst y12.snd.snd)
      else (xg z6 zZ zD zi N y9 (if y1 < w64 (0 - y1) then w64 (0 - y1) else y1) (w64 (Int.tdiv (↑y13:Int) (if y1 < w64 (0 - y1) then w64 (0 - y1) else y1))) 0 0 y3.fst y3.snd y12.fst y12.snd.snd)))
    else (if y1 < 0 then (xg z6 zZ zD zi N y9 (if y1 < w64 (0 - y1) then w64 (0 - y1) else y1) 0 (w64 (y9 - if y1 < w64 (0 - y1) then w64 (0 - y1) else y1)) (w64 (y9 - if y1 < w64 (0 - y1) then w64 (0 - y1) else y1)) y3.fst y3.snd y12.fst y12.snd.snd)
     else (xg z6 zZ zD zi N y9 (if y1 < w64 (0 - y1) then w64 (0 - y1) else y1) 0 0 0 y3.fst y3.snd y12.fst y12.snd.snd))) (fun y12=>some (.pan (y12))))) (fun y1=>some (.pan (y1)))
theorem dz (E:En) (hy:Hy E [] [] [] tg none (fun y=>nocap y) zl) (z6:(List Int)→(List Int)→Option (Res (Int))) (h_impl_numberOf:lQ E z6) (zZ:(List Int)→(List Int)→Option (Alt (List Int×List Int) (List Int×List Int))) (h_impl_asRows:mV E zZ) (zD:Int→(List Int)→Option (List Int)) (h_impl_withFirst:rT E zD) (zi:(List Int)→Option (Res (List Int×Option Nat×List Int))) (h_impl_made:yD E zi):∀ (m1:Nat) (x6:Int) (x7:Int) (x9:Int) (x10:Int) (x11:Int) (o192_0:List Int) (o192_1:List Int) (o513:List Int) (o514:List Int),gH E [3,4,6,7,8,9,10,11] b0_impl_taken [KJ.b 0,KJ.c k1_impl_taken] m1 ⟨zw [(3,A.adr 192 1 0),(4,A.adr 256 1 0),(6,.d (.int .i64 x6)),(7,.d (.int .i64 x7)),(8,A.adr 512 1 0),(9,.d (.int .i64 x9)),(10,.d (.int .i64 x10)),(11,.d (.int .i64 x11))],zF [(192,⟨1,.box [.d (zf (cI) o192_0),.d (zf (cI) o192_1)],false⟩),(256,⟨1,.box [A.nil,A.nil],false⟩),(512,⟨1,.box [A.row 513 1,A.row 514 1],false⟩),(513,⟨1,yg (cI) 3 none o513,false⟩),(514,⟨1,yg (cI) 3 none o514,false⟩)]⟩=(xg z6 zZ zD zi m1 x6 x7 x9 x10 x11 o192_0 o192_1 o513 o514).bind fun r=>r.on (fun r=>some (.ret (.agg [zo (cI) 3 none false r.1,zo (cI) 3 none false r.2]) [])) (fun x=>some (.pan x [])):=by
 intro m1
 induction m1 with
 | zero=>intros; rfl
 | succ m1 ih=>
   intros
   simp (config:={maxSteps:=40000000}) only [↓yd,zV,yf,ya,rI,rS,rB,r8,rLI,yb,ye,hy.p,hy.l,hy.k,hy.r,hy.d,hy.w,hy.f,zl,oid,tg,↓zj _ _ b0_impl_taken.eq_1,↓zj _ _ k1_impl_taken.eq_1,↓zj _ _ c_impl_taken.eq_1,h_impl_numberOf.2,h_impl_numberOf.1,h_impl_asRows.2,h_impl_asRows.1,h_impl_withFirst.2,h_impl_withFirst.1,h_impl_made.2,h_impl_made.1,xb,ih,zz,xg,zR,zQ,zI,zK,zJ,zT,zL,yc,↓reduceIte,Nat.reduceMul,Nat.reduceAdd,Nat.reduceSub,Nat.reduceEqDiff,Nat.reduceBEq,Nat.reduceLeDiff,Nat.reduceLT,reduceCtorEq,Int.reduceAdd,Int.reduceSub,Int.reduceToNat,Int.reduceNeg,Int.reduceEq,Int.reduceLT,Int.reduceLE]
theorem YR (E:En) (hy:Hy E [] [] [] tg none (fun y=>nocap y) zl) (z6:(List Int)→(List Int)→Option (Res (Int))) (h_impl_numberOf:lQ E z6) (zZ:(List Int)→(List Int)→Option (Alt (List Int×List Int) (List Int×List Int))) (h_impl_asRows:mV E zZ) (zD:Int→(List Int)→Option (List Int)) (h_impl_withFirst:rT E zD) (zi:(List Int)→Option (Res (List Int×Option Nat×List Int))) (h_impl_made:yD E zi):∀ (m0:Nat) (x6:Int) (x7:Int) (x9:Int) (x10:Int) (x11:Int) (o193:List Int) (o194:List Int) (o513:List Int) (o514:List Int),gH E [3,4,6,7,8,9,10,11] b0_impl_taken [KJ.b 0,KJ.c k1_impl_taken] m0 ⟨zw [(3,A.adr 192 1 0),(4,A.adr 256 1 0),(6,.d (.int .i64 x6)),(7,.d (.int .i64 x7)),(8,A.adr 512 1 0),(9,.d (.int .i64 x9)),(10,.d (.int .i64 x10)),(11,.d (.int .i64 x11))],zF [(192,⟨1,.box [A.row 193 1,A.row 194 1],false⟩),(193,⟨1,yg (cI) 3 none o193,false⟩),(194,⟨1,yg (cI) 3 none o194,false⟩),(256,⟨1,.box [A.nil,A.nil],false⟩),(512,⟨1,.box [A.row 513 1,A.row 514 1],false⟩),(513,⟨1,yg (cI) 3 none o513,false⟩),(514,⟨1,yg (cI) 3 none o514,false⟩)]⟩=(xN z6 zZ zD zi m0 x6 x7 x9 x10 x11 o193 o194 o513 o514).bind fun r=>r.on (fun r=>some (.ret (.agg [zo (cI) 3 none false r.1,zo (cI) 3 none false r.2]) [])) (fun x=>some (.pan x [])):=by
 intro m0
 induction m0 with
 | zero=>intros; rfl
 | succ m0 ih=>
   intros
   simp (config:={maxSteps:=40000000}) only [↓yd,zV,yf,ya,rI,rS,rB,r8,rLI,yb,ye,hy.p,hy.l,hy.k,hy.r,hy.d,hy.w,hy.f,zl,oid,tg,↓zj _ _ b0_impl_taken.eq_1,↓zj _ _ k1_impl_taken.eq_1,↓zj _ _ c_impl_taken.eq_1,h_impl_numberOf.2,h_impl_numberOf.1,h_impl_asRows.2,h_impl_asRows.1,h_impl_withFirst.2,h_impl_withFirst.1,h_impl_made.2,h_impl_made.1,xb,ih,zz,xN,dz E hy z6 h_impl_numberOf zZ h_impl_asRows zD h_impl_withFirst zi h_impl_made,zR,zQ,zI,zK,zJ,zT,zL,yc,↓reduceIte,Nat.reduceMul,Nat.reduceAdd,Nat.reduceSub,Nat.reduceEqDiff,Nat.reduceBEq,Nat.reduceLeDiff,Nat.reduceLT,reduceCtorEq,Int.reduceAdd,Int.reduceSub,Int.reduceToNat,Int.reduceNeg,Int.reduceEq,Int.reduceLT,Int.reduceLE]
theorem S7 (E:En) (hy:Hy E [] [] [] tg none (fun y=>nocap y) zl) (z6:(List Int)→(List Int)→Option (Res (Int))) (h_impl_numberOf:lQ E z6) (zZ:(List Int)→(List Int)→Option (Alt (List Int×List Int) (List Int×List Int))) (h_impl_asRows:mV E zZ) (zD:Int→(List Int)→Option (List Int)) (h_impl_withFirst:rT E zD) (zi:(List Int)→Option (Res (List Int×Option Nat×List Int))) (h_impl_made:yD E zi) (zg:List Int) (zh:List Int) (za:List Int) (zb:List Int):G E c_impl_taken [] ⟨zw [(0,.agg [.d (zf cI zg),.d (zf cI zh)]),(1,.agg [.d (zf cI za),.d (zf cI zb)])],zF []⟩=(kV z6 zZ zD zi E.n zg zh za zb).bind fun r=>r.on (fun r=>some (.ret (.agg [zo (cI) 3 none false r.1,zo (cI) 3 none false r.2]) [])) (fun x=>some (.pan x [])):=by
 simp (config:={maxSteps:=40000000}) only [↓yd,zV,yf,ya,rI,rS,rB,r8,rLI,yb,ye,hy.p,hy.l,hy.k,hy.r,hy.d,hy.w,hy.f,zl,oid,tg,↓zj _ _ b0_impl_taken.eq_1,↓zj _ _ k1_impl_taken.eq_1,↓zj _ _ c_impl_taken.eq_1,h_impl_numberOf.2,h_impl_numberOf.1,h_impl_asRows.2,h_impl_asRows.1,h_impl_withFirst.2,h_impl_withFirst.1,h_impl_made.2,h_impl_made.1,zz,kV,dz E hy z6 h_impl_numberOf zZ h_impl_asRows zD h_impl_withFirst zi h_impl_made,YR E hy z6 h_impl_numberOf zZ h_impl_asRows zD h_impl_withFirst zi h_impl_made,zR,zQ,zI,zK,zJ,zT,zL,yc,↓reduceIte,Nat.reduceMul,Nat.reduceAdd,Nat.reduceSub,Nat.reduceEqDiff,Nat.reduceBEq,Nat.reduceLeDiff,Nat.reduceLT,reduceCtorEq,Int.reduceAdd,Int.reduceSub,Int.reduceToNat,Int.reduceNeg,Int.reduceEq,Int.reduceLT,Int.reduceLE]
def Zm (E:En) (L:(List Int)→(List Int)→(List Int)→(List Int)→Option (Res (List Int×List Int))):Prop:=E.Γ.mu 46=false∧(∀ (zg:List Int) (zh:List Int) (za:List Int) (zb:List Int),E.Γ 46 [.agg [.d (zf cI zg),.d (zf cI zh)],.agg [.d (zf cI za),.d (zf cI zb)]]=(L zg zh za zb).bind fun r=>r.on (fun r=>some (.ret (.agg [zo (cI) 3 none false r.1,zo (cI) 3 none false r.2]) [])) (fun x=>some (.pan x [])))
def c_impl_rowsOf:Cd:=
 sq (r [1] [o 1 .box [t 0],o 2 .mv [i 0],o 3 .mv [i 0]])
 (sq (r [1,4] [o 5 (.fa 0) [t 1],o 6 (.ld none) [t 5],o 7 (.ia 1) [t 6,i 0],o 8 (.ld none) [t 7],o 4 .mv [t 8]])
  (sq (sq (r [1,4,10] [o 9 .mv [t 4],o 10 (.bin .eql) [t 9,i 0]])
    (.cond (t 10) (sq (r [2,3] [o 2 .mv [i 0],o 3 .mv [i 0]])
      (.ret)) (.skip)))
   (sq (rd [] [2,3] [o 11 .mv [t 4],o 12 (.fa 1) [t 1],o 13 (.ld none) [t 12],o 14 (.len false) [t 13],o 15 .mv [t 4],o 16 (.bin .quo) [t 14,t 15],o 2 .mv [t 11],o 3 .mv [t 16]])
    (.ret))))
def nY:List RV:=[.tmp 2,.tmp 3]
def nN (N:Nat) (zg:List Int) (zh:List Int):Option (Int×Int):=
 (idx zg 0).bind fun y0=>
 if y0=0 then some ((0,0))
 else (if y0=0 then none
  else some ((y0,w64 (Int.tdiv (↑(List.length zh):Int) y0))))
theorem Th (E:En) (hy:Hy E [] [] [] nY none (fun y=>nocap y) zl) (zg:List Int) (zh:List Int):G E c_impl_rowsOf [] ⟨zw [(0,.agg [.d (zf cI zg),.d (zf cI zh)])],zF []⟩=(nN E.n zg zh).bind fun r=>some (.ret (.tup [.d (.int .i64 r.1),.d (.int .i64 r.2)]) []):=by
 simp (config:={maxSteps:=40000000}) only [↓yd,zV,yf,ya,rI,rS,rB,r8,rLI,yb,ye,hy.p,hy.l,hy.k,hy.r,hy.d,hy.w,hy.f,zl,oid,nY,↓zj _ _ c_impl_rowsOf.eq_1,zz,nN,zR,zQ,zI,zK,zJ,zT,zL,yc,↓reduceIte,Nat.reduceMul,Nat.reduceAdd,Nat.reduceSub,Nat.reduceEqDiff,Nat.reduceBEq,Nat.reduceLeDiff,Nat.reduceLT,reduceCtorEq,Int.reduceAdd,Int.reduceSub,Int.reduceToNat,Int.reduceNeg,Int.reduceEq,Int.reduceLT,Int.reduceLE]
def ec (E:En) (L:(List Int)→(List Int)→Option (Int×Int)):Prop:=E.Γ.mu 103=false∧(∀ (zg:List Int) (zh:List Int),E.Γ 103 [.agg [.d (zf cI zg),.d (zf cI zh)]]=(L zg zh).bind fun r=>some (.ret (.tup [.d (.int .i64 r.1),.d (.int .i64 r.2)]) []))
def c_impl_dropped:Cd:=
 sq (r [2,3,4] [o 2 .box [t 0],o 3 .box [t 1],o 4 (.alloc [.nil,.nil]) []])
 (sq (r [3,4,5] [o 11 (.ld (some 2)) [t 2],o 12 (.call 100) [t 11],o 5 .mv [t 12]])
  (sq (r [3,4,5] [o 13 (.ld (some 2)) [t 3],o 14 (.call 101) [t 13],e (.st 2) [t 3,t 14]])
   (sq (r [3,4,5,6,7] [o 16 (.ld (some 2)) [t 3],o 17 (.call 103) [t 16],o 15 .mv [t 17],o 18 (.ext 0) [t 15],o 19 (.ext 1) [t 15],o 6 .mv [t 18],o 7 .mv [t 19]])
    (sq (r [3,4,7,8,9] [o 20 .mv [t 5],o 21 (.mm true) [t 20,i 0],o 22 .mv [t 6],o 23 (.mm false) [t 21,t 22],o 24 .mv [t 6],o 25 .mv [t 5],o 26 (.mm false) [t 25,i 0],o 27 (.bin .add) [t 24,t 26],o 28 (.mm true) [t 27,i 0],o 8 .mv [t 23],o 9 .mv [t 28]])
     (sq (sq (r [3,4,7,8,9,31] [o 29 .mv [t 8],o 30 .mv [t 9],o 31 (.bin .gtr) [t 29,t 30]])
       (.cond (t 31) (r [3,4,7,8,9] [o 32 .mv [t 8],o 9 .mv [t 32]]) (.skip)))
      (sq (r [3,4,7,8,9,10] [o 33 .mv [t 9],o 34 .mv [t 8],o 35 (.bin .sub) [t 33,t 34],o 36 (.fa 0) [t 3],o 37 (.ld none) [t 36],o 38 (.call 102) [t 35,t 37],o 39 (.call 44) [t 38],o 10 (.alloc [.nil,.nil]) [],e (.st 2) [t 10,t 39]])
       (sq (.frz 3 (rd [] [4,10] [o 40 (.fa 1) [t 10],o 41 (.ld none) [t 40],o 42 (.fa 1) [t 3],o 43 (.ld none) [t 42],o 44 .mv [t 8],o 45 .mv [t 7],o 46 (.bin .mul) [t 44,t 45],o 47 .mv [t 9],o 48 .mv [t 7],o 49 (.bin .mul) [t 47,t 48],o 50 (.slc false 1 true true) [t 43,t 46,t 49],o 51 (.app 3 1 8) [t 41,t 50],o 52 (.fa 1) [t 10],e (.st 1) [t 52,t 51]]))
        (sq (r [4] [o 53 (.ld (some 2)) [t 10],e (.st 2) [t 4,t 53]])
         (.ret)))))))))
def oU:List RV:=[.cell 4 (some 2)]
def oJ (z6:(List Int)→(List Int)→Option (Res (Int))) (zZ:(List Int)→(List Int)→Option (Alt (List Int×List Int) (List Int×List Int))) (xu:(List Int)→(List Int)→Option (Int×Int)) (zD:Int→(List Int)→Option (List Int)) (zi:(List Int)→Option (Res (List Int×Option Nat×List Int))) (N:Nat) (zg:List Int) (zh:List Int) (za:List Int) (zb:List Int):Option (Res (List Int×List Int)):=
 (z6 zg zh).bind fun y0=>
 (y0).on (fun y1=>(zZ za zb).bind fun y2=>
  (y2).on (fun y3=>(xu y3.fst y3.snd).bind fun y4=>
   if (if w64 (y4.fst+if 0 < y1 then 0 else y1) < 0 then 0 else w64 (y4.fst+if 0 < y1 then 0 else y1)) < if y4.fst < if y1 < 0 then 0 else y1 then y4.fst else if y1 < 0 then 0 else y1 then ((zD (w64 ((if y4.fst < if y1 < 0 then 0 else y1 then y4.fst else if y1 < 0 then 0 else y1) - if y4.fst < if y1 < 0 then 0 else y1 then y4.fst else if y1 < 0 then 0 else y1)) y3.fst).bind fun y5=>
    (zi y5).bind fun y6=>
    (y6).on (fun y7=>(cut y3.snd (w64 ((if y4.fst < if y1 < 0 then 0 else y1 then y4.fst else if y1 < 0 then 0 else y1) * y4.snd)) (w64 ((if y4.fst < if y1 < 0 then 0 else y1 then y4.fst else if y1 < 0 then 0 else y1) * y4.snd))).bind fun y8=>
     if yu 8 (List.length (y7.snd.snd++y8)) then some (.ok ((y7.fst,y7.snd.snd++y8)))
     else none) (fun y7=>some (.pan (y7))))
   else ((zD (w64 ((if w64 (y4.fst+if 0 < y1 then 0 else y1) < 0 then 0 else w64 (y4.fst+if 0 < y1 then 0 else y1)) - if y4.fst < if y1 < 0 then 0 else y1 then y4.fst else if y1 < 0 then 0 else y1)) y3.fst).bind fun y9=>
    (zi y9).bind fun y10=>
    (y10).on (fun y11=>(cut y3.snd (w64 ((if y4.fst < if y1 < 0 then 0 else y1 then y4.fst else if y1 < 0 then 0 else y1) * y4.snd)) (w64 ((if w64 (y4.fst+if 0 < y1 then 0 else y1) < 0 then 0 else w64 (y4.fst+if 0 < y1 then 0 else y1)) * y4.snd))).bind fun y12=>
     if yu 8 (List.length (y11.snd.snd++y12)) then some (.ok ((y11.fst,y11.snd.snd++y12)))
     else none) (fun y11=>some (.pan (y11))))) (fun y3=>(xu y3.fst y3.snd).bind fun y13=>
   if (if w64 (y13.fst+if 0 < y1 then 0 else y1) < 0 then 0 else w64 (y13.fst+if 0 < y1 then 0 else y1)) < if y13.fst < if y1 < 0 then 0 else y1 then y13.fst else if y1 < 0 then 0 else y1 then ((zD (w64 ((if y13.fst < if y1 < 0 then 0 else y1 then y13.fst else if y1 < 0 then 0 else y1) - if y13.fst < if y1 < 0 then 0 else y1 then y13.fst else if y1 < 0 then 0 else y1)) y3.fst).bind fun y14=>
    (zi y14).bind fun y15=>
    (y15).on (fun y16=>(cut y3.snd (w64 ((if y13.fst < if y1 < 0 then 0 else y1 then y13.fst else if y1 < 0 then 0 else y1) * y13.snd)) (w64 ((if y13.fst < if y1 < 0 then 0 else y1 then y13.fst else if y1 < 0 then 0 else y1) * y13.snd))).bind fun y17=>
     if yu 8 (List.length (y16.snd.snd++y17)) then some (.ok ((y16.fst,y16.snd.snd++y17)))
     else none) (fun y16=>some (.pan (y16))))
   else ((zD (w64 ((if w64 (y13.fst+if 0 < y1 then 0 else y1) < 0 then 0 else w64 (y13.fst+if 0 < y1 then 0 else y1)) - if y13.fst < if y1 < 0 then 0 else y1 then y13.fst else if y1 < 0 then 0 else y1)) y3.fst).bind fun y18=>
    (zi y18).bind fun y19=>
    (y19).on (fun y20=>(cut y3.snd (w64 ((if y13.fst < if y1 < 0 then 0 else y1 then y13.fst else if y1 < 0 then 0 else y1) * y13.snd)) (w64 ((if w64 (y13.fst+if 0 < y1 then 0 else y1) < 0 then 0 else w64 (y13.fst+if 0 < y1 then 0 else y1)) * y13.snd))).bind fun y21=>
     if yu 8 (List.length (y20.snd.snd++y21)) then some (.ok ((y20.fst,y20.snd.snd++y21)))
     else none) (fun y20=>some (.pan (y20)))))) (fun y1=>some (.pan (y1)))
theorem Va (E:En) (hy:Hy E [] [] [] oU none (fun y=>nocap y) zl) (z6:(List Int)→(List Int)→Option (Res (Int))) (h_impl_numberOf:lQ E z6) (zZ:(List Int)→(List Int)→Option (Alt (List Int×List Int) (List Int×List Int))) (h_impl_asRows:mV E zZ) (xu:(List Int)→(List Int)→Option (Int×Int)) (h_impl_rowsOf:ec E xu) (zD:Int→(List Int)→Option (List Int)) (h_impl_withFirst:rT E zD) (zi:(List Int)→Option (Res (List Int×Option Nat×List Int))) (h_impl_made:yD E zi) (zg:List Int) (zh:List Int) (za:List Int) (zb:List Int):G E c_impl_dropped [] ⟨zw [(0,.agg [.d (zf cI zg),.d (zf cI zh)]),(1,.agg [.d (zf cI za),.d (zf cI zb)])],zF []⟩=(oJ z6 zZ xu zD zi E.n zg zh za zb).bind fun r=>r.on (fun r=>some (.ret (.agg [zo (cI) 3 none false r.1,zo (cI) 3 none false r.2]) [])) (fun x=>some (.pan x [])):=by
 simp (config:={maxSteps:=40000000}) only [↓yd,zV,yf,ya,rI,rS,rB,r8,rLI,yb,ye,hy.p,hy.l,hy.k,hy.r,hy.d,hy.w,hy.f,zl,oid,oU,↓zj _ _ c_impl_dropped.eq_1,h_impl_numberOf.2,h_impl_numberOf.1,h_impl_asRows.2,h_impl_asRows.1,h_impl_rowsOf.2,h_impl_rowsOf.1,h_impl_withFirst.2,h_impl_withFirst.1,h_impl_made.2,h_impl_made.1,zz,oJ,zR,zQ,zI,zK,zJ,zT,zL,yc,↓reduceIte,Nat.reduceMul,Nat.reduceAdd,Nat.reduceSub,Nat.reduceEqDiff,Nat.reduceBEq,Nat.reduceLeDiff,Nat.reduceLT,reduceCtorEq,Int.reduceAdd,Int.reduceSub,Int.reduceToNat,Int.reduceNeg,Int.reduceEq,Int.reduceLT,Int.reduceLE]
def cU (E:En) (L:(List Int)→(List Int)→(List Int)→(List Int)→Option (Res (List Int×List Int))):Prop:=E.Γ.mu 47=false∧(∀ (zg:List Int) (zh:List Int) (za:List Int) (zb:List Int),E.Γ 47 [.agg [.d (zf cI zg),.d (zf cI zh)],.agg [.d (zf cI za),.d (zf cI zb)]]=(L zg zh za zb).bind fun r=>r.on (fun r=>some (.ret (.agg [zo (cI) 3 none false r.1,zo (cI) 3 none false r.2]) [])) (fun x=>some (.pan x [])))
def b0_slices_Equal___int_int_:Cd:=
 sq (r [0,1,12,13,14] [o 14 (.bin .lss) [t 13,t 12]])
 (sq (.cond (t 14) (.skip) (.exit 0))
  (sq (.block 1 (sq (r [0,1,5,12,13] [o 15 .mv [t 13],o 5 .mv [t 15]])
    (sq (rd [] [0,1,12,13,24] [o 16 .mv [t 0],o 17 .mv [t 5],o 18 (.ia 1) [t 16,t 17],o 19 (.ld none) [t 18],o 20 .mv [t 1],o 21 .mv [t 5],o 22 (.ia 1) [t 20,t 21],o 23 (.ld none) [t 22],o 24 (.bin .neq) [t 19,t 23]])
     (.cond (t 24) (sq (r [4] [o 4 .mv [b false]])
       (.ret)) (.skip)))))
   (r [0,1,12,13] [o 25 (.bin .add) [t 13,i 1],o 13 .mv [t 25]])))
def k1_slices_Equal___int_int_:Cd:=
 sq (r [4] [o 4 .mv [b true]])
 (.ret)
def c_slices_Equal___int_int_:Cd:=
 sq (r [0,1] [o 4 .mv [b false]])
 (sq (sq (r [0,1,10] [o 6 .mv [t 0],o 7 (.len false) [t 6],o 8 .mv [t 1],o 9 (.len false) [t 8],o 10 (.bin .neq) [t 7,t 9]])
   (.cond (t 10) (sq (r [4] [o 4 .mv [b false]])
     (.ret)) (.skip)))
  (sq (sq (r [0,1,12,13] [o 11 .mv [t 0],o 12 (.len false) [t 11],o 13 .mv [i 0]])
    (.block 0 (.loop [0,1,12,13] b0_slices_Equal___int_int_))) k1_slices_Equal___int_int_))
def xS:List RV:=[.tmp 4]
def xM:Nat→(List Int)→(List Int)→Int→Int→Option (Bool)
 | 0,_,_,_,_=>none
 | m0+1,x0,x1,x12,x13=>
   if x13 < x12 then ((idx x0 x13).bind fun y0=>
    (idx x1 x13).bind fun y1=>
    if y0=y1 then xM m0 x0 x1 x12 (w64 (x13+1))
    else some false)
   else some true
def vt (N:Nat) (a0:List Int) (a1:List Int):Option (Bool):=
 if (↑(List.length a0):Int)=(↑(List.length a1):Int) then xM N a0 a1 ((↑(List.length a0):Int)) 0
 else some false
theorem gF (E:En) (hy:Hy E [] [] [] xS none (fun y=>nocap y) zl):∀ (m0:Nat) (x0:List Int) (x1:List Int) (x12:Int) (x13:Int),gH E [0,1,12,13] b0_slices_Equal___int_int_ [KJ.b 0,KJ.c k1_slices_Equal___int_int_] m0 ⟨zw [(0,.d (zf (cI) x0)),(1,.d (zf (cI) x1)),(12,.d (.int .i64 x12)),(13,.d (.int .i64 x13))],zF []⟩=(xM m0 x0 x1 x12 x13).bind fun r=>some (.ret (.d (.bool r)) []):=by
 intro m0
 induction m0 with
 | zero=>intros; rfl
 | succ m0 ih=>
   intros
   simp (config:={maxSteps:=40000000}) only [↓yd,zV,yf,ya,rI,rS,rB,r8,rLI,yb,ye,hy.p,hy.l,hy.k,hy.r,hy.d,hy.w,hy.f,zl,oid,xS,↓zj _ _ b0_slices_Equal___int_int_.eq_1,↓zj _ _ k1_slices_Equal___int_int_.eq_1,↓zj _ _ c_slices_Equal___int_int_.eq_1,xb,ih,zz,xM,zR,zQ,zI,zK,zJ,zT,zL,yc,↓reduceIte,Nat.reduceMul,Nat.reduceAdd,Nat.reduceSub,Nat.reduceEqDiff,Nat.reduceBEq,Nat.reduceLeDiff,Nat.reduceLT,reduceCtorEq,Int.reduceAdd,Int.reduceSub,Int.reduceToNat,Int.reduceNeg,Int.reduceEq,Int.reduceLT,Int.reduceLE]
theorem eH (E:En) (hy:Hy E [] [] [] xS none (fun y=>nocap y) zl) (a0:List Int) (a1:List Int):G E c_slices_Equal___int_int_ [] ⟨zw [(0,.d (zf cI a0)),(1,.d (zf cI a1))],zF []⟩=(vt E.n a0 a1).bind fun r=>some (.ret (.d (.bool r)) []):=by
 simp (config:={maxSteps:=40000000}) only [↓yd,zV,yf,ya,rI,rS,rB,r8,rLI,yb,ye,hy.p,hy.l,hy.k,hy.r,hy.d,hy.w,hy.f,zl,oid,xS,↓zj _ _ b0_slices_Equal___int_int_.eq_1,↓zj _ _ k1_slices_Equal___int_int_.eq_1,↓zj _ _ c_slices_Equal___int_int_.eq_1,zz,vt,gF E hy,zR,zQ,zI,zK,zJ,zT,zL,yc,↓reduceIte,Nat.reduceMul,Nat.reduceAdd,Nat.reduceSub,Nat.reduceEqDiff,Nat.reduceBEq,Nat.reduceLeDiff,Nat.reduceLT,reduceCtorEq,Int.reduceAdd,Int.reduceSub,Int.reduceToNat,Int.reduceNeg,Int.reduceEq,Int.reduceLT,Int.reduceLE]
def wn (E:En) (L:(List Int)→(List Int)→Option (Bool)):Prop:=E.Γ.mu 54=false∧(∀ (a0:List Int) (a1:List Int),E.Γ 54 [.d (zf cI a0),.d (zf cI a1)]=(L a0 a1).bind fun r=>some (.ret (.d (.bool r)) []))
def c_impl_catenated:Cd:=
 sq (r [2,3,4] [o 2 .box [t 0],o 3 .box [t 1],o 4 (.alloc [.nil,.nil]) []])
 (sq (rd [] [2,3,4] [o 6 (.ld (some 2)) [t 2],o 8 (.ld (some 2)) [t 3],ap [] false [3] (o 7 (.call 101) [t 6]),o 9 (.call 101) [t 8],e (.st 2) [t 2,t 7],e (.st 2) [t 3,t 9]])
  (sq (sq (r [2,3,4,16] [o 10 (.fa 0) [t 2],o 11 (.ld none) [t 10],o 12 (.len false) [t 11],o 13 (.fa 0) [t 3],o 14 (.ld none) [t 13],o 15 (.len false) [t 14],o 16 (.bin .sub) [t 12,t 15]])
    (.block 0 (sq (r [2,3,4,16,19] [o 20 (.bin .eql) [t 16,i 0],o 19 .mv [t 20]])
      (.cond (t 19) (.skip) (sq (r [2,3,4,16,21] [o 22 (.bin .eql) [t 16,i 1],o 21 .mv [t 22]])
        (.cond (t 21) (rd [] [2,3,4] [o 24 (.fa 0) [t 3],o 25 (.ld none) [t 24],o 27 (.fa 1) [t 3],o 28 (.ld none) [t 27],ap [] false [3,24,3,27] (o 23 (lit 3 1 1) [i 1]),ap [] false [3,27] (o 26 (.app 3 1 8) [t 23,t 25]),o 29 (.bld [.nil,.nil] [(0,1),(1,1)]) [t 26,t 28],e (.st 2) [t 3,t 29]]) (sq (r [2,3,4,30] [o 31 (.bin .eql) [t 16,i (-1)],o 30 .mv [t 31]])
          (.cond (t 30) (rd [] [2,3,4] [o 33 (.fa 0) [t 2],o 34 (.ld none) [t 33],o 36 (.fa 1) [t 2],o 37 (.ld none) [t 36],ap [] false [2,33,2,36] (o 32 (lit 3 1 1) [i 1]),ap [] false [2,36] (o 35 (.app 3 1 8) [t 32,t 34]),o 38 (.bld [.nil,.nil] [(0,1),(1,1)]) [t 35,t 37],e (.st 2) [t 2,t 38]]) (r [2,3,4] [o 17 (.bld [(.d (iD 0))] [(0,1)]) [i 2],o 18 (.mkI 75) [t 17],e .pan [t 18]])))))))))
   (sq (sq (.frz 2 (.frz 3 (rd [] [2,3,4,46] [o 39 (.fa 0) [t 2],o 40 (.ld none) [t 39],o 41 (.slc false 1 true false) [t 40,i 1],o 42 (.fa 0) [t 3],o 43 (.ld none) [t 42],o 44 (.slc false 1 true false) [t 43,i 1],o 45 (.call 54) [t 41,t 44],o 46 .not [t 45]])))
     (.cond (t 46) (r [2,3,4] [o 47 (.bld [(.d (iD 0))] [(0,1)]) [i 3],o 48 (.mkI 75) [t 47],e .pan [t 48]]) (.skip)))
    (sq (rd [] [2,3,4,5] [ap [320] false [] (o 49 (.fa 0) [t 2]),ap [320] false [] (o 50 (.ld none) [t 49]),ap [320] false [] (o 51 (.ia 1) [t 50,i 0]),ap [320] false [] (o 52 (.ld none) [t 51]),ap [320] false [] (o 53 (.fa 0) [t 3]),ap [320] false [] (o 54 (.ld none) [t 53]),ap [320] false [] (o 55 (.ia 1) [t 54,i 0]),ap [320] false [] (o 56 (.ld none) [t 55]),ap [320] false [] (o 57 (.bin .add) [t 52,t 56]),ap [320] false [] (o 58 (.fa 0) [t 2]),ap [320] false [] (o 59 (.ld none) [t 58]),ap [] true [2,49,50,51,3,53,54,55,2,58] (o 5 (.alloc [.nil,.nil]) []),ap [320] false [] (o 60 (.call 102) [t 57,t 59]),ap [320] false [] (o 61 (.call 44) [t 60]),e (.st 2) [t 5,t 61]])
     (sq (rd [] [4,5] [o 62 (.fa 1) [t 5],o 63 (.ld none) [t 62],o 64 (.fa 1) [t 2],o 65 (.ld none) [t 64],o 67 (.fa 1) [t 3],o 68 (.ld none) [t 67],ap [] false [3,67] (o 66 (.app 3 1 8) [t 63,t 65]),o 69 (.app 3 1 8) [t 66,t 68],o 70 (.fa 1) [t 5],e (.st 1) [t 70,t 69]])
      (sq (r [4] [o 71 (.ld (some 2)) [t 5],e (.st 2) [t 4,t 71]])
       (.ret)))))))
def rU:List RV:=[.cell 4 (some 2)]
def rz (zZ:(List Int)→(List Int)→Option (Alt (List Int×List Int) (List Int×List Int))) (zr:(List Int)→(List Int)→Option (Bool)) (zD:Int→(List Int)→Option (List Int)) (zi:(List Int)→Option (Res (List Int×Option Nat×List Int))) (N:Nat) (zg:List Int) (zh:List Int) (za:List Int) (zb:List Int):Option (Res (List Int×List Int)):=
 (zZ zg zh).bind fun y0=>
 (y0).on (fun y1=>(zZ za zb).bind fun y2=>
  (y2).on (fun y3=>if w64 ((↑(List.length y1.fst):Int) - (↑(List.length y3.fst):Int))=0 then ((cut y1.fst 1 (↑(List.length y1.fst):Int)).bind fun y4=>
    (cut y3.fst 1 (↑(List.length y3.fst):Int)).bind fun y5=>
    (zr y4 y5).bind fun y6=>
    if y6=false then some (.pan (D.ifaceS 75 [D.int .i64 3]))
    else ((idx y1.fst 0).bind fun y7=>
     (idx y3.fst 0).bind fun y8=>
     (zD (w64 (y7+y8)) y1.fst).bind fun y9=>
     (zi y9).bind fun y10=>
     (y10).on (fun y11=>if yu 8 (List.length (y11.snd.snd++y1.snd)) then (if yu 8 (List.length (y11.snd.snd++y1.snd++y3.snd)) then some (.ok ((y11.fst,y11.snd.snd++y1.snd++y3.snd)))
       else none)
      else none) (fun y11=>some (.pan (y11)))))
   else (if w64 ((↑(List.length y1.fst):Int) - (↑(List.length y3.fst):Int))=1 then (if yu 8 (List.length y3.fst+1) then ((cut y1.fst 1 (↑(List.length y1.fst):Int)).bind fun y12=>
     (cut (1 :: y3.fst) 1 (↑(List.length y3.fst+1):Int)).bind fun y13=>
     (zr y12 y13).bind fun y14=>
     if y14=false then some (.pan (D.ifaceS 75 [D.int .i64 3]))
     else ((idx y1.fst 0).bind fun y15=>
      (idx (1 :: y3.fst) 0).bind fun y16=>
      (zD (w64 (y15+y16)) y1.fst).bind fun y17=>
      (zi y17).bind fun y18=>
      (y18).on (fun y19=>if yu 8 (List.length (y19.snd.snd++y1.snd)) then (if yu 8 (List.length (y19.snd.snd++y1.snd++y3.snd)) then some (.ok ((y19.fst,y19.snd.snd++y1.snd++y3.snd)))
        else none)
       else none) (fun y19=>some (.pan (y19)))))
    else none)
    else (if w64 ((↑(List.length y1.fst):Int) - (↑(List.length y3.fst):Int))=-1 then (if yu 8 (List.length y1.fst+1) then ((cut (1 :: y1.fst) 1 (↑(List.length y1.fst+1):Int)).bind fun y20=>
      (cut y3.fst 1 (↑(List.length y3.fst):Int)).bind fun y21=>
      (zr y20 y21).bind fun y22=>
      if y22=false then some (.pan (D.ifaceS 75 [D.int .i64 3]))
      else ((idx (1 :: y1.fst) 0).bind fun y23=>
       (idx y3.fst 0).bind fun y24=>
       (zD (w64 (y23+y24)) (1 :: y1.fst)).bind fun y25=>
       (zi y25).bind fun y26=>
       (y26).on (fun y27=>if yu 8 (List.length (y27.snd.snd++y1.snd)) then (if yu 8 (List.length (y27.snd.snd++y1.snd++y3.snd)) then some (.ok ((y27.fst,y27.snd.snd++y1.snd++y3.snd)))
         else none)
        else none) (fun y27=>some (.pan (y27)))))
     else none)
     else some (.pan (D.ifaceS 75 [D.int .i64 2]))))) (fun y3=>if w64 ((↑(List.length y1.fst):Int) - (↑(List.length y3.fst):Int))=0 then ((cut y1.fst 1 (↑(List.length y1.fst):Int)).bind fun y28=>
    (cut y3.fst 1 (↑(List.length y3.fst):Int)).bind fun y29=>
    (zr y28 y29).bind fun y30=>
    if y30=false then some (.pan (D.ifaceS 75 [D.int .i64 3]))
    else ((idx y1.fst 0).bind fun y31=>
     (idx y3.fst 0).bind fun y32=>
     (zD (w64 (y31+y32)) y1.fst).bind fun y33=>
     (zi y33).bind fun y34=>
     (y34).on (fun y35=>if yu 8 (List.length (y35.snd.snd++y1.snd)) then (if yu 8 (List.length (y35.snd.snd++y1.snd++y3.snd)) then some (.ok ((y35.fst,y35.snd.snd++y1.snd++y3.snd)))
       else none)
      else none) (fun y35=>some (.pan (y35)))))
   else (if w64 ((↑(List.length y1.fst):Int) - (↑(List.length y3.fst):Int))=1 then (if yu 8 (List.length y3.fst+1) then ((cut y1.fst 1 (↑(List.length y1.fst):Int)).bind fun y36=>
     (cut (1 :: y3.fst) 1 (↑(List.length y3.fst+1):Int)).bind fun y37=>
     (zr y36 y37).bind fun y38=>
     if y38=false then some (.pan (D.ifaceS 75 [D.int .i64 3]))
     else ((idx y1.fst 0).bind fun y39=>
      (idx (1 :: y3.fst) 0).bind fun y40=>
      (zD (w64 (y39+y40)) y1.fst).bind fun y41=>
      (zi y41).bind fun y42=>
      (y42).on (fun y43=>if yu 8 (List.length (y43.snd.snd++y1.snd)) then (if yu 8 (List.length (y43.snd.snd++y1.snd++y3.snd)) then some (.ok ((y43.fst,y43.snd.snd++y1.snd++y3.snd)))
        else none)
       else none) (fun y43=>some (.pan (y43)))))
    else none)
    else (if w64 ((↑(List.length y1.fst):Int) - (↑(List.length y3.fst):Int))=-1 then (if yu 8 (List.length y1.fst+1) then ((cut (1 :: y1.fst) 1 (↑(List.length y1.fst+1):Int)).bind fun y44=>
      (cut y3.fst 1 (↑(List.length y3.fst):Int)).bind fun y45=>
      (zr y44 y45).bind fun y46=>
      if y46=false then some (.pan (D.ifaceS 75 [D.int .i64 3]))
      else ((idx (1 :: y1.fst) 0).bind fun y47=>
       (idx y3.fst 0).bind fun y48=>
       (zD (w64 (y47+y48)) (1 :: y1.fst)).bind fun y49=>
       (zi y49).bind fun y50=>
       (y50).on (fun y51=>if yu 8 (List.length (y51.snd.snd++y1.snd)) then (if yu 8 (List.length (y51.snd.snd++y1.snd++y3.snd)) then some (.ok ((y51.fst,y51.snd.snd++y1.snd++y3.snd)))
         else none)
        else none) (fun y51=>some (.pan (y51)))))
     else none)
     else some (.pan (D.ifaceS 75 [D.int .i64 2])))))) (fun y1=>(zZ za zb).bind fun y52=>
  (y52).on (fun y53=>if w64 ((↑(List.length y1.fst):Int) - (↑(List.length y53.fst):Int))=0 then ((cut y1.fst 1 (↑(List.length y1.fst):Int)).bind fun y54=>
    (cut y53.fst 1 (↑(List.length y53.fst):Int)).bind fun y55=>
    (zr y54 y55).bind fun y56=>
    if y56=false then some (.pan (D.ifaceS 75 [D.int .i64 3]))
    else ((idx y1.fst 0).bind fun y57=>
     (idx y53.fst 0).bind fun y58=>
     (zD (w64 (y57+y58)) y1.fst).bind fun y59=>
     (zi y59).bind fun y60=>
     (y60).on (fun y61=>if yu 8 (List.length (y61.snd.snd++y1.snd)) then (if yu 8 (List.length (y61.snd.snd++y1.snd++y53.snd)) then some (.ok ((y61.fst,y61.snd.snd++y1.snd++y53.snd)))
       else none)
      else none) (fun y61=>some (.pan (y61)))))
   else (if w64 ((↑(List.length y1.fst):Int) - (↑(List.length y53.fst):Int))=1 then (if yu 8 (List.length y53.fst+1) then ((cut y1.fst 1 (↑(List.length y1.fst):Int)).bind fun y62=>
     (cut (1 :: y53.fst) 1 (↑(List.length y53.fst+1):Int)).bind fun y63=>
     (zr y62 y63).bind fun y64=>
     if y64=false then some (.pan (D.ifaceS 75 [D.int .i64 3]))
     else ((idx y1.fst 0).bind fun y65=>
      (idx (1 :: y53.fst) 0).bind fun y66=>
      (zD (w64 (y65+y66)) y1.fst).bind fun y67=>
      (zi y67).bind fun y68=>
      (y68).on (fun y69=>if yu 8 (List.length (y69.snd.snd++y1.snd)) then (if yu 8 (List.length (y69.snd.snd++y1.snd++y53.snd)) then some (.ok ((y69.fst,y69.snd.snd++y1.snd++y53.snd)))
        else none)
       else none) (fun y69=>some (.pan (y69)))))
    else none)
    else (if w64 ((↑(List.length y1.fst):Int) - (↑(List.length y53.fst):Int))=-1 then (if yu 8 (List.length y1.fst+1) then ((cut (1 :: y1.fst) 1 (↑(List.length y1.fst+1):Int)).bind fun y70=>
      (cut y53.fst 1 (↑(List.length y53.fst):Int)).bind fun y71=>
      (zr y70 y71).bind fun y72=>
      if y72=false then some (.pan (D.ifaceS 75 [D.int .i64 3]))
      else ((idx (1 :: y1.fst) 0).bind fun y73=>
       (idx y53.fst 0).bind fun y74=>
       (zD (w64 (y73+y74)) (1 :: y1.fst)).bind fun y75=>
       (zi y75).bind fun y76=>
       (y76).on (fun y77=>if yu 8 (List.length (y77.snd.snd++y1.snd)) then (if yu 8 (List.length (y77.snd.snd++y1.snd++y53.snd)) then some (.ok ((y77.fst,y77.snd.snd++y1.snd++y53.snd)))
         else none)
        else none) (fun y77=>some (.pan (y77)))))
     else none)
     else some (.pan (D.ifaceS 75 [D.int .i64 2]))))) (fun y53=>if w64 ((↑(List.length y1.fst):Int) - (↑(List.length y53.fst):Int))=0 then ((cut y1.fst 1 (↑(List.length y1.fst):Int)).bind fun y78=>
    (cut y53.fst 1 (↑(List.length y53.fst):Int)).bind fun y79=>
    (zr y78 y79).bind fun y80=>
    if y80=false then some (.pan (D.ifaceS 75 [D.int .i64 3]))
    else ((idx y1.fst 0).bind fun y81=>
     (idx y53.fst 0).bind fun y82=>
     (zD (w64 (y81+y82)) y1.fst).bind fun y83=>
     (zi y83).bind fun y84=>
     (y84).on (fun y85=>if yu 8 (List.length (y85.snd.snd++y1.snd)) then (if yu 8 (List.length (y85.snd.snd++y1.snd++y53.snd)) then some (.ok ((y85.fst,y85.snd.snd++y1.snd++y53.snd)))
       else none)
      else none) (fun y85=>some (.pan (y85)))))
   else (if w64 ((↑(List.length y1.fst):Int) - (↑(List.length y53.fst):Int))=1 then (if yu 8 (List.length y53.fst+1) then ((cut y1.fst 1 (↑(List.length y1.fst):Int)).bind fun y86=>
     (cut (1 :: y53.fst) 1 (↑(List.length y53.fst+1):Int)).bind fun y87=>
     (zr y86 y87).bind fun y88=>
     if y88=false then some (.pan (D.ifaceS 75 [D.int .i64 3]))
     else ((idx y1.fst 0).bind fun y89=>
      (idx (1 :: y53.fst) 0).bind fun y90=>
      (zD (w64 (y89+y90)) y1.fst).bind fun y91=>
      (zi y91).bind fun y92=>
      (y92).on (fun y93=>if yu 8 (List.length (y93.snd.snd++y1.snd)) then (if yu 8 (List.length (y93.snd.snd++y1.snd++y53.snd)) then some (.ok ((y93.fst,y93.snd.snd++y1.snd++y53.snd)))
        else none)
       else none) (fun y93=>some (.pan (y93)))))
    else none)
    else (if w64 ((↑(List.length y1.fst):Int) - (↑(List.length y53.fst):Int))=-1 then (if yu 8 (List.length y1.fst+1) then ((cut (1 :: y1.fst) 1 (↑(List.length y1.fst+1):Int)).bind fun y94=>
      (cut y53.fst 1 (↑(List.length y53.fst):Int)).bind fun y95=>
      (zr y94 y95).bind fun y96=>
      if y96=false then some (.pan (D.ifaceS 75 [D.int .i64 3]))
      else ((idx (1 :: y1.fst) 0).bind fun y97=>
       (idx y53.fst 0).bind fun y98=>
       (zD (w64 (y97+y98)) (1 :: y1.fst)).bind fun y99=>
       (zi y99).bind fun y100=>
       (y100).on (fun y101=>if yu 8 (List.length (y101.snd.snd++y1.snd)) then (if yu 8 (List.length (y101.snd.snd++y1.snd++y53.snd)) then some (.ok ((y101.fst,y101.snd.snd++y1.snd++y53.snd)))
         else none)
        else none) (fun y101=>some (.pan (y101)))))
     else none)
     else some (.pan (D.ifaceS 75 [D.int .i64 2]))))))
theorem XJ (E:En) (hy:Hy E [] [] [] rU none (fun y=>nocap y) zl) (zZ:(List Int)→(List Int)→Option (Alt (List Int×List Int) (List Int×List Int))) (h_impl_asRows:mV E zZ) (zr:(List Int)→(List Int)→Option (Bool)) (h_slices_Equal___int_int_:wn E zr) (zD:Int→(List Int)→Option (List Int)) (h_impl_withFirst:rT E zD) (zi:(List Int)→Option (Res (List Int×Option Nat×List Int))) (h_impl_made:yD E zi) (zg:List Int) (zh:List Int) (za:List Int) (zb:List Int):G E c_impl_catenated [] ⟨zw [(0,.agg [.d (zf cI zg),.d (zf cI zh)]),(1,.agg [.d (zf cI za),.d (zf cI zb)])],zF []⟩=(rz zZ zr zD zi E.n zg zh za zb).bind fun r=>r.on (fun r=>some (.ret (.agg [zo (cI) 3 none false r.1,zo (cI) 3 none false r.2]) [])) (fun x=>some (.pan x [])):=by
 simp (config:={maxSteps:=40000000}) only [↓yd,zV,yf,ya,rI,rS,rB,r8,rLI,yb,ye,hy.p,hy.l,hy.k,hy.r,hy.d,hy.w,hy.f,zl,oid,rU,↓zj _ _ c_impl_catenated.eq_1,h_impl_asRows.2,h_impl_asRows.1,h_slices_Equal___int_int_.2,h_slices_Equal___int_int_.1,h_impl_withFirst.2,h_impl_withFirst.1,h_impl_made.2,h_impl_made.1,zz,rz,zR,zQ,zI,zK,zJ,zT,zL,yc,↓reduceIte,Nat.reduceMul,Nat.reduceAdd,Nat.reduceSub,Nat.reduceEqDiff,Nat.reduceBEq,Nat.reduceLeDiff,Nat.reduceLT,reduceCtorEq,Int.reduceAdd,Int.reduceSub,Int.reduceToNat,Int.reduceNeg,Int.reduceEq,Int.reduceLT,Int.reduceLE]
def de (E:En) (L:(List Int)→(List Int)→(List Int)→(List Int)→Option (Res (List Int×List Int))):Prop:=E.Γ.mu 48=false∧(∀ (zg:List Int) (zh:List Int) (za:List Int) (zb:List Int),E.Γ 48 [.agg [.d (zf cI zg),.d (zf cI zh)],.agg [.d (zf cI za),.d (zf cI zb)]]=(L zg zh za zb).bind fun r=>r.on (fun r=>some (.ret (.agg [zo (cI) 3 none false r.1,zo (cI) 3 none false r.2]) [])) (fun x=>some (.pan x [])))
def c_slices_Grow___int_int_:Cd:=
 sq (r [0,1] [o 4 .mv [n]])
 (sq (sq (r [0,1,6] [o 5 .mv [t 1],o 6 (.bin .lss) [t 5,i 0]])
   (.cond (t 6) (r [0,1] [o 7 (.mkI 9) [s [99,97,110,110,111,116,32,98,101,32,110,101,103,97,116,105,118,101]],e .pan [t 7]]) (.skip)))
  (sq (sq (r [0,1] [o 8 .mv [t 1],o 9 .mv [t 0],o 10 .cap [t 9],o 11 .mv [t 0],o 12 (.len false) [t 11],o 13 (.bin .sub) [t 10,t 12],o 14 (.bin .sub) [t 8,t 13],o 1 .mv [t 14]])
    (sq (r [0,1,16] [o 15 .mv [t 1],o 16 (.bin .gtr) [t 15,i 0]])
     (.cond (t 16) (r [0] [o 17 .mv [t 0],o 18 .mv [t 0],o 19 .cap [t 18],o 20 (.cut 1) [t 17,t 19],o 21 .mv [t 1],o 22 (.appZ 3 1 8 [(iD 0)]) [t 20,t 21],o 23 .mv [t 0],o 24 (.len false) [t 23],o 25 (.cut 1) [t 22,t 24],o 0 .mv [t 25]]) (.skip))))
   (sq (r [4] [o 26 .mv [t 0],o 4 .mv [t 26]])
    (.ret))))
def vP:List RV:=[.tmp 4]
def vE (N:Nat) (a1:Int):Option (Res (List Int)):=
 if a1 < 0 then some (.pan (D.iface 9 (sD [99,97,110,110,111,116,32,98,101,32,110,101,103,97,116,105,118,101])))
 else (if 0 < w64 (a1 - w64 0) then (if zOk 8 (w64 (a1 - w64 0)) then some (.ok [])
  else none)
  else some (.ok []))
theorem dO (E:En) (hy:Hy E [] [] [] vP none (fun y=>nocap (yw (.own 3 1) y)) zl) (a1:Int):G E c_slices_Grow___int_int_ [] ⟨zw [(0,.nil),(1,.d (.int .i64 a1))],zF []⟩=(vE E.n a1).bind fun r=>r.on (fun r=>some (.ret (zo (cI) 3 none false r) [])) (fun x=>some (.pan x [])):=by
 simp (config:={maxSteps:=40000000}) only [↓yd,zV,yf,ya,rI,rS,rB,r8,rLI,yb,ye,hy.p,hy.l,hy.k,hy.r,hy.d,hy.w,hy.f,zl,oid,vP,↓zj _ _ c_slices_Grow___int_int_.eq_1,zz,vE,zR,zQ,zI,zK,zJ,zT,zL,yc,↓reduceIte,Nat.reduceMul,Nat.reduceAdd,Nat.reduceSub,Nat.reduceEqDiff,Nat.reduceBEq,Nat.reduceLeDiff,Nat.reduceLT,reduceCtorEq,Int.reduceAdd,Int.reduceSub,Int.reduceToNat,Int.reduceNeg,Int.reduceEq,Int.reduceLT,Int.reduceLE]
def rH (E:En) (L:Int→Option (Res (List Int))):Prop:=E.Γ.mu 107=true∧(∀ (a1:Int),E.Γ 107 [.nil,.d (.int .i64 a1)]=(L a1).bind fun r=>r.on (fun r=>some (.ret (zo (cI) 3 none false r) [])) (fun x=>some (.pan x [])))
def b0_slices_Concat___int_int_:Cd:=
 sq (r [0,3,9,10,11,12] [o 12 (.bin .lss) [t 11,t 10]])
 (sq (.cond (t 12) (.skip) (.exit 0))
  (sq (.block 1 (sq (r [0,3,5,9,10,11] [o 13 (.ia 1) [t 9,t 11],o 14 (.ld none) [t 13],o 5 .mv [t 14]])
    (sq (r [0,3,9,10,11] [o 15 .mv [t 3],o 16 .mv [t 5],o 17 (.len false) [t 16],o 18 (.bin .add) [t 15,t 17],o 3 .mv [t 18]])
     (sq (r [0,3,9,10,11,20] [o 19 .mv [t 3],o 20 (.bin .lss) [t 19,i 0]])
      (.cond (t 20) (r [0,3,9,10,11] [o 21 (.mkI 9) [s [108,101,110,32,111,117,116,32,111,102,32,114,97,110,103,101]],e .pan [t 21]]) (.skip))))))
   (r [0,3,9,10,11] [o 22 (.bin .add) [t 11,i 1],o 11 .mv [t 22]])))
def b1_slices_Concat___int_int_:Cd:=
 sq (r [6,25,26,27,28] [o 28 (.bin .lss) [t 27,t 26]])
 (sq (.cond (t 28) (.skip) (.exit 2))
  (sq (.block 3 (sq (r [6,8,25,26,27] [o 29 (.ia 1) [t 25,t 27],o 30 (.ld none) [t 29],o 8 .mv [t 30]])
    (r [6,25,26,27] [o 31 .mv [t 6],o 32 .mv [t 8],o 33 (.app 3 1 8) [t 31,t 32],o 6 .mv [t 33]])))
   (r [6,25,26,27] [o 34 (.bin .add) [t 27,i 1],o 27 .mv [t 34]])))
def k2_slices_Concat___int_int_:Cd:=
 sq (r [2] [o 35 .mv [t 6],o 2 .mv [t 35]])
 (.ret)
def k3_slices_Concat___int_int_:Cd:=
 sq (r [0,6] [o 23 .mv [t 3],o 24 (.call 107) [n,t 23],o 6 .mv [t 24]])
 (sq (sq (r [6,25,26,27] [o 25 .mv [t 0],o 26 (.len false) [t 25],o 27 .mv [i 0]])
   (.block 2 (.loop [6,25,26,27] b1_slices_Concat___int_int_))) k2_slices_Concat___int_int_)
def c_slices_Concat___int_int_:Cd:=
 sq (r [0] [o 2 .mv [n]])
 (sq (r [0,3] [o 3 .mv [i 0]])
  (sq (sq (r [0,3,9,10,11] [o 9 .mv [t 0],o 10 (.len false) [t 9],o 11 .mv [i 0]])
    (.block 0 (.loop [0,3,9,10,11] b0_slices_Concat___int_int_))) k3_slices_Concat___int_int_))
def xe:List RV:=[.tmp 2]
def wL (yj:Int→Option (Res (List Int))):Nat→(List (List Int))→Int→Int→(List Int)→Option (Res (List Int))
 | 0,_,_,_,_=>none
 | m1+1,x25,x26,x27,o384=>
   if x27 < x26 then ((idx x25 x27).bind fun y0=>
    if yu 8 (List.length (o384++y0)) then wL yj m1 x25 x26 (w64 (x27+1)) (o384++y0)
    else none)
   else some (.ok o384)
def wM (yj:Int→Option (Res (List Int))) (N:Nat):Nat→(List (List Int))→Int→(List (List Int))→Int→Int→Option (Res (List Int))
 | 0,_,_,_,_,_=>none
 | m0+1,x0,x3,x9,x10,x11=>
   if x11 < x10 then ((idx x9 x11).bind fun y0=>
    if w64 (x3+(↑(List.length y0):Int)) < 0 then some (.pan (D.iface 9 (sD [108,101,110,32,111,117,116,32,111,102,32,114,97,110,103,101])))
    else wM yj N m0 x0 (w64 (x3+(↑(List.length y0):Int))) x9 x10 (w64 (x11+1)))
   else ((yj x3).bind fun y1=>
    (y1).on (fun y2=>wL yj N x0 ((↑(List.length x0):Int)) 0 y2) (fun y2=>some (.pan (y2))))
def vc (yj:Int→Option (Res (List Int))) (N:Nat) (a0:List (List Int)):Option (Res (List Int)):=
 wM yj N N a0 0 a0 ((↑(List.length a0):Int)) 0
theorem hH (E:En) (hy:Hy E [] [] [] xe none (fun y=>nocap y) zl) (yj:Int→Option (Res (List Int))) (h_slices_Grow___int_int_:rH E yj):∀ (m1:Nat) (x25:List (List Int)) (x26:Int) (x27:Int) (o384:List Int),gH E [6,25,26,27] b1_slices_Concat___int_int_ [KJ.b 2,KJ.c k2_slices_Concat___int_int_] m1 ⟨zw [(6,A.row 384 1),(25,.d (zf (cL cI) x25)),(26,.d (.int .i64 x26)),(27,.d (.int .i64 x27))],zF [(384,⟨1,yg (cI) 3 none o384,false⟩)]⟩=(wL yj m1 x25 x26 x27 o384).bind fun r=>r.on (fun r=>some (.ret (zo (cI) 3 none false r) [])) (fun x=>some (.pan x [])):=by
 intro m1
 induction m1 with
 | zero=>intros; rfl
 | succ m1 ih=>
   intros
   simp (config:={maxSteps:=40000000}) only [↓yd,zV,yf,ya,rI,rS,rB,r8,rLI,yb,ye,hy.p,hy.l,hy.k,hy.r,hy.d,hy.w,hy.f,zl,oid,xe,↓zj _ _ b0_slices_Concat___int_int_.eq_1,↓zj _ _ b1_slices_Concat___int_int_.eq_1,↓zj _ _ k2_slices_Concat___int_int_.eq_1,↓zj _ _ k3_slices_Concat___int_int_.eq_1,↓zj _ _ c_slices_Concat___int_int_.eq_1,h_slices_Grow___int_int_.2,h_slices_Grow___int_int_.1,xb,ih,zz,wL,zR,zQ,zI,zK,zJ,zT,zL,yc,↓reduceIte,Nat.reduceMul,Nat.reduceAdd,Nat.reduceSub,Nat.reduceEqDiff,Nat.reduceBEq,Nat.reduceLeDiff,Nat.reduceLT,reduceCtorEq,Int.reduceAdd,Int.reduceSub,Int.reduceToNat,Int.reduceNeg,Int.reduceEq,Int.reduceLT,Int.reduceLE]
theorem gu (E:En) (hy:Hy E [] [] [] xe none (fun y=>nocap y) zl) (yj:Int→Option (Res (List Int))) (h_slices_Grow___int_int_:rH E yj):∀ (m0:Nat) (x0:List (List Int)) (x3:Int) (x9:List (List Int)) (x10:Int) (x11:Int),gH E [0,3,9,10,11] b0_slices_Concat___int_int_ [KJ.b 0,KJ.c k3_slices_Concat___int_int_] m0 ⟨zw [(0,.d (zf (cL cI) x0)),(3,.d (.int .i64 x3)),(9,.d (zf (cL cI) x9)),(10,.d (.int .i64 x10)),(11,.d (.int .i64 x11))],zF []⟩=(wM yj E.n m0 x0 x3 x9 x10 x11).bind fun r=>r.on (fun r=>some (.ret (zo (cI) 3 none false r) [])) (fun x=>some (.pan x [])):=by
 intro m0
 induction m0 with
 | zero=>intros; rfl
 | succ m0 ih=>
   intros
   simp (config:={maxSteps:=40000000}) only [↓yd,zV,yf,ya,rI,rS,rB,r8,rLI,yb,ye,hy.p,hy.l,hy.k,hy.r,hy.d,hy.w,hy.f,zl,oid,xe,↓zj _ _ b0_slices_Concat___int_int_.eq_1,↓zj _ _ b1_slices_Concat___int_int_.eq_1,↓zj _ _ k2_slices_Concat___int_int_.eq_1,↓zj _ _ k3_slices_Concat___int_int_.eq_1,↓zj _ _ c_slices_Concat___int_int_.eq_1,h_slices_Grow___int_int_.2,h_slices_Grow___int_int_.1,xb,ih,zz,wM,hH E hy yj h_slices_Grow___int_int_,zR,zQ,zI,zK,zJ,zT,zL,yc,↓reduceIte,Nat.reduceMul,Nat.reduceAdd,Nat.reduceSub,Nat.reduceEqDiff,Nat.reduceBEq,Nat.reduceLeDiff,Nat.reduceLT,reduceCtorEq,Int.reduceAdd,Int.reduceSub,Int.reduceToNat,Int.reduceNeg,Int.reduceEq,Int.reduceLT,Int.reduceLE]
theorem ej (E:En) (hy:Hy E [] [] [] xe none (fun y=>nocap y) zl) (yj:Int→Option (Res (List Int))) (h_slices_Grow___int_int_:rH E yj) (a0:List (List Int)):G E c_slices_Concat___int_int_ [] ⟨zw [(0,.d (zf (cL cI) a0))],zF []⟩=(vc yj E.n a0).bind fun r=>r.on (fun r=>some (.ret (zo (cI) 3 none false r) [])) (fun x=>some (.pan x [])):=by
 simp (config:={maxSteps:=40000000}) only [↓yd,zV,yf,ya,rI,rS,rB,r8,rLI,yb,ye,hy.p,hy.l,hy.k,hy.r,hy.d,hy.w,hy.f,zl,oid,xe,↓zj _ _ b0_slices_Concat___int_int_.eq_1,↓zj _ _ b1_slices_Concat___int_int_.eq_1,↓zj _ _ k2_slices_Concat___int_int_.eq_1,↓zj _ _ k3_slices_Concat___int_int_.eq_1,↓zj _ _ c_slices_Concat___int_int_.eq_1,h_slices_Grow___int_int_.2,h_slices_Grow___int_int_.1,zz,vc,gu E hy yj h_slices_Grow___int_int_,zR,zQ,zI,zK,zJ,zT,zL,yc,↓reduceIte,Nat.reduceMul,Nat.reduceAdd,Nat.reduceSub,Nat.reduceEqDiff,Nat.reduceBEq,Nat.reduceLeDiff,Nat.reduceLT,reduceCtorEq,Int.reduceAdd,Int.reduceSub,Int.reduceToNat,Int.reduceNeg,Int.reduceEq,Int.reduceLT,Int.reduceLE]
def xd (E:En) (L:(List (List Int))→Option (Res (List Int))):Prop:=E.Γ.mu 64=false∧(∀ (a0:List (List Int)),E.Γ 64 [.d (zf (cL cI) a0)]=(L a0).bind fun r=>r.on (fun r=>some (.ret (zo (cI) 3 none false r) [])) (fun x=>some (.pan x [])))
def b0_impl_picked:Cd:=
 sq (r [3,4,5,6,7,30,31,32,33] [o 33 (.bin .lss) [t 32,t 31]])
 (sq (.cond (t 33) (.skip) (.exit 0))
  (sq (.block 1 (sq (r [3,4,5,6,7,9,30,31,32] [o 34 (.ia 1) [t 30,t 32],o 35 (.ld none) [t 34],o 9 .mv [t 35]])
    (sq (sq (r [3,4,5,6,7,9,30,31,32,42] [o 36 .mv [t 9],o 37 (.bin .lss) [t 36,i 0],o 38 .mv [t 37],g 38 false 39 .mv [t 9],g 38 false 40 .mv [t 6],g 38 false 41 (.bin .geq) [t 39,t 40],o 42 .pick [t 38,b true,t 41]])
      (.cond (t 42) (r [3,4,5,6,7,9,30,31,32] [o 43 (.bld [(.d (iD 0))] [(0,1)]) [i 4],o 44 (.mkI 75) [t 43],e .pan [t 44]]) (.skip)))
     (.frz 3 (rd [] [3,4,5,6,7,30,31,32] [o 45 (.fa 1) [t 5],o 46 (.ld none) [t 45],o 47 (.fa 1) [t 3],o 48 (.ld none) [t 47],o 49 .mv [t 9],o 50 .mv [t 7],o 51 (.bin .mul) [t 49,t 50],o 52 .mv [t 9],o 53 (.bin .add) [t 52,i 1],o 54 .mv [t 7],o 55 (.bin .mul) [t 53,t 54],o 56 (.slc false 1 true true) [t 48,t 51,t 55],o 57 (.app 3 1 8) [t 46,t 56],o 58 (.fa 1) [t 5],e (.st 1) [t 58,t 57]])))))
   (r [3,4,5,6,7,30,31,32] [o 59 (.bin .add) [t 32,i 1],o 32 .mv [t 59]])))
def k1_impl_picked:Cd:=
 sq (r [4] [o 60 (.ld (some 2)) [t 5],e (.st 2) [t 4,t 60]])
 (.ret)
def c_impl_picked:Cd:=
 sq (r [2,3,4] [o 2 .box [t 0],o 3 .box [t 1],o 4 (.alloc [.nil,.nil]) []])
 (sq (sq (r [2,3,4,13] [o 10 (.fa 0) [t 3],o 11 (.ld none) [t 10],o 12 (.len false) [t 11],o 13 (.bin .eql) [t 12,i 0]])
   (.cond (t 13) (r [2,3,4] [o 14 (.bld [(.d (iD 0))] [(0,1)]) [i 2],o 15 (.mkI 75) [t 14],e .pan [t 15]]) (.skip)))
  (sq (.frz 3 (rd [] [2,3,4,5] [ap [320] false [] (o 16 (.fa 0) [t 2]),ap [320] false [] (o 17 (.ld none) [t 16]),ap [320] false [] (o 18 (.fa 0) [t 3]),ap [320] false [] (o 19 (.ld none) [t 18]),ap [320] false [] (o 20 (.slc false 1 true false) [t 19,i 1]),ap [320] true [] (o 21 (lit 23 1 2) [t 17,t 20]),ap [1344] true [2,16,3,18,19] (o 5 (.alloc [.nil,.nil]) []),ap [320] false [] (o 22 (.call 64) [t 21]),ap [320] false [] (o 23 (.call 44) [t 22]),e (.st 2) [t 5,t 23]]))
   (sq (r [2,3,4,5,6,7] [o 25 (.ld (some 2)) [t 3],o 26 (.call 103) [t 25],o 24 .mv [t 26],o 27 (.ext 0) [t 24],o 28 (.ext 1) [t 24],o 6 .mv [t 27],o 7 .mv [t 28]])
    (sq (sq (r [3,4,5,6,7,30,31,32] [o 29 (.fa 1) [t 2],o 30 (.ld none) [t 29],o 31 (.len false) [t 30],o 32 .mv [i 0]])
      (.block 0 (.loop [3,4,5,6,7,30,31,32] b0_impl_picked))) k1_impl_picked))))
def sL:List RV:=[.cell 4 (some 2)]
def tV (zp:(List (List Int))→Option (Res (List Int))) (zi:(List Int)→Option (Res (List Int×Option Nat×List Int))) (xu:(List Int)→(List Int)→Option (Int×Int)):Nat→Int→Int→(List Int)→Int→Int→(List Int)→(List Int)→(List Int)→(List Int)→Option (Res (List Int×List Int))
 | 0,_,_,_,_,_,_,_,_,_=>none
 | m0+1,x6,x7,x30,x31,x32,o192_0,o192_1,o321,o322=>
   if x32 < x31 then ((idx x30 x32).bind fun y0=>
    if y0 < 0 then some (.pan (D.ifaceS 75 [D.int .i64 4]))
    else (if x6 ≤ y0 then some (.pan (D.ifaceS 75 [D.int .i64 4]))
     else ((cut o192_1 (w64 (y0 * x7)) (w64 (w64 (y0+1) * x7))).bind fun y1=>
      if yu 8 (List.length (o322++y1)) then tV zp zi xu m0 x6 x7 x30 x31 (w64 (x32+1)) o192_0 o192_1 o321 (o322++y1)
      else none)))
   else some (.ok ((o321,o322)))
def mf (zp:(List (List Int))→Option (Res (List Int))) (zi:(List Int)→Option (Res (List Int×Option Nat×List Int))) (xu:(List Int)→(List Int)→Option (Int×Int)) (N:Nat) (zg:List Int) (zh:List Int) (za:List Int) (zb:List Int):Option (Res (List Int×List Int)):=
 if (↑(List.length za):Int)=0 then some (.pan (D.ifaceS 75 [D.int .i64 2]))
 else ((cut za 1 (↑(List.length za):Int)).bind fun y0=>
  (zp [zg,y0]).bind fun y1=>
  (y1).on (fun y2=>(zi y2).bind fun y3=>
   (y3).on (fun y4=>(xu za zb).bind fun y5=>
    tV zp zi xu N y5.fst y5.snd zh ((↑(List.length zh):Int)) 0 za zb y4.fst y4.snd.snd) (fun y4=>some (.pan (y4)))) (fun y2=>some (.pan (y2))))
theorem Yf (E:En) (hy:Hy E [] [] [] sL none (fun y=>nocap y) zl) (zp:(List (List Int))→Option (Res (List Int))) (h_slices_Concat___int_int_:xd E zp) (zi:(List Int)→Option (Res (List Int×Option Nat×List Int))) (h_impl_made:yD E zi) (xu:(List Int)→(List Int)→Option (Int×Int)) (h_impl_rowsOf:ec E xu):∀ (m0:Nat) (x6:Int) (x7:Int) (x30:List Int) (x31:Int) (x32:Int) (o192_0:List Int) (o192_1:List Int) (o321:List Int) (o322:List Int),gH E [3,4,5,6,7,30,31,32] b0_impl_picked [KJ.b 0,KJ.c k1_impl_picked] m0 ⟨zw [(3,A.adr 192 1 0),(4,A.adr 256 1 0),(5,A.adr 320 1 0),(6,.d (.int .i64 x6)),(7,.d (.int .i64 x7)),(30,.d (zf (cI) x30)),(31,.d (.int .i64 x31)),(32,.d (.int .i64 x32))],zF [(192,⟨1,.box [.d (zf (cI) o192_0),.d (zf (cI) o192_1)],false⟩),(256,⟨1,.box [A.nil,A.nil],false⟩),(320,⟨1,.box [A.row 321 1,A.row 322 1],false⟩),(321,⟨1,yg (cI) 3 none o321,false⟩),(322,⟨1,yg (cI) 3 none o322,false⟩)]⟩=(tV zp zi xu m0 x6 x7 x30 x31 x32 o192_0 o192_1 o321 o322).bind fun r=>r.on (fun r=>some (.ret (.agg [zo (cI) 3 none false r.1,zo (cI) 3 none false r.2]) [])) (fun x=>some (.pan x [])):=by
 intro m0
 induction m0 with
 | zero=>intros; rfl
 | succ m0 ih=>
   intros
   simp (config:={maxSteps:=40000000}) only [↓yd,zV,yf,ya,rI,rS,rB,r8,rLI,yb,ye,hy.p,hy.l,hy.k,hy.r,hy.d,hy.w,hy.f,zl,oid,sL,↓zj _ _ b0_impl_picked.eq_1,↓zj _ _ k1_impl_picked.eq_1,↓zj _ _ c_impl_picked.eq_1,h_slices_Concat___int_int_.2,h_slices_Concat___int_int_.1,h_impl_made.2,h_impl_made.1,h_impl_rowsOf.2,h_impl_rowsOf.1,xb,ih,zz,tV,zR,zQ,zI,zK,zJ,zT,zL,yc,↓reduceIte,Nat.reduceMul,Nat.reduceAdd,Nat.reduceSub,Nat.reduceEqDiff,Nat.reduceBEq,Nat.reduceLeDiff,Nat.reduceLT,reduceCtorEq,Int.reduceAdd,Int.reduceSub,Int.reduceToNat,Int.reduceNeg,Int.reduceEq,Int.reduceLT,Int.reduceLE]
theorem UE (E:En) (hy:Hy E [] [] [] sL none (fun y=>nocap y) zl) (zp:(List (List Int))→Option (Res (List Int))) (h_slices_Concat___int_int_:xd E zp) (zi:(List Int)→Option (Res (List Int×Option Nat×List Int))) (h_impl_made:yD E zi) (xu:(List Int)→(List Int)→Option (Int×Int)) (h_impl_rowsOf:ec E xu) (zg:List Int) (zh:List Int) (za:List Int) (zb:List Int):G E c_impl_picked [] ⟨zw [(0,.agg [.d (zf cI zg),.d (zf cI zh)]),(1,.agg [.d (zf cI za),.d (zf cI zb)])],zF []⟩=(mf zp zi xu E.n zg zh za zb).bind fun r=>r.on (fun r=>some (.ret (.agg [zo (cI) 3 none false r.1,zo (cI) 3 none false r.2]) [])) (fun x=>some (.pan x [])):=by
 simp (config:={maxSteps:=40000000}) only [↓yd,zV,yf,ya,rI,rS,rB,r8,rLI,yb,ye,hy.p,hy.l,hy.k,hy.r,hy.d,hy.w,hy.f,zl,oid,sL,↓zj _ _ b0_impl_picked.eq_1,↓zj _ _ k1_impl_picked.eq_1,↓zj _ _ c_impl_picked.eq_1,h_slices_Concat___int_int_.2,h_slices_Concat___int_int_.1,h_impl_made.2,h_impl_made.1,h_impl_rowsOf.2,h_impl_rowsOf.1,zz,mf,Yf E hy zp h_slices_Concat___int_int_ zi h_impl_made xu h_impl_rowsOf,zR,zQ,zI,zK,zJ,zT,zL,yc,↓reduceIte,Nat.reduceMul,Nat.reduceAdd,Nat.reduceSub,Nat.reduceEqDiff,Nat.reduceBEq,Nat.reduceLeDiff,Nat.reduceLT,reduceCtorEq,Int.reduceAdd,Int.reduceSub,Int.reduceToNat,Int.reduceNeg,Int.reduceEq,Int.reduceLT,Int.reduceLE]
def aG (E:En) (L:(List Int)→(List Int)→(List Int)→(List Int)→Option (Res (List Int×List Int))):Prop:=E.Γ.mu 49=false∧(∀ (zg:List Int) (zh:List Int) (za:List Int) (zb:List Int),E.Γ 49 [.agg [.d (zf cI zg),.d (zf cI zh)],.agg [.d (zf cI za),.d (zf cI zb)]]=(L zg zh za zb).bind fun r=>r.on (fun r=>some (.ret (.agg [zo (cI) 3 none false r.1,zo (cI) 3 none false r.2]) [])) (fun x=>some (.pan x [])))
def b0_impl_found:Cd:=
 sq (sq (r [2,3,4,5,6,24] [o 23 .mv [t 6],o 24 (.bin .geq) [t 23,i 0]])
  (.cond (t 24) (.skip) (.exit 0)))
 (sq (.block 1 (r [2,3,4,5,6] [o 27 .mv [t 5],o 28 (.fa 1) [t 2],o 29 (.ld none) [t 28],o 30 .mv [t 6],o 31 (.ia 1) [t 29,t 30],o 32 (.ld none) [t 31],o 33 .mv [t 6],e (.mset 99 0 none) [t 27,t 32,t 33]]))
  (r [2,3,4,5,6] [o 25 .mv [t 6],o 26 (.bin .sub) [t 25,i 1],o 6 .mv [t 26]]))
def b1_impl_found:Cd:=
 sq (r [2,4,5,7,38,39,40,41] [o 41 (.bin .lss) [t 40,t 39]])
 (sq (.cond (t 41) (.skip) (.exit 2))
  (sq (.block 3 (sq (r [2,4,5,7,9,38,39,40] [o 42 (.ia 1) [t 38,t 40],o 43 (.ld none) [t 42],o 9 .mv [t 43]])
    (sq (r [2,4,5,7,10,11,38,39,40] [o 45 .mv [t 5],o 46 .mv [t 9],o 47 (.mget 99 0 none [(iD 0)] true) [t 45,t 46],o 44 .mv [t 47],o 48 (.ext 0) [t 44],o 49 (.ext 1) [t 44],o 10 .mv [t 48],o 11 .mv [t 49]])
     (sq (sq (r [2,4,5,7,10,38,39,40,51] [o 50 .mv [t 11],o 51 .not [t 50]])
       (.cond (t 51) (r [2,4,5,7,10,38,39,40] [o 52 (.fa 1) [t 2],o 53 (.ld none) [t 52],o 54 (.len false) [t 53],o 10 .mv [t 54]]) (.skip)))
      (r [2,4,5,7,38,39,40] [o 55 (.fa 1) [t 7],o 56 (.ld none) [t 55],o 57 .mv [t 10],o 58 (lit 3 1 1) [t 57],o 59 (.app 3 1 8) [t 56,t 58],o 60 (.fa 1) [t 7],e (.st 1) [t 60,t 59]])))))
   (r [2,4,5,7,38,39,40] [o 61 (.bin .add) [t 40,i 1],o 40 .mv [t 61]])))
def k2_impl_found:Cd:=
 sq (r [4] [o 62 (.ld (some 2)) [t 7],e (.st 2) [t 4,t 62]])
 (.ret)
def k3_impl_found:Cd:=
 sq (r [2,3,4,5,7] [o 34 (.fa 0) [t 3],o 35 (.ld none) [t 34],o 36 (.call 44) [t 35],o 7 (.alloc [.nil,.nil]) [],e (.st 2) [t 7,t 36]])
 (sq (sq (r [2,4,5,7,38,39,40] [o 37 (.fa 1) [t 3],o 38 (.ld none) [t 37],o 39 (.len false) [t 38],o 40 .mv [i 0]])
   (.block 2 (.loop [2,4,5,7,38,39,40] b1_impl_found))) k2_impl_found)
def c_impl_found:Cd:=
 sq (r [2,3,4] [o 2 .box [t 0],o 3 .box [t 1],o 4 (.alloc [.nil,.nil]) []])
 (sq (sq (r [2,3,4,15] [o 12 (.fa 0) [t 2],o 13 (.ld none) [t 12],o 14 (.len false) [t 13],o 15 (.bin .neq) [t 14,i 1]])
   (.cond (t 15) (r [2,3,4] [o 16 (.bld [(.d (iD 0))] [(0,1)]) [i 2],o 17 (.mkI 75) [t 16],e .pan [t 17]]) (.skip)))
  (sq (r [2,3,4,5] [o 18 (.mkR (.map 99 none)) [],o 5 .mv [t 18]])
   (sq (sq (r [2,3,4,5,6] [o 19 (.fa 1) [t 2],o 20 (.ld none) [t 19],o 21 (.len false) [t 20],o 22 (.bin .sub) [t 21,i 1],o 6 .mv [t 22]])
     (.block 0 (.loop [2,3,4,5,6] b0_impl_found))) k3_impl_found)))
def ti:List RV:=[.cell 4 (some 2)]
def uI (zi:(List Int)→Option (Res (List Int×Option Nat×List Int))):Nat→(List Int)→Int→Int→(List Int)→(List Int)→(List (Int×Int))→(List Int)→(List Int)→Option (Res (List Int×List Int))
 | 0,_,_,_,_,_,_,_,_=>none
 | m1+1,x38,x39,x40,o128_0,o128_1,o320,o449,o450=>
   if x40 < x39 then ((idx x38 x40).bind fun y0=>
    if Option.isSome (o8 o320 y0)=false then (if yu 8 (List.length (o450++[(↑(List.length o128_1):Int)])) then uI zi m1 x38 x39 (w64 (x40+1)) o128_0 o128_1 o320 o449 (o450++[(↑(List.length o128_1):Int)])
     else none)
    else (if yu 8 (List.length (o450++[Option.getD (o8 o320 y0) 0])) then uI zi m1 x38 x39 (w64 (x40+1)) o128_0 o128_1 o320 o449 (o450++[Option.getD (o8 o320 y0) 0])
     else none))
   else some (.ok ((o449,o450)))
def sQ (zi:(List Int)→Option (Res (List Int×Option Nat×List Int))) (N:Nat):Nat→Int→(List Int)→(List Int)→(List Int)→(List Int)→(List (Int×Int))→Option (Res (List Int×List Int))
 | 0,_,_,_,_,_,_=>none
 | m0+1,x6,o128_0,o128_1,o192_0,o192_1,o320=>
   if 0 ≤ x6 then ((idx o128_1 x6).bind fun y0=>
    sQ zi N m0 (w64 (x6 - 1)) o128_0 o128_1 o192_0 o192_1 (ff o320 y0 x6))
   else ((zi o192_0).bind fun y1=>
    (y1).on (fun y2=>uI zi N o192_1 ((↑(List.length o192_1):Int)) 0 o128_0 o128_1 o320 y2.fst y2.snd.snd) (fun y2=>some (.pan (y2))))
def kd (zi:(List Int)→Option (Res (List Int×Option Nat×List Int))) (N:Nat) (zg:List Int) (zh:List Int) (za:List Int) (zb:List Int):Option (Res (List Int×List Int)):=
 if (↑(List.length zg):Int)=1 then sQ zi N N (w64 ((↑(List.length zh):Int) - 1)) zg zh za zb []
 else some (.pan (D.ifaceS 75 [D.int .i64 2]))
theorem XO (E:En) (hy:Hy E [] [] [] ti none (fun y=>nocap y) zl) (zi:(List Int)→Option (Res (List Int×Option Nat×List Int))) (h_impl_made:yD E zi):∀ (m1:Nat) (x38:List Int) (x39:Int) (x40:Int) (o128_0:List Int) (o128_1:List Int) (o320:List (Int×Int)) (o449:List Int) (o450:List Int),gH E [2,4,5,7,38,39,40] b1_impl_found [KJ.b 2,KJ.c k2_impl_found] m1 ⟨zw [(2,A.adr 128 1 0),(4,A.adr 256 1 0),(5,A.row 320 1),(7,A.adr 448 1 0),(38,.d (zf (cI) x38)),(39,.d (.int .i64 x39)),(40,.d (.int .i64 x40))],zF [(128,⟨1,.box [.d (zf (cI) o128_0),.d (zf (cI) o128_1)],false⟩),(256,⟨1,.box [A.nil,A.nil],false⟩),(320,⟨1,.res (.map 99 none) (zf (cP cI cI) o320),false⟩),(448,⟨1,.box [A.row 449 1,A.row 450 1],false⟩),(449,⟨1,yg (cI) 3 none o449,false⟩),(450,⟨1,yg (cI) 3 none o450,false⟩)]⟩=(uI zi m1 x38 x39 x40 o128_0 o128_1 o320 o449 o450).bind fun r=>r.on (fun r=>some (.ret (.agg [zo (cI) 3 none false r.1,zo (cI) 3 none false r.2]) [])) (fun x=>some (.pan x [])):=by
 intro m1
 induction m1 with
 | zero=>intros; rfl
 | succ m1 ih=>
   intros
   simp (config:={maxSteps:=40000000}) only [↓yd,zV,yf,ya,rI,rS,rB,r8,rLI,yb,ye,hy.p,hy.l,hy.k,hy.r,hy.d,hy.w,hy.f,zl,oid,ti,↓zj _ _ b0_impl_found.eq_1,↓zj _ _ b1_impl_found.eq_1,↓zj _ _ k2_impl_found.eq_1,↓zj _ _ k3_impl_found.eq_1,↓zj _ _ c_impl_found.eq_1,h_impl_made.2,h_impl_made.1,xb,ih,zz,uI,zR,zQ,zI,zK,zJ,zT,zL,yc,↓reduceIte,Nat.reduceMul,Nat.reduceAdd,Nat.reduceSub,Nat.reduceEqDiff,Nat.reduceBEq,Nat.reduceLeDiff,Nat.reduceLT,reduceCtorEq,Int.reduceAdd,Int.reduceSub,Int.reduceToNat,Int.reduceNeg,Int.reduceEq,Int.reduceLT,Int.reduceLE]
theorem YY (E:En) (hy:Hy E [] [] [] ti none (fun y=>nocap y) zl) (zi:(List Int)→Option (Res (List Int×Option Nat×List Int))) (h_impl_made:yD E zi):∀ (m0:Nat) (x6:Int) (o128_0:List Int) (o128_1:List Int) (o192_0:List Int) (o192_1:List Int) (o320:List (Int×Int)),gH E [2,3,4,5,6] b0_impl_found [KJ.b 0,KJ.c k3_impl_found] m0 ⟨zw [(2,A.adr 128 1 0),(3,A.adr 192 1 0),(4,A.adr 256 1 0),(5,A.row 320 1),(6,.d (.int .i64 x6))],zF [(128,⟨1,.box [.d (zf (cI) o128_0),.d (zf (cI) o128_1)],false⟩),(192,⟨1,.box [.d (zf (cI) o192_0),.d (zf (cI) o192_1)],false⟩),(256,⟨1,.box [A.nil,A.nil],false⟩),(320,⟨1,.res (.map 99 none) (zf (cP cI cI) o320),false⟩)]⟩=(sQ zi E.n m0 x6 o128_0 o128_1 o192_0 o192_1 o320).bind fun r=>r.on (fun r=>some (.ret (.agg [zo (cI) 3 none false r.1,zo (cI) 3 none false r.2]) [])) (fun x=>some (.pan x [])):=by
 intro m0
 induction m0 with
 | zero=>intros; rfl
 | succ m0 ih=>
   intros
   simp (config:={maxSteps:=40000000}) only [↓yd,zV,yf,ya,rI,rS,rB,r8,rLI,yb,ye,hy.p,hy.l,hy.k,hy.r,hy.d,hy.w,hy.f,zl,oid,ti,↓zj _ _ b0_impl_found.eq_1,↓zj _ _ b1_impl_found.eq_1,↓zj _ _ k2_impl_found.eq_1,↓zj _ _ k3_impl_found.eq_1,↓zj _ _ c_impl_found.eq_1,h_impl_made.2,h_impl_made.1,xb,ih,zz,sQ,XO E hy zi h_impl_made,zR,zQ,zI,zK,zJ,zT,zL,yc,↓reduceIte,Nat.reduceMul,Nat.reduceAdd,Nat.reduceSub,Nat.reduceEqDiff,Nat.reduceBEq,Nat.reduceLeDiff,Nat.reduceLT,reduceCtorEq,Int.reduceAdd,Int.reduceSub,Int.reduceToNat,Int.reduceNeg,Int.reduceEq,Int.reduceLT,Int.reduceLE]
theorem RG (E:En) (hy:Hy E [] [] [] ti none (fun y=>nocap y) zl) (zi:(List Int)→Option (Res (List Int×Option Nat×List Int))) (h_impl_made:yD E zi) (zg:List Int) (zh:List Int) (za:List Int) (zb:List Int):G E c_impl_found [] ⟨zw [(0,.agg [.d (zf cI zg),.d (zf cI zh)]),(1,.agg [.d (zf cI za),.d (zf cI zb)])],zF []⟩=(kd zi E.n zg zh za zb).bind fun r=>r.on (fun r=>some (.ret (.agg [zo (cI) 3 none false r.1,zo (cI) 3 none false r.2]) [])) (fun x=>some (.pan x [])):=by
 simp (config:={maxSteps:=40000000}) only [↓yd,zV,yf,ya,rI,rS,rB,r8,rLI,yb,ye,hy.p,hy.l,hy.k,hy.r,hy.d,hy.w,hy.f,zl,oid,ti,↓zj _ _ b0_impl_found.eq_1,↓zj _ _ b1_impl_found.eq_1,↓zj _ _ k2_impl_found.eq_1,↓zj _ _ k3_impl_found.eq_1,↓zj _ _ c_impl_found.eq_1,h_impl_made.2,h_impl_made.1,zz,kd,YY E hy zi h_impl_made,zR,zQ,zI,zK,zJ,zT,zL,yc,↓reduceIte,Nat.reduceMul,Nat.reduceAdd,Nat.reduceSub,Nat.reduceEqDiff,Nat.reduceBEq,Nat.reduceLeDiff,Nat.reduceLT,reduceCtorEq,Int.reduceAdd,Int.reduceSub,Int.reduceToNat,Int.reduceNeg,Int.reduceEq,Int.reduceLT,Int.reduceLE]
def ZC (E:En) (L:(List Int)→(List Int)→(List Int)→(List Int)→Option (Res (List Int×List Int))):Prop:=E.Γ.mu 50=false∧(∀ (zg:List Int) (zh:List Int) (za:List Int) (zb:List Int),E.Γ 50 [.agg [.d (zf cI zg),.d (zf cI zh)],.agg [.d (zf cI za),.d (zf cI zb)]]=(L zg zh za zb).bind fun r=>r.on (fun r=>some (.ret (.agg [zo (cI) 3 none false r.1,zo (cI) 3 none false r.2]) [])) (fun x=>some (.pan x [])))
def c_impl_scalarOf:Cd:=
 sq (r [0,2] [o 2 (.alloc [.nil,.nil]) []])
 (sq (r [2] [o 3 (lit 3 1 0) [],o 4 .mv [t 0],o 5 (lit 3 1 1) [t 4],o 6 (.bld [.nil,.nil] [(0,1),(1,1)]) [t 3,t 5],e (.st 2) [t 2,t 6]])
  (.ret))
def pD:List RV:=[.cell 2 (some 2)]
def lD (N:Nat) (a0:Int):Option (List Int×List Int):=
 some (([],[a0]))
theorem WJ (E:En) (hy:Hy E [] [] [] pD none (fun y=>nocap y) zl) (a0:Int):G E c_impl_scalarOf [] ⟨zw [(0,.d (.int .i64 a0))],zF []⟩=(lD E.n a0).bind fun r=>some (.ret (.agg [zo (cI) 3 none false r.1,zo (cI) 3 none false r.2]) []):=by
 simp (config:={maxSteps:=40000000}) only [↓yd,zV,yf,ya,rI,rS,rB,r8,rLI,yb,ye,hy.p,hy.l,hy.k,hy.r,hy.d,hy.w,hy.f,zl,oid,pD,↓zj _ _ c_impl_scalarOf.eq_1,zz,lD,zR,zQ,zI,zK,zJ,zT,zL,yc,↓reduceIte,Nat.reduceMul,Nat.reduceAdd,Nat.reduceSub,Nat.reduceEqDiff,Nat.reduceBEq,Nat.reduceLeDiff,Nat.reduceLT,reduceCtorEq,Int.reduceAdd,Int.reduceSub,Int.reduceToNat,Int.reduceNeg,Int.reduceEq,Int.reduceLT,Int.reduceLE]
def Wr (E:En) (L:Int→Option (List Int×List Int)):Prop:=E.Γ.mu 52=false∧(∀ (a0:Int),E.Γ 52 [.d (.int .i64 a0)]=(L a0).bind fun r=>some (.ret (.agg [zo (cI) 3 none false r.1,zo (cI) 3 none false r.2]) []))
def c_impl_Dyad_1:Cd:=
 sq (r [2,3,4] [o 2 .box [t 0],o 3 .box [t 1],o 4 (.alloc [.nil,.nil]) []])
 (sq (r [4] [o 5 (.fa 0) [t 2],o 6 (.ld none) [t 5],o 7 (.fa 0) [t 3],o 8 (.ld none) [t 7],o 9 (.call 54) [t 6,t 8],o 10 .mv [t 9],g 10 true 11 (.fa 1) [t 2],g 10 true 12 (.ld none) [t 11],g 10 true 13 (.fa 1) [t 3],g 10 true 14 (.ld none) [t 13],g 10 true 15 (.call 54) [t 12,t 14],o 16 .pick [t 10,t 15,b false],o 17 (.call 53) [t 16],o 18 (.call 52) [t 17],e (.st 2) [t 4,t 18]])
  (.ret))
def n8:List RV:=[.cell 4 (some 2)]
def m7 (zr:(List Int)→(List Int)→Option (Bool)) (xj:Bool→Option (Int)) (pB:Int→Option (List Int×List Int)) (N:Nat) (zg:List Int) (zh:List Int) (za:List Int) (zb:List Int):Option (List Int×List Int):=
 (zr zg za).bind fun y0=>
 if y0=true then ((zr zh zb).bind fun y1=>
  (xj y1).bind fun y2=>
  (pB y2).bind fun y3=>
  some ((y3.fst,y3.snd)))
 else ((xj false).bind fun y4=>
  (pB y4).bind fun y5=>
  some ((y5.fst,y5.snd)))
theorem U0 (E:En) (hy:Hy E [] [] [] n8 none (fun y=>nocap y) zl) (zr:(List Int)→(List Int)→Option (Bool)) (h_slices_Equal___int_int_:wn E zr) (xj:Bool→Option (Int)) (h_impl_truth:gD E xj) (pB:Int→Option (List Int×List Int)) (h_impl_scalarOf:Wr E pB) (zg:List Int) (zh:List Int) (za:List Int) (zb:List Int):G E c_impl_Dyad_1 [] ⟨zw [(0,.agg [.d (zf cI zg),.d (zf cI zh)]),(1,.agg [.d (zf cI za),.d (zf cI zb)])],zF []⟩=(m7 zr xj pB E.n zg zh za zb).bind fun r=>some (.ret (.agg [zo (cI) 3 none false r.1,zo (cI) 3 none false r.2]) []):=by
 simp (config:={maxSteps:=40000000}) only [↓yd,zV,yf,ya,rI,rS,rB,r8,rLI,yb,ye,hy.p,hy.l,hy.k,hy.r,hy.d,hy.w,hy.f,zl,oid,n8,↓zj _ _ c_impl_Dyad_1.eq_1,h_slices_Equal___int_int_.2,h_slices_Equal___int_int_.1,h_impl_truth.2,h_impl_truth.1,h_impl_scalarOf.2,h_impl_scalarOf.1,zz,m7,zR,zQ,zI,zK,zJ,zT,zL,yc,↓reduceIte,Nat.reduceMul,Nat.reduceAdd,Nat.reduceSub,Nat.reduceEqDiff,Nat.reduceBEq,Nat.reduceLeDiff,Nat.reduceLT,reduceCtorEq,Int.reduceAdd,Int.reduceSub,Int.reduceToNat,Int.reduceNeg,Int.reduceEq,Int.reduceLT,Int.reduceLE]
def aC (E:En) (L:(List Int)→(List Int)→(List Int)→(List Int)→Option (List Int×List Int)):Prop:=E.Γ.mu 51=false∧(∀ (zg:List Int) (zh:List Int) (za:List Int) (zb:List Int),E.Γ 51 [.agg [.d (zf cI zg),.d (zf cI zh)],.agg [.d (zf cI za),.d (zf cI zb)]]=(L zg zh za zb).bind fun r=>some (.ret (.agg [zo (cI) 3 none false r.1,zo (cI) 3 none false r.2]) []))
def c_impl_Dyad:Cd:=
 sq (r [0,4,5,6,7] [o 4 .box [t 1],o 5 .box [t 2],o 6 (.alloc [.nil,.nil]) [],o 7 (.alloc [(.d (iD 0))]) []])
 (sq (r [0,4,5,6,7,8] [o 9 (.bld [(.d .nilf),(.d .nilf),(.d .nilf),(.d .nilf),(.d .nilf),(.d .nilf),(.d .nilf),(.d .nilf)] [(1,1),(2,1),(3,1),(4,1),(5,1),(6,1),(7,1)]) [.k (.d (.fn 45)),.k (.d (.fn 46)),.k (.d (.fn 47)),.k (.d (.fn 48)),.k (.d (.fn 49)),.k (.d (.fn 50)),.k (.d (.fn 51))],o 8 (.alloc [(.d .nilf),(.d .nilf),(.d .nilf),(.d .nilf),(.d .nilf),(.d .nilf),(.d .nilf),(.d .nilf)]) [],e (.st 8) [t 8,t 9]])
  (sq (sq (r [0,4,5,6,7,8,25] [o 10 .mv [t 0],o 11 (.bin .lss) [t 10,i 1],o 12 .mv [t 11],g 12 false 13 .mv [t 0],g 12 false 14 (.bin .gtr) [t 13,i 7],o 15 .pick [t 12,b true,t 14],o 16 .mv [t 15],g 16 false 17 (.ld (some 2)) [t 4],g 16 false 18 (.call 40) [t 17],g 16 false 19 .not [t 18],o 20 .pick [t 16,b true,t 19],o 21 .mv [t 20],g 21 false 22 (.ld (some 2)) [t 5],g 21 false 23 (.call 40) [t 22],g 21 false 24 .not [t 23],o 25 .pick [t 21,b true,t 24]])
    (.cond (t 25) (sq (r [6,7] [o 26 (.bld [.nil,.nil] []) [],e (.st 2) [t 6,t 26],e (.st 1) [t 7,i 9]])
      (.ret)) (.skip)))
   (.skip)))
def pZ:List RV:=[.cell 6 (some 2),.cell 7 none]
def d_impl_Dyad:Cd:=
 sq (rd [] [6,7] [o 27 .mv [t 0],o 28 (.iaa 8 1) [t 8,t 27],o 29 (.ld none) [t 28],o 30 (.ld (some 2)) [t 4],o 31 (.ld (some 2)) [t 5],o 32 .dyn [t 29,t 30,t 31],e (.st 2) [t 6,t 32],e (.st 1) [t 7,i 0]])
 (.ret)
def lV:List Nat:=[7,6]
def lY:List Nat:=[0,4,5,6,7,8]
def ik (wH:(List Int)→(List Int)→(List Int)→(List Int)→Option (Res (List Int×List Int))) (uC:(List Int)→(List Int)→(List Int)→(List Int)→Option (Res (List Int×List Int))) (vm:(List Int)→(List Int)→(List Int)→(List Int)→Option (Res (List Int×List Int))) (wj:(List Int)→(List Int)→(List Int)→(List Int)→Option (Res (List Int×List Int))) (ub:(List Int)→(List Int)→(List Int)→(List Int)→Option (Res (List Int×List Int))) (uA:(List Int)→(List Int)→(List Int)→(List Int)→Option (Res (List Int×List Int))) (v6:(List Int)→(List Int)→(List Int)→(List Int)→Option (List Int×List Int)) (zm:(List Int)→(List Int)→Option (Bool)) (zM:D→Int→(List Int)→(List Int)→Option (Int)) (N:Nat) (x0:Int) (o256_0:List Int) (o256_1:List Int) (o320_0:List Int) (o320_1:List Int) (o448_0:Int):Option (List Int×List Int×Int):=
 if 0 ≤ x0∧x0 < 8 then (if Int.toNat x0 * 1=0 then none
  else (if Int.toNat x0 * 1=1 then ((wH o256_0 o256_1 o320_0 o320_1).bind fun y0=>
   (y0).on (fun y1=>some ((y1.fst,y1.snd,0))) (fun y1=>(zM y1 o448_0 [] []).bind fun y2=>
    some (([],[],y2))))
   else (if Int.toNat x0 * 1=2 then ((uC o256_0 o256_1 o320_0 o320_1).bind fun y3=>
    (y3).on (fun y4=>some ((y4.fst,y4.snd,0))) (fun y4=>(zM y4 o448_0 [] []).bind fun y5=>
     some (([],[],y5))))
    else (if Int.toNat x0 * 1=3 then ((vm o256_0 o256_1 o320_0 o320_1).bind fun y6=>
     (y6).on (fun y7=>some ((y7.fst,y7.snd,0))) (fun y7=>(zM y7 o448_0 [] []).bind fun y8=>
      some (([],[],y8))))
     else (if Int.toNat x0 * 1=4 then ((wj o256_0 o256_1 o320_0 o320_1).bind fun y9=>
      (y9).on (fun y10=>some ((y10.fst,y10.snd,0))) (fun y10=>(zM y10 o448_0 [] []).bind fun y11=>
       some (([],[],y11))))
      else (if Int.toNat x0 * 1=5 then ((ub o256_0 o256_1 o320_0 o320_1).bind fun y12=>
       (y12).on (fun y13=>some ((y13.fst,y13.snd,0))) (fun y13=>(zM y13 o448_0 [] []).bind fun y14=>
        some (([],[],y14))))
       else (if Int.toNat x0 * 1=6 then ((uA o256_0 o256_1 o320_0 o320_1).bind fun y15=>
        (y15).on (fun y16=>some ((y16.fst,y16.snd,0))) (fun y16=>(zM y16 o448_0 [] []).bind fun y17=>
         some (([],[],y17))))
        else (if Int.toNat x0 * 1=7 then ((v6 o256_0 o256_1 o320_0 o320_1).bind fun y18=>
         some ((y18.fst,y18.snd,0)))
         else none))))))))
 else none
theorem Tq (E:En) (hy:Hy E [448,384] [] [] pZ (some ([448,384],[7,6])) (fun y=>nocap (yw (.node [.node [.own 3 1,.own 3 1],.k]) y)) zl) (wH:(List Int)→(List Int)→(List Int)→(List Int)→Option (Res (List Int×List Int))) (h_impl_reshaped:d4 E wH) (uC:(List Int)→(List Int)→(List Int)→(List Int)→Option (Res (List Int×List Int))) (h_impl_taken:Zm E uC) (vm:(List Int)→(List Int)→(List Int)→(List Int)→Option (Res (List Int×List Int))) (h_impl_dropped:cU E vm) (wj:(List Int)→(List Int)→(List Int)→(List Int)→Option (Res (List Int×List Int))) (h_impl_catenated:de E wj) (ub:(List Int)→(List Int)→(List Int)→(List Int)→Option (Res (List Int×List Int))) (h_impl_picked:aG E ub) (uA:(List Int)→(List Int)→(List Int)→(List Int)→Option (Res (List Int×List Int))) (h_impl_found:ZC E uA) (v6:(List Int)→(List Int)→(List Int)→(List Int)→Option (List Int×List Int)) (h_impl_Dyad_1:aC E v6) (zm:(List Int)→(List Int)→Option (Bool)) (h_impl_ArrayOk:xa E zm) (zM:D→Int→(List Int)→(List Int)→Option (Int)) (yr:∀ (x:D) (a0:Int) (za:List Int) (zb:List Int),E.fd x [.box [.d (.int .i64 a0)],.box [.d (zf cI za),.d (zf cI zb)]]=(zM x a0 za zb).bind fun r=>some [[.int .i64 r],[D.nils,D.nils]]) (x0:Int) (o256_0:List Int) (o256_1:List Int) (o320_0:List Int) (o320_1:List Int) (o448_0:Int):gB E d_impl_Dyad ⟨zw [(0,.d (.int .i64 x0)),(4,A.adr 256 1 0),(5,A.adr 320 1 0),(6,A.adr 384 1 0),(7,A.adr 448 1 0),(8,A.adr 512 1 0)],zF [(256,⟨1,.box [.d (zf (cI) o256_0),.d (zf (cI) o256_1)],false⟩),(320,⟨1,.box [.d (zf (cI) o320_0),.d (zf (cI) o320_1)],false⟩),(384,⟨1,.box [A.nil,A.nil],false⟩),(448,⟨1,.box [.d (.int .i64 o448_0)],false⟩),(512,⟨1,.box [.d (D.nilf),A.d (D.fn 45),A.d (D.fn 46),A.d (D.fn 47),A.d (D.fn 48),A.d (D.fn 49),A.d (D.fn 50),A.d (D.fn 51)],false⟩)]⟩=(ik wH uC vm wj ub uA v6 zm zM E.n x0 o256_0 o256_1 o320_0 o320_1 o448_0).bind fun r=>some (.ret (.tup [.agg [zo (cI) 3 none false r.1,zo (cI) 3 none false r.2.1],.d (.int .i64 r.2.2)]) []):=by
 simp (config:={maxSteps:=40000000}) only [↓yd,zV,yf,ya,rI,rS,rB,r8,rLI,yb,ye,hy.p,hy.l,hy.k,hy.r,hy.d,hy.w,hy.f,zl,oid,pZ,↓zj _ _ c_impl_Dyad.eq_1,lV,lY,h_impl_reshaped.2,h_impl_reshaped.1,h_impl_taken.2,h_impl_taken.1,h_impl_dropped.2,h_impl_dropped.1,h_impl_catenated.2,h_impl_catenated.1,h_impl_picked.2,h_impl_picked.1,h_impl_found.2,h_impl_found.1,h_impl_Dyad_1.2,h_impl_Dyad_1.1,h_impl_ArrayOk.2,h_impl_ArrayOk.1,yr,(show ∀ (x:D) (a0:Int) (zb:List Int),E.fd x [.box [.d (.int .i64 a0)],.box [.d (.lst 0 []),.d (zf cI zb)]]=(zM x a0 [] zb).bind fun r=>some [[.int .i64 r],[D.nils,D.nils]] from fun x a0 zb=>yr x a0 [] zb),(show ∀ (x:D) (a0:Int) (za:List Int),E.fd x [.box [.d (.int .i64 a0)],.box [.d (zf cI za),.d (.lst 0 [])]]=(zM x a0 za []).bind fun r=>some [[.int .i64 r],[D.nils,D.nils]] from fun x a0 za=>yr x a0 za []),(show ∀ (x:D) (a0:Int),E.fd x [.box [.d (.int .i64 a0)],.box [.d (.lst 0 []),.d (.lst 0 [])]]=(zM x a0 [] []).bind fun r=>some [[.int .i64 r],[D.nils,D.nils]] from fun x a0=>yr x a0 [] []),ij,↓zj _ _ d_impl_Dyad.eq_1,zz,ik,zR,zQ,zI,zK,zJ,zT,zL,yc,↓reduceIte,Nat.reduceMul,Nat.reduceAdd,Nat.reduceSub,Nat.reduceEqDiff,Nat.reduceBEq,Nat.reduceLeDiff,Nat.reduceLT,reduceCtorEq,Int.reduceAdd,Int.reduceSub,Int.reduceToNat,Int.reduceNeg,Int.reduceEq,Int.reduceLT,Int.reduceLE]
def jP (wH:(List Int)→(List Int)→(List Int)→(List Int)→Option (Res (List Int×List Int))) (uC:(List Int)→(List Int)→(List Int)→(List Int)→Option (Res (List Int×List Int))) (vm:(List Int)→(List Int)→(List Int)→(List Int)→Option (Res (List Int×List Int))) (wj:(List Int)→(List Int)→(List Int)→(List Int)→Option (Res (List Int×List Int))) (ub:(List Int)→(List Int)→(List Int)→(List Int)→Option (Res (List Int×List Int))) (uA:(List Int)→(List Int)→(List Int)→(List Int)→Option (Res (List Int×List Int))) (v6:(List Int)→(List Int)→(List Int)→(List Int)→Option (List Int×List Int)) (zm:(List Int)→(List Int)→Option (Bool)) (zM:D→Int→(List Int)→(List Int)→Option (Int)) (N:Nat) (a0:Int) (za:List Int) (zb:List Int) (zt:List Int) (zA:List Int):Option (List Int×List Int×Int):=
 if a0 < 1 then some (([],[],9))
 else (if 7 < a0 then some (([],[],9))
  else ((zm za zb).bind fun y0=>
   if y0=false then some (([],[],9))
   else ((zm zt zA).bind fun y1=>
    if y1=false then some (([],[],9))
    else ik wH uC vm wj ub uA v6 zm zM N a0 za zb zt zA 0)))
theorem QJ (E:En) (hy:Hy E [] [] [] pZ none (fun y=>nocap (yw (.node [.node [.own 3 1,.own 3 1],.k]) y)) zl) (wH:(List Int)→(List Int)→(List Int)→(List Int)→Option (Res (List Int×List Int))) (h_impl_reshaped:d4 E wH) (uC:(List Int)→(List Int)→(List Int)→(List Int)→Option (Res (List Int×List Int))) (h_impl_taken:Zm E uC) (vm:(List Int)→(List Int)→(List Int)→(List Int)→Option (Res (List Int×List Int))) (h_impl_dropped:cU E vm) (wj:(List Int)→(List Int)→(List Int)→(List Int)→Option (Res (List Int×List Int))) (h_impl_catenated:de E wj) (ub:(List Int)→(List Int)→(List Int)→(List Int)→Option (Res (List Int×List Int))) (h_impl_picked:aG E ub) (uA:(List Int)→(List Int)→(List Int)→(List Int)→Option (Res (List Int×List Int))) (h_impl_found:ZC E uA) (v6:(List Int)→(List Int)→(List Int)→(List Int)→Option (List Int×List Int)) (h_impl_Dyad_1:aC E v6) (zm:(List Int)→(List Int)→Option (Bool)) (h_impl_ArrayOk:xa E zm) (zM:D→Int→(List Int)→(List Int)→Option (Int)) (yr:∀ (x:D) (a0:Int) (za:List Int) (zb:List Int),E.fd x [.box [.d (.int .i64 a0)],.box [.d (zf cI za),.d (zf cI zb)]]=(zM x a0 za zb).bind fun r=>some [[.int .i64 r],[D.nils,D.nils]]) (a0:Int) (za:List Int) (zb:List Int) (zt:List Int) (zA:List Int):G E c_impl_Dyad [.df lV lY d_impl_Dyad] ⟨zw [(0,.d (.int .i64 a0)),(1,.agg [.d (zf cI za),.d (zf cI zb)]),(2,.agg [.d (zf cI zt),.d (zf cI zA)])],zF []⟩=(jP wH uC vm wj ub uA v6 zm zM E.n a0 za zb zt zA).bind fun r=>some (.ret (.tup [.agg [zo (cI) 3 none false r.1,zo (cI) 3 none false r.2.1],.d (.int .i64 r.2.2)]) []):=by
 simp (config:={maxSteps:=40000000}) only [↓yd,zV,yf,ya,rI,rS,rB,r8,rLI,yb,ye,hy.p,hy.l,hy.k,hy.r,hy.d,hy.w,hy.f,zl,oid,pZ,↓zj _ _ c_impl_Dyad.eq_1,lV,lY,h_impl_reshaped.2,h_impl_reshaped.1,h_impl_taken.2,h_impl_taken.1,h_impl_dropped.2,h_impl_dropped.1,h_impl_catenated.2,h_impl_catenated.1,h_impl_picked.2,h_impl_picked.1,h_impl_found.2,h_impl_found.1,h_impl_Dyad_1.2,h_impl_Dyad_1.1,h_impl_ArrayOk.2,h_impl_ArrayOk.1,yr,(show ∀ (x:D) (a0:Int) (zb:List Int),E.fd x [.box [.d (.int .i64 a0)],.box [.d (.lst 0 []),.d (zf cI zb)]]=(zM x a0 [] zb).bind fun r=>some [[.int .i64 r],[D.nils,D.nils]] from fun x a0 zb=>yr x a0 [] zb),(show ∀ (x:D) (a0:Int) (za:List Int),E.fd x [.box [.d (.int .i64 a0)],.box [.d (zf cI za),.d (.lst 0 [])]]=(zM x a0 za []).bind fun r=>some [[.int .i64 r],[D.nils,D.nils]] from fun x a0 za=>yr x a0 za []),(show ∀ (x:D) (a0:Int),E.fd x [.box [.d (.int .i64 a0)],.box [.d (.lst 0 []),.d (.lst 0 [])]]=(zM x a0 [] []).bind fun r=>some [[.int .i64 r],[D.nils,D.nils]] from fun x a0=>yr x a0 [] []),zz,jP,Tq (E.behind [448,384] [7,6]) ⟨by rw [show (E.behind [448,384] [7,6]).ps=E.ps++[448,384] from rfl,hy.p]; rfl,hy.l,hy.k,hy.r,rfl,hy.w,hy.f⟩ wH h_impl_reshaped uC h_impl_taken vm h_impl_dropped wj h_impl_catenated ub h_impl_picked uA h_impl_found v6 h_impl_Dyad_1 zm h_impl_ArrayOk zM yr,gV,zR,zQ,zI,zK,zJ,zT,zL,yc,↓reduceIte,Nat.reduceMul,Nat.reduceAdd,Nat.reduceSub,Nat.reduceEqDiff,Nat.reduceBEq,Nat.reduceLeDiff,Nat.reduceLT,reduceCtorEq,Int.reduceAdd,Int.reduceSub,Int.reduceToNat,Int.reduceNeg,Int.reduceEq,Int.reduceLT,Int.reduceLE]
def Qh (E:En) (L:Int→(List Int)→(List Int)→(List Int)→(List Int)→Option (List Int×List Int×Int)):Prop:=E.Γ.mu 10=false∧(∀ (a0:Int) (za:List Int) (zb:List Int) (zt:List Int) (zA:List Int),E.Γ 10 [.d (.int .i64 a0),.agg [.d (zf cI za),.d (zf cI zb)],.agg [.d (zf cI zt),.d (zf cI zA)]]=(L a0 za zb zt zA).bind fun r=>some (.ret (.tup [.agg [zo (cI) 3 none false r.1,zo (cI) 3 none false r.2.1],.d (.int .i64 r.2.2)]) []))
def c_spec_SameArray:Cd:=
 sq (r [2,3] [o 2 .box [t 0],o 3 .box [t 1],o 4 .mv [b false]])
 (sq (r [4] [o 5 (.fa 0) [t 2],o 6 (.ld none) [t 5],o 7 (.fa 0) [t 3],o 8 (.ld none) [t 7],o 9 (.call 55) [t 6,t 8],o 10 .mv [t 9],g 10 true 11 (.fa 1) [t 2],g 10 true 12 (.ld none) [t 11],g 10 true 13 (.fa 1) [t 3],g 10 true 14 (.ld none) [t 13],g 10 true 15 (.call 55) [t 12,t 14],o 16 .pick [t 10,t 15,b false],o 4 .mv [t 16]])
  (.ret))
def qc:List RV:=[.tmp 4]
def qa (yl:(List Int)→(List Int)→Option (Bool)) (N:Nat) (zg:List Int) (zh:List Int) (za:List Int) (zb:List Int):Option (Bool):=
 (yl zg za).bind fun y0=>
 if y0=true then ((yl zh zb).bind fun y1=>
  some y1)
 else some false
theorem XP (E:En) (hy:Hy E [] [] [] qc none (fun y=>nocap y) zl) (yl:(List Int)→(List Int)→Option (Bool)) (h_spec_l2Same:mt E yl) (zg:List Int) (zh:List Int) (za:List Int) (zb:List Int):G E c_spec_SameArray [] ⟨zw [(0,.agg [.d (zf cI zg),.d (zf cI zh)]),(1,.agg [.d (zf cI za),.d (zf cI zb)])],zF []⟩=(qa yl E.n zg zh za zb).bind fun r=>some (.ret (.d (.bool r)) []):=by
 simp (config:={maxSteps:=40000000}) only [↓yd,zV,yf,ya,rI,rS,rB,r8,rLI,yb,ye,hy.p,hy.l,hy.k,hy.r,hy.d,hy.w,hy.f,zl,oid,qc,↓zj _ _ c_spec_SameArray.eq_1,h_spec_l2Same.2,h_spec_l2Same.1,zz,qa,zR,zQ,zI,zK,zJ,zT,zL,yc,↓reduceIte,Nat.reduceMul,Nat.reduceAdd,Nat.reduceSub,Nat.reduceEqDiff,Nat.reduceBEq,Nat.reduceLeDiff,Nat.reduceLT,reduceCtorEq,Int.reduceAdd,Int.reduceSub,Int.reduceToNat,Int.reduceNeg,Int.reduceEq,Int.reduceLT,Int.reduceLE]
def XE (E:En) (L:(List Int)→(List Int)→(List Int)→(List Int)→Option (Bool)):Prop:=E.Γ.mu 11=false∧(∀ (zg:List Int) (zh:List Int) (za:List Int) (zb:List Int),E.Γ 11 [.agg [.d (zf cI zg),.d (zf cI zh)],.agg [.d (zf cI za),.d (zf cI zb)]]=(L zg zh za zb).bind fun r=>some (.ret (.d (.bool r)) []))
def c_impl_Monad_2:Cd:=
 sq (r [1,2] [o 1 .box [t 0],o 2 (.alloc [.nil,.nil]) []])
 (sq (r [2] [o 3 (.fa 1) [t 1],o 4 (.ld none) [t 3],o 5 (.call 58) [t 4],e (.st 2) [t 2,t 5]])
  (.ret))
def ng:List RV:=[.cell 2 (some 2)]
def ot (vA:(List Int)→Option (List Int×List Int)) (N:Nat) (zg:List Int) (zh:List Int):Option (List Int×List Int):=
 (vA zh).bind fun y0=>
 some ((y0.fst,y0.snd))
theorem VC (E:En) (hy:Hy E [] [] [] ng none (fun y=>nocap y) zl) (vA:(List Int)→Option (List Int×List Int)) (h_impl_vectorOf:d5 E vA) (zg:List Int) (zh:List Int):G E c_impl_Monad_2 [] ⟨zw [(0,.agg [.d (zf cI zg),.d (zf cI zh)])],zF []⟩=(ot vA E.n zg zh).bind fun r=>some (.ret (.agg [zo (cI) 3 none false r.1,zo (cI) 3 none false r.2]) []):=by
 simp (config:={maxSteps:=40000000}) only [↓yd,zV,yf,ya,rI,rS,rB,r8,rLI,yb,ye,hy.p,hy.l,hy.k,hy.r,hy.d,hy.w,hy.f,zl,oid,ng,↓zj _ _ c_impl_Monad_2.eq_1,h_impl_vectorOf.2,h_impl_vectorOf.1,zz,ot,zR,zQ,zI,zK,zJ,zT,zL,yc,↓reduceIte,Nat.reduceMul,Nat.reduceAdd,Nat.reduceSub,Nat.reduceEqDiff,Nat.reduceBEq,Nat.reduceLeDiff,Nat.reduceLT,reduceCtorEq,Int.reduceAdd,Int.reduceSub,Int.reduceToNat,Int.reduceNeg,Int.reduceEq,Int.reduceLT,Int.reduceLE]
def cQ (E:En) (L:(List Int)→(List Int)→Option (List Int×List Int)):Prop:=E.Γ.mu 59=false∧(∀ (zg:List Int) (zh:List Int),E.Γ 59 [.agg [.d (zf cI zg),.d (zf cI zh)]]=(L zg zh).bind fun r=>some (.ret (.agg [zo (cI) 3 none false r.1,zo (cI) 3 none false r.2]) []))
def c_impl_Monad:Cd:=
 sq (r [0,3,4,5] [o 3 .box [t 1],o 4 (.alloc [.nil,.nil]) [],o 5 (.alloc [(.d (iD 0))]) []])
 (sq (r [0,3,4,5,6] [o 7 (.bld [(.d .nilf),(.d .nilf),(.d .nilf),(.d .nilf),(.d .nilf),(.d .nilf),(.d .nilf),(.d .nilf)] [(1,1),(2,1),(3,1),(4,1),(5,1),(6,1),(7,1)]) [.k (.d (.fn 56)),.k (.d (.fn 57)),.k (.d (.fn 59)),.k (.d (.fn 60)),.k (.d (.fn 61)),.k (.d (.fn 62)),.k (.d (.fn 63))],o 6 (.alloc [(.d .nilf),(.d .nilf),(.d .nilf),(.d .nilf),(.d .nilf),(.d .nilf),(.d .nilf),(.d .nilf)]) [],e (.st 8) [t 6,t 7]])
  (sq (sq (r [0,3,4,5,6,18] [o 8 .mv [t 0],o 9 (.bin .lss) [t 8,i 1],o 10 .mv [t 9],g 10 false 11 .mv [t 0],g 10 false 12 (.bin .gtr) [t 11,i 7],o 13 .pick [t 10,b true,t 12],o 14 .mv [t 13],g 14 false 15 (.ld (some 2)) [t 3],g 14 false 16 (.call 40) [t 15],g 14 false 17 .not [t 16],o 18 .pick [t 14,b true,t 17]])
    (.cond (t 18) (sq (r [4,5] [o 19 (.bld [.nil,.nil] []) [],e (.st 2) [t 4,t 19],e (.st 1) [t 5,i 9]])
      (.ret)) (.skip)))
   (.skip)))
def rK:List RV:=[.cell 4 (some 2),.cell 5 none]
def d_impl_Monad:Cd:=
 sq (rd [] [4,5] [o 20 .mv [t 0],o 21 (.iaa 8 1) [t 6,t 20],o 22 (.ld none) [t 21],o 23 (.ld (some 2)) [t 3],o 24 .dyn [t 22,t 23],e (.st 2) [t 4,t 24],e (.st 1) [t 5,i 0]])
 (.ret)
def mn:List Nat:=[5,4]
def me:List Nat:=[0,3,4,5,6]
def jd (vi:(List Int)→(List Int)→Option (List Int×List Int)) (zm:(List Int)→(List Int)→Option (Bool)) (zM:D→Int→(List Int)→(List Int)→Option (Int)) (N:Nat) (o192_0:List Int) (o192_1:List Int) (o320_0:Int):Option (List Int×List Int×Int):=
 (vi o192_0 o192_1).bind fun y0=>
 some ((y0.fst,y0.snd,0))
theorem VX (E:En) (hy:Hy E [320,256] [] [] rK (some ([320,256],[5,4])) (fun y=>nocap (yw (.node [.node [.own 3 1,.own 3 1],.k]) y)) zl) (vi:(List Int)→(List Int)→Option (List Int×List Int)) (h_impl_Monad_2:cQ E vi) (zm:(List Int)→(List Int)→Option (Bool)) (h_impl_ArrayOk:xa E zm) (zM:D→Int→(List Int)→(List Int)→Option (Int)) (yr:∀ (x:D) (a0:Int) (za:List Int) (zb:List Int),E.fd x [.box [.d (.int .i64 a0)],.box [.d (zf cI za),.d (zf cI zb)]]=(zM x a0 za zb).bind fun r=>some [[.int .i64 r],[D.nils,D.nils]]) (o192_0:List Int) (o192_1:List Int) (o320_0:Int):gB E d_impl_Monad ⟨zw [(0,.d (.int .i64 3)),(3,A.adr 192 1 0),(4,A.adr 256 1 0),(5,A.adr 320 1 0),(6,A.adr 384 1 0)],zF [(192,⟨1,.box [.d (zf (cI) o192_0),.d (zf (cI) o192_1)],false⟩),(256,⟨1,.box [A.nil,A.nil],false⟩),(320,⟨1,.box [.d (.int .i64 o320_0)],false⟩),(384,⟨1,.box [.d (D.nilf),A.d (D.fn 56),A.d (D.fn 57),A.d (D.fn 59),A.d (D.fn 60),A.d (D.fn 61),A.d (D.fn 62),A.d (D.fn 63)],false⟩)]⟩=(jd vi zm zM E.n o192_0 o192_1 o320_0).bind fun r=>some (.ret (.tup [.agg [zo (cI) 3 none false r.1,zo (cI) 3 none false r.2.1],.d (.int .i64 r.2.2)]) []):=by
 simp (config:={maxSteps:=40000000}) only [↓yd,zV,yf,ya,rI,rS,rB,r8,rLI,yb,ye,hy.p,hy.l,hy.k,hy.r,hy.d,hy.w,hy.f,zl,oid,rK,↓zj _ _ c_impl_Monad.eq_1,mn,me,h_impl_Monad_2.2,h_impl_Monad_2.1,h_impl_ArrayOk.2,h_impl_ArrayOk.1,yr,(show ∀ (x:D) (a0:Int) (zb:List Int),E.fd x [.box [.d (.int .i64 a0)],.box [.d (.lst 0 []),.d (zf cI zb)]]=(zM x a0 [] zb).bind fun r=>some [[.int .i64 r],[D.nils,D.nils]] from fun x a0 zb=>yr x a0 [] zb),(show ∀ (x:D) (a0:Int) (za:List Int),E.fd x [.box [.d (.int .i64 a0)],.box [.d (zf cI za),.d (.lst 0 [])]]=(zM x a0 za []).bind fun r=>some [[.int .i64 r],[D.nils,D.nils]] from fun x a0 za=>yr x a0 za []),(show ∀ (x:D) (a0:Int),E.fd x [.box [.d (.int .i64 a0)],.box [.d (.lst 0 []),.d (.lst 0 [])]]=(zM x a0 [] []).bind fun r=>some [[.int .i64 r],[D.nils,D.nils]] from fun x a0=>yr x a0 [] []),ij,↓zj _ _ d_impl_Monad.eq_1,zz,jd,zR,zQ,zI,zK,zJ,zT,zL,yc,↓reduceIte,Nat.reduceMul,Nat.reduceAdd,Nat.reduceSub,Nat.reduceEqDiff,Nat.reduceBEq,Nat.reduceLeDiff,Nat.reduceLT,reduceCtorEq,Int.reduceAdd,Int.reduceSub,Int.reduceToNat,Int.reduceNeg,Int.reduceEq,Int.reduceLT,Int.reduceLE]
def kG (vi:(List Int)→(List Int)→Option (List Int×List Int)) (zm:(List Int)→(List Int)→Option (Bool)) (zM:D→Int→(List Int)→(List Int)→Option (Int)) (N:Nat) (za:List Int) (zb:List Int):Option (List Int×List Int×Int):=
 (zm za zb).bind fun y0=>
 if y0=false then some (([],[],9))
 else jd vi zm zM N za zb 0
theorem SY (E:En) (hy:Hy E [] [] [] rK none (fun y=>nocap (yw (.node [.node [.own 3 1,.own 3 1],.k]) y)) zl) (vi:(List Int)→(List Int)→Option (List Int×List Int)) (h_impl_Monad_2:cQ E vi) (zm:(List Int)→(List Int)→Option (Bool)) (h_impl_ArrayOk:xa E zm) (zM:D→Int→(List Int)→(List Int)→Option (Int)) (yr:∀ (x:D) (a0:Int) (za:List Int) (zb:List Int),E.fd x [.box [.d (.int .i64 a0)],.box [.d (zf cI za),.d (zf cI zb)]]=(zM x a0 za zb).bind fun r=>some [[.int .i64 r],[D.nils,D.nils]]) (za:List Int) (zb:List Int):G E c_impl_Monad [.df mn me d_impl_Monad] ⟨zw [(0,.d (.int .i64 3)),(1,.agg [.d (zf cI za),.d (zf cI zb)])],zF []⟩=(kG vi zm zM E.n za zb).bind fun r=>some (.ret (.tup [.agg [zo (cI) 3 none false r.1,zo (cI) 3 none false r.2.1],.d (.int .i64 r.2.2)]) []):=by
 simp (config:={maxSteps:=40000000}) only [↓yd,zV,yf,ya,rI,rS,rB,r8,rLI,yb,ye,hy.p,hy.l,hy.k,hy.r,hy.d,hy.w,hy.f,zl,oid,rK,↓zj _ _ c_impl_Monad.eq_1,mn,me,h_impl_Monad_2.2,h_impl_Monad_2.1,h_impl_ArrayOk.2,h_impl_ArrayOk.1,yr,(show ∀ (x:D) (a0:Int) (zb:List Int),E.fd x [.box [.d (.int .i64 a0)],.box [.d (.lst 0 []),.d (zf cI zb)]]=(zM x a0 [] zb).bind fun r=>some [[.int .i64 r],[D.nils,D.nils]] from fun x a0 zb=>yr x a0 [] zb),(show ∀ (x:D) (a0:Int) (za:List Int),E.fd x [.box [.d (.int .i64 a0)],.box [.d (zf cI za),.d (.lst 0 [])]]=(zM x a0 za []).bind fun r=>some [[.int .i64 r],[D.nils,D.nils]] from fun x a0 za=>yr x a0 za []),(show ∀ (x:D) (a0:Int),E.fd x [.box [.d (.int .i64 a0)],.box [.d (.lst 0 []),.d (.lst 0 [])]]=(zM x a0 [] []).bind fun r=>some [[.int .i64 r],[D.nils,D.nils]] from fun x a0=>yr x a0 [] []),zz,kG,VX (E.behind [320,256] [5,4]) ⟨by rw [show (E.behind [320,256] [5,4]).ps=E.ps++[320,256] from rfl,hy.p]; rfl,hy.l,hy.k,hy.r,rfl,hy.w,hy.f⟩ vi h_impl_Monad_2 zm h_impl_ArrayOk zM yr,gV,zR,zQ,zI,zK,zJ,zT,zL,yc,↓reduceIte,Nat.reduceMul,Nat.reduceAdd,Nat.reduceSub,Nat.reduceEqDiff,Nat.reduceBEq,Nat.reduceLeDiff,Nat.reduceLT,reduceCtorEq,Int.reduceAdd,Int.reduceSub,Int.reduceToNat,Int.reduceNeg,Int.reduceEq,Int.reduceLT,Int.reduceLE]
def RE (E:En) (L:(List Int)→(List Int)→Option (List Int×List Int×Int)):Prop:=E.Γ.mu 12=false∧(∀ (za:List Int) (zb:List Int),E.Γ 12 [.d (.int .i64 3),.agg [.d (zf cI za),.d (zf cI zb)]]=(L za zb).bind fun r=>some (.ret (.tup [.agg [zo (cI) 3 none false r.1,zo (cI) 3 none false r.2.1],.d (.int .i64 r.2.2)]) []))
def c_impl_Inner:Cd:=
 sq (r [0,1,6,7,8,9] [o 6 .box [t 2],o 7 .box [t 3],o 8 (.alloc [.nil,.nil]) [],o 9 (.alloc [(.d (iD 0))]) []])
 (sq (r [0,1,6,7,8,9,10,11] [o 26 .mv [t 0],o 27 (.call 39) [t 26],o 25 .mv [t 27],o 28 (.ext 0) [t 25],o 29 (.ext 1) [t 25],o 10 .mv [t 28],o 11 .mv [t 29]])
  (sq (r [0,6,7,8,9,10,11,12,13] [o 31 .mv [t 1],o 32 (.call 39) [t 31],o 30 .mv [t 32],o 33 (.ext 0) [t 30],o 34 (.ext 1) [t 30],o 12 .mv [t 33],o 13 .mv [t 34]])
   (sq (sq (r [0,6,7,8,9,10,12,50] [o 35 .mv [t 11],o 36 .not [t 35],o 37 .mv [t 36],g 37 false 38 .mv [t 13],g 37 false 39 .not [t 38],o 40 .pick [t 37,b true,t 39],o 41 .mv [t 40],g 41 false 42 (.ld (some 2)) [t 6],g 41 false 43 (.call 40) [t 42],g 41 false 44 .not [t 43],o 45 .pick [t 41,b true,t 44],o 46 .mv [t 45],g 46 false 47 (.ld (some 2)) [t 7],g 46 false 48 (.call 40) [t 47],g 46 false 49 .not [t 48],o 50 .pick [t 46,b true,t 49]])
     (.cond (t 50) (sq (r [8,9] [o 51 (.bld [.nil,.nil] []) [],e (.st 2) [t 8,t 51],e (.st 1) [t 9,i 9]])
       (.ret)) (.skip)))
    (sq (sq (r [0,6,7,8,9,10,12,61] [o 52 (.fa 0) [t 6],o 53 (.ld none) [t 52],o 54 (.len false) [t 53],o 55 (.bin .eql) [t 54,i 0],o 56 .mv [t 55],g 56 false 57 (.fa 0) [t 7],g 56 false 58 (.ld none) [t 57],g 56 false 59 (.len false) [t 58],g 56 false 60 (.bin .eql) [t 59,i 0],o 61 .pick [t 56,b true,t 60]])
      (.cond (t 61) (sq (r [8,9] [o 62 (.bld [.nil,.nil] []) [],e (.st 2) [t 8,t 62],e (.st 1) [t 9,i 2]])
        (.ret)) (.skip)))
     (sq (r [0,6,7,8,9,10,12,14] [o 63 (.fa 0) [t 7],o 64 (.ld none) [t 63],o 65 (.ia 1) [t 64,i 0],o 66 (.ld none) [t 65],o 14 .mv [t 66]])
      (sq (r [0,6,7,8,9,10,12,14,15] [o 67 (.fa 0) [t 6],o 68 (.ld none) [t 67],o 69 (.len false) [t 68],o 70 (.bin .sub) [t 69,i 1],o 15 .mv [t 70]])
       (sq (sq (r [0,6,7,8,9,10,12,14,15,77] [o 71 (.fa 0) [t 6],o 72 (.ld none) [t 71],o 73 .mv [t 15],o 74 (.ia 1) [t 72,t 73],o 75 (.ld none) [t 74],o 76 .mv [t 14],o 77 (.bin .neq) [t 75,t 76]])
         (.cond (t 77) (sq (r [8,9] [o 78 (.bld [.nil,.nil] []) [],e (.st 2) [t 8,t 78],e (.st 1) [t 9,i 3]])
           (.ret)) (.skip)))
        (.skip))))))))
def xG:List RV:=[.cell 8 (some 2),.cell 9 none]
def b0_d_impl_Inner:Cd:=
 sq (r [0,8,9,94,95,96] [o 96 (.bin .lss) [t 95,t 94]])
 (sq (.cond (t 96) (.skip) (.exit 0))
  (sq (.block 1 (rd [] [0,8,9,94,95] [o 97 (.fa 1) [t 8],o 98 (.ld none) [t 97],o 99 .mv [t 0],ap [] false [8,97] (o 100 (.call 65) [t 99]),ap [] false [8,97] (o 101 (lit 3 1 1) [t 100]),o 102 (.app 3 1 8) [t 98,t 101],o 103 (.fa 1) [t 8],e (.st 1) [t 103,t 102]]))
   (r [0,8,9,94,95] [o 104 (.bin .add) [t 95,i 1],o 95 .mv [t 104]])))
def k1_d_impl_Inner:Cd:=
 sq (r [8,9] [o 105 (.ld (some 2)) [t 8],e (.st 2) [t 8,t 105],e (.st 1) [t 9,i 0]])
 (.ret)
def b2_d_impl_Inner:Cd:=
 sq (r [6,7,8,9,10,12,14,18,19,20,21,116,117,120,121,126,127,128] [o 128 (.bin .lss) [t 127,t 126]])
 (sq (.cond (t 128) (.skip) (.exit 6))
  (sq (.block 7 (sq (r [6,7,8,9,10,12,14,18,19,20,21,22,116,117,120,121,126,127] [o 129 .mv [t 127],o 22 .mv [t 129]])
    (rd [] [6,7,8,9,10,12,14,18,19,20,21,116,117,120,121,126,127] [o 130 .mv [t 21],o 131 .mv [t 22],o 132 .mv [t 12],o 133 (.fa 1) [t 6],o 134 (.ld none) [t 133],o 135 .mv [t 19],o 136 .mv [t 14],o 137 (.bin .mul) [t 135,t 136],o 138 .mv [t 22],o 139 (.bin .add) [t 137,t 138],o 140 (.ia 1) [t 134,t 139],o 141 (.ld none) [t 140],o 142 (.fa 1) [t 7],o 143 (.ld none) [t 142],o 144 .mv [t 22],o 145 .mv [t 18],o 146 (.bin .mul) [t 144,t 145],o 147 .mv [t 20],o 148 (.bin .add) [t 146,t 147],o 149 (.ia 1) [t 143,t 148],o 150 (.ld none) [t 149],o 151 .dyn [t 132,t 141,t 150],o 152 (.ia 1) [t 130,t 131],e (.st 1) [t 152,t 151]])))
   (r [6,7,8,9,10,12,14,18,19,20,21,116,117,120,121,126,127] [o 153 (.bin .add) [t 127,i 1],o 127 .mv [t 153]])))
def b3_d_impl_Inner:Cd:=
 sq (sq (r [6,7,8,9,10,12,14,18,19,21,23,24,116,117,120,121,162] [o 161 .mv [t 24],o 162 (.bin .geq) [t 161,i 0]])
  (.cond (t 162) (.skip) (.exit 8)))
 (sq (.block 9 (r [6,7,8,9,10,12,14,18,19,21,23,24,116,117,120,121] [o 165 .mv [t 10],o 166 .mv [t 21],o 167 .mv [t 24],o 168 (.ia 1) [t 166,t 167],o 169 (.ld none) [t 168],o 170 .mv [t 23],o 171 .dyn [t 165,t 169,t 170],o 23 .mv [t 171]]))
  (r [6,7,8,9,10,12,14,18,19,21,23,24,116,117,120,121] [o 163 .mv [t 24],o 164 (.bin .sub) [t 163,i 1],o 24 .mv [t 164]]))
def k4_d_impl_Inner:Cd:=
 r [6,7,8,9,10,12,14,18,19,116,117,120,121] [o 172 (.fa 1) [t 8],o 173 (.ld none) [t 172],o 174 .mv [t 23],o 175 (lit 3 1 1) [t 174],o 176 (.app 3 1 8) [t 173,t 175],o 177 (.fa 1) [t 8],e (.st 1) [t 177,t 176]]
def k5_d_impl_Inner:Cd:=
 sq (r [6,7,8,9,10,12,14,18,19,21,23,116,117,120,121] [o 154 .mv [t 21],o 155 .mv [t 14],o 156 (.bin .sub) [t 155,i 1],o 157 (.ia 1) [t 154,t 156],o 158 (.ld none) [t 157],o 23 .mv [t 158]])
 (sq (sq (r [6,7,8,9,10,12,14,18,19,21,23,24,116,117,120,121] [o 159 .mv [t 14],o 160 (.bin .sub) [t 159,i 2],o 24 .mv [t 160]])
   (.block 8 (.loop [6,7,8,9,10,12,14,18,19,21,23,24,116,117,120,121] b3_d_impl_Inner))) k4_d_impl_Inner)
def k6_d_impl_Inner:Cd:=
 r [6,7,8,9,10,12,14,18,19,116,117,120,121] [o 178 (.bin .add) [t 121,i 1],o 121 .mv [t 178]]
def b7_d_impl_Inner:Cd:=
 sq (r [6,7,8,9,10,12,14,18,19,116,117,120,121,122] [o 122 (.bin .lss) [t 121,t 120]])
 (sq (.cond (t 122) (.skip) (.exit 4))
  (sq (.block 5 (sq (r [6,7,8,9,10,12,14,18,19,20,116,117,120,121] [o 123 .mv [t 121],o 20 .mv [t 123]])
    (sq (r [6,7,8,9,10,12,14,18,19,20,21,116,117,120,121] [o 124 .mv [t 14],o 125 (.mkS 3 1 8 [(iD 0)]) [t 124,t 124],o 21 .mv [t 125]])
     (sq (sq (r [6,7,8,9,10,12,14,18,19,20,21,116,117,120,121,126,127] [o 126 .mv [t 14],o 127 .mv [i 0]])
       (.block 6 (.loop [6,7,8,9,10,12,14,18,19,20,21,116,117,120,121,126,127] b2_d_impl_Inner))) k5_d_impl_Inner)))) k6_d_impl_Inner))
def k8_d_impl_Inner:Cd:=
 r [6,7,8,9,10,12,14,18,116,117] [o 179 (.bin .add) [t 117,i 1],o 117 .mv [t 179]]
def b9_d_impl_Inner:Cd:=
 sq (r [6,7,8,9,10,12,14,18,116,117,118] [o 118 (.bin .lss) [t 117,t 116]])
 (sq (.cond (t 118) (.skip) (.exit 2))
  (sq (.block 3 (sq (r [6,7,8,9,10,12,14,18,19,116,117] [o 119 .mv [t 117],o 19 .mv [t 119]])
    (sq (r [6,7,8,9,10,12,14,18,19,116,117,120,121] [o 120 .mv [t 18],o 121 .mv [i 0]])
     (.block 4 (.loop [6,7,8,9,10,12,14,18,19,116,117,120,121] b7_d_impl_Inner))))) k8_d_impl_Inner))
def k10_d_impl_Inner:Cd:=
 sq (r [8,9] [o 180 (.ld (some 2)) [t 8],e (.st 2) [t 8,t 180],e (.st 1) [t 9,i 0]])
 (.ret)
def k11_d_impl_Inner:Cd:=
 sq (r [6,7,8,9,10,12,14,17] [o 106 (.fa 1) [t 6],o 107 (.ld none) [t 106],o 108 (.len false) [t 107],o 109 .mv [t 14],o 110 (.bin .quo) [t 108,t 109],o 17 .mv [t 110]])
 (sq (r [6,7,8,9,10,12,14,17,18] [o 111 (.fa 1) [t 7],o 112 (.ld none) [t 111],o 113 (.len false) [t 112],o 114 .mv [t 14],o 115 (.bin .quo) [t 113,t 114],o 18 .mv [t 115]])
  (sq (sq (r [6,7,8,9,10,12,14,18,116,117] [o 116 .mv [t 17],o 117 .mv [i 0]])
    (.block 2 (.loop [6,7,8,9,10,12,14,18,116,117] b9_d_impl_Inner))) k10_d_impl_Inner))
def d_impl_Inner:Cd:=
 sq (.frz 7 (rd [] [0,6,7,8,9,10,12,14] [o 79 (.fa 0) [t 6],o 80 (.ld none) [t 79],o 81 .mv [t 15],o 83 (.fa 0) [t 7],o 84 (.ld none) [t 83],o 85 (.slc false 1 true false) [t 84,i 1],ap [] false [7,83,84] (o 82 (.cut 1) [t 80,t 81]),o 86 (lit 23 1 2) [t 82,t 85],o 87 (.call 64) [t 86],o 88 (.call 44) [t 87],e (.st 2) [t 8,t 88]]))
 (sq (r [0,6,7,8,9,10,12,14,16] [o 89 (.fa 1) [t 8],o 90 (.ld none) [t 89],o 91 .cap [t 90],o 16 .mv [t 91]])
  (sq (sq (r [0,6,7,8,9,10,12,14,16,93] [o 92 .mv [t 14],o 93 (.bin .eql) [t 92,i 0]])
    (.cond (t 93) (sq (sq (r [0,8,9,94,95] [o 94 .mv [t 16],o 95 .mv [i 0]])
       (.block 0 (.loop [0,8,9,94,95] b0_d_impl_Inner))) k1_d_impl_Inner) (.skip))) k11_d_impl_Inner))
def ua:List Nat:=[9,8]
def vY:List Nat:=[0,6,7,8,9,10,12,14,15]
def te (zy:Int→Option (Alt Unit Nat)) (zm:(List Int)→(List Int)→Option (Bool)) (zp:(List (List Int))→Option (Res (List Int))) (zi:(List Int)→Option (Res (List Int×Option Nat×List Int))) (zu:Int→Option (Res (Int))) (zM:D→Int→(List Int)→(List Int)→Option (Int)) (z7:Nat→Int→Int→Option (Res Int)) (K2:Nat→Nat→Int→Int→Int→Int→Int→Int→Int→(List Int)→(List Int)→(List Int)→(List Int)→(List Int)→(List Int)→Option (List Int×List Int×Int)):Nat→Nat→Nat→Int→Int→Int→Int→Int→Int→Int→Int→Int→(List Int)→(List Int)→(List Int)→(List Int)→(List Int)→(List Int)→(List Int)→Option (List Int×List Int×Int)
 | 0,_,_,_,_,_,_,_,_,_,_,_,_,_,_,_,_,_,_=>none
 | m4+1,x10,x12,x14,x18,x19,x23,x24,x116,x117,x120,x121,o384_0,o384_1,o448_0,o448_1,o513,o514,o1344=>
   if 0 ≤ x24 then (if 0 ≤ x24∧x24 < (↑(List.length o1344):Int) then ((o1344[Int.toNat x24]?).bind fun y0=>
    (z7 x10 y0 x23).bind fun y1=>
    (y1).on (fun y2=>te zy zm zp zi zu zM z7 K2 m4 x10 x12 x14 x18 x19 y2 (w64 (x24 - 1)) x116 x117 x120 x121 o384_0 o384_1 o448_0 o448_1 o513 o514 o1344) (fun y2=>(zM y2 0 o513 o514).bind fun y3=>
     some (([],[],y3))))
    else none)
   else (if yu 8 (List.length (o514++[x23])) then K2 x10 x12 x14 x18 x19 x116 x117 x120 (w64 (x121+1)) o384_0 o384_1 o448_0 o448_1 o513 (o514++[x23])
    else none)
def tf (zy:Int→Option (Alt Unit Nat)) (zm:(List Int)→(List Int)→Option (Bool)) (zp:(List (List Int))→Option (Res (List Int))) (zi:(List Int)→Option (Res (List Int×Option Nat×List Int))) (zu:Int→Option (Res (Int))) (zM:D→Int→(List Int)→(List Int)→Option (Int)) (z7:Nat→Int→Int→Option (Res Int)) (N:Nat) (K2:Nat→Nat→Int→Int→Int→Int→Int→Int→Int→(List Int)→(List Int)→(List Int)→(List Int)→(List Int)→(List Int)→Option (List Int×List Int×Int)):Nat→Nat→Nat→Int→Int→Int→Int→Int→Int→Int→Int→Int→Int→(List Int)→(List Int)→(List Int)→(List Int)→(List Int)→(List Int)→(List Int)→Option (List Int×List Int×Int)
 | 0,_,_,_,_,_,_,_,_,_,_,_,_,_,_,_,_,_,_,_=>none
 | m3+1,x10,x12,x14,x18,x19,x20,x116,x117,x120,x121,x126,x127,o384_0,o384_1,o448_0,o448_1,o513,o514,o1344=>
   if x127 < x126 then ((idx o384_1 (w64 (w64 (x19 * x14)+x127))).bind fun y0=>
    (idx o448_1 (w64 (w64 (x127 * x18)+x20))).bind fun y1=>
    (z7 x12 y0 y1).bind fun y2=>
    (y2).on (fun y3=>if 0 ≤ x127∧x127 < (↑(List.length o1344):Int) then ((dM o1344 (Int.toNat x127) y3).bind fun y4=>
      tf zy zm zp zi zu zM z7 N K2 m3 x10 x12 x14 x18 x19 x20 x116 x117 x120 x121 x126 (w64 (x127+1)) o384_0 o384_1 o448_0 o448_1 o513 o514 y4)
     else none) (fun y3=>(zM y3 0 o513 o514).bind fun y5=>
     some (([],[],y5))))
   else (if 0 ≤ w64 (x14 - 1)∧w64 (x14 - 1) < (↑(List.length o1344):Int) then ((o1344[Int.toNat (w64 (x14 - 1))]?).bind fun y6=>
    te zy zm zp zi zu zM z7 K2 N x10 x12 x14 x18 x19 y6 (w64 (x14 - 2)) x116 x117 x120 x121 o384_0 o384_1 o448_0 o448_1 o513 o514 o1344)
    else none)
def uu (zy:Int→Option (Alt Unit Nat)) (zm:(List Int)→(List Int)→Option (Bool)) (zp:(List (List Int))→Option (Res (List Int))) (zi:(List Int)→Option (Res (List Int×Option Nat×List Int))) (zu:Int→Option (Res (Int))) (zM:D→Int→(List Int)→(List Int)→Option (Int)) (z7:Nat→Int→Int→Option (Res Int)) (N:Nat) (K1:Nat→Nat→Int→Int→Int→Int→(List Int)→(List Int)→(List Int)→(List Int)→(List Int)→(List Int)→Option (List Int×List Int×Int)):Nat→Nat→Nat→Int→Int→Int→Int→Int→Int→Int→(List Int)→(List Int)→(List Int)→(List Int)→(List Int)→(List Int)→Option (List Int×List Int×Int)
 | 0,_,_,_,_,_,_,_,_,_,_,_,_,_,_,_=>none
 | m2+1,x10,x12,x14,x18,x19,x116,x117,x120,x121,o384_0,o384_1,o448_0,o448_1,o513,o514=>
   if x121 < x120 then (if Za 8 x14 x14 then tf zy zm zp zi zu zM z7 N (uu zy zm zp zi zu zM z7 N K1 m2) N x10 x12 x14 x18 x19 x121 x116 x117 x120 x121 x14 0 o384_0 o384_1 o448_0 o448_1 o513 o514 (List.replicate (Int.toNat x14) 0)
    else none)
   else K1 x10 x12 x14 x18 x116 (w64 (x117+1)) o384_0 o384_1 o448_0 o448_1 o513 o514
def uo (zy:Int→Option (Alt Unit Nat)) (zm:(List Int)→(List Int)→Option (Bool)) (zp:(List (List Int))→Option (Res (List Int))) (zi:(List Int)→Option (Res (List Int×Option Nat×List Int))) (zu:Int→Option (Res (Int))) (zM:D→Int→(List Int)→(List Int)→Option (Int)) (z7:Nat→Int→Int→Option (Res Int)) (N:Nat):Nat→Nat→Nat→Int→Int→Int→Int→(List Int)→(List Int)→(List Int)→(List Int)→(List Int)→(List Int)→Option (List Int×List Int×Int)
 | 0,_,_,_,_,_,_,_,_,_,_,_,_=>none
 | m1+1,x10,x12,x14,x18,x116,x117,o384_0,o384_1,o448_0,o448_1,o513,o514=>
   if x117 < x116 then uu zy zm zp zi zu zM z7 N (uo zy zm zp zi zu zM z7 N m1) N x10 x12 x14 x18 x117 x116 x117 x18 0 o384_0 o384_1 o448_0 o448_1 o513 o514
   else some ((o513,o514,0))
def tm (zy:Int→Option (Alt Unit Nat)) (zm:(List Int)→(List Int)→Option (Bool)) (zp:(List (List Int))→Option (Res (List Int))) (zi:(List Int)→Option (Res (List Int×Option Nat×List Int))) (zu:Int→Option (Res (Int))) (zM:D→Int→(List Int)→(List Int)→Option (Int)) (z7:Nat→Int→Int→Option (Res Int)):Nat→Int→Int→Int→(List Int)→(List Int)→Option (List Int×List Int×Int)
 | 0,_,_,_,_,_=>none
 | m0+1,x0,x94,x95,o513,o514=>
   if x95 < x94 then ((zu x0).bind fun y0=>
    (y0).on (fun y1=>if yu 8 (List.length (o514++[y1])) then tm zy zm zp zi zu zM z7 m0 x0 x94 (w64 (x95+1)) o513 (o514++[y1])
     else none) (fun y1=>(zM y1 0 o513 o514).bind fun y2=>
     some (([],[],y2))))
   else some ((o513,o514,0))
def jk (zy:Int→Option (Alt Unit Nat)) (zm:(List Int)→(List Int)→Option (Bool)) (zp:(List (List Int))→Option (Res (List Int))) (zi:(List Int)→Option (Res (List Int×Option Nat×List Int))) (zu:Int→Option (Res (Int))) (zM:D→Int→(List Int)→(List Int)→Option (Int)) (z7:Nat→Int→Int→Option (Res Int)) (N:Nat) (x0:Int) (x10:Nat) (x12:Nat) (x14:Int) (x15:Int) (o384_0:List Int) (o384_1:List Int) (o448_0:List Int) (o448_1:List Int):Option (List Int×List Int×Int):=
 (cut o448_0 1 (↑(List.length o448_0):Int)).bind fun y0=>
 (cut o384_0 0 x15).bind fun y1=>
 (zp [y1,y0]).bind fun y2=>
 (y2).on (fun y3=>(zi y3).bind fun y4=>
  (y4).on (fun y5=>(y5.snd.fst).bind fun y6=>
   if x14=0 then tm zy zm zp zi zu zM z7 N x0 ((↑y6:Int)) 0 y5.fst y5.snd.snd
   else (if x14=0 then none
    else (if x14=0 then none
     else uo zy zm zp zi zu zM z7 N N x10 x12 x14 (w64 (Int.tdiv (↑(List.length o448_1):Int) x14)) (w64 (Int.tdiv (↑(List.length o384_1):Int) x14)) 0 o384_0 o384_1 o448_0 o448_1 y5.fst y5.snd.snd))) (fun y5=>(zM y5 0 [] []).bind fun y7=>
   some (([],[],y7)))) (fun y3=>(zM y3 0 [] []).bind fun y8=>
  some (([],[],y8)))
theorem ZH (E:En) (hy:Hy E [576,512] [] [] xG (some ([576,512],[9,8])) (fun y=>nocap (yw (.node [.node [.own 3 1,.own 3 1],.k]) y)) zl) (zy:Int→Option (Alt Unit Nat)) (h_impl_opOf:wI E zy) (zm:(List Int)→(List Int)→Option (Bool)) (h_impl_ArrayOk:xa E zm) (zp:(List (List Int))→Option (Res (List Int))) (h_slices_Concat___int_int_:xd E zp) (zi:(List Int)→Option (Res (List Int×Option Nat×List Int))) (h_impl_made:yD E zi) (zu:Int→Option (Res (Int))) (h_impl_nothingOf:xW E zu) (zM:D→Int→(List Int)→(List Int)→Option (Int)) (yr:∀ (x:D) (a0:Int) (za:List Int) (zb:List Int),E.fd x [.box [.d (.int .i64 a0)],.box [.d (zf cI za),.d (zf cI zb)]]=(zM x a0 za zb).bind fun r=>some [[.int .i64 r],[D.nils,D.nils]]) (z7:Nat→Int→Int→Option (Res Int)) (xK:∀ (f:Nat) (x y:Int),E.Γ f [.d (.int .i64 x),.d (.int .i64 y)]=(z7 f x y).bind fun r=>r.on (fun r=>some (.ret (.d (.int .i64 r)) [])) (fun x=>some (.pan x []))) (m1:Nat) (m2:Nat) (K2:Nat→Nat→Int→Int→Int→Int→Int→Int→Int→(List Int)→(List Int)→(List Int)→(List Int)→(List Int)→(List Int)→Option (List Int×List Int×Int)) (hK2:∀ (x10:Nat) (x12:Nat) (x14:Int) (x18:Int) (x19:Int) (x116:Int) (x117:Int) (x120:Int) (x121:Int) (o384_0:List Int) (o384_1:List Int) (o448_0:List Int) (o448_1:List Int) (o513:List Int) (o514:List Int),gH E [6,7,8,9,10,12,14,18,19,116,117,120,121] b7_d_impl_Inner [KJ.b 4,KJ.b 3,KJ.c k8_d_impl_Inner,KJ.l [6,7,8,9,10,12,14,18,116,117] b9_d_impl_Inner m1,KJ.b 2,KJ.c k10_d_impl_Inner] m2 ⟨zw [(6,A.adr 384 1 0),(7,A.adr 448 1 0),(8,A.adr 512 1 0),(9,A.adr 576 1 0),(10,.d (.fn x10)),(12,.d (.fn x12)),(14,.d (.int .i64 x14)),(18,.d (.int .i64 x18)),(19,.d (.int .i64 x19)),(116,.d (.int .i64 x116)),(117,.d (.int .i64 x117)),(120,.d (.int .i64 x120)),(121,.d (.int .i64 x121))],zF [(384,⟨1,.box [.d (zf (cI) o384_0),.d (zf (cI) o384_1)],false⟩),(448,⟨1,.box [.d (zf (cI) o448_0),.d (zf (cI) o448_1)],false⟩),(512,⟨1,.box [A.row 513 1,A.row 514 1],false⟩),(513,⟨1,yg (cI) 3 none o513,false⟩),(514,⟨1,yg (cI) 3 none o514,false⟩),(576,⟨1,.box [.d (.int .i64 0)],false⟩)]⟩=(K2 x10 x12 x14 x18 x19 x116 x117 x120 x121 o384_0 o384_1 o448_0 o448_1 o513 o514).bind fun r=>some (.ret (.tup [.agg [zo (cI) 3 none false r.1,zo (cI) 3 none false r.2.1],.d (.int .i64 r.2.2)]) [])):∀ (m4:Nat) (x10:Nat) (x12:Nat) (x14:Int) (x18:Int) (x19:Int) (x23:Int) (x24:Int) (x116:Int) (x117:Int) (x120:Int) (x121:Int) (o384_0:List Int) (o384_1:List Int) (o448_0:List Int) (o448_1:List Int) (o513:List Int) (o514:List Int) (o1344:List Int),gH E [6,7,8,9,10,12,14,18,19,21,23,24,116,117,120,121] b3_d_impl_Inner [KJ.b 8,KJ.c k4_d_impl_Inner,KJ.b 5,KJ.c k6_d_impl_Inner,KJ.l [6,7,8,9,10,12,14,18,19,116,117,120,121] b7_d_impl_Inner m2,KJ.b 4,KJ.b 3,KJ.c k8_d_impl_Inner,KJ.l [6,7,8,9,10,12,14,18,116,117] b9_d_impl_Inner m1,KJ.b 2,KJ.c k10_d_impl_Inner] m4 ⟨zw [(6,A.adr 384 1 0),(7,A.adr 448 1 0),(8,A.adr 512 1 0),(9,A.adr 576 1 0),(10,.d (.fn x10)),(12,.d (.fn x12)),(14,.d (.int .i64 x14)),(18,.d (.int .i64 x18)),(19,.d (.int .i64 x19)),(21,A.row 1344 1),(23,.d (.int .i64 x23)),(24,.d (.int .i64 x24)),(116,.d (.int .i64 x116)),(117,.d (.int .i64 x117)),(120,.d (.int .i64 x120)),(121,.d (.int .i64 x121))],zF [(384,⟨1,.box [.d (zf (cI) o384_0),.d (zf (cI) o384_1)],false⟩),(448,⟨1,.box [.d (zf (cI) o448_0),.d (zf (cI) o448_1)],false⟩),(512,⟨1,.box [A.row 513 1,A.row 514 1],false⟩),(513,⟨1,yg (cI) 3 none o513,false⟩),(514,⟨1,yg (cI) 3 none o514,false⟩),(576,⟨1,.box [.d (.int .i64 0)],false⟩),(1344,⟨1,yg (cI) 3 none o1344,false⟩)]⟩=(te zy zm zp zi zu zM z7 K2 m4 x10 x12 x14 x18 x19 x23 x24 x116 x117 x120 x121 o384_0 o384_1 o448_0 o448_1 o513 o514 o1344).bind fun r=>some (.ret (.tup [.agg [zo (cI) 3 none false r.1,zo (cI) 3 none false r.2.1],.d (.int .i64 r.2.2)]) []):=by
 intro m4
 induction m4 with
 | zero=>intros; rfl
 | succ m4 ih=>
   intros
   simp (config:={maxSteps:=40000000}) only [↓yd,zV,yf,ya,rI,rS,rB,r8,rLI,yb,ye,hy.p,hy.l,hy.k,hy.r,hy.d,hy.w,hy.f,zl,oid,xG,↓zj _ _ c_impl_Inner.eq_1,↓zj _ _ b0_d_impl_Inner.eq_1,↓zj _ _ k1_d_impl_Inner.eq_1,↓zj _ _ b2_d_impl_Inner.eq_1,↓zj _ _ b3_d_impl_Inner.eq_1,↓zj _ _ k4_d_impl_Inner.eq_1,↓zj _ _ k5_d_impl_Inner.eq_1,↓zj _ _ k6_d_impl_Inner.eq_1,↓zj _ _ b7_d_impl_Inner.eq_1,↓zj _ _ k8_d_impl_Inner.eq_1,↓zj _ _ b9_d_impl_Inner.eq_1,↓zj _ _ k10_d_impl_Inner.eq_1,↓zj _ _ k11_d_impl_Inner.eq_1,ua,vY,h_impl_opOf.2,h_impl_opOf.1,h_impl_ArrayOk.2,h_impl_ArrayOk.1,h_slices_Concat___int_int_.2,h_slices_Concat___int_int_.1,h_impl_made.2,h_impl_made.1,h_impl_nothingOf.2,h_impl_nothingOf.1,yr,(show ∀ (x:D) (a0:Int) (zb:List Int),E.fd x [.box [.d (.int .i64 a0)],.box [.d (.lst 0 []),.d (zf cI zb)]]=(zM x a0 [] zb).bind fun r=>some [[.int .i64 r],[D.nils,D.nils]] from fun x a0 zb=>yr x a0 [] zb),(show ∀ (x:D) (a0:Int) (za:List Int),E.fd x [.box [.d (.int .i64 a0)],.box [.d (zf cI za),.d (.lst 0 [])]]=(zM x a0 za []).bind fun r=>some [[.int .i64 r],[D.nils,D.nils]] from fun x a0 za=>yr x a0 za []),(show ∀ (x:D) (a0:Int),E.fd x [.box [.d (.int .i64 a0)],.box [.d (.lst 0 []),.d (.lst 0 [])]]=(zM x a0 [] []).bind fun r=>some [[.int .i64 r],[D.nils,D.nils]] from fun x a0=>yr x a0 [] []),xK,ij,↓zj _ _ d_impl_Inner.eq_1,xb,ih,zz,te,hK2,zR,zQ,zI,zK,zJ,zT,zL,yc,↓reduceIte,Nat.reduceMul,Nat.reduceAdd,Nat.reduceSub,Nat.reduceEqDiff,Nat.reduceBEq,Nat.reduceLeDiff,Nat.reduceLT,reduceCtorEq,Int.reduceAdd,Int.reduceSub,Int.reduceToNat,Int.reduceNeg,Int.reduceEq,Int.reduceLT,Int.reduceLE]
theorem ZT (E:En) (hy:Hy E [576,512] [] [] xG (some ([576,512],[9,8])) (fun y=>nocap (yw (.node [.node [.own 3 1,.own 3 1],.k]) y)) zl) (zy:Int→Option (Alt Unit Nat)) (h_impl_opOf:wI E zy) (zm:(List Int)→(List Int)→Option (Bool)) (h_impl_ArrayOk:xa E zm) (zp:(List (List Int))→Option (Res (List Int))) (h_slices_Concat___int_int_:xd E zp) (zi:(List Int)→Option (Res (List Int×Option Nat×List Int))) (h_impl_made:yD E zi) (zu:Int→Option (Res (Int))) (h_impl_nothingOf:xW E zu) (zM:D→Int→(List Int)→(List Int)→Option (Int)) (yr:∀ (x:D) (a0:Int) (za:List Int) (zb:List Int),E.fd x [.box [.d (.int .i64 a0)],.box [.d (zf cI za),.d (zf cI zb)]]=(zM x a0 za zb).bind fun r=>some [[.int .i64 r],[D.nils,D.nils]]) (z7:Nat→Int→Int→Option (Res Int)) (xK:∀ (f:Nat) (x y:Int),E.Γ f [.d (.int .i64 x),.d (.int .i64 y)]=(z7 f x y).bind fun r=>r.on (fun r=>some (.ret (.d (.int .i64 r)) [])) (fun x=>some (.pan x []))) (m1:Nat) (m2:Nat) (K2:Nat→Nat→Int→Int→Int→Int→Int→Int→Int→(List Int)→(List Int)→(List Int)→(List Int)→(List Int)→(List Int)→Option (List Int×List Int×Int)) (hK2:∀ (x10:Nat) (x12:Nat) (x14:Int) (x18:Int) (x19:Int) (x116:Int) (x117:Int) (x120:Int) (x121:Int) (o384_0:List Int) (o384_1:List Int) (o448_0:List Int) (o448_1:List Int) (o513:List Int) (o514:List Int),gH E [6,7,8,9,10,12,14,18,19,116,117,120,121] b7_d_impl_Inner [KJ.b 4,KJ.b 3,KJ.c k8_d_impl_Inner,KJ.l [6,7,8,9,10,12,14,18,116,117] b9_d_impl_Inner m1,KJ.b 2,KJ.c k10_d_impl_Inner] m2 ⟨zw [(6,A.adr 384 1 0),(7,A.adr 448 1 0),(8,A.adr 512 1 0),(9,A.adr 576 1 0),(10,.d (.fn x10)),(12,.d (.fn x12)),(14,.d (.int .i64 x14)),(18,.d (.int .i64 x18)),(19,.d (.int .i64 x19)),(116,.d (.int .i64 x116)),(117,.d (.int .i64 x117)),(120,.d (.int .i64 x120)),(121,.d (.int .i64 x121))],zF [(384,⟨1,.box [.d (zf (cI) o384_0),.d (zf (cI) o384_1)],false⟩),(448,⟨1,.box [.d (zf (cI) o448_0),.d (zf (cI) o448_1)],false⟩),(512,⟨1,.box [A.row 513 1,A.row 514 1],false⟩),(513,⟨1,yg (cI) 3 none o513,false⟩),(514,⟨1,yg (cI) 3 none o514,false⟩),(576,⟨1,.box [.d (.int .i64 0)],false⟩)]⟩=(K2 x10 x12 x14 x18 x19 x116 x117 x120 x121 o384_0 o384_1 o448_0 o448_1 o513 o514).bind fun r=>some (.ret (.tup [.agg [zo (cI) 3 none false r.1,zo (cI) 3 none false r.2.1],.d (.int .i64 r.2.2)]) [])):∀ (m3:Nat) (x10:Nat) (x12:Nat) (x14:Int) (x18:Int) (x19:Int) (x20:Int) (x116:Int) (x117:Int) (x120:Int) (x121:Int) (x126:Int) (x127:Int) (o384_0:List Int) (o384_1:List Int) (o448_0:List Int) (o448_1:List Int) (o513:List Int) (o514:List Int) (o1344:List Int),gH E [6,7,8,9,10,12,14,18,19,20,21,116,117,120,121,126,127] b2_d_impl_Inner [KJ.b 6,KJ.c k5_d_impl_Inner,KJ.b 5,KJ.c k6_d_impl_Inner,KJ.l [6,7,8,9,10,12,14,18,19,116,117,120,121] b7_d_impl_Inner m2,KJ.b 4,KJ.b 3,KJ.c k8_d_impl_Inner,KJ.l [6,7,8,9,10,12,14,18,116,117] b9_d_impl_Inner m1,KJ.b 2,KJ.c k10_d_impl_Inner] m3 ⟨zw [(6,A.adr 384 1 0),(7,A.adr 448 1 0),(8,A.adr 512 1 0),(9,A.adr 576 1 0),(10,.d (.fn x10)),(12,.d (.fn x12)),(14,.d (.int .i64 x14)),(18,.d (.int .i64 x18)),(19,.d (.int .i64 x19)),(20,.d (.int .i64 x20)),(21,A.row 1344 1),(116,.d (.int .i64 x116)),(117,.d (.int .i64 x117)),(120,.d (.int .i64 x120)),(121,.d (.int .i64 x121)),(126,.d (.int .i64 x126)),(127,.d (.int .i64 x127))],zF [(384,⟨1,.box [.d (zf (cI) o384_0),.d (zf (cI) o384_1)],false⟩),(448,⟨1,.box [.d (zf (cI) o448_0),.d (zf (cI) o448_1)],false⟩),(512,⟨1,.box [A.row 513 1,A.row 514 1],false⟩),(513,⟨1,yg (cI) 3 none o513,false⟩),(514,⟨1,yg (cI) 3 none o514,false⟩),(576,⟨1,.box [.d (.int .i64 0)],false⟩),(1344,⟨1,yg (cI) 3 none o1344,false⟩)]⟩=(tf zy zm zp zi zu zM z7 E.n K2 m3 x10 x12 x14 x18 x19 x20 x116 x117 x120 x121 x126 x127 o384_0 o384_1 o448_0 o448_1 o513 o514 o1344).bind fun r=>some (.ret (.tup [.agg [zo (cI) 3 none false r.1,zo (cI) 3 none false r.2.1],.d (.int .i64 r.2.2)]) []):=by
 intro m3
 induction m3 with
 | zero=>intros; rfl
 | succ m3 ih=>
   intros
   simp (config:={maxSteps:=40000000}) only [↓yd,zV,yf,ya,rI,rS,rB,r8,rLI,yb,ye,hy.p,hy.l,hy.k,hy.r,hy.d,hy.w,hy.f,zl,oid,xG,↓zj _ _ c_impl_Inner.eq_1,↓zj _ _ b0_d_impl_Inner.eq_1,↓zj _ _ k1_d_impl_Inner.eq_1,↓zj _ _ b2_d_impl_Inner.eq_1,↓zj _ _ b3_d_impl_Inner.eq_1,↓zj _ _ k4_d_impl_Inner.eq_1,↓zj _ _ k5_d_impl_Inner.eq_1,↓zj _ _ k6_d_impl_Inner.eq_1,↓zj _ _ b7_d_impl_Inner.eq_1,↓zj _ _ k8_d_impl_Inner.eq_1,↓zj _ _ b9_d_impl_Inner.eq_1,↓zj _ _ k10_d_impl_Inner.eq_1,↓zj _ _ k11_d_impl_Inner.eq_1,ua,vY,h_impl_opOf.2,h_impl_opOf.1,h_impl_ArrayOk.2,h_impl_ArrayOk.1,h_slices_Concat___int_int_.2,h_slices_Concat___int_int_.1,h_impl_made.2,h_impl_made.1,h_impl_nothingOf.2,h_impl_nothingOf.1,yr,(show ∀ (x:D) (a0:Int) (zb:List Int),E.fd x [.box [.d (.int .i64 a0)],.box [.d (.lst 0 []),.d (zf cI zb)]]=(zM x a0 [] zb).bind fun r=>some [[.int .i64 r],[D.nils,D.nils]] from fun x a0 zb=>yr x a0 [] zb),(show ∀ (x:D) (a0:Int) (za:List Int),E.fd x [.box [.d (.int .i64 a0)],.box [.d (zf cI za),.d (.lst 0 [])]]=(zM x a0 za []).bind fun r=>some [[.int .i64 r],[D.nils,D.nils]] from fun x a0 za=>yr x a0 za []),(show ∀ (x:D) (a0:Int),E.fd x [.box [.d (.int .i64 a0)],.box [.d (.lst 0 []),.d (.lst 0 [])]]=(zM x a0 [] []).bind fun r=>some [[.int .i64 r],[D.nils,D.nils]] from fun x a0=>yr x a0 [] []),xK,ij,↓zj _ _ d_impl_Inner.eq_1,xb,ih,zz,tf,hK2,ZH E hy zy h_impl_opOf zm h_impl_ArrayOk zp h_slices_Concat___int_int_ zi h_impl_made zu h_impl_nothingOf zM yr z7 xK m1 m2 K2 hK2,zR,zQ,zI,zK,zJ,zT,zL,yc,↓reduceIte,Nat.reduceMul,Nat.reduceAdd,Nat.reduceSub,Nat.reduceEqDiff,Nat.reduceBEq,Nat.reduceLeDiff,Nat.reduceLT,reduceCtorEq,Int.reduceAdd,Int.reduceSub,Int.reduceToNat,Int.reduceNeg,Int.reduceEq,Int.reduceLT,Int.reduceLE]
theorem aS (E:En) (hy:Hy E [576,512] [] [] xG (some ([576,512],[9,8])) (fun y=>nocap (yw (.node [.node [.own 3 1,.own 3 1],.k]) y)) zl) (zy:Int→Option (Alt Unit Nat)) (h_impl_opOf:wI E zy) (zm:(List Int)→(List Int)→Option (Bool)) (h_impl_ArrayOk:xa E zm) (zp:(List (List Int))→Option (Res (List Int))) (h_slices_Concat___int_int_:xd E zp) (zi:(List Int)→Option (Res (List Int×Option Nat×List Int))) (h_impl_made:yD E zi) (zu:Int→Option (Res (Int))) (h_impl_nothingOf:xW E zu) (zM:D→Int→(List Int)→(List Int)→Option (Int)) (yr:∀ (x:D) (a0:Int) (za:List Int) (zb:List Int),E.fd x [.box [.d (.int .i64 a0)],.box [.d (zf cI za),.d (zf cI zb)]]=(zM x a0 za zb).bind fun r=>some [[.int .i64 r],[D.nils,D.nils]]) (z7:Nat→Int→Int→Option (Res Int)) (xK:∀ (f:Nat) (x y:Int),E.Γ f [.d (.int .i64 x),.d (.int .i64 y)]=(z7 f x y).bind fun r=>r.on (fun r=>some (.ret (.d (.int .i64 r)) [])) (fun x=>some (.pan x []))) (m1:Nat) (K1:Nat→Nat→Int→Int→Int→Int→(List Int)→(List Int)→(List Int)→(List Int)→(List Int)→(List Int)→Option (List Int×List Int×Int)) (hK1:∀ (x10:Nat) (x12:Nat) (x14:Int) (x18:Int) (x116:Int) (x117:Int) (o384_0:List Int) (o384_1:List Int) (o448_0:List Int) (o448_1:List Int) (o513:List Int) (o514:List Int),gH E [6,7,8,9,10,12,14,18,116,117] b9_d_impl_Inner [KJ.b 2,KJ.c k10_d_impl_Inner] m1 ⟨zw [(6,A.adr 384 1 0),(7,A.adr 448 1 0),(8,A.adr 512 1 0),(9,A.adr 576 1 0),(10,.d (.fn x10)),(12,.d (.fn x12)),(14,.d (.int .i64 x14)),(18,.d (.int .i64 x18)),(116,.d (.int .i64 x116)),(117,.d (.int .i64 x117))],zF [(384,⟨1,.box [.d (zf (cI) o384_0),.d (zf (cI) o384_1)],false⟩),(448,⟨1,.box [.d (zf (cI) o448_0),.d (zf (cI) o448_1)],false⟩),(512,⟨1,.box [A.row 513 1,A.row 514 1],false⟩),(513,⟨1,yg (cI) 3 none o513,false⟩),(514,⟨1,yg (cI) 3 none o514,false⟩),(576,⟨1,.box [.d (.int .i64 0)],false⟩)]⟩=(K1 x10 x12 x14 x18 x116 x117 o384_0 o384_1 o448_0 o448_1 o513 o514).bind fun r=>some (.ret (.tup [.agg [zo (cI) 3 none false r.1,zo (cI) 3 none false r.2.1],.d (.int .i64 r.2.2)]) [])):∀ (m2:Nat) (x10:Nat) (x12:Nat) (x14:Int) (x18:Int) (x19:Int) (x116:Int) (x117:Int) (x120:Int) (x121:Int) (o384_0:List Int) (o384_1:List Int) (o448_0:List Int) (o448_1:List Int) (o513:List Int) (o514:List Int),gH E [6,7,8,9,10,12,14,18,19,116,117,120,121] b7_d_impl_Inner [KJ.b 4,KJ.b 3,KJ.c k8_d_impl_Inner,KJ.l [6,7,8,9,10,12,14,18,116,117] b9_d_impl_Inner m1,KJ.b 2,KJ.c k10_d_impl_Inner] m2 ⟨zw [(6,A.adr 384 1 0),(7,A.adr 448 1 0),(8,A.adr 512 1 0),(9,A.adr 576 1 0),(10,.d (.fn x10)),(12,.d (.fn x12)),(14,.d (.int .i64 x14)),(18,.d (.int .i64 x18)),(19,.d (.int .i64 x19)),(116,.d (.int .i64 x116)),(117,.d (.int .i64 x117)),(120,.d (.int .i64 x120)),(121,.d (.int .i64 x121))],zF [(384,⟨1,.box [.d (zf (cI) o384_0),.d (zf (cI) o384_1)],false⟩),(448,⟨1,.box [.d (zf (cI) o448_0),.d (zf (cI) o448_1)],false⟩),(512,⟨1,.box [A.row 513 1,A.row 514 1],false⟩),(513,⟨1,yg (cI) 3 none o513,false⟩),(514,⟨1,yg (cI) 3 none o514,false⟩),(576,⟨1,.box [.d (.int .i64 0)],false⟩)]⟩=(uu zy zm zp zi zu zM z7 E.n K1 m2 x10 x12 x14 x18 x19 x116 x117 x120 x121 o384_0 o384_1 o448_0 o448_1 o513 o514).bind fun r=>some (.ret (.tup [.agg [zo (cI) 3 none false r.1,zo (cI) 3 none false r.2.1],.d (.int .i64 r.2.2)]) []):=by
 intro m2
 induction m2 with
 | zero=>intros; rfl
 | succ m2 ih=>
   intros
   simp (config:={maxSteps:=40000000}) only [↓yd,zV,yf,ya,rI,rS,rB,r8,rLI,yb,ye,hy.p,hy.l,hy.k,hy.r,hy.d,hy.w,hy.f,zl,oid,xG,↓zj _ _ c_impl_Inner.eq_1,↓zj _ _ b0_d_impl_Inner.eq_1,↓zj _ _ k1_d_impl_Inner.eq_1,↓zj _ _ b2_d_impl_Inner.eq_1,↓zj _ _ b3_d_impl_Inner.eq_1,↓zj _ _ k4_d_impl_Inner.eq_1,↓zj _ _ k5_d_impl_Inner.eq_1,↓zj _ _ k6_d_impl_Inner.eq_1,↓zj _ _ b7_d_impl_Inner.eq_1,↓zj _ _ k8_d_impl_Inner.eq_1,↓zj _ _ b9_d_impl_Inner.eq_1,↓zj _ _ k10_d_impl_Inner.eq_1,↓zj _ _ k11_d_impl_Inner.eq_1,ua,vY,h_impl_opOf.2,h_impl_opOf.1,h_impl_ArrayOk.2,h_impl_ArrayOk.1,h_slices_Concat___int_int_.2,h_slices_Concat___int_int_.1,h_impl_made.2,h_impl_made.1,h_impl_nothingOf.2,h_impl_nothingOf.1,yr,(show ∀ (x:D) (a0:Int) (zb:List Int),E.fd x [.box [.d (.int .i64 a0)],.box [.d (.lst 0 []),.d (zf cI zb)]]=(zM x a0 [] zb).bind fun r=>some [[.int .i64 r],[D.nils,D.nils]] from fun x a0 zb=>yr x a0 [] zb),(show ∀ (x:D) (a0:Int) (za:List Int),E.fd x [.box [.d (.int .i64 a0)],.box [.d (zf cI za),.d (.lst 0 [])]]=(zM x a0 za []).bind fun r=>some [[.int .i64 r],[D.nils,D.nils]] from fun x a0 za=>yr x a0 za []),(show ∀ (x:D) (a0:Int),E.fd x [.box [.d (.int .i64 a0)],.box [.d (.lst 0 []),.d (.lst 0 [])]]=(zM x a0 [] []).bind fun r=>some [[.int .i64 r],[D.nils,D.nils]] from fun x a0=>yr x a0 [] []),xK,ij,↓zj _ _ d_impl_Inner.eq_1,xb,ih,zz,uu,hK1,ZT E hy zy h_impl_opOf zm h_impl_ArrayOk zp h_slices_Concat___int_int_ zi h_impl_made zu h_impl_nothingOf zM yr z7 xK m1 m2 _ ih,zR,zQ,zI,zK,zJ,zT,zL,yc,↓reduceIte,Nat.reduceMul,Nat.reduceAdd,Nat.reduceSub,Nat.reduceEqDiff,Nat.reduceBEq,Nat.reduceLeDiff,Nat.reduceLT,reduceCtorEq,Int.reduceAdd,Int.reduceSub,Int.reduceToNat,Int.reduceNeg,Int.reduceEq,Int.reduceLT,Int.reduceLE]
theorem Zg (E:En) (hy:Hy E [576,512] [] [] xG (some ([576,512],[9,8])) (fun y=>nocap (yw (.node [.node [.own 3 1,.own 3 1],.k]) y)) zl) (zy:Int→Option (Alt Unit Nat)) (h_impl_opOf:wI E zy) (zm:(List Int)→(List Int)→Option (Bool)) (h_impl_ArrayOk:xa E zm) (zp:(List (List Int))→Option (Res (List Int))) (h_slices_Concat___int_int_:xd E zp) (zi:(List Int)→Option (Res (List Int×Option Nat×List Int))) (h_impl_made:yD E zi) (zu:Int→Option (Res (Int))) (h_impl_nothingOf:xW E zu) (zM:D→Int→(List Int)→(List Int)→Option (Int)) (yr:∀ (x:D) (a0:Int) (za:List Int) (zb:List Int),E.fd x [.box [.d (.int .i64 a0)],.box [.d (zf cI za),.d (zf cI zb)]]=(zM x a0 za zb).bind fun r=>some [[.int .i64 r],[D.nils,D.nils]]) (z7:Nat→Int→Int→Option (Res Int)) (xK:∀ (f:Nat) (x y:Int),E.Γ f [.d (.int .i64 x),.d (.int .i64 y)]=(z7 f x y).bind fun r=>r.on (fun r=>some (.ret (.d (.int .i64 r)) [])) (fun x=>some (.pan x []))):∀ (m1:Nat) (x10:Nat) (x12:Nat) (x14:Int) (x18:Int) (x116:Int) (x117:Int) (o384_0:List Int) (o384_1:List Int) (o448_0:List Int) (o448_1:List Int) (o513:List Int) (o514:List Int),gH E [6,7,8,9,10,12,14,18,116,117] b9_d_impl_Inner [KJ.b 2,KJ.c k10_d_impl_Inner] m1 ⟨zw [(6,A.adr 384 1 0),(7,A.adr 448 1 0),(8,A.adr 512 1 0),(9,A.adr 576 1 0),(10,.d (.fn x10)),(12,.d (.fn x12)),(14,.d (.int .i64 x14)),(18,.d (.int .i64 x18)),(116,.d (.int .i64 x116)),(117,.d (.int .i64 x117))],zF [(384,⟨1,.box [.d (zf (cI) o384_0),.d (zf (cI) o384_1)],false⟩),(448,⟨1,.box [.d (zf (cI) o448_0),.d (zf (cI) o448_1)],false⟩),(512,⟨1,.box [A.row 513 1,A.row 514 1],false⟩),(513,⟨1,yg (cI) 3 none o513,false⟩),(514,⟨1,yg (cI) 3 none o514,false⟩),(576,⟨1,.box [.d (.int .i64 0)],false⟩)]⟩=(uo zy zm zp zi zu zM z7 E.n m1 x10 x12 x14 x18 x116 x117 o384_0 o384_1 o448_0 o448_1 o513 o514).bind fun r=>some (.ret (.tup [.agg [zo (cI) 3 none false r.1,zo (cI) 3 none false r.2.1],.d (.int .i64 r.2.2)]) []):=by
 intro m1
 induction m1 with
 | zero=>intros; rfl
 | succ m1 ih=>
   intros
   simp (config:={maxSteps:=40000000}) only [↓yd,zV,yf,ya,rI,rS,rB,r8,rLI,yb,ye,hy.p,hy.l,hy.k,hy.r,hy.d,hy.w,hy.f,zl,oid,xG,↓zj _ _ c_impl_Inner.eq_1,↓zj _ _ b0_d_impl_Inner.eq_1,↓zj _ _ k1_d_impl_Inner.eq_1,↓zj _ _ b2_d_impl_Inner.eq_1,↓zj _ _ b3_d_impl_Inner.eq_1,↓zj _ _ k4_d_impl_Inner.eq_1,↓zj _ _ k5_d_impl_Inner.eq_1,↓zj _ _ k6_d_impl_Inner.eq_1,↓zj _ _ b7_d_impl_Inner.eq_1,↓zj _ _ k8_d_impl_Inner.eq_1,↓zj _ _ b9_d_impl_Inner.eq_1,↓zj _ _ k10_d_impl_Inner.eq_1,↓zj _ _ k11_d_impl_Inner.eq_1,ua,vY,h_impl_opOf.2,h_impl_opOf.1,h_impl_ArrayOk.2,h_impl_ArrayOk.1,h_slices_Concat___int_int_.2,h_slices_Concat___int_int_.1,h_impl_made.2,h_impl_made.1,h_impl_nothingOf.2,h_impl_nothingOf.1,yr,(show ∀ (x:D) (a0:Int) (zb:List Int),E.fd x [.box [.d (.int .i64 a0)],.box [.d (.lst 0 []),.d (zf cI zb)]]=(zM x a0 [] zb).bind fun r=>some [[.int .i64 r],[D.nils,D.nils]] from fun x a0 zb=>yr x a0 [] zb),(show ∀ (x:D) (a0:Int) (za:List Int),E.fd x [.box [.d (.int .i64 a0)],.box [.d (zf cI za),.d (.lst 0 [])]]=(zM x a0 za []).bind fun r=>some [[.int .i64 r],[D.nils,D.nils]] from fun x a0 za=>yr x a0 za []),(show ∀ (x:D) (a0:Int),E.fd x [.box [.d (.int .i64 a0)],.box [.d (.lst 0 []),.d (.lst 0 [])]]=(zM x a0 [] []).bind fun r=>some [[.int .i64 r],[D.nils,D.nils]] from fun x a0=>yr x a0 [] []),xK,ij,↓zj _ _ d_impl_Inner.eq_1,xb,ih,zz,uo,aS E hy zy h_impl_opOf zm h_impl_ArrayOk zp h_slices_Concat___int_int_ zi h_impl_made zu h_impl_nothingOf zM yr z7 xK m1 _ ih,zR,zQ,zI,zK,zJ,zT,zL,yc,↓reduceIte,Nat.reduceMul,Nat.reduceAdd,Nat.reduceSub,Nat.reduceEqDiff,Nat.reduceBEq,Nat.reduceLeDiff,Nat.reduceLT,reduceCtorEq,Int.reduceAdd,Int.reduceSub,Int.reduceToNat,Int.reduceNeg,Int.reduceEq,Int.reduceLT,Int.reduceLE]
theorem Zq (E:En) (hy:Hy E [576,512] [] [] xG (some ([576,512],[9,8])) (fun y=>nocap (yw (.node [.node [.own 3 1,.own 3 1],.k]) y)) zl) (zy:Int→Option (Alt Unit Nat)) (h_impl_opOf:wI E zy) (zm:(List Int)→(List Int)→Option (Bool)) (h_impl_ArrayOk:xa E zm) (zp:(List (List Int))→Option (Res (List Int))) (h_slices_Concat___int_int_:xd E zp) (zi:(List Int)→Option (Res (List Int×Option Nat×List Int))) (h_impl_made:yD E zi) (zu:Int→Option (Res (Int))) (h_impl_nothingOf:xW E zu) (zM:D→Int→(List Int)→(List Int)→Option (Int)) (yr:∀ (x:D) (a0:Int) (za:List Int) (zb:List Int),E.fd x [.box [.d (.int .i64 a0)],.box [.d (zf cI za),.d (zf cI zb)]]=(zM x a0 za zb).bind fun r=>some [[.int .i64 r],[D.nils,D.nils]]) (z7:Nat→Int→Int→Option (Res Int)) (xK:∀ (f:Nat) (x y:Int),E.Γ f [.d (.int .i64 x),.d (.int .i64 y)]=(z7 f x y).bind fun r=>r.on (fun r=>some (.ret (.d (.int .i64 r)) [])) (fun x=>some (.pan x []))):∀ (m0:Nat) (x0:Int) (x94:Int) (x95:Int) (o513:List Int) (o514:List Int),gH E [0,8,9,94,95] b0_d_impl_Inner [KJ.b 0,KJ.c k1_d_impl_Inner,KJ.c k11_d_impl_Inner] m0 ⟨zw [(0,.d (.int .i64 x0)),(8,A.adr 512 1 0),(9,A.adr 576 1 0),(94,.d (.int .i64 x94)),(95,.d (.int .i64 x95))],zF [(512,⟨1,.box [A.row 513 1,A.row 514 1],false⟩),(513,⟨1,yg (cI) 3 none o513,false⟩),(514,⟨1,yg (cI) 3 none o514,false⟩),(576,⟨1,.box [.d (.int .i64 0)],false⟩)]⟩=(tm zy zm zp zi zu zM z7 m0 x0 x94 x95 o513 o514).bind fun r=>some (.ret (.tup [.agg [zo (cI) 3 none false r.1,zo (cI) 3 none false r.2.1],.d (.int .i64 r.2.2)]) []):=by
 intro m0
 induction m0 with
 | zero=>intros; rfl
 | succ m0 ih=>
   intros
   simp (config:={maxSteps:=40000000}) only [↓yd,zV,yf,ya,rI,rS,rB,r8,rLI,yb,ye,hy.p,hy.l,hy.k,hy.r,hy.d,hy.w,hy.f,zl,oid,xG,↓zj _ _ c_impl_Inner.eq_1,↓zj _ _ b0_d_impl_Inner.eq_1,↓zj _ _ k1_d_impl_Inner.eq_1,↓zj _ _ b2_d_impl_Inner.eq_1,↓zj _ _ b3_d_impl_Inner.eq_1,↓zj _ _ k4_d_impl_Inner.eq_1,↓zj _ _ k5_d_impl_Inner.eq_1,↓zj _ _ k6_d_impl_Inner.eq_1,↓zj _ _ b7_d_impl_Inner.eq_1,↓zj _ _ k8_d_impl_Inner.eq_1,↓zj _ _ b9_d_impl_Inner.eq_1,↓zj _ _ k10_d_impl_Inner.eq_1,↓zj _ _ k11_d_impl_Inner.eq_1,ua,vY,h_impl_opOf.2,h_impl_opOf.1,h_impl_ArrayOk.2,h_impl_ArrayOk.1,h_slices_Concat___int_int_.2,h_slices_Concat___int_int_.1,h_impl_made.2,h_impl_made.1,h_impl_nothingOf.2,h_impl_nothingOf.1,yr,(show ∀ (x:D) (a0:Int) (zb:List Int),E.fd x [.box [.d (.int .i64 a0)],.box [.d (.lst 0 []),.d (zf cI zb)]]=(zM x a0 [] zb).bind fun r=>some [[.int .i64 r],[D.nils,D.nils]] from fun x a0 zb=>yr x a0 [] zb),(show ∀ (x:D) (a0:Int) (za:List Int),E.fd x [.box [.d (.int .i64 a0)],.box [.d (zf cI za),.d (.lst 0 [])]]=(zM x a0 za []).bind fun r=>some [[.int .i64 r],[D.nils,D.nils]] from fun x a0 za=>yr x a0 za []),(show ∀ (x:D) (a0:Int),E.fd x [.box [.d (.int .i64 a0)],.box [.d (.lst 0 []),.d (.lst 0 [])]]=(zM x a0 [] []).bind fun r=>some [[.int .i64 r],[D.nils,D.nils]] from fun x a0=>yr x a0 [] []),xK,ij,↓zj _ _ d_impl_Inner.eq_1,xb,ih,zz,tm,zR,zQ,zI,zK,zJ,zT,zL,yc,↓reduceIte,Nat.reduceMul,Nat.reduceAdd,Nat.reduceSub,Nat.reduceEqDiff,Nat.reduceBEq,Nat.reduceLeDiff,Nat.reduceLT,reduceCtorEq,Int.reduceAdd,Int.reduceSub,Int.reduceToNat,Int.reduceNeg,Int.reduceEq,Int.reduceLT,Int.reduceLE]
theorem VB (E:En) (hy:Hy E [576,512] [] [] xG (some ([576,512],[9,8])) (fun y=>nocap (yw (.node [.node [.own 3 1,.own 3 1],.k]) y)) zl) (zy:Int→Option (Alt Unit Nat)) (h_impl_opOf:wI E zy) (zm:(List Int)→(List Int)→Option (Bool)) (h_impl_ArrayOk:xa E zm) (zp:(List (List Int))→Option (Res (List Int))) (h_slices_Concat___int_int_:xd E zp) (zi:(List Int)→Option (Res (List Int×Option Nat×List Int))) (h_impl_made:yD E zi) (zu:Int→Option (Res (Int))) (h_impl_nothingOf:xW E zu) (zM:D→Int→(List Int)→(List Int)→Option (Int)) (yr:∀ (x:D) (a0:Int) (za:List Int) (zb:List Int),E.fd x [.box [.d (.int .i64 a0)],.box [.d (zf cI za),.d (zf cI zb)]]=(zM x a0 za zb).bind fun r=>some [[.int .i64 r],[D.nils,D.nils]]) (z7:Nat→Int→Int→Option (Res Int)) (xK:∀ (f:Nat) (x y:Int),E.Γ f [.d (.int .i64 x),.d (.int .i64 y)]=(z7 f x y).bind fun r=>r.on (fun r=>some (.ret (.d (.int .i64 r)) [])) (fun x=>some (.pan x []))) (x0:Int) (x10:Nat) (x12:Nat) (x14:Int) (x15:Int) (o384_0:List Int) (o384_1:List Int) (o448_0:List Int) (o448_1:List Int):gB E d_impl_Inner ⟨zw [(0,.d (.int .i64 x0)),(6,A.adr 384 1 0),(7,A.adr 448 1 0),(8,A.adr 512 1 0),(9,A.adr 576 1 0),(10,.d (.fn x10)),(12,.d (.fn x12)),(14,.d (.int .i64 x14)),(15,.d (.int .i64 x15))],zF [(384,⟨1,.box [.d (zf (cI) o384_0),.d (zf (cI) o384_1)],false⟩),(448,⟨1,.box [.d (zf (cI) o448_0),.d (zf (cI) o448_1)],false⟩),(512,⟨1,.box [A.nil,A.nil],false⟩),(576,⟨1,.box [.d (.int .i64 0)],false⟩)]⟩=(jk zy zm zp zi zu zM z7 E.n x0 x10 x12 x14 x15 o384_0 o384_1 o448_0 o448_1).bind fun r=>some (.ret (.tup [.agg [zo (cI) 3 none false r.1,zo (cI) 3 none false r.2.1],.d (.int .i64 r.2.2)]) []):=by
 simp (config:={maxSteps:=40000000}) only [↓yd,zV,yf,ya,rI,rS,rB,r8,rLI,yb,ye,hy.p,hy.l,hy.k,hy.r,hy.d,hy.w,hy.f,zl,oid,xG,↓zj _ _ c_impl_Inner.eq_1,↓zj _ _ b0_d_impl_Inner.eq_1,↓zj _ _ k1_d_impl_Inner.eq_1,↓zj _ _ b2_d_impl_Inner.eq_1,↓zj _ _ b3_d_impl_Inner.eq_1,↓zj _ _ k4_d_impl_Inner.eq_1,↓zj _ _ k5_d_impl_Inner.eq_1,↓zj _ _ k6_d_impl_Inner.eq_1,↓zj _ _ b7_d_impl_Inner.eq_1,↓zj _ _ k8_d_impl_Inner.eq_1,↓zj _ _ b9_d_impl_Inner.eq_1,↓zj _ _ k10_d_impl_Inner.eq_1,↓zj _ _ k11_d_impl_Inner.eq_1,ua,vY,h_impl_opOf.2,h_impl_opOf.1,h_impl_ArrayOk.2,h_impl_ArrayOk.1,h_slices_Concat___int_int_.2,h_slices_Concat___int_int_.1,h_impl_made.2,h_impl_made.1,h_impl_nothingOf.2,h_impl_nothingOf.1,yr,(show ∀ (x:D) (a0:Int) (zb:List Int),E.fd x [.box [.d (.int .i64 a0)],.box [.d (.lst 0 []),.d (zf cI zb)]]=(zM x a0 [] zb).bind fun r=>some [[.int .i64 r],[D.nils,D.nils]] from fun x a0 zb=>yr x a0 [] zb),(show ∀ (x:D) (a0:Int) (za:List Int),E.fd x [.box [.d (.int .i64 a0)],.box [.d (zf cI za),.d (.lst 0 [])]]=(zM x a0 za []).bind fun r=>some [[.int .i64 r],[D.nils,D.nils]] from fun x a0 za=>yr x a0 za []),(show ∀ (x:D) (a0:Int),E.fd x [.box [.d (.int .i64 a0)],.box [.d (.lst 0 []),.d (.lst 0 [])]]=(zM x a0 [] []).bind fun r=>some [[.int .i64 r],[D.nils,D.nils]] from fun x a0=>yr x a0 [] []),xK,ij,↓zj _ _ d_impl_Inner.eq_1,zz,jk,Zg E hy zy h_impl_opOf zm h_impl_ArrayOk zp h_slices_Concat___int_int_ zi h_impl_made zu h_impl_nothingOf zM yr z7 xK,Zq E hy zy h_impl_opOf zm h_impl_ArrayOk zp h_slices_Concat___int_int_ zi h_impl_made zu h_impl_nothingOf zM yr z7 xK,zR,zQ,zI,zK,zJ,zT,zL,yc,↓reduceIte,Nat.reduceMul,Nat.reduceAdd,Nat.reduceSub,Nat.reduceEqDiff,Nat.reduceBEq,Nat.reduceLeDiff,Nat.reduceLT,reduceCtorEq,Int.reduceAdd,Int.reduceSub,Int.reduceToNat,Int.reduceNeg,Int.reduceEq,Int.reduceLT,Int.reduceLE]
def kx (zy:Int→Option (Alt Unit Nat)) (zm:(List Int)→(List Int)→Option (Bool)) (zp:(List (List Int))→Option (Res (List Int))) (zi:(List Int)→Option (Res (List Int×Option Nat×List Int))) (zu:Int→Option (Res (Int))) (zM:D→Int→(List Int)→(List Int)→Option (Int)) (z7:Nat→Int→Int→Option (Res Int)) (N:Nat) (a0:Int) (a1:Int) (zt:List Int) (zA:List Int) (wU:List Int) (uW:List Int):Option (List Int×List Int×Int):=
 (zy a0).bind fun y0=>
 (y0).on (fun y1=>(zy a1).bind fun y2=>
  (y2).on (fun y3=>some (([],[],9))) (fun y3=>some (([],[],9)))) (fun y1=>(zy a1).bind fun y4=>
  (y4).on (fun y5=>some (([],[],9))) (fun y5=>(zm zt zA).bind fun y6=>
   if y6=false then some (([],[],9))
   else ((zm wU uW).bind fun y7=>
    if y7=false then some (([],[],9))
    else (if (↑(List.length zt):Int)=0 then some (([],[],2))
     else (if (↑(List.length wU):Int)=0 then some (([],[],2))
      else ((idx wU 0).bind fun y8=>
       (idx zt (w64 ((↑(List.length zt):Int) - 1))).bind fun y9=>
       if y9=y8 then jk zy zm zp zi zu zM z7 N a0 y1 y5 y8 (w64 ((↑(List.length zt):Int) - 1)) zt zA wU uW
       else some (([],[],3))))))))
theorem TO (E:En) (hy:Hy E [] [] [] xG none (fun y=>nocap (yw (.node [.node [.own 3 1,.own 3 1],.k]) y)) zl) (zy:Int→Option (Alt Unit Nat)) (h_impl_opOf:wI E zy) (zm:(List Int)→(List Int)→Option (Bool)) (h_impl_ArrayOk:xa E zm) (zp:(List (List Int))→Option (Res (List Int))) (h_slices_Concat___int_int_:xd E zp) (zi:(List Int)→Option (Res (List Int×Option Nat×List Int))) (h_impl_made:yD E zi) (zu:Int→Option (Res (Int))) (h_impl_nothingOf:xW E zu) (zM:D→Int→(List Int)→(List Int)→Option (Int)) (yr:∀ (x:D) (a0:Int) (za:List Int) (zb:List Int),E.fd x [.box [.d (.int .i64 a0)],.box [.d (zf cI za),.d (zf cI zb)]]=(zM x a0 za zb).bind fun r=>some [[.int .i64 r],[D.nils,D.nils]]) (z7:Nat→Int→Int→Option (Res Int)) (xK:∀ (f:Nat) (x y:Int),E.Γ f [.d (.int .i64 x),.d (.int .i64 y)]=(z7 f x y).bind fun r=>r.on (fun r=>some (.ret (.d (.int .i64 r)) [])) (fun x=>some (.pan x []))) (a0:Int) (a1:Int) (zt:List Int) (zA:List Int) (wU:List Int) (uW:List Int):G E c_impl_Inner [.df ua vY d_impl_Inner] ⟨zw [(0,.d (.int .i64 a0)),(1,.d (.int .i64 a1)),(2,.agg [.d (zf cI zt),.d (zf cI zA)]),(3,.agg [.d (zf cI wU),.d (zf cI uW)])],zF []⟩=(kx zy zm zp zi zu zM z7 E.n a0 a1 zt zA wU uW).bind fun r=>some (.ret (.tup [.agg [zo (cI) 3 none false r.1,zo (cI) 3 none false r.2.1],.d (.int .i64 r.2.2)]) []):=by
 simp (config:={maxSteps:=40000000}) only [↓yd,zV,yf,ya,rI,rS,rB,r8,rLI,yb,ye,hy.p,hy.l,hy.k,hy.r,hy.d,hy.w,hy.f,zl,oid,xG,↓zj _ _ c_impl_Inner.eq_1,↓zj _ _ b0_d_impl_Inner.eq_1,↓zj _ _ k1_d_impl_Inner.eq_1,↓zj _ _ b2_d_impl_Inner.eq_1,↓zj _ _ b3_d_impl_Inner.eq_1,↓zj _ _ k4_d_impl_Inner.eq_1,↓zj _ _ k5_d_impl_Inner.eq_1,↓zj _ _ k6_d_impl_Inner.eq_1,↓zj _ _ b7_d_impl_Inner.eq_1,↓zj _ _ k8_d_impl_Inner.eq_1,↓zj _ _ b9_d_impl_Inner.eq_1,↓zj _ _ k10_d_impl_Inner.eq_1,↓zj _ _ k11_d_impl_Inner.eq_1,ua,vY,h_impl_opOf.2,h_impl_opOf.1,h_impl_ArrayOk.2,h_impl_ArrayOk.1,h_slices_Concat___int_int_.2,h_slices_Concat___int_int_.1,h_impl_made.2,h_impl_made.1,h_impl_nothingOf.2,h_impl_nothingOf.1,yr,(show ∀ (x:D) (a0:Int) (zb:List Int),E.fd x [.box [.d (.int .i64 a0)],.box [.d (.lst 0 []),.d (zf cI zb)]]=(zM x a0 [] zb).bind fun r=>some [[.int .i64 r],[D.nils,D.nils]] from fun x a0 zb=>yr x a0 [] zb),(show ∀ (x:D) (a0:Int) (za:List Int),E.fd x [.box [.d (.int .i64 a0)],.box [.d (zf cI za),.d (.lst 0 [])]]=(zM x a0 za []).bind fun r=>some [[.int .i64 r],[D.nils,D.nils]] from fun x a0 za=>yr x a0 za []),(show ∀ (x:D) (a0:Int),E.fd x [.box [.d (.int .i64 a0)],.box [.d (.lst 0 []),.d (.lst 0 [])]]=(zM x a0 [] []).bind fun r=>some [[.int .i64 r],[D.nils,D.nils]] from fun x a0=>yr x a0 [] []),xK,zz,kx,VB (E.behind [576,512] [9,8]) ⟨by rw [show (E.behind [576,512] [9,8]).ps=E.ps++[576,512] from rfl,hy.p]; rfl,hy.l,hy.k,hy.r,rfl,hy.w,hy.f⟩ zy h_impl_opOf zm h_impl_ArrayOk zp h_slices_Concat___int_int_ zi h_impl_made zu h_impl_nothingOf zM yr z7 xK,gV,zR,zQ,zI,zK,zJ,zT,zL,yc,↓reduceIte,Nat.reduceMul,Nat.reduceAdd,Nat.reduceSub,Nat.reduceEqDiff,Nat.reduceBEq,Nat.reduceLeDiff,Nat.reduceLT,reduceCtorEq,Int.reduceAdd,Int.reduceSub,Int.reduceToNat,Int.reduceNeg,Int.reduceEq,Int.reduceLT,Int.reduceLE]
def Rt (E:En) (L:Int→Int→(List Int)→(List Int)→(List Int)→(List Int)→Option (List Int×List Int×Int)):Prop:=E.Γ.mu 13=false∧(∀ (a0:Int) (a1:Int) (zt:List Int) (zA:List Int) (wU:List Int) (uW:List Int),E.Γ 13 [.d (.int .i64 a0),.d (.int .i64 a1),.agg [.d (zf cI zt),.d (zf cI zA)],.agg [.d (zf cI wU),.d (zf cI uW)]]=(L a0 a1 zt zA wU uW).bind fun r=>some (.ret (.tup [.agg [zo (cI) 3 none false r.1,zo (cI) 3 none false r.2.1],.d (.int .i64 r.2.2)]) []))
def b0_impl_each:Cd:=
 sq (r [0,4,6,7,24,25,26,27] [o 27 (.bin .lss) [t 26,t 25]])
 (sq (.cond (t 27) (.skip) (.exit 0))
  (sq (.block 1 (sq (r [0,4,6,7,9,24,25,26] [o 28 (.ia 1) [t 24,t 26],o 29 (.ld none) [t 28],o 9 .mv [t 29]])
    (rd [] [0,4,6,7,24,25,26] [o 30 (.fa 1) [t 7],o 31 (.ld none) [t 30],o 32 .mv [t 0],o 33 (.fa 1) [t 4],o 34 (.ld none) [t 33],o 35 (.ia 1) [t 34,i 0],o 36 (.ld none) [t 35],o 37 .mv [t 9],ap [] false [7,30] (o 38 .dyn [t 32,t 36,t 37]),ap [] false [7,30] (o 39 (lit 3 1 1) [t 38]),o 40 (.app 3 1 8) [t 31,t 39],o 41 (.fa 1) [t 7],e (.st 1) [t 41,t 40]])))
   (r [0,4,6,7,24,25,26] [o 42 (.bin .add) [t 26,i 1],o 26 .mv [t 42]])))
def k1_impl_each:Cd:=
 sq (r [6] [o 43 (.ld (some 2)) [t 7],e (.st 2) [t 6,t 43]])
 (.ret)
def b2_impl_each:Cd:=
 sq (r [0,5,6,10,52,53,54,55] [o 55 (.bin .lss) [t 54,t 53]])
 (sq (.cond (t 55) (.skip) (.exit 2))
  (sq (.block 3 (sq (r [0,5,6,10,12,52,53,54] [o 56 (.ia 1) [t 52,t 54],o 57 (.ld none) [t 56],o 12 .mv [t 57]])
    (rd [] [0,5,6,10,52,53,54] [o 58 (.fa 1) [t 10],o 59 (.ld none) [t 58],o 60 .mv [t 0],o 61 .mv [t 12],o 62 (.fa 1) [t 5],o 63 (.ld none) [t 62],o 64 (.ia 1) [t 63,i 0],o 65 (.ld none) [t 64],ap [] false [10,58] (o 66 .dyn [t 60,t 61,t 65]),ap [] false [10,58] (o 67 (lit 3 1 1) [t 66]),o 68 (.app 3 1 8) [t 59,t 67],o 69 (.fa 1) [t 10],e (.st 1) [t 69,t 68]])))
   (r [0,5,6,10,52,53,54] [o 70 (.bin .add) [t 54,i 1],o 54 .mv [t 70]])))
def k3_impl_each:Cd:=
 sq (r [6] [o 71 (.ld (some 2)) [t 10],e (.st 2) [t 6,t 71]])
 (.ret)
def b4_impl_each:Cd:=
 sq (r [0,5,6,13,93,94,95,96] [o 96 (.bin .lss) [t 95,t 94]])
 (sq (.cond (t 96) (.skip) (.exit 4))
  (sq (.block 5 (sq (r [0,5,6,13,14,15,93,94,95] [o 97 .mv [t 95],o 98 (.ia 1) [t 93,t 95],o 99 (.ld none) [t 98],o 14 .mv [t 97],o 15 .mv [t 99]])
    (rd [] [0,5,6,13,93,94,95] [o 100 (.fa 1) [t 13],o 101 (.ld none) [t 100],o 102 .mv [t 0],o 103 .mv [t 15],o 104 (.fa 1) [t 5],o 105 (.ld none) [t 104],o 106 .mv [t 14],o 107 (.ia 1) [t 105,t 106],o 108 (.ld none) [t 107],ap [] false [13,100] (o 109 .dyn [t 102,t 103,t 108]),ap [] false [13,100] (o 110 (lit 3 1 1) [t 109]),o 111 (.app 3 1 8) [t 101,t 110],o 112 (.fa 1) [t 13],e (.st 1) [t 112,t 111]])))
   (r [0,5,6,13,93,94,95] [o 113 (.bin .add) [t 95,i 1],o 95 .mv [t 113]])))
def k5_impl_each:Cd:=
 sq (r [6] [o 114 (.ld (some 2)) [t 13],e (.st 2) [t 6,t 114]])
 (.ret)
def k6_impl_each:Cd:=
 sq (sq (r [0,4,5,6,78] [o 72 (.fa 0) [t 4],o 73 (.ld none) [t 72],o 74 (.len false) [t 73],o 75 (.fa 0) [t 5],o 76 (.ld none) [t 75],o 77 (.len false) [t 76],o 78 (.bin .neq) [t 74,t 77]])
  (.cond (t 78) (r [0,4,5,6] [o 79 (.bld [(.d (iD 0))] [(0,1)]) [i 2],o 80 (.mkI 75) [t 79],e .pan [t 80]]) (.skip)))
 (sq (sq (r [0,4,5,6,86] [o 81 (.fa 0) [t 4],o 82 (.ld none) [t 81],o 83 (.fa 0) [t 5],o 84 (.ld none) [t 83],o 85 (.call 54) [t 82,t 84],o 86 .not [t 85]])
   (.cond (t 86) (r [0,4,5,6] [o 87 (.bld [(.d (iD 0))] [(0,1)]) [i 3],o 88 (.mkI 75) [t 87],e .pan [t 88]]) (.skip)))
  (sq (r [0,4,5,6,13] [o 89 (.fa 0) [t 4],o 90 (.ld none) [t 89],o 91 (.call 44) [t 90],o 13 (.alloc [.nil,.nil]) [],e (.st 2) [t 13,t 91]])
   (sq (sq (r [0,5,6,13,93,94,95] [o 92 (.fa 1) [t 4],o 93 (.ld none) [t 92],o 94 (.len false) [t 93],o 95 .mv [i 0]])
     (.block 4 (.loop [0,5,6,13,93,94,95] b4_impl_each))) k5_impl_each)))
def k7_impl_each:Cd:=
 sq (sq (r [0,4,5,6,47] [o 44 (.fa 0) [t 5],o 45 (.ld none) [t 44],o 46 (.len false) [t 45],o 47 (.bin .eql) [t 46,i 0]])
  (.cond (t 47) (sq (r [0,4,5,6,10] [o 48 (.fa 0) [t 4],o 49 (.ld none) [t 48],o 50 (.call 44) [t 49],o 10 (.alloc [.nil,.nil]) [],e (.st 2) [t 10,t 50]])
    (sq (sq (r [0,5,6,10,52,53,54] [o 51 (.fa 1) [t 4],o 52 (.ld none) [t 51],o 53 (.len false) [t 52],o 54 .mv [i 0]])
      (.block 2 (.loop [0,5,6,10,52,53,54] b2_impl_each))) k3_impl_each)) (.skip))) k6_impl_each
def c_impl_each:Cd:=
 sq (r [0,4,5,6] [o 4 .box [t 1],o 5 .box [t 2],o 6 (.alloc [.nil,.nil]) []])
 (sq (sq (r [0,4,5,6,19] [o 16 (.fa 0) [t 4],o 17 (.ld none) [t 16],o 18 (.len false) [t 17],o 19 (.bin .eql) [t 18,i 0]])
   (.cond (t 19) (sq (r [0,4,5,6,7] [o 20 (.fa 0) [t 5],o 21 (.ld none) [t 20],o 22 (.call 44) [t 21],o 7 (.alloc [.nil,.nil]) [],e (.st 2) [t 7,t 22]])
     (sq (sq (r [0,4,6,7,24,25,26] [o 23 (.fa 1) [t 5],o 24 (.ld none) [t 23],o 25 (.len false) [t 24],o 26 .mv [i 0]])
       (.block 0 (.loop [0,4,6,7,24,25,26] b0_impl_each))) k1_impl_each)) (.skip))) k7_impl_each)
def uy:List RV:=[.cell 6 (some 2)]
def rW (zi:(List Int)→Option (Res (List Int×Option Nat×List Int))) (zr:(List Int)→(List Int)→Option (Bool)) (z7:Nat→Int→Int→Option (Res Int)):Nat→Nat→(List Int)→Int→Int→(List Int)→(List Int)→(List Int)→(List Int)→Option (Res (List Int×List Int))
 | 0,_,_,_,_,_,_,_,_=>none
 | m2+1,x0,x93,x94,x95,o320_0,o320_1,o833,o834=>
   if x95 < x94 then ((idx x93 x95).bind fun y0=>
    (idx o320_1 x95).bind fun y1=>
    (z7 x0 y0 y1).bind fun y2=>
    (y2).on (fun y3=>if yu 8 (List.length (o834++[y3])) then rW zi zr z7 m2 x0 x93 x94 (w64 (x95+1)) o320_0 o320_1 o833 (o834++[y3])
     else none) (fun y3=>some (.pan (y3))))
   else some (.ok ((o833,o834)))
def qD (zi:(List Int)→Option (Res (List Int×Option Nat×List Int))) (zr:(List Int)→(List Int)→Option (Bool)) (z7:Nat→Int→Int→Option (Res Int)):Nat→Nat→(List Int)→Int→Int→(List Int)→(List Int)→(List Int)→(List Int)→Option (Res (List Int×List Int))
 | 0,_,_,_,_,_,_,_,_=>none
 | m1+1,x0,x52,x53,x54,o320_0,o320_1,o641,o642=>
   if x54 < x53 then ((idx x52 x54).bind fun y0=>
    (idx o320_1 0).bind fun y1=>
    (z7 x0 y0 y1).bind fun y2=>
    (y2).on (fun y3=>if yu 8 (List.length (o642++[y3])) then qD zi zr z7 m1 x0 x52 x53 (w64 (x54+1)) o320_0 o320_1 o641 (o642++[y3])
     else none) (fun y3=>some (.pan (y3))))
   else some (.ok ((o641,o642)))
def ro (zi:(List Int)→Option (Res (List Int×Option Nat×List Int))) (zr:(List Int)→(List Int)→Option (Bool)) (z7:Nat→Int→Int→Option (Res Int)):Nat→Nat→(List Int)→Int→Int→(List Int)→(List Int)→(List Int)→(List Int)→Option (Res (List Int×List Int))
 | 0,_,_,_,_,_,_,_,_=>none
 | m0+1,x0,x24,x25,x26,o256_0,o256_1,o449,o450=>
   if x26 < x25 then ((idx x24 x26).bind fun y0=>
    (idx o256_1 0).bind fun y1=>
    (z7 x0 y1 y0).bind fun y2=>
    (y2).on (fun y3=>if yu 8 (List.length (o450++[y3])) then ro zi zr z7 m0 x0 x24 x25 (w64 (x26+1)) o256_0 o256_1 o449 (o450++[y3])
     else none) (fun y3=>some (.pan (y3))))
   else some (.ok ((o449,o450)))
def j8 (zi:(List Int)→Option (Res (List Int×Option Nat×List Int))) (zr:(List Int)→(List Int)→Option (Bool)) (z7:Nat→Int→Int→Option (Res Int)) (N:Nat) (a0:Nat) (za:List Int) (zb:List Int) (zt:List Int) (zA:List Int):Option (Res (List Int×List Int)):=
 if (↑(List.length za):Int)=0 then ((zi zt).bind fun y0=>
  (y0).on (fun y1=>ro zi zr z7 N a0 zA ((↑(List.length zA):Int)) 0 za zb y1.fst y1.snd.snd) (fun y1=>some (.pan (y1))))
 else (if (↑(List.length zt):Int)=0 then ((zi za).bind fun y2=>
  (y2).on (fun y3=>qD zi zr z7 N a0 zb ((↑(List.length zb):Int)) 0 zt zA y3.fst y3.snd.snd) (fun y3=>some (.pan (y3))))
  else (if (↑(List.length za):Int)=(↑(List.length zt):Int) then ((zr za zt).bind fun y4=>
   if y4=false then some (.pan (D.ifaceS 75 [D.int .i64 3]))
   else ((zi za).bind fun y5=>
    (y5).on (fun y6=>rW zi zr z7 N a0 zb ((↑(List.length zb):Int)) 0 zt zA y6.fst y6.snd.snd) (fun y6=>some (.pan (y6)))))
   else some (.pan (D.ifaceS 75 [D.int .i64 2]))))
theorem Wg (E:En) (hy:Hy E [] [] [] uy none (fun y=>nocap y) zl) (zi:(List Int)→Option (Res (List Int×Option Nat×List Int))) (h_impl_made:yD E zi) (zr:(List Int)→(List Int)→Option (Bool)) (h_slices_Equal___int_int_:wn E zr) (z7:Nat→Int→Int→Option (Res Int)) (xK:∀ (f:Nat) (x y:Int),E.Γ f [.d (.int .i64 x),.d (.int .i64 y)]=(z7 f x y).bind fun r=>r.on (fun r=>some (.ret (.d (.int .i64 r)) [])) (fun x=>some (.pan x []))):∀ (m2:Nat) (x0:Nat) (x93:List Int) (x94:Int) (x95:Int) (o320_0:List Int) (o320_1:List Int) (o833:List Int) (o834:List Int),gH E [0,5,6,13,93,94,95] b4_impl_each [KJ.b 4,KJ.c k5_impl_each] m2 ⟨zw [(0,.d (.fn x0)),(5,A.adr 320 1 0),(6,A.adr 384 1 0),(13,A.adr 832 1 0),(93,.d (zf (cI) x93)),(94,.d (.int .i64 x94)),(95,.d (.int .i64 x95))],zF [(320,⟨1,.box [.d (zf (cI) o320_0),.d (zf (cI) o320_1)],false⟩),(384,⟨1,.box [A.nil,A.nil],false⟩),(832,⟨1,.box [A.row 833 1,A.row 834 1],false⟩),(833,⟨1,yg (cI) 3 none o833,false⟩),(834,⟨1,yg (cI) 3 none o834,false⟩)]⟩=(rW zi zr z7 m2 x0 x93 x94 x95 o320_0 o320_1 o833 o834).bind fun r=>r.on (fun r=>some (.ret (.agg [zo (cI) 3 none false r.1,zo (cI) 3 none false r.2]) [])) (fun x=>some (.pan x [])):=by
 intro m2
 induction m2 with
 | zero=>intros; rfl
 | succ m2 ih=>
   intros
   simp (config:={maxSteps:=40000000}) only [↓yd,zV,yf,ya,rI,rS,rB,r8,rLI,yb,ye,hy.p,hy.l,hy.k,hy.r,hy.d,hy.w,hy.f,zl,oid,uy,↓zj _ _ b0_impl_each.eq_1,↓zj _ _ k1_impl_each.eq_1,↓zj _ _ b2_impl_each.eq_1,↓zj _ _ k3_impl_each.eq_1,↓zj _ _ b4_impl_each.eq_1,↓zj _ _ k5_impl_each.eq_1,↓zj _ _ k6_impl_each.eq_1,↓zj _ _ k7_impl_each.eq_1,↓zj _ _ c_impl_each.eq_1,h_impl_made.2,h_impl_made.1,h_slices_Equal___int_int_.2,h_slices_Equal___int_int_.1,xK,xb,ih,zz,rW,zR,zQ,zI,zK,zJ,zT,zL,yc,↓reduceIte,Nat.reduceMul,Nat.reduceAdd,Nat.reduceSub,Nat.reduceEqDiff,Nat.reduceBEq,Nat.reduceLeDiff,Nat.reduceLT,reduceCtorEq,Int.reduceAdd,Int.reduceSub,Int.reduceToNat,Int.reduceNeg,Int.reduceEq,Int.reduceLT,Int.reduceLE]
theorem WN (E:En) (hy:Hy E [] [] [] uy none (fun y=>nocap y) zl) (zi:(List Int)→Option (Res (List Int×Option Nat×List Int))) (h_impl_made:yD E zi) (zr:(List Int)→(List Int)→Option (Bool)) (h_slices_Equal___int_int_:wn E zr) (z7:Nat→Int→Int→Option (Res Int)) (xK:∀ (f:Nat) (x y:Int),E.Γ f [.d (.int .i64 x),.d (.int .i64 y)]=(z7 f x y).bind fun r=>r.on (fun r=>some (.ret (.d (.int .i64 r)) [])) (fun x=>some (.pan x []))):∀ (m1:Nat) (x0:Nat) (x52:List Int) (x53:Int) (x54:Int) (o320_0:List Int) (o320_1:List Int) (o641:List Int) (o642:List Int),gH E [0,5,6,10,52,53,54] b2_impl_each [KJ.b 2,KJ.c k3_impl_each,KJ.c k6_impl_each] m1 ⟨zw [(0,.d (.fn x0)),(5,A.adr 320 1 0),(6,A.adr 384 1 0),(10,A.adr 640 1 0),(52,.d (zf (cI) x52)),(53,.d (.int .i64 x53)),(54,.d (.int .i64 x54))],zF [(320,⟨1,.box [.d (zf (cI) o320_0),.d (zf (cI) o320_1)],false⟩),(384,⟨1,.box [A.nil,A.nil],false⟩),(640,⟨1,.box [A.row 641 1,A.row 642 1],false⟩),(641,⟨1,yg (cI) 3 none o641,false⟩),(642,⟨1,yg (cI) 3 none o642,false⟩)]⟩=(qD zi zr z7 m1 x0 x52 x53 x54 o320_0 o320_1 o641 o642).bind fun r=>r.on (fun r=>some (.ret (.agg [zo (cI) 3 none false r.1,zo (cI) 3 none false r.2]) [])) (fun x=>some (.pan x [])):=by
 intro m1
 induction m1 with
 | zero=>intros; rfl
 | succ m1 ih=>
   intros
   simp (config:={maxSteps:=40000000}) only [↓yd,zV,yf,ya,rI,rS,rB,r8,rLI,yb,ye,hy.p,hy.l,hy.k,hy.r,hy.d,hy.w,hy.f,zl,oid,uy,↓zj _ _ b0_impl_each.eq_1,↓zj _ _ k1_impl_each.eq_1,↓zj _ _ b2_impl_each.eq_1,↓zj _ _ k3_impl_each.eq_1,↓zj _ _ b4_impl_each.eq_1,↓zj _ _ k5_impl_each.eq_1,↓zj _ _ k6_impl_each.eq_1,↓zj _ _ k7_impl_each.eq_1,↓zj _ _ c_impl_each.eq_1,h_impl_made.2,h_impl_made.1,h_slices_Equal___int_int_.2,h_slices_Equal___int_int_.1,xK,xb,ih,zz,qD,zR,zQ,zI,zK,zJ,zT,zL,yc,↓reduceIte,Nat.reduceMul,Nat.reduceAdd,Nat.reduceSub,Nat.reduceEqDiff,Nat.reduceBEq,Nat.reduceLeDiff,Nat.reduceLT,reduceCtorEq,Int.reduceAdd,Int.reduceSub,Int.reduceToNat,Int.reduceNeg,Int.reduceEq,Int.reduceLT,Int.reduceLE]
theorem X0 (E:En) (hy:Hy E [] [] [] uy none (fun y=>nocap y) zl) (zi:(List Int)→Option (Res (List Int×Option Nat×List Int))) (h_impl_made:yD E zi) (zr:(List Int)→(List Int)→Option (Bool)) (h_slices_Equal___int_int_:wn E zr) (z7:Nat→Int→Int→Option (Res Int)) (xK:∀ (f:Nat) (x y:Int),E.Γ f [.d (.int .i64 x),.d (.int .i64 y)]=(z7 f x y).bind fun r=>r.on (fun r=>some (.ret (.d (.int .i64 r)) [])) (fun x=>some (.pan x []))):∀ (m0:Nat) (x0:Nat) (x24:List Int) (x25:Int) (x26:Int) (o256_0:List Int) (o256_1:List Int) (o449:List Int) (o450:List Int),gH E [0,4,6,7,24,25,26] b0_impl_each [KJ.b 0,KJ.c k1_impl_each,KJ.c k7_impl_each] m0 ⟨zw [(0,.d (.fn x0)),(4,A.adr 256 1 0),(6,A.adr 384 1 0),(7,A.adr 448 1 0),(24,.d (zf (cI) x24)),(25,.d (.int .i64 x25)),(26,.d (.int .i64 x26))],zF [(256,⟨1,.box [.d (zf (cI) o256_0),.d (zf (cI) o256_1)],false⟩),(384,⟨1,.box [A.nil,A.nil],false⟩),(448,⟨1,.box [A.row 449 1,A.row 450 1],false⟩),(449,⟨1,yg (cI) 3 none o449,false⟩),(450,⟨1,yg (cI) 3 none o450,false⟩)]⟩=(ro zi zr z7 m0 x0 x24 x25 x26 o256_0 o256_1 o449 o450).bind fun r=>r.on (fun r=>some (.ret (.agg [zo (cI) 3 none false r.1,zo (cI) 3 none false r.2]) [])) (fun x=>some (.pan x [])):=by
 intro m0
 induction m0 with
 | zero=>intros; rfl
 | succ m0 ih=>
   intros
   simp (config:={maxSteps:=40000000}) only [↓yd,zV,yf,ya,rI,rS,rB,r8,rLI,yb,ye,hy.p,hy.l,hy.k,hy.r,hy.d,hy.w,hy.f,zl,oid,uy,↓zj _ _ b0_impl_each.eq_1,↓zj _ _ k1_impl_each.eq_1,↓zj _ _ b2_impl_each.eq_1,↓zj _ _ k3_impl_each.eq_1,↓zj _ _ b4_impl_each.eq_1,↓zj _ _ k5_impl_each.eq_1,↓zj _ _ k6_impl_each.eq_1,↓zj _ _ k7_impl_each.eq_1,↓zj _ _ c_impl_each.eq_1,h_impl_made.2,h_impl_made.1,h_slices_Equal___int_int_.2,h_slices_Equal___int_int_.1,xK,xb,ih,zz,ro,zR,zQ,zI,zK,zJ,zT,zL,yc,↓reduceIte,Nat.reduceMul,Nat.reduceAdd,Nat.reduceSub,Nat.reduceEqDiff,Nat.reduceBEq,Nat.reduceLeDiff,Nat.reduceLT,reduceCtorEq,Int.reduceAdd,Int.reduceSub,Int.reduceToNat,Int.reduceNeg,Int.reduceEq,Int.reduceLT,Int.reduceLE]
theorem QB (E:En) (hy:Hy E [] [] [] uy none (fun y=>nocap y) zl) (zi:(List Int)→Option (Res (List Int×Option Nat×List Int))) (h_impl_made:yD E zi) (zr:(List Int)→(List Int)→Option (Bool)) (h_slices_Equal___int_int_:wn E zr) (z7:Nat→Int→Int→Option (Res Int)) (xK:∀ (f:Nat) (x y:Int),E.Γ f [.d (.int .i64 x),.d (.int .i64 y)]=(z7 f x y).bind fun r=>r.on (fun r=>some (.ret (.d (.int .i64 r)) [])) (fun x=>some (.pan x []))) (a0:Nat) (za:List Int) (zb:List Int) (zt:List Int) (zA:List Int):G E c_impl_each [] ⟨zw [(0,.d (.fn a0)),(1,.agg [.d (zf cI za),.d (zf cI zb)]),(2,.agg [.d (zf cI zt),.d (zf cI zA)])],zF []⟩=(j8 zi zr z7 E.n a0 za zb zt zA).bind fun r=>r.on (fun r=>some (.ret (.agg [zo (cI) 3 none false r.1,zo (cI) 3 none false r.2]) [])) (fun x=>some (.pan x [])):=by
 simp (config:={maxSteps:=40000000}) only [↓yd,zV,yf,ya,rI,rS,rB,r8,rLI,yb,ye,hy.p,hy.l,hy.k,hy.r,hy.d,hy.w,hy.f,zl,oid,uy,↓zj _ _ b0_impl_each.eq_1,↓zj _ _ k1_impl_each.eq_1,↓zj _ _ b2_impl_each.eq_1,↓zj _ _ k3_impl_each.eq_1,↓zj _ _ b4_impl_each.eq_1,↓zj _ _ k5_impl_each.eq_1,↓zj _ _ k6_impl_each.eq_1,↓zj _ _ k7_impl_each.eq_1,↓zj _ _ c_impl_each.eq_1,h_impl_made.2,h_impl_made.1,h_slices_Equal___int_int_.2,h_slices_Equal___int_int_.1,xK,zz,j8,Wg E hy zi h_impl_made zr h_slices_Equal___int_int_ z7 xK,WN E hy zi h_impl_made zr h_slices_Equal___int_int_ z7 xK,X0 E hy zi h_impl_made zr h_slices_Equal___int_int_ z7 xK,zR,zQ,zI,zK,zJ,zT,zL,yc,↓reduceIte,Nat.reduceMul,Nat.reduceAdd,Nat.reduceSub,Nat.reduceEqDiff,Nat.reduceBEq,Nat.reduceLeDiff,Nat.reduceLT,reduceCtorEq,Int.reduceAdd,Int.reduceSub,Int.reduceToNat,Int.reduceNeg,Int.reduceEq,Int.reduceLT,Int.reduceLE]
def YE (E:En) (L:Nat→(List Int)→(List Int)→(List Int)→(List Int)→Option (Res (List Int×List Int))):Prop:=E.Γ.mu 66=false∧(∀ (a0:Nat) (za:List Int) (zb:List Int) (zt:List Int) (zA:List Int),E.Γ 66 [.d (.fn a0),.agg [.d (zf cI za),.d (zf cI zb)],.agg [.d (zf cI zt),.d (zf cI zA)]]=(L a0 za zb zt zA).bind fun r=>r.on (fun r=>some (.ret (.agg [zo (cI) 3 none false r.1,zo (cI) 3 none false r.2]) [])) (fun x=>some (.pan x [])))∧(∀ (za:List Int) (zb:List Int) (zt:List Int) (zA:List Int),E.Γ 66 [.d (.nilf),.agg [.d (zf cI za),.d (zf cI zb)],.agg [.d (zf cI zt),.d (zf cI zA)]]=none)
def c_impl_Each2:Cd:=
 sq (r [0,4,5,6,7] [o 4 .box [t 1],o 5 .box [t 2],o 6 (.alloc [.nil,.nil]) [],o 7 (.alloc [(.d (iD 0))]) []])
 (sq (r [4,5,6,7,8,9] [o 11 .mv [t 0],o 12 (.call 39) [t 11],o 10 .mv [t 12],o 13 (.ext 0) [t 10],o 14 (.ext 1) [t 10],o 8 .mv [t 13],o 9 .mv [t 14]])
  (sq (sq (r [4,5,6,7,8,26] [o 15 .mv [t 9],o 16 .not [t 15],o 17 .mv [t 16],g 17 false 18 (.ld (some 2)) [t 4],g 17 false 19 (.call 40) [t 18],g 17 false 20 .not [t 19],o 21 .pick [t 17,b true,t 20],o 22 .mv [t 21],g 22 false 23 (.ld (some 2)) [t 5],g 22 false 24 (.call 40) [t 23],g 22 false 25 .not [t 24],o 26 .pick [t 22,b true,t 25]])
    (.cond (t 26) (sq (r [6,7] [o 27 (.bld [.nil,.nil] []) [],e (.st 2) [t 6,t 27],e (.st 1) [t 7,i 9]])
      (.ret)) (.skip)))
   (.skip)))
def qi:List RV:=[.cell 6 (some 2),.cell 7 none]
def d_impl_Each2:Cd:=
 sq (r [6,7] [o 28 .mv [t 8],o 29 (.ld (some 2)) [t 4],o 30 (.ld (some 2)) [t 5],o 31 (.call 66) [t 28,t 29,t 30],e (.st 2) [t 6,t 31],e (.st 1) [t 7,i 0]])
 (.ret)
def mc:List Nat:=[7,6]
def mj:List Nat:=[4,5,6,7,8]
def jc (zy:Int→Option (Alt Unit Nat)) (zm:(List Int)→(List Int)→Option (Bool)) (u9:Nat→(List Int)→(List Int)→(List Int)→(List Int)→Option (Res (List Int×List Int))) (zM:D→Int→(List Int)→(List Int)→Option (Int)) (N:Nat) (x8:Nat) (o256_0:List Int) (o256_1:List Int) (o320_0:List Int) (o320_1:List Int) (o448_0:Int):Option (List Int×List Int×Int):=
 (u9 x8 o256_0 o256_1 o320_0 o320_1).bind fun y0=>
 (y0).on (fun y1=>some ((y1.fst,y1.snd,0))) (fun y1=>(zM y1 o448_0 [] []).bind fun y2=>
  some (([],[],y2)))
theorem V2 (E:En) (hy:Hy E [448,384] [] [] qi (some ([448,384],[7,6])) (fun y=>nocap (yw (.node [.node [.own 3 1,.own 3 1],.k]) y)) zl) (zy:Int→Option (Alt Unit Nat)) (h_impl_opOf:wI E zy) (zm:(List Int)→(List Int)→Option (Bool)) (h_impl_ArrayOk:xa E zm) (u9:Nat→(List Int)→(List Int)→(List Int)→(List Int)→Option (Res (List Int×List Int))) (h_impl_each:YE E u9) (zM:D→Int→(List Int)→(List Int)→Option (Int)) (yr:∀ (x:D) (a0:Int) (za:List Int) (zb:List Int),E.fd x [.box [.d (.int .i64 a0)],.box [.d (zf cI za),.d (zf cI zb)]]=(zM x a0 za zb).bind fun r=>some [[.int .i64 r],[D.nils,D.nils]]) (x8:Nat) (o256_0:List Int) (o256_1:List Int) (o320_0:List Int) (o320_1:List Int) (o448_0:Int):gB E d_impl_Each2 ⟨zw [(4,A.adr 256 1 0),(5,A.adr 320 1 0),(6,A.adr 384 1 0),(7,A.adr 448 1 0),(8,.d (.fn x8))],zF [(256,⟨1,.box [.d (zf (cI) o256_0),.d (zf (cI) o256_1)],false⟩),(320,⟨1,.box [.d (zf (cI) o320_0),.d (zf (cI) o320_1)],false⟩),(384,⟨1,.box [A.nil,A.nil],false⟩),(448,⟨1,.box [.d (.int .i64 o448_0)],false⟩)]⟩=(jc zy zm u9 zM E.n x8 o256_0 o256_1 o320_0 o320_1 o448_0).bind fun r=>some (.ret (.tup [.agg [zo (cI) 3 none false r.1,zo (cI) 3 none false r.2.1],.d (.int .i64 r.2.2)]) []):=by
 simp (config:={maxSteps:=40000000}) only [↓yd,zV,yf,ya,rI,rS,rB,r8,rLI,yb,ye,hy.p,hy.l,hy.k,hy.r,hy.d,hy.w,hy.f,zl,oid,qi,↓zj _ _ c_impl_Each2.eq_1,mc,mj,h_impl_opOf.2,h_impl_opOf.1,h_impl_ArrayOk.2,h_impl_ArrayOk.1,h_impl_each.2.1,h_impl_each.1,h_impl_each.2.2,yr,(show ∀ (x:D) (a0:Int) (zb:List Int),E.fd x [.box [.d (.int .i64 a0)],.box [.d (.lst 0 []),.d (zf cI zb)]]=(zM x a0 [] zb).bind fun r=>some [[.int .i64 r],[D.nils,D.nils]] from fun x a0 zb=>yr x a0 [] zb),(show ∀ (x:D) (a0:Int) (za:List Int),E.fd x [.box [.d (.int .i64 a0)],.box [.d (zf cI za),.d (.lst 0 [])]]=(zM x a0 za []).bind fun r=>some [[.int .i64 r],[D.nils,D.nils]] from fun x a0 za=>yr x a0 za []),(show ∀ (x:D) (a0:Int),E.fd x [.box [.d (.int .i64 a0)],.box [.d (.lst 0 []),.d (.lst 0 [])]]=(zM x a0 [] []).bind fun r=>some [[.int .i64 r],[D.nils,D.nils]] from fun x a0=>yr x a0 [] []),ij,↓zj _ _ d_impl_Each2.eq_1,zz,jc,zR,zQ,zI,zK,zJ,zT,zL,yc,↓reduceIte,Nat.reduceMul,Nat.reduceAdd,Nat.reduceSub,Nat.reduceEqDiff,Nat.reduceBEq,Nat.reduceLeDiff,Nat.reduceLT,reduceCtorEq,Int.reduceAdd,Int.reduceSub,Int.reduceToNat,Int.reduceNeg,Int.reduceEq,Int.reduceLT,Int.reduceLE]
def kC (zy:Int→Option (Alt Unit Nat)) (zm:(List Int)→(List Int)→Option (Bool)) (u9:Nat→(List Int)→(List Int)→(List Int)→(List Int)→Option (Res (List Int×List Int))) (zM:D→Int→(List Int)→(List Int)→Option (Int)) (N:Nat) (a0:Int) (za:List Int) (zb:List Int) (zt:List Int) (zA:List Int):Option (List Int×List Int×Int):=
 (zy a0).bind fun y0=>
 (y0).on (fun y1=>some (([],[],9))) (fun y1=>(zm za zb).bind fun y2=>
  if y2=false then some (([],[],9))
  else ((zm zt zA).bind fun y3=>
   if y3=false then some (([],[],9))
   else jc zy zm u9 zM N y1 za zb zt zA 0))
theorem Sj (E:En) (hy:Hy E [] [] [] qi none (fun y=>nocap (yw (.node [.node [.own 3 1,.own 3 1],.k]) y)) zl) (zy:Int→Option (Alt Unit Nat)) (h_impl_opOf:wI E zy) (zm:(List Int)→(List Int)→Option (Bool)) (h_impl_ArrayOk:xa E zm) (u9:Nat→(List Int)→(List Int)→(List Int)→(List Int)→Option (Res (List Int×List Int))) (h_impl_each:YE E u9) (zM:D→Int→(List Int)→(List Int)→Option (Int)) (yr:∀ (x:D) (a0:Int) (za:List Int) (zb:List Int),E.fd x [.box [.d (.int .i64 a0)],.box [.d (zf cI za),.d (zf cI zb)]]=(zM x a0 za zb).bind fun r=>some [[.int .i64 r],[D.nils,D.nils]]) (a0:Int) (za:List Int) (zb:List Int) (zt:List Int) (zA:List Int):G E c_impl_Each2 [.df mc mj d_impl_Each2] ⟨zw [(0,.d (.int .i64 a0)),(1,.agg [.d (zf cI za),.d (zf cI zb)]),(2,.agg [.d (zf cI zt),.d (zf cI zA)])],zF []⟩=(kC zy zm u9 zM E.n a0 za zb zt zA).bind fun r=>some (.ret (.tup [.agg [zo (cI) 3 none false r.1,zo (cI) 3 none false r.2.1],.d (.int .i64 r.2.2)]) []):=by
 simp (config:={maxSteps:=40000000}) only [↓yd,zV,yf,ya,rI,rS,rB,r8,rLI,yb,ye,hy.p,hy.l,hy.k,hy.r,hy.d,hy.w,hy.f,zl,oid,qi,↓zj _ _ c_impl_Each2.eq_1,mc,mj,h_impl_opOf.2,h_impl_opOf.1,h_impl_ArrayOk.2,h_impl_ArrayOk.1,h_impl_each.2.1,h_impl_each.1,h_impl_each.2.2,yr,(show ∀ (x:D) (a0:Int) (zb:List Int),E.fd x [.box [.d (.int .i64 a0)],.box [.d (.lst 0 []),.d (zf cI zb)]]=(zM x a0 [] zb).bind fun r=>some [[.int .i64 r],[D.nils,D.nils]] from fun x a0 zb=>yr x a0 [] zb),(show ∀ (x:D) (a0:Int) (za:List Int),E.fd x [.box [.d (.int .i64 a0)],.box [.d (zf cI za),.d (.lst 0 [])]]=(zM x a0 za []).bind fun r=>some [[.int .i64 r],[D.nils,D.nils]] from fun x a0 za=>yr x a0 za []),(show ∀ (x:D) (a0:Int),E.fd x [.box [.d (.int .i64 a0)],.box [.d (.lst 0 []),.d (.lst 0 [])]]=(zM x a0 [] []).bind fun r=>some [[.int .i64 r],[D.nils,D.nils]] from fun x a0=>yr x a0 [] []),zz,kC,V2 (E.behind [448,384] [7,6]) ⟨by rw [show (E.behind [448,384] [7,6]).ps=E.ps++[448,384] from rfl,hy.p]; rfl,hy.l,hy.k,hy.r,rfl,hy.w,hy.f⟩ zy h_impl_opOf zm h_impl_ArrayOk u9 h_impl_each zM yr,gV,zR,zQ,zI,zK,zJ,zT,zL,yc,↓reduceIte,Nat.reduceMul,Nat.reduceAdd,Nat.reduceSub,Nat.reduceEqDiff,Nat.reduceBEq,Nat.reduceLeDiff,Nat.reduceLT,reduceCtorEq,Int.reduceAdd,Int.reduceSub,Int.reduceToNat,Int.reduceNeg,Int.reduceEq,Int.reduceLT,Int.reduceLE]
def T1 (E:En) (L:Int→(List Int)→(List Int)→(List Int)→(List Int)→Option (List Int×List Int×Int)):Prop:=E.Γ.mu 14=false∧(∀ (a0:Int) (za:List Int) (zb:List Int) (zt:List Int) (zA:List Int),E.Γ 14 [.d (.int .i64 a0),.agg [.d (zf cI za),.d (zf cI zb)],.agg [.d (zf cI zt),.d (zf cI zA)]]=(L a0 za zb zt zA).bind fun r=>some (.ret (.tup [.agg [zo (cI) 3 none false r.1,zo (cI) 3 none false r.2.1],.d (.int .i64 r.2.2)]) []))
def c_laws_FnSums:Cd:=
 sq (r [0] [o 2 .mv [b false]])
 (sq (sq (r [0,35] [o 33 .mv [t 0],o 34 (.len false) [t 33],o 35 (.bin .gtr) [t 34,i 1048576]])
   (.cond (t 35) (sq (r [2] [o 2 .mv [b true]])
     (.ret)) (.skip)))
  (sq (r [0,3,4] [o 37 .mv [t 0],o 38 (.call 5) [t 37],o 36 .mv [t 38],o 39 (.ext 0) [t 36],o 40 (.ext 1) [t 36],o 3 (.alloc [.nil,.nil]) [],o 4 (.alloc [.nil,.nil]) [],e (.st 2) [t 3,t 39],e (.st 2) [t 4,t 40]])
   (sq (r [0,3,4,5] [o 41 .mv [t 0],o 42 (.len false) [t 41],o 43 (.bin .rem) [t 42,i 10],o 44 (.bin .add) [i 1,t 43],o 5 .mv [t 44]])
    (sq (r [3,4,5,6] [o 45 .mv [t 0],o 46 (.len false) [t 45],o 47 (.bin .quo) [t 46,i 10],o 48 (.bin .rem) [t 47,i 10],o 49 (.bin .add) [i 1,t 48],o 6 .mv [t 49]])
     (sq (r [3,4,5,6,8] [o 51 .mv [t 5],o 52 (.ld (some 2)) [t 3],o 53 (.call 6) [t 51,t 52],o 50 .mv [t 53],o 54 (.ext 0) [t 50],o 55 (.ext 1) [t 50],o 7 (.alloc [.nil,.nil]) [],e (.st 2) [t 7,t 54],o 8 .mv [t 55]])
      (sq (r [3,4,5,6,8,10] [o 57 .mv [t 5],o 58 (.ld (some 2)) [t 3],o 59 (.call 7) [t 57,t 58],o 56 .mv [t 59],o 60 (.ext 0) [t 56],o 61 (.ext 1) [t 56],o 9 (.alloc [.nil,.nil]) [],e (.st 2) [t 9,t 60],o 10 .mv [t 61]])
       (sq (r [3,4,5,6,8,10,11,12] [o 63 .mv [t 5],o 64 (.ld (some 2)) [t 3],o 65 (.call 8) [t 63,t 64],o 62 .mv [t 65],o 66 (.ext 0) [t 62],o 67 (.ext 1) [t 62],o 11 (.alloc [.nil,.nil]) [],e (.st 2) [t 11,t 66],o 12 .mv [t 67]])
        (sq (r [3,4,5,6,8,10,11,12,13,14] [o 69 .mv [t 5],o 70 (.ld (some 2)) [t 3],o 71 (.call 9) [t 69,t 70],o 68 .mv [t 71],o 72 (.ext 0) [t 68],o 73 (.ext 1) [t 68],o 13 (.alloc [.nil,.nil]) [],e (.st 2) [t 13,t 72],o 14 .mv [t 73]])
         (sq (sq (r [3,4,5,6,8,10,11,13,81] [o 74 .mv [t 12],o 75 .mv [t 8],o 76 (.bin .neq) [t 74,t 75],o 77 .mv [t 76],g 77 false 78 .mv [t 14],g 77 false 79 .mv [t 10],g 77 false 80 (.bin .neq) [t 78,t 79],o 81 .pick [t 77,b true,t 80]])
           (.cond (t 81) (sq (r [2] [o 2 .mv [b false]])
             (.ret)) (.skip)))
          (sq (sq (r [3,4,5,6,11,13,100] [o 82 .mv [t 10],o 83 (.bin .eql) [t 82,i 0],o 84 .mv [t 83],g 84 true 85 .mv [t 8],g 84 true 86 (.bin .eql) [t 85,i 0],o 87 .pick [t 84,t 86,b false],o 88 .mv [t 87],g 88 true 89 (.fa 0) [t 3],g 88 true 90 (.ld none) [t 89],g 88 true 91 (.len false) [t 90],g 88 true 92 (.bin .gtr) [t 91,i 0],o 93 .pick [t 88,t 92,b false],o 94 .mv [t 93],g 94 true 95 (.fa 0) [t 3],g 94 true 96 (.ld none) [t 95],g 94 true 97 (.ia 1) [t 96,i 0],g 94 true 98 (.ld none) [t 97],g 94 true 99 (.bin .gtr) [t 98,i 0],o 100 .pick [t 94,t 99,b false]])
            (.cond (t 100) (sq (r [3,4,5,6,11,13,15,16] [o 102 (lit 3 1 1) [i (-1)],o 103 (.bld [.nil,.nil] [(1,1)]) [t 102],o 104 (.ld (some 2)) [t 13],o 105 (.call 10) [i 2,t 103,t 104],o 101 .mv [t 105],o 106 (.ext 0) [t 101],o 107 (.ext 1) [t 101],o 15 (.alloc [.nil,.nil]) [],e (.st 2) [t 15,t 106],o 16 .mv [t 107]])
              (sq (r [3,4,5,6,11,13,16,17,18] [o 109 (.ld (some 2)) [t 15],o 110 (.call 8) [i 7,t 109],o 108 .mv [t 110],o 111 (.ext 0) [t 108],o 112 (.ext 1) [t 108],o 17 (.alloc [.nil,.nil]) [],e (.st 2) [t 17,t 111],o 18 .mv [t 112]])
               (sq (r [3,4,5,6,11,16,17,18,19,20] [o 114 (lit 3 1 1) [i 1],o 115 (.bld [.nil,.nil] [(1,1)]) [t 114],o 116 (.ld (some 2)) [t 13],o 117 (.call 10) [i 2,t 115,t 116],o 113 .mv [t 117],o 118 (.ext 0) [t 113],o 119 (.ext 1) [t 113],o 19 (.alloc [.nil,.nil]) [],e (.st 2) [t 19,t 118],o 20 .mv [t 119]])
                (sq (r [3,4,5,6,11,16,17,18,19,20,21,22] [o 121 (lit 3 1 1) [i 1],o 122 (.bld [.nil,.nil] [(1,1)]) [t 121],o 123 (.ld (some 2)) [t 3],o 124 (.call 10) [i 2,t 122,t 123],o 120 .mv [t 124],o 125 (.ext 0) [t 120],o 126 (.ext 1) [t 120],o 21 (.alloc [.nil,.nil]) [],e (.st 2) [t 21,t 125],o 22 .mv [t 126]])
                 (sq (r [3,4,5,6,152] [o 127 .mv [t 16],o 128 (.bin .neq) [t 127,i 0],o 129 .mv [t 128],g 129 false 130 .mv [t 18],g 129 false 131 (.bin .neq) [t 130,i 0],o 132 .pick [t 129,b true,t 131],o 133 .mv [t 132],g 133 false 134 (.ld (some 2)) [t 17],g 133 false 135 (.ld (some 2)) [t 11],g 133 false 136 (.call 11) [t 134,t 135],g 133 false 137 .not [t 136],o 138 .pick [t 133,b true,t 137],o 139 .mv [t 138],g 139 false 140 .mv [t 20],g 139 false 141 (.bin .neq) [t 140,i 0],o 142 .pick [t 139,b true,t 141],o 143 .mv [t 142],g 143 false 144 .mv [t 22],g 143 false 145 (.bin .neq) [t 144,i 0],o 146 .pick [t 143,b true,t 145],o 147 .mv [t 146],g 147 false 148 (.ld (some 2)) [t 19],g 147 false 149 (.ld (some 2)) [t 21],g 147 false 150 (.call 11) [t 148,t 149],g 147 false 151 .not [t 150],o 152 .pick [t 147,b true,t 151]])
                  (.cond (t 152) (sq (r [2] [o 2 .mv [b false]])
                    (.ret)) (.skip))))))) (.skip)))
           (sq (r [3,4,5,6,23,24] [o 154 (.ld (some 2)) [t 3],o 155 (.call 12) [i 3,t 154],o 153 .mv [t 155],o 156 (.ext 0) [t 153],o 157 (.ext 1) [t 153],o 23 (.alloc [.nil,.nil]) [],e (.st 2) [t 23,t 156],o 24 .mv [t 157]])
            (sq (r [3,5,6,23,24,25,26] [o 159 (.ld (some 2)) [t 4],o 160 (.call 12) [i 3,t 159],o 158 .mv [t 160],o 161 (.ext 0) [t 158],o 162 (.ext 1) [t 158],o 25 (.alloc [.nil,.nil]) [],e (.st 2) [t 25,t 161],o 26 .mv [t 162]])
             (sq (sq (r [5,6,23,25,177] [o 163 .mv [t 24],o 164 (.bin .neq) [t 163,i 0],o 165 .mv [t 164],g 165 false 166 .mv [t 26],g 165 false 167 (.bin .neq) [t 166,i 0],o 168 .pick [t 165,b true,t 167],o 169 .mv [t 168],g 169 false 170 (.fa 1) [t 23],g 169 false 171 (.ld none) [t 170],g 169 false 172 (.len false) [t 171],g 169 false 173 (.fa 1) [t 3],g 169 false 174 (.ld none) [t 173],g 169 false 175 (.len false) [t 174],g 169 false 176 (.bin .neq) [t 172,t 175],o 177 .pick [t 169,b true,t 176]])
               (.cond (t 177) (sq (r [2] [o 2 .mv [b false]])
                 (.ret)) (.skip)))
              (sq (sq (r [5,6,23,25,181] [o 178 (.fa 1) [t 23],o 179 (.ld none) [t 178],o 180 (.len false) [t 179],o 181 (.bin .eql) [t 180,i 0]])
                (.cond (t 181) (sq (r [2] [o 2 .mv [b true]])
                  (.ret)) (.skip)))
               (sq (r [5,6,23,25,27,28] [o 183 .mv [t 5],o 184 .mv [t 6],o 185 (.ld (some 2)) [t 23],o 186 (.ld (some 2)) [t 25],o 187 (.call 13) [t 183,t 184,t 185,t 186],o 182 .mv [t 187],o 188 (.ext 0) [t 182],o 189 (.ext 1) [t 182],o 27 (.alloc [.nil,.nil]) [],e (.st 2) [t 27,t 188],o 28 .mv [t 189]])
                (sq (r [5,27,28,29,30] [o 191 .mv [t 6],o 192 (.ld (some 2)) [t 23],o 193 (.ld (some 2)) [t 25],o 194 (.call 14) [t 191,t 192,t 193],o 190 .mv [t 194],o 195 (.ext 0) [t 190],o 196 (.ext 1) [t 190],o 29 (.alloc [.nil,.nil]) [],e (.st 2) [t 29,t 195],o 30 .mv [t 196]])
                 (sq (sq (r [5,27,28,29,30,198] [o 197 .mv [t 30],o 198 (.bin .neq) [t 197,i 0]])
                   (.cond (t 198) (sq (r [2] [o 199 .mv [t 28],o 200 .mv [t 30],o 201 (.bin .eql) [t 199,t 200],o 2 .mv [t 201]])
                     (.ret)) (.skip)))
                  (sq (r [27,28,31,32] [o 203 .mv [t 5],o 204 (.ld (some 2)) [t 29],o 205 (.call 8) [t 203,t 204],o 202 .mv [t 205],o 206 (.ext 0) [t 202],o 207 (.ext 1) [t 202],o 31 (.alloc [.nil,.nil]) [],e (.st 2) [t 31,t 206],o 32 .mv [t 207]])
                   (sq (r [2] [o 208 .mv [t 28],o 209 .mv [t 32],o 210 (.bin .eql) [t 208,t 209],o 211 .mv [t 210],g 211 true 212 (.ld (some 2)) [t 27],g 211 true 213 (.ld (some 2)) [t 31],g 211 true 214 (.call 11) [t 212,t 213],o 215 .pick [t 211,t 214,b false],o 2 .mv [t 215]])
                    (.ret))))))))))))))))))))
def nT:List RV:=[.tmp 2]
def lc (nA:(List Int)→Option (List Int×List Int×List Int×List Int)) (im:Int→(List Int)→(List Int)→Option (List Int×List Int×Int)) (ft:Int→(List Int)→(List Int)→Option (List Int×List Int×Int)) (v8:Int→(List Int)→(List Int)→Option (List Int×List Int×Int)) (fg:Int→(List Int)→(List Int)→Option (List Int×List Int×Int)) (pW:Int→(List Int)→(List Int)→(List Int)→(List Int)→Option (List Int×List Int×Int)) (wi:(List Int)→(List Int)→(List Int)→(List Int)→Option (Bool)) (wz:(List Int)→(List Int)→Option (List Int×List Int×Int)) (sw:Int→Int→(List Int)→(List Int)→(List Int)→(List Int)→Option (List Int×List Int×Int)) (sA:Int→(List Int)→(List Int)→(List Int)→(List Int)→Option (List Int×List Int×Int)) (N:Nat) (a0:List Int):Option (Bool):=
 if 1048576 < (↑(List.length a0):Int) then some true
 else ((nA a0).bind fun y0=>
  (im (w64 (1+Int.tmod (↑(List.length a0):Int) 10)) y0.fst y0.snd.fst).bind fun y1=>
  (ft (w64 (1+Int.tmod (↑(List.length a0):Int) 10)) y0.fst y0.snd.fst).bind fun y2=>
  (v8 (w64 (1+Int.tmod (↑(List.length a0):Int) 10)) y0.fst y0.snd.fst).bind fun y3=>
  (fg (w64 (1+Int.tmod (↑(List.length a0):Int) 10)) y0.fst y0.snd.fst).bind fun y4=>
  if y3.snd.snd=y1.snd.snd then (if y4.snd.snd=y2.snd.snd then (if y2.snd.snd=0 then (if y1.snd.snd=0 then (if 0 < (↑(List.length y0.fst):Int) then ((idx y0.fst 0).bind fun y5=>
       if 0 < y5 then ((pW 2 [] [-1] y4.fst y4.snd.fst).bind fun y6=>
        (v8 7 y6.fst y6.snd.fst).bind fun y7=>
        (pW 2 [] [1] y4.fst y4.snd.fst).bind fun y8=>
        (pW 2 [] [1] y0.fst y0.snd.fst).bind fun y9=>
        if y6.snd.snd=0 then (if y7.snd.snd=0 then ((wi y7.fst y7.snd.fst y3.fst y3.snd.fst).bind fun y10=>
         if y10=false then some false
         else (if y8.snd.snd=0 then (if y9.snd.snd=0 then ((wi y8.fst y8.snd.fst y9.fst y9.snd.fst).bind fun y11=>
           if y11=false then some false
           else ((wz y0.fst y0.snd.fst).bind fun y12=>
            (wz y0.snd.snd.fst y0.snd.snd.snd).bind fun y13=>
            if y12.snd.snd=0 then (if y13.snd.snd=0 then (if (↑(List.length y12.snd.fst):Int)=(↑(List.length y0.snd.fst):Int) then (if (↑(List.length y12.snd.fst):Int)=0 then some true
               else ((sw (w64 (1+Int.tmod (↑(List.length a0):Int) 10)) (w64 (1+Int.tmod (w64 (Int.tdiv (↑(List.length a0):Int) 10)) 10)) y12.fst y12.snd.fst y13.fst y13.snd.fst).bind fun y14=>
                (sA (w64 (1+Int.tmod (w64 (Int.tdiv (↑(List.length a0):Int) 10)) 10)) y12.fst y12.snd.fst y13.fst y13.snd.fst).bind fun y15=>
                if y15.snd.snd=0 then ((v8 (w64 (1+Int.tmod (↑(List.length a0):Int) 10)) y15.fst y15.snd.fst).bind fun y16=>
                 if y14.snd.snd=y16.snd.snd then ((wi y14.fst y14.snd.fst y16.fst y16.snd.fst).bind fun y17=>
                  some y17)
                 else some false)
                else some (Decidable.decide (y14.snd.snd=y15.snd.snd))))
             else some false)
             else some false)
            else some false))
          else some false)
          else some false))
         else some false)
        else some false)
       else ((wz y0.fst y0.snd.fst).bind fun y18=>
        (wz y0.snd.snd.fst y0.snd.snd.snd).bind fun y19=>
        if y18.snd.snd=0 then (if y19.snd.snd=0 then (if (↑(List.length y18.snd.fst):Int)=(↑(List.length y0.snd.fst):Int) then (if (↑(List.length y18.snd.fst):Int)=0 then some true
           else ((sw (w64 (1+Int.tmod (↑(List.length a0):Int) 10)) (w64 (1+Int.tmod (w64 (Int.tdiv (↑(List.length a0):Int) 10)) 10)) y18.fst y18.snd.fst y19.fst y19.snd.fst).bind fun y20=>
            (sA (w64 (1+Int.tmod (w64 (Int.tdiv (↑(List.length a0):Int) 10)) 10)) y18.fst y18.snd.fst y19.fst y19.snd.fst).bind fun y21=>
            if y21.snd.snd=0 then ((v8 (w64 (1+Int.tmod (↑(List.length a0):Int) 10)) y21.fst y21.snd.fst).bind fun y22=>
             if y20.snd.snd=y22.snd.snd then ((wi y20.fst y20.snd.fst y22.fst y22.snd.fst).bind fun y23=>
              some y23)
             else some false)
            else some (Decidable.decide (y20.snd.snd=y21.snd.snd))))
         else some false)
         else some false)
        else some false))
      else ((wz y0.fst y0.snd.fst).bind fun y24=>
       (wz y0.snd.snd.fst y0.snd.snd.snd).bind fun y25=>
       if y24.snd.snd=0 then (if y25.snd.snd=0 then (if (↑(List.length y24.snd.fst):Int)=(↑(List.length y0.snd.fst):Int) then (if (↑(List.length y24.snd.fst):Int)=0 then some true
          else ((sw (w64 (1+Int.tmod (↑(List.length a0):Int) 10)) (w64 (1+Int.tmod (w64 (Int.tdiv (↑(List.length a0):Int) 10)) 10)) y24.fst y24.snd.fst y25.fst y25.snd.fst).bind fun y26=>
           (sA (w64 (1+Int.tmod (w64 (Int.tdiv (↑(List.length a0):Int) 10)) 10)) y24.fst y24.snd.fst y25.fst y25.snd.fst).bind fun y27=>
           if y27.snd.snd=0 then ((v8 (w64 (1+Int.tmod (↑(List.length a0):Int) 10)) y27.fst y27.snd.fst).bind fun y28=>
            if y26.snd.snd=y28.snd.snd then ((wi y26.fst y26.snd.fst y28.fst y28.snd.fst).bind fun y29=>
             some y29)
            else some false)
           else some (Decidable.decide (y26.snd.snd=y27.snd.snd))))
        else some false)
        else some false)
       else some false))
     else ((wz y0.fst y0.snd.fst).bind fun y30=>
      (wz y0.snd.snd.fst y0.snd.snd.snd).bind fun y31=>
      if y30.snd.snd=0 then (if y31.snd.snd=0 then (if (↑(List.length y30.snd.fst):Int)=(↑(List.length y0.snd.fst):Int) then (if (↑(List.length y30.snd.fst):Int)=0 then some true
         else ((sw (w64 (1+Int.tmod (↑(List.length a0):Int) 10)) (w64 (1+Int.tmod (w64 (Int.tdiv (↑(List.length a0):Int) 10)) 10)) y30.fst y30.snd.fst y31.fst y31.snd.fst).bind fun y32=>
          (sA (w64 (1+Int.tmod (w64 (Int.tdiv (↑(List.length a0):Int) 10)) 10)) y30.fst y30.snd.fst y31.fst y31.snd.fst).bind fun y33=>
          if y33.snd.snd=0 then ((v8 (w64 (1+Int.tmod (↑(List.length a0):Int) 10)) y33.fst y33.snd.fst).bind fun y34=>
           if y32.snd.snd=y34.snd.snd then ((wi y32.fst y32.snd.fst y34.fst y34.snd.fst).bind fun y35=>
            some y35)
           else some false)
          else some (Decidable.decide (y32.snd.snd=y33.snd.snd))))
       else some false)
       else some false)
      else some false))
   else ((wz y0.fst y0.snd.fst).bind fun y36=>
    (wz y0.snd.snd.fst y0.snd.snd.snd).bind fun y37=>
    if y36.snd.snd=0 then (if y37.snd.snd=0 then (if (↑(List.length y36.snd.fst):Int)=(↑(List.length y0.snd.fst):Int) then (if (↑(List.length y36.snd.fst):Int)=0 then some true
       else ((sw (w64 (1+Int.tmod (↑(List.length a0):Int) 10)) (w64 (1+Int.tmod (w64 (Int.tdiv (↑(List.length a0):Int) 10)) 10)) y36.fst y36.snd.fst y37.fst y37.snd.fst).bind fun y38=>
        (sA (w64 (1+Int.tmod (w64 (Int.tdiv (↑(List.length a0):Int) 10)) 10)) y36.fst y36.snd.fst y37.fst y37.snd.fst).bind fun y39=>
        if y39.snd.snd=0 then ((v8 (w64 (1+Int.tmod (↑(List.length a0):Int) 10)) y39.fst y39.snd.fst).bind fun y40=>
         if y38.snd.snd=y40.snd.snd then ((wi y38.fst y38.snd.fst y40.fst y40.snd.fst).bind fun y41=>
          some y41)
         else some false)
        else some (Decidable.decide (y38.snd.snd=y39.snd.snd))))
     else some false)
     else some false)
    else some false))
   else some false)
  else some false)
theorem To (E:En) (hy:Hy E [] [] [] nT none (fun y=>nocap y) zl) (nA:(List Int)→Option (List Int×List Int×List Int×List Int)) (h_spec_TwoArrays:XC E nA) (im:Int→(List Int)→(List Int)→Option (List Int×List Int×Int)) (h_spec_Reduce:Tw E im) (ft:Int→(List Int)→(List Int)→Option (List Int×List Int×Int)) (h_spec_Scan:R5 E ft) (v8:Int→(List Int)→(List Int)→Option (List Int×List Int×Int)) (h_impl_Reduce:UQ E v8) (fg:Int→(List Int)→(List Int)→Option (List Int×List Int×Int)) (h_impl_Scan:QK E fg) (pW:Int→(List Int)→(List Int)→(List Int)→(List Int)→Option (List Int×List Int×Int)) (h_impl_Dyad:Qh E pW) (wi:(List Int)→(List Int)→(List Int)→(List Int)→Option (Bool)) (h_spec_SameArray:XE E wi) (wz:(List Int)→(List Int)→Option (List Int×List Int×Int)) (h_impl_Monad:RE E wz) (sw:Int→Int→(List Int)→(List Int)→(List Int)→(List Int)→Option (List Int×List Int×Int)) (h_impl_Inner:Rt E sw) (sA:Int→(List Int)→(List Int)→(List Int)→(List Int)→Option (List Int×List Int×Int)) (h_impl_Each2:T1 E sA) (a0:List Int):G E c_laws_FnSums [] ⟨zw [(0,.d (zf c8 a0))],zF []⟩=(lc nA im ft v8 fg pW wi wz sw sA E.n a0).bind fun r=>some (.ret (.d (.bool r)) []):=by
 simp (config:={maxSteps:=40000000}) only [↓yd,zV,yf,ya,rI,rS,rB,r8,rLI,yb,ye,hy.p,hy.l,hy.k,hy.r,hy.d,hy.w,hy.f,zl,oid,nT,↓zj _ _ c_laws_FnSums.eq_1,h_spec_TwoArrays.2,h_spec_TwoArrays.1,h_spec_Reduce.2,h_spec_Reduce.1,h_spec_Scan.2,h_spec_Scan.1,h_impl_Reduce.2,h_impl_Reduce.1,h_impl_Scan.2,h_impl_Scan.1,h_impl_Dyad.2,h_impl_Dyad.1,(show ∀ (a0:Int) (zb:List Int) (zt:List Int) (zA:List Int),E.Γ 10 [.d (.int .i64 a0),.agg [.d (.lst 0 []),.d (zf cI zb)],.agg [.d (zf cI zt),.d (zf cI zA)]]=(pW a0 [] zb zt zA).bind fun r=>some (.ret (.tup [.agg [zo (cI) 3 none false r.1,zo (cI) 3 none false r.2.1],.d (.int .i64 r.2.2)]) []) from fun a0 zb zt zA=>h_impl_Dyad.2 a0 [] zb zt zA),h_spec_SameArray.2,h_spec_SameArray.1,h_impl_Monad.2,h_impl_Monad.1,h_impl_Inner.2,h_impl_Inner.1,h_impl_Each2.2,h_impl_Each2.1,zz,lc,zR,zQ,zI,zK,zJ,zT,zL,yc,↓reduceIte,Nat.reduceMul,Nat.reduceAdd,Nat.reduceSub,Nat.reduceEqDiff,Nat.reduceBEq,Nat.reduceLeDiff,Nat.reduceLT,reduceCtorEq,Int.reduceAdd,Int.reduceSub,Int.reduceToNat,Int.reduceNeg,Int.reduceEq,Int.reduceLT,Int.reduceLE]
def FG (E:En) (L:(List Int)→Option (Bool)):Prop:=E.Γ.mu 3=false∧(∀ (a0:List Int),E.Γ 3 [.d (zf c8 a0)]=(L a0).bind fun r=>some (.ret (.d (.bool r)) []))
end Go.Vm
